/- Functions of the middle language by value: what their instructions read and write, what follows them, which registers are live. No condition. -/
namespace Go.Proofs.Ytkianddaccoeiaa.PL
set_option linter.unusedVariables false
set_option linter.unusedSimpArgs false
structure InsV where
  op : Int
  dst : Int
  a : Int
  b : Int
  word : Int
  bits : Int
  name : ByteArray
  args : List Int
  to : Int
structure FunV where
  name : ByteArray
  static : Bool
  params : List Int
  kinds : List Int
  slots : List Int
  code : List InsV
instance : Inhabited InsV := ⟨⟨0, 0, 0, 0, 0, 0, ByteArray.empty, [], 0⟩⟩
instance : Inhabited FunV := ⟨⟨ByteArray.empty, false, [], [], [], []⟩⟩
/-- The register that an instruction writes; -1: none. -/
def InsV.writes (i : InsV) : Int := if i.op = 14 ∨ i.op = 15 ∨ i.op = 17 ∨ i.op = 18 ∨ i.op = 19 then -1 else i.dst
/-- The registers that it reads. -/
def InsV.reads (i : InsV) : List Int :=
  if i.op = 3 ∨ i.op = 7 ∨ i.op = 8 ∨ i.op = 9 ∨ i.op = 12 ∨ i.op = 13 ∨ i.op = 19 then [i.a]
  else if i.op = 4 ∨ i.op = 5 ∨ i.op = 6 ∨ i.op = 14 ∨ i.op = 15 then [i.a, i.b]
  else if i.op = 16 then i.args
  else if i.op = 17 ∧ 0 ≤ i.a then [i.a] else []
/-- What may follow it, as the code has it: numbers. -/
def nextI (len n : Nat) (i : InsV) : List Int :=
  if i.op = 17 then [] else if i.op = 18 then [i.to]
  else if i.op = 19 then (if n + 1 < len then [(n : Int) + 1, i.to] else [i.to])
  else if n + 1 < len then [(n : Int) + 1] else []
/-- A register of a function. -/
def inK (f : FunV) (r : Int) : Prop := 0 ≤ r ∧ r < f.kinds.length
/-- What is asked of an instruction here. -/
structure InsV.ok (f : FunV) (i : InsV) : Prop where
  op : 1 ≤ i.op ∧ i.op ≤ 19
  to : 0 ≤ i.to ∧ i.to < f.code.length
  reads : ∀ r ∈ i.reads, inK f r
  writes : i.writes = -1 ∨ inK f i.writes
/-- What is asked of a function here. -/
structure FunV.ok (f : FunV) : Prop where
  ins : ∀ i ∈ f.code, i.ok f
  pos : 0 < f.code.length
  last : ∀ i, f.code[f.code.length - 1]? = some i → i.op = 17 ∨ i.op = 18
  params : ∀ p ∈ f.params, inK f p
theorem FunV.ok.at {f : FunV} (h : f.ok) {n : Nat} {i : InsV} (hi : f.code[n]? = some i) : i.ok f := h.ins i (List.mem_of_getElem? hi)
theorem next_range {f : FunV} (h : f.ok) {n : Nat} {i : InsV} (hi : f.code[n]? = some i) : ∀ m ∈ nextI f.code.length n i, 0 ≤ m ∧ m < f.code.length := by
  have hk := (h.at hi).to
  have hn : n < f.code.length := (List.getElem?_eq_some_iff.1 hi).1
  intro m hm
  unfold nextI at hm
  repeat' split at hm
  all_goals simp at hm
  all_goals omega
/-- An instruction that is not the last of all goes on to the next one, but where it goes away. -/
theorem next_last {f : FunV} (h : f.ok) {n : Nat} {i : InsV} (hi : f.code[n]? = some i) (h17 : i.op ≠ 17) (h18 : i.op ≠ 18) : n + 1 < f.code.length := by
  have hn : n < f.code.length := (List.getElem?_eq_some_iff.1 hi).1
  rcases Nat.lt_or_ge (n + 1) f.code.length with h1 | h1
  · exact h1
  · obtain rfl : n = f.code.length - 1 := by omega
    rcases h.last i hi with h2 | h2
    · exact absurd h2 h17
    · exact absurd h2 h18
/-- Sets of registers, by instructions, that hold what must be live. -/
def Closed (f : FunV) (S : Nat → Int → Prop) : Prop := ∀ n i, f.code[n]? = some i → (∀ r ∈ i.reads, S n r) ∧ ∀ m ∈ nextI f.code.length n i, ∀ r, S m.toNat r → r ≠ i.writes → S n r
/-- A register is live at an instruction: it is in all such sets. -/
def LiveP (f : FunV) (n : Nat) (r : Int) : Prop := ∀ S, Closed f S → S n r
theorem live_closed (f : FunV) : Closed f (LiveP f) := fun n i hi =>
  ⟨fun r hr S hS => (hS n i hi).1 r hr, fun m hm r hl hne S hS => (hS n i hi).2 m hm r (hl S hS) hne⟩
theorem live_least {f : FunV} {S : Nat → Int → Prop} (hS : Closed f S) {n : Nat} {r : Int} (h : LiveP f n r) : S n r := h S hS
/-- What is live is read somewhere: it is a register; and it is live at an instruction. -/
theorem live_inK {f : FunV} (h : f.ok) {n : Nat} {r : Int} (hl : LiveP f n r) : inK f r ∧ n < f.code.length :=
  live_least (S := fun n r => inK f r ∧ n < f.code.length) (fun n i hi => ⟨fun r hr => ⟨(h.at hi).reads r hr, (List.getElem?_eq_some_iff.1 hi).1⟩, fun _ _ r hr _ => ⟨hr.1, (List.getElem?_eq_some_iff.1 hi).1⟩⟩) hl
open Classical in
noncomputable def liveB (f : FunV) (n : Nat) (r : Int) : Bool := decide (LiveP f n r)
theorem liveB_iff {f : FunV} {n : Nat} {r : Int} : liveB f n r = true ↔ LiveP f n r := by simp [liveB]
/-- Sets that hold nothing else and are closed are those of what is live. -/
theorem live_eq {f : FunV} {S : Nat → Int → Bool} (hs : ∀ n r, S n r = true → LiveP f n r) (hc : Closed f (fun n r => S n r = true)) : ∀ n r, S n r = liveB f n r := by
  intro n r
  rw [Bool.eq_iff_iff, liveB_iff]
  exact ⟨hs n r, fun h => live_least hc h⟩
/-- The registers that are live at an instruction, in order. -/
noncomputable def liveL (f : FunV) (n : Nat) : List Int := ((List.range f.kinds.length).map fun r : Nat => (r : Int)).filter (liveB f n)
/-- A register is live behind an instruction. -/
noncomputable def behindB (f : FunV) (n : Nat) (i : InsV) (r : Int) : Bool := (nextI f.code.length n i).any fun m => liveB f m.toNat r
/-- A list without repetition whose numbers are below a bound is no longer than it. -/
theorem nodup_length {l : List Int} {K : Nat} (hd : l.Nodup) (h : ∀ x ∈ l, 0 ≤ x ∧ x < K) : l.length ≤ K := by
  induction K generalizing l with
  | zero =>
    cases l with
    | nil => simp
    | cons x l => have := h x (List.mem_cons_self ..); omega
  | succ K ih =>
    have h1 := ih (l := l.filter (fun x => decide (x ≠ (K : Int)))) (hd.filter _) (fun x hx => by
      have := List.mem_filter.1 hx
      have h2 := h x this.1
      have h3 : x ≠ (K : Int) := by simpa using this.2
      omega)
    have h2 : l.length ≤ (l.filter (fun x => decide (x ≠ (K : Int)))).length + 1 := by
      clear ih h h1
      induction l with
      | nil => simp
      | cons x l ih =>
        rw [List.nodup_cons] at hd
        by_cases e : x = (K : Int)
        · subst e
          have : l.filter (fun x => decide (x ≠ (K : Int))) = l := by
            apply List.filter_eq_self.2
            intro y hy
            simp only [decide_eq_true_eq]
            intro e
            exact hd.1 (e ▸ hy)
          rw [List.filter_cons, if_neg (by simp), this]
          simp
        · have := ih hd.2
          simp only [List.filter_cons, e, ne_eq, not_false_eq_true, decide_true, if_true, List.length_cons]
          simp only [ne_eq] at this
          omega
    omega
end Go.Proofs.Ytkianddaccoeiaa.PL
