/- Sets of registers that grow: laws. No condition. -/
import Derived.Test.YtkianddaccoeiaaLivC
namespace Go.Proofs.Ytkianddaccoeiaa
open Go.RowKit Go.Maps Go.Proofs.Ytkianddaccoeiaa.PL
set_option linter.unusedVariables false
set_option linter.unusedSimpArgs false
/-- All is as it was, but some blocks. -/
structure Kb (X : Nat → Prop) (w w' : World) : Prop where
  os : w'.os = w.os
  tape : w'.tape = w.tape
  output : w'.output = w.output
  size : w.heap.size ≤ w'.heap.size
  block : ∀ k, k < w.heap.size → ¬X k → w'.heap[k]? = w.heap[k]?
theorem Kb.refl (X : Nat → Prop) (w : World) : Kb X w w := ⟨rfl, rfl, rfl, Nat.le_refl _, fun _ _ _ => rfl⟩
theorem Kb.trans {X : Nat → Prop} {a b c : World} (h : Kb X a b) (k : Kb X b c) : Kb X a c :=
  ⟨k.os.trans h.os, k.tape.trans h.tape, k.output.trans h.output, Nat.le_trans h.size k.size, fun i hi hx => (k.block i (Nat.lt_of_lt_of_le hi h.size) hx).trans (h.block i hi hx)⟩
theorem Kb.kp {X : Nat → Prop} {a b c : World} (h : Kb X a b) (k : Kp b c) : Kb X a c :=
  h.trans ⟨k.out.os, k.out.tape, k.out.output, k.size, fun i hi _ => k.block hi⟩
theorem Kb.grown {X : Nat → Prop} {a b c : World} {row : Option Nat} (h : Kb X a b) (k : b.grownBy c row) (hr : ∀ j, row = some j → X j ∨ a.heap.size ≤ j) : Kb X a c :=
  ⟨k.os.trans h.os, k.tape.trans h.tape, k.output.trans h.output, Nat.le_trans h.size k.size, fun i hi hx => (k.block i (Nat.lt_of_lt_of_le hi h.size) (fun e => by rcases hr i e.symm with h1 | h1; exact hx h1; omega)).trans (h.block i hi hx)⟩
theorem Kp.kb {X : Nat → Prop} {a b c : World} (h : Kp a b) (k : Kb X b c) (hX : ∀ j, X j → a.heap.size ≤ j) : Kp a c :=
  ⟨h.out.trans ⟨k.os, k.tape, k.output, k.size, fun i hi => k.block i (Nat.lt_of_lt_of_le hi h.size) (fun hx => by have := hX i hx; omega)⟩⟩
theorem Kp.grownX {a b c : World} {row : Option Nat} (h : Kp a b) (k : b.grownBy c row) (hr : ∀ j, row = some j → a.heap.size ≤ j) : Kp a c := h.grown k hr
/-- Numbers in a row are not in the way of sets. -/
theorem IntsAt.kb {w w' : World} {A : Option Addr} {xs : List Int} {X : Nat → Prop} (h : IntsAt w A xs) (hX : ∀ b, X b → ∃ es clock, w.heap[b]? = some (.map es clock)) (k : Kb X w w') : IntsAt w' A xs := fun hne => by
  obtain ⟨g, off, e, hg, hc⟩ := h hne
  have hn : ¬X g := fun hx => by
    obtain ⟨es, clock, hb⟩ := hX g hx
    have := hc 0 (by cases xs with | nil => exact absurd rfl hne | cons x l => simp)
    simp [World.cell?, hb] at this
  exact ⟨g, off, e, Nat.lt_of_lt_of_le hg k.size, fun i hi => (World.cell?_of_block (a := ⟨g, off + i, none⟩) (k.block g hg hn)).trans (hc i hi)⟩
theorem Sets.maps {w : World} {g : Nat} {bs : List Nat} {K : Nat} {S : Nat → Int → Bool} (h : Sets w g bs K S) : ∀ b, b ∈ bs → ∃ es clock, w.heap[b]? = some (.map es clock) := fun b hb => by
  obtain ⟨j, hj, rfl⟩ := List.mem_iff_getElem.1 hb
  obtain ⟨D, ⟨es, clock, hb', -⟩, -⟩ := h.set j _ (List.getElem?_eq_getElem hj)
  exact ⟨es, clock, hb'⟩
theorem Sets.grown {w w' : World} {g : Nat} {bs : List Nat} {K : Nat} {S : Nat → Int → Bool} {row : Option Nat} (h : Sets w g bs K S) (hg : w.grownBy w' row) (hr : ∀ j, row = some j → j ≠ g ∧ j ∉ bs) : Sets w' g bs K S :=
  ⟨h.row.grown hg (fun e => (hr g e.symm).1 rfl), fun j b hb => (h.set j b hb).grown hg (fun e => (hr b e.symm).2 (List.mem_of_getElem? hb)), h.once⟩
/-- A loop's own block is none of these. -/
theorem RgAt.apart {w : World} {b it K cnt : Nat} {T left : Int → Bool} (h : RgAt w b it K T left cnt) {g : Nat} {bs : List Nat} {S : Nat → Int → Bool} (hs : Sets w g bs K S) : it ≠ g ∧ it ∉ bs := by
  refine ⟨fun e => ?_, fun hm => ?_⟩
  · obtain ⟨D, lf, ⟨es, clock, since, seen, c0, hb, F, hs', hD, hr, rest⟩, r⟩ := h
    have := hs.row
    unfold Blk at this
    rw [← e, hr] at this
    cases this
  · obtain ⟨j, hj, rfl⟩ := List.mem_iff_getElem.1 hm
    exact h.ne (hs.set j _ (List.getElem?_eq_getElem hj)) rfl
theorem card_mono {K : Nat} {S T : Int → Bool} (h : ∀ x, S x = true → T x = true) : card K S ≤ card K T := by
  unfold card
  generalize (List.range K).map (fun r : Nat => (r : Int)) = l
  induction l with
  | nil => simp
  | cons x l ih =>
    simp only [List.filter_cons]
    by_cases hx : S x = true
    · rw [if_pos hx, if_pos (h x hx)]
      simp only [List.length_cons]
      omega
    · rw [if_neg hx]
      by_cases ht : T x = true
      · rw [if_pos ht]
        simp only [List.length_cons]
        omega
      · rw [if_neg ht]
        exact ih
theorem card_eq {K : Nat} {S T : Int → Bool} (h : ∀ x, S x = true → T x = true) (hT : ∀ x, T x = true → 0 ≤ x ∧ x < K) (hc : ¬card K S < card K T) : S = T := by
  have key : ∀ l : List Int, ¬(l.filter S).length < (l.filter T).length → ∀ x ∈ l, T x = true → S x = true := by
    intro l
    induction l with
    | nil => intro _ x hx; cases hx
    | cons y l ih =>
      intro hl x hx htx
      simp only [List.filter_cons] at hl
      have hle : (l.filter S).length ≤ (l.filter T).length := by
        clear ih hl hx
        induction l with
        | nil => simp
        | cons z l ih =>
          simp only [List.filter_cons]
          by_cases hz : S z = true
          · rw [if_pos hz, if_pos (h z hz)]
            simp only [List.length_cons]
            omega
          · rw [if_neg hz]
            by_cases ht : T z = true
            · rw [if_pos ht]
              simp only [List.length_cons]
              omega
            · rw [if_neg ht]
              exact ih
      by_cases hy : S y = true
      · rw [if_pos hy, if_pos (h y hy)] at hl
        simp only [List.length_cons] at hl
        rcases List.mem_cons.1 hx with rfl | hx
        · exact hy
        · exact ih (by omega) x hx htx
      · rw [if_neg hy] at hl
        by_cases ht : T y = true
        · rw [if_pos ht] at hl
          simp only [List.length_cons] at hl
          omega
        · rw [if_neg ht] at hl
          rcases List.mem_cons.1 hx with rfl | hx
          · exact absurd htx ht
          · exact ih hl x hx htx
  funext x
  rw [Bool.eq_iff_iff]
  refine ⟨h x, fun hx => key _ hc x ?_ hx⟩
  obtain ⟨h0, h1⟩ := hT x hx
  exact List.mem_map.2 ⟨x.toNat, List.mem_range.2 (by omega), by omega⟩
/-- How much room is left in the first sets. -/
def room (K : Nat) (S : Nat → Int → Bool) : Nat → Nat
  | 0 => 0
  | n + 1 => room K S n + (K - card K (S n))
theorem room_mono {K : Nat} {S T : Nat → Int → Bool} (h : ∀ n x, S n x = true → T n x = true) : ∀ n, room K T n ≤ room K S n
  | 0 => Nat.le_refl _
  | n + 1 => by
    have h1 := room_mono h n (K := K)
    have h2 := card_mono (K := K) (h n)
    show room K T n + (K - card K (T n)) ≤ room K S n + (K - card K (S n))
    omega
theorem room_less {K : Nat} {S T : Nat → Int → Bool} (h : ∀ n x, S n x = true → T n x = true) {j : Nat} (hj : card K (S j) < card K (T j)) : ∀ n, j < n → room K T n + 1 ≤ room K S n
  | 0, hn => absurd hn (by omega)
  | n + 1, hn => by
    have h2 := card_mono (K := K) (h n)
    have h3 := card_le K (T n)
    have h4 := card_le K (T j)
    have h1 := room_mono h n (K := K)
    show room K T n + (K - card K (T n)) + 1 ≤ room K S n + (K - card K (S n))
    by_cases e : j = n
    · subst e
      omega
    · have := room_less h hj n (by omega)
      omega
theorem putS_iff {S : Int → Bool} {x y : Int} : putS S x y = true ↔ y = x ∨ S y = true := by simp [putS]
theorem putS_old {S : Int → Bool} (x : Int) {y : Int} (h : S y = true) : putS S x y = true := putS_iff.2 (Or.inr h)
theorem updS_mono {S T : Nat → Int → Bool} {n : Nat} {U : Int → Bool} (h : ∀ j x, S j x = true → T j x = true) (hU : ∀ x, S n x = true → U x = true) : ∀ j x, S j x = true → updS T n U j x = true := fun j x hx => by
  by_cases e : j = n
  · subst e
    rw [updS_self]
    exact hU x hx
  · rw [updS_ne e]
    exact h j x hx
theorem updS_same (S : Nat → Int → Bool) (n : Nat) : updS S n (S n) = S := by
  funext j
  by_cases e : j = n
  · subst e
    rw [updS_self]
  · rw [updS_ne e]
theorem updS_twice (S : Nat → Int → Bool) (n : Nat) (T U : Int → Bool) : updS (updS S n T) n U = updS S n U := by
  funext j
  by_cases e : j = n
  · subst e
    rw [updS_self, updS_self]
  · rw [updS_ne e, updS_ne e, updS_ne e]
set_option maxRecDepth 100000 in
theorem make_maps (T : Nat) (hT : T ≤ 100000) (x : Int) (hx : x = T) (W : World) : (Instr.makeSlice 47 (.int .i64 x) (.int .i64 x)).run Try.prog W = .ok (.slice (some ⟨W.heap.size, 0, none⟩) T T) (W.alloc (.cells (List.replicate T (Value.map none)).toArray 53)) := by
  subst hx
  obtain ⟨i, hi, hz, h1, h2⟩ : ∃ i, Try.prog.info? 53 = some i ∧ i.zero = some (Value.map none) ∧ i.size = 1 ∧ i.bytes = 8 := ⟨_, rfl, rfl, rfl, rfl⟩
  have hr := run_make (P := Try.prog) W 47 53 i _ Try.underlying47 hi hz .i64 .i64 T T (by omega) (by omega) (by rw [h2]; omega) (by omega)
  rw [hr]
  have e : madeCells (Value.map none).cells ((T : Int).toNat * i.size) = (List.replicate T (Value.map none)).toArray := by
    rw [h1]
    apply Array.ext
    · simp [madeCells]
    · intro j a b
      simp [madeCells, Value.cells, Nat.mod_one]
  rw [e]
  simp
/-- A row of maps, some of which are made. -/
def mapRow (bs : List Nat) (N : Nat) : Array Value := ((bs.map fun b => Value.map (some b)) ++ List.replicate (N - bs.length) (Value.map none)).toArray
theorem mapRow_set (bs : List Nat) (N b : Nat) (h : bs.length < N) : (mapRow bs N).setIfInBounds bs.length (.map (some b)) = mapRow (bs ++ [b]) N := by
  apply Array.ext_getElem?
  intro i
  unfold mapRow
  rw [List.setIfInBounds_toArray]
  simp only [List.getElem?_toArray, List.getElem?_set, List.getElem?_append, List.length_append, List.length_map, List.length_replicate, List.map_append, List.map_cons, List.map_nil, List.length_cons, List.length_nil, List.getElem?_replicate]
  by_cases e : bs.length = i
  · subst e
    simp
    omega
  · by_cases hl : i < bs.length
    · simp [e, hl, Nat.lt_succ_of_lt hl]
    · have h2 : ¬i < bs.length + 1 := by omega
      simp only [e, hl, h2, if_false, Nat.zero_add]
      by_cases h3 : i < N
      · rw [if_pos (by omega), if_pos (by omega)]
      · rw [if_neg (by omega), if_neg (by omega)]
theorem mapRow_at (bs : List Nat) (N i : Nat) (h : i < N) (hb : bs.length ≤ i) : (mapRow bs N)[i]? = some (.map none) := by
  unfold mapRow
  simp only [List.getElem?_toArray]
  rw [List.getElem?_append_right (by simpa using hb), List.getElem?_replicate, if_pos (by rw [List.length_map]; omega)]
theorem mapRow_all (bs : List Nat) (N : Nat) (h : bs.length = N) : mapRow bs N = (bs.map fun b => Value.map (some b)).toArray := by
  subst h
  simp [mapRow]
theorem run_lenS {w : World} {t : TypeId} (ht : Try.prog.underlying t = some (.map 3 4)) (ty : TypeId) {b K : Nat} {S : Int → Bool} (h : SetAt w b K S) : (Builtin.len_ #[t] ty #[.map (some b)]).run Try.prog w = .ok (.int .i64 (card K S : Nat)) w := by
  obtain ⟨D, hown, hS, hb⟩ := h
  rw [hown.len ht ty, (SetAt.keys hown hS hb).2]
end Go.Proofs.Ytkianddaccoeiaa
