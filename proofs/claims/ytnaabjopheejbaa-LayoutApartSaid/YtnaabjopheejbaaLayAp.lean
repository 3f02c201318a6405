/- LayoutApart, walked. -/
import Derived.Test.YtnaabjopheejbaaLayP
namespace Go.Proofs.Ytnaabjopheejbaa
open Go.RowKit
set_option linter.unusedVariables false
set_option linter.unusedSimpArgs false
section
variable {P : Program} {ops : Array Oper} {rest : List Oper} {o : Oper} {a : Act} {w : World} {K : Act → World → Prop} {Q : Exit → Act → World → Prop} {E : Prop}
/-- Some elements more, in a region that draws its order. -/
theorem step_pushm (hgd : o.guard = none) (s x : Operand) (t : TypeId) (ho : o.op = .call { callee := .builtin .append, args := #[s, x], argTypes := #[t, t] })
    (base : Nat) (e : TypeId) (size bytes m : Nat) (ht : P.underlying t = some (.slice e)) (hinfo : ∃ i z, P.info? e = some i ∧ i.zero = some z ∧ i.size = size ∧ i.bytes = bytes ∧ z.cells.size = size) (hsz : 0 < size) (hm : 0 < m)
    (v : Value) (n : Nat) (xs : List Value) (hs : a.eval s = v) (hown : w.ownsRow base e size v n xs)
    (B : Nat) (cs : Array Value) (ty : TypeId) (hx : a.eval x = .slice (some ⟨B, 0, none⟩) m m) (hb : w.heap[B]? = some (.cells cs ty)) (hl : cs.size = m * size) (h1 : ∀ u ∈ cs.toList, u.oneCell' = true)
    (hbytes : (n + m) * bytes ≤ 140737488355328) (hmax : n + m ≤ 140737488355328) (hbase : base ≤ w.heap.size)
    (h : ∀ g cap w', w'.ownsRow base e size (.slice (some ⟨g, 0, none⟩) (n + m) cap) (n + m) (xs ++ cs.toList) → w.grownBy w' v.ownBlock → (v.ownBlock = some g ∨ g = w.heap.size) → g < w'.heap.size → K (a.put o.dst (.slice (some ⟨g, 0, none⟩) (n + m) cap)) w') :
    if Region.wanted o (yielded ops a.tmps) = true then Oper.wp P o a w K Q else E := by
  obtain ⟨i, z, hi, hz, hsize, hby, hzs⟩ := hinfo
  exact step_append_lies w hgd s x t ho base e i z size bytes ht hi hz hsize hby hzs hsz v n xs hs hown ⟨B, 0, none⟩ m m cs.toList hx (by simpa using hl) (news_of hb) h1 (by omega) (by unfold maxLen; omega) hbytes hbase _ rfl h
theorem wpList_pushm (hgd : o.guard = none) (s x : Operand) (t : TypeId) (ho : o.op = .call { callee := .builtin .append, args := #[s, x], argTypes := #[t, t] })
    (base : Nat) (e : TypeId) (size bytes m : Nat) (ht : P.underlying t = some (.slice e)) (hinfo : ∃ i z, P.info? e = some i ∧ i.zero = some z ∧ i.size = size ∧ i.bytes = bytes ∧ z.cells.size = size) (hsz : 0 < size) (hm : 0 < m)
    (v : Value) (n : Nat) (xs : List Value) (hs : a.eval s = v) (hown : w.ownsRow base e size v n xs)
    (B : Nat) (cs : Array Value) (ty : TypeId) (hx : a.eval x = .slice (some ⟨B, 0, none⟩) m m) (hb : w.heap[B]? = some (.cells cs ty)) (hl : cs.size = m * size) (h1 : ∀ u ∈ cs.toList, u.oneCell' = true)
    (hbytes : (n + m) * bytes ≤ 140737488355328) (hmax : n + m ≤ 140737488355328) (hbase : base ≤ w.heap.size)
    (h : ∀ g cap w', w'.ownsRow base e size (.slice (some ⟨g, 0, none⟩) (n + m) cap) (n + m) (xs ++ cs.toList) → w.grownBy w' v.ownBlock → (v.ownBlock = some g ∨ g = w.heap.size) → g < w'.heap.size → wpList P ops Q rest (a.put o.dst (.slice (some ⟨g, 0, none⟩) (n + m) cap)) w') :
    wpList P ops Q (o :: rest) a w := by
  obtain ⟨i, z, hi, hz, hsize, hby, hzs⟩ := hinfo
  exact wpList_append_lies w hgd s x t ho base e i z size bytes ht hi hz hsize hby hzs hsz v n xs hs hown ⟨B, 0, none⟩ m m cs.toList hx (by simpa using hl) (news_of hb) h1 (by omega) (by unfold maxLen; omega) hbytes hbase _ rfl h
end
theorem info_int : ∃ i z, Try.prog.info? 3 = some i ∧ i.zero = some z ∧ i.size = 1 ∧ i.bytes = 8 ∧ z.cells.size = 1 := ⟨_, _, rfl, rfl, rfl, rfl, rfl⟩
/-- Two rows that do not lie in one block. -/
def Apart (v u : Value) : Prop := ∀ g, v.ownBlock = some g → u.ownBlock = some g → False
theorem Apart.hne {v u : Value} (h : Apart v u) : v.ownBlock = none ∨ v.ownBlock ≠ u.ownBlock := by
  cases e : v.ownBlock with
  | none => exact Or.inl rfl
  | some g => exact Or.inr fun e' => h g e e'.symm
theorem Apart.symm {v u : Value} (h : Apart v u) : Apart u v := fun g a b => h g b a
theorem own_lt {w : World} {base : Nat} {e : TypeId} {size : Nat} {v : Value} {n : Nat} {xs : List Value} (h : w.ownsRow base e size v n xs) : ∀ j, v.ownBlock = some j → j < w.heap.size := by
  intro j hj
  rcases h.2 with ⟨hv, _⟩ | ⟨g, cap, cur, hv, hb, hg, _⟩
  · rw [hv] at hj; cases hj
  · rw [hv] at hj
    have : g = j := by simpa [Value.ownBlock] using hj
    subst this
    exact (Array.getElem?_eq_some_iff.1 hg).1
theorem Apart.pushed {w : World} {base : Nat} {e : TypeId} {size : Nat} {v u : Value} {n m cap g : Nat} {xs : List Value} (h : Apart v u) (hown : w.ownsRow base e size u n xs) (hg : v.ownBlock = some g ∨ g = w.heap.size) : Apart (.slice (some ⟨g, 0, none⟩) m cap) u := by
  intro j h1 h2
  have e1 : g = j := by simpa [Value.ownBlock] using h1
  subst e1
  rcases hg with hg | hg
  · exact h g hg h2
  · have := own_lt hown g h2
    omega
theorem far_own {w : World} {base : Nat} {e : TypeId} {size : Nat} {v : Value} {n b : Nat} {xs : List Value} (h : w.ownsRow base e size v n xs) (hb : w.heap.size ≤ b) : some b ≠ v.ownBlock := by
  intro e
  have := own_lt h b e.symm
  omega
/-- A row has grown behind two literals: what holds then. -/
theorem step_lits {w3 wr wf : World} {a b vf vt : Value} {cs2 : Array Value} {ty ty2 : TypeId} {e : TypeId} {nf nt gf : Nat} {xf xt : List Value}
    (hof : wr.ownsRow w3.heap.size e 1 vf nf xf) (hot : wr.ownsRow w3.heap.size e 1 vt nt xt) (hap : Apart vf vt) (kp : Kp w3 wr)
    (hg : ((wr.alloc (.cells #[a, b] ty)).alloc (.cells cs2 ty2)).grownBy wf vf.ownBlock) (hg' : vf.ownBlock = some gf ∨ gf = ((wr.alloc (.cells #[a, b] ty)).alloc (.cells cs2 ty2)).heap.size) :
    wf.ownsRow w3.heap.size e 1 vt nt xt ∧ Aside (Kp w3 wf) ∧ (∀ m cap, Apart (.slice (some ⟨gf, 0, none⟩) m cap) vt) ∧ wf.cell? ⟨wr.heap.size, 0, none⟩ = some a ∧ wf.cell? ⟨wr.heap.size, 1, none⟩ = some b ∧ wr.heap.size < wf.heap.size := by
  have hot2 := (hot.alloc (.cells #[a, b] ty)).alloc (.cells cs2 ty2)
  have hs : wr.heap.size + 2 ≤ wf.heap.size := by
    have := hg.size
    simp only [World.size_alloc] at this
    omega
  refine ⟨hot2.kept hg hap.symm.hne, ⟨Kp.grown ((kp.alloc _).alloc _) hg (own_ge hof)⟩, fun m cap => hap.pushed hot2 hg', ?_, ?_, by omega⟩
  · rw [hg.cell_far ⟨wr.heap.size, 0, none⟩ (by simp only [World.size_alloc]; omega) (far_own hof (Nat.le_refl _)), cell_kept _ _ (by simp only [World.size_alloc]; omega), cell_new]
    rfl
  · rw [hg.cell_far ⟨wr.heap.size, 1, none⟩ (by simp only [World.size_alloc]; omega) (far_own hof (Nat.le_refl _)), cell_kept _ _ (by simp only [World.size_alloc]; omega), cell_new]
    rfl
theorem step_lit {w3 wr W wf : World} {vf vt : Value} {o : Obj} {e : TypeId} {nf nt gf : Nat} {xf xt : List Value}
    (hof : wr.ownsRow w3.heap.size e 1 vf nf xf) (hot : wr.ownsRow w3.heap.size e 1 vt nt xt) (hap : Apart vf vt)
    (hg : W.grownBy wf vt.ownBlock) (hg' : vt.ownBlock = some gf ∨ gf = W.heap.size) (hW : W.heap = (wr.alloc o).heap) (kp : Kp w3 W) :
    wf.ownsRow w3.heap.size e 1 vf nf xf ∧ Aside (Kp w3 wf) ∧ (∀ m cap, Apart vf (.slice (some ⟨gf, 0, none⟩) m cap)) := by
  have hofW : W.ownsRow w3.heap.size e 1 vf nf xf := by
    obtain ⟨h1, h2⟩ := hof.alloc o
    exact ⟨h1, by rw [hW]; exact h2⟩
  exact ⟨hofW.kept hg hap.hne, ⟨Kp.grown kp hg (own_ge hot)⟩, fun m cap => (hap.symm.pushed hofW hg').symm⟩
/-- All data so far are of a length that eight divides. -/
def allEight (d : Nat → Nat) : Nat → Bool
  | 0 => true
  | k + 1 => allEight d k && d k % 8 == 0
theorem allEight_sum {d : Nat → Nat} {n k : Nat} (h : allEight d n = true) (hk : k ≤ n) : sumTo d k % 8 = 0 := by
  induction n generalizing k with
  | zero => obtain rfl : k = 0 := by omega
            rfl
  | succ n ih =>
    simp only [allEight, Bool.and_eq_true, beq_iff_eq] at h
    by_cases e : k = n + 1
    · subst e
      have := ih h.1 (Nat.le_refl _)
      simp only [sumTo]
      omega
    · exact ih h.1 (by omega)
theorem all_step_t {d : Nat → Nat} {k : Nat} (h : allEight d k = true) : Value.bool (((d k : Nat) : Int) % 8 == 0) = Value.bool (allEight d (k + 1)) := by
  rw [allEight, h, Bool.true_and]
  congr 1
  rw [Bool.eq_iff_iff, beq_iff_eq, beq_iff_eq]
  omega
theorem all_step_f {d : Nat → Nat} {k : Nat} (h : allEight d k = false) : Value.bool false = Value.bool (allEight d (k + 1)) := by rw [allEight, h, Bool.false_and]
/-- Where the text or the data of each object begins, and where it ends. -/
def begins (t d : Nat → Nat) (n j : Nat) : Nat := if j % 2 = 0 then 12 + 4 * sumTo t (j / 2) else base t n + sumTo d (j / 2)
def ends (t d : Nat → Nat) (n j : Nat) : Nat := if j % 2 = 0 then 12 + 4 * sumTo t (j / 2 + 1) else base t n + sumTo d (j / 2 + 1)
def ecells (t d : Nat → Nat) (n : Nat) : Nat → List Value
  | 0 => []
  | k + 1 => ecells t d n k ++ [.int .i64 ((12 + 4 * sumTo t k + 4 * t k : Nat) : Int), .int .i64 ((base t n + sumTo d k + d k : Nat) : Int)]
theorem ecells_length (t d : Nat → Nat) (n m : Nat) : (ecells t d n m).length = m * 2 := by
  induction m with
  | zero => rfl
  | succ m ih => simp [ecells, ih]; omega
theorem ecells_at (t d : Nat → Nat) (n m k : Nat) (hk : k < m) : (ecells t d n m)[k * 2]? = some (.int .i64 ((12 + 4 * sumTo t k + 4 * t k : Nat) : Int)) ∧ (ecells t d n m)[k * 2 + 1]? = some (.int .i64 ((base t n + sumTo d k + d k : Nat) : Int)) := by
  induction m with
  | zero => omega
  | succ m ih =>
    have hl := ecells_length t d n m
    by_cases e : k = m
    · subst e
      refine ⟨?_, ?_⟩
      · rw [ecells, List.getElem?_append_right (by omega), hl]; simp
      · rw [ecells, List.getElem?_append_right (by omega), hl]; simp
    · have := ih (by omega)
      refine ⟨?_, ?_⟩
      · rw [ecells, List.getElem?_append_left (by omega)]; exact this.1
      · rw [ecells, List.getElem?_append_left (by omega)]; exact this.2
theorem row_form {w : World} {base : Nat} {e : TypeId} {v : Value} {N : Nat} {xs : List Value} (h : w.ownsRow base e 1 v N xs) : ∃ A c, v = .slice A N c ∧ (0 < N → ∃ g, A = some ⟨g, 0, none⟩ ∧ g < w.heap.size ∧ ∀ j, j < N → w.cell? ⟨g, j, none⟩ = xs[j]?) := by
  rcases h.2 with ⟨hv, hn⟩ | ⟨g, cap, cur, hv, hb, hg, _⟩
  · exact ⟨none, 0, by rw [hv, hn], fun hn' => absurd hn' (by omega)⟩
  · subst hv
    exact ⟨_, cap, rfl, fun _ => ⟨g, rfl, (Array.getElem?_eq_some_iff.1 hg).1, fun j hj => h.cellAt (g := g) (cap := cap) j (by omega)⟩⟩
theorem wrap_small {x : Int} (h : -9223372036854775808 ≤ x ∧ x ≤ 9223372036854775807) : IntKind.i64.wrap x = x := by
  rw [IntKind.wrap_i64]
  omega
theorem push_f {W : World} {B : Nat} {e : TypeId} {v : Value} {t d : Nat → Nat} {n k : Nat} (h : W.ownsRow B e 1 v (k * 2 + 2) (rcells t d n k ++ [.int .i64 (12 + 4 * (sumTo t k : Int)), .int .i64 ((base t n : Int) + (sumTo d k : Int))])) :
    W.ownsRow B e 1 v ((k + 1) * 2) (rcells t d n (k + 1)) := by
  have e1 : ((12 + 4 * sumTo t k : Nat) : Int) = 12 + 4 * (sumTo t k : Int) := by omega
  have e2 : ((base t n + sumTo d k : Nat) : Int) = (base t n : Int) + (sumTo d k : Int) := by omega
  rw [rcells, e1, e2, Nat.succ_mul]
  exact h
theorem push_t {W : World} {B : Nat} {e : TypeId} {v : Value} {t d : Nat → Nat} {n k : Nat} (b1 : t k ≤ 65535) (s3 : 12 + 4 * (sumTo t k + t k) ≤ 2097152 ∧ base t n + (sumTo d k + d k) ≤ 2097152)
    (h : W.ownsRow B e 1 v (k * 2 + 2) (ecells t d n k ++ #[Value.int .i64 (IntKind.i64.wrap (12 + 4 * (sumTo t k : Int) + IntKind.i64.wrap (4 * (t k : Int)))), Value.int .i64 (IntKind.i64.wrap ((base t n : Int) + (sumTo d k : Int) + (d k : Int)))].toList)) :
    W.ownsRow B e 1 v ((k + 1) * 2) (ecells t d n (k + 1)) := by
  rw [wrap_small (x := 4 * (t k : Int)) (by omega), wrap_small (by omega), wrap_small (by omega)] at h
  have e1 : ((12 + 4 * sumTo t k + 4 * t k : Nat) : Int) = 12 + 4 * (sumTo t k : Int) + 4 * (t k : Int) := by omega
  have e2 : ((base t n + sumTo d k + d k : Nat) : Int) = (base t n : Int) + (sumTo d k : Int) + (d k : Int) := by omega
  rw [ecells, e1, e2, Nat.succ_mul]
  exact h
theorem begins_at (t d : Nat → Nat) (n j : Nat) (hj : j < n * 2) : (rcells t d n n)[j]? = some (.int .i64 ((begins t d n j : Nat) : Int)) := by
  obtain ⟨p1, p2⟩ := rcells_at t d n n (j / 2) (by omega)
  rcases Nat.mod_two_eq_zero_or_one j with e | e
  · rw [show j / 2 * 2 = j by omega] at p1
    rw [p1, begins, if_pos e]
  · rw [show j / 2 * 2 + 1 = j by omega] at p2
    rw [p2, begins, if_neg (by omega)]
theorem ends_at (t d : Nat → Nat) (n j : Nat) (hj : j < n * 2) : (ecells t d n n)[j]? = some (.int .i64 ((ends t d n j : Nat) : Int)) := by
  obtain ⟨p1, p2⟩ := ecells_at t d n n (j / 2) (by omega)
  rcases Nat.mod_two_eq_zero_or_one j with e | e
  · rw [show j / 2 * 2 = j by omega] at p1
    rw [p1, ends, if_pos e]
    simp only [sumTo]; congr 3; omega
  · rw [show j / 2 * 2 + 1 = j by omega] at p2
    rw [p2, ends, if_neg (by omega)]
    simp only [sumTo]; congr 3; omega
theorem base_ge (t : Nat → Nat) (n : Nat) : 12 + 4 * sumTo t n ≤ base t n ∧ base t n % 8 = 0 := by unfold base; omega
theorem sum_bound {t d : Nat → Nat} {n k : Nat} (h : base t n + sumTo d n ≤ 2097152) (hk : k ≤ n) : 12 + 4 * sumTo t k ≤ 2097152 ∧ base t n + sumTo d k ≤ 2097152 := by
  have h1 := sumTo_mono d hk
  have h2 := sumTo_mono t hk
  have h3 := base_ge t n
  omega
theorem begins_facts (t d : Nat → Nat) (n j : Nat) (hj : j < n * 2) : 12 ≤ begins t d n j ∧ begins t d n j ≤ ends t d n j ∧ ends t d n j ≤ base t n + sumTo d n ∧ (j % 2 = 0 → begins t d n j % 4 = 0) ∧ (j % 2 = 1 → allEight d n = true → begins t d n j % 8 = 0) := by
  have b := base_ge t n
  have m1 := sumTo_mono t (show j / 2 + 1 ≤ n by omega)
  have m2 := sumTo_mono d (show j / 2 + 1 ≤ n by omega)
  have m3 := sumTo_mono t (show j / 2 ≤ j / 2 + 1 by omega)
  have m4 := sumTo_mono d (show j / 2 ≤ j / 2 + 1 by omega)
  unfold begins ends
  split
  · refine ⟨by omega, by omega, by omega, fun _ => by omega, fun h => by omega⟩
  · refine ⟨by omega, by omega, by omega, fun h => by omega, fun _ h => ?_⟩
    have := allEight_sum h (show j / 2 ≤ n by omega)
    omega
theorem apart_facts (t d : Nat → Nat) (n j k : Nat) (hj : j < n * 2) (hk : k < j) : ends t d n k ≤ begins t d n j ∨ ends t d n j ≤ begins t d n k := by
  have b := base_ge t n
  have m1 := sumTo_mono t (show k / 2 + 1 ≤ n by omega)
  have m2 := sumTo_mono t (show j / 2 + 1 ≤ n by omega)
  unfold begins ends
  split <;> split
  · have := sumTo_mono t (show k / 2 + 1 ≤ j / 2 by omega)
    omega
  · omega
  · omega
  · have := sumTo_mono d (show k / 2 + 1 ≤ j / 2 by omega)
    omega
set_option maxRecDepth 100000 in
set_option maxHeartbeats 6000000 in
theorem apart_any (A : Option Addr) (n c : Nat) (t d : Nat → Nat) (w : World) (h : Sizes w A n c t d) :
    Calls Try.prog 4 #[.slice A n c] w fun e w' => e = .returned (.bool true) ∧ Kp w w' := by
  by_cases hn : 12 < n
  · go_enter Try.func4, Try.ntmps4
    go_wp2_with ((go_at_call 8); (refine (awake07_calls _).mono ?_); (rintro e w1 ⟨rfl, kpa⟩))
    go_ret
    exact ⟨rfl, by repeat (first | exact Kp.refl _ | assumption | exact Dr.kp (by assumption) | refine Kp.drewN ?_ _ | refine Kp.drew ?_ | refine Kp.alloc ?_ _ | refine Kp.setCell ?_ (by first | exact Nat.le_refl _ | assumption | omega) _ | refine Kp.trans ?_ (by assumption) | refine Kp.trans ?_ (Dr.kp (by assumption)))⟩
  · have ht := sumTo_le t 65535 n h.ht
    have hd := sumTo_le d 65535 n h.hd
    go_enter Try.func4, Try.ntmps4
    go_wp2_with ((go_at_call 8); (refine (awake07_calls _).mono ?_); (rintro e w1 ⟨rfl, kpa⟩))
    refine ((h.kept kpa).objects (by omega)).mono ?_
    rintro e w2 ⟨v, xs, rfl, kp2, hown, hobj⟩
    go_wp2_with fail
    refine (lay_own hown hobj (by omega) (by omega) (by omega)).mono ?_
    intro e w3 hlay
    obtain ⟨v', g', c', rfl, hA, hg, hO⟩ := objs_form hown hobj
    replace hA := Aside.mk hA
    replace hg := Aside.mk hg
    replace hO := Aside.mk hO
    have hdb := Aside.mk h.hd
    have htb := Aside.mk h.ht
    by_cases hlong : 2097152 < base t n + sumTo d n
    · obtain ⟨rfl, kp3⟩ := lay_long hlay hlong
      go_wp2
      go_ret
      exact ⟨rfl, by repeat (first | exact Kp.refl _ | assumption | exact Dr.kp (by assumption) | refine Kp.drewN ?_ _ | refine Kp.drew ?_ | refine Kp.alloc ?_ _ | refine Kp.setCell ?_ (by first | exact Nat.le_refl _ | assumption | omega) _ | refine Kp.trans ?_ (by assumption) | refine Kp.trans ?_ (Dr.kp (by assumption)))⟩
    · obtain ⟨rfl, kp3, hrow⟩ := lay_short hlay (by omega)
      clear hlay hown hobj
      go_wp2
      go_loopw [7, 8, 9, 34] (fun vf vt va i wr => ∃ k : Nat, k ≤ n ∧ i = .int .i64 k ∧ va = .bool (allEight d k) ∧ Kp w3 wr ∧ wr.ownsRow w3.heap.size 3 1 vf (k * 2) (rcells t d n k) ∧ wr.ownsRow w3.heap.size 3 1 vt (k * 2) (ecells t d n k) ∧ Apart vf vt) (fun _ _ _ i _ => n - (intOf i).toNat)
      case atStart => exact ⟨0, Nat.zero_le _, rfl, rfl, Kp.refl _, World.ownsRow_nil _ _ _ _, World.ownsRow_nil _ _ _ _, fun g e => by cases e⟩
      case round =>
        obtain ⟨k, hk, rfl, rfl, kp, hof, hot, hap⟩ := hrel
        obtain ⟨b8, hb8⟩ : ∃ b, Aside (allEight d k = b) := ⟨_, ⟨rfl⟩⟩
        rw [hb8.out]
        by_cases hlt : k < n
        · obtain rfl := hA.out (by omega)
          have hg' := hg.out (by omega)
          obtain ⟨a1, k1, a2, k2, a3, m3, k3, a4, m4, k4, q1, q2, q3, q4⟩ := hO.out (by omega) k hlt
          replace kpw : Aside (Kp w2 wr) := Aside.mk (kp3.trans kp)
          have lt3 : g' < w3.heap.size := Nat.lt_of_lt_of_le hg' kp3.size
          have e10 := Aside.mk ((kp3.cell (p := ⟨g', k * 4, none⟩) hg').trans q1)
          have e20 := Aside.mk ((kp3.cell (p := ⟨g', k * 4 + 1, none⟩) hg').trans q2)
          have e1 := (kpw.out.cell (p := ⟨g', k * 4, none⟩) hg').trans q1
          have e2 := (kpw.out.cell (p := ⟨g', k * 4 + 1, none⟩) hg').trans q2
          have p1 := (kp.cell (p := ⟨w2.heap.size, k * 2, none⟩) hrow.lt).trans (hrow.cell (i := k * 2) (by omega))
          have p2 := (kp.cell (p := ⟨w2.heap.size, k * 2 + 1, none⟩) hrow.lt).trans (hrow.cell (i := k * 2 + 1) (by omega))
          rw [lay2_even t d n k hlt] at p1
          rw [lay2_odd t d n k hlt] at p2
          have s1 := kp.size
          have b1 := htb.out k hlt
          have b2 := hdb.out k hlt
          have s3 := sum_bound (Nat.le_of_not_lt hlong) (k := k + 1) hlt
          simp only [sumTo] at s3
          clear q1 q2 q3 q4
          go_wp2_with (at_builtin; (refine wpList_pushm rfl (.tmp 39) (.tmp 44) 37 rfl w3.heap.size 3 1 8 2 Try.underlying37 info_int (by decide) (by decide) u7 (k * 2) (rcells t d n k) ?_ ?_ ?_ ?_ ?_ ?_ ?_ ?_ ?_ ?_ ?_ ?_ ?_); (rfl); (focus repeat (first | assumption | refine World.ownsRow.drew ?_ | refine World.ownsRow.alloc ?_ _)); (rotate_left 3); (rfl); (refine heap_new ?_); (rw [World.size_alloc]); (rfl); (simp [Value.oneCell']); (omega); (omega); (simp only [World.size_alloc]; omega); (intro gf capf wf hof' hgf hgf' hltf); (obtain ⟨hot', kpf, hap', f1, f2, sf⟩ := step_lits hof hot hap kp hgf hgf'); (have e1' := (kpf.out.cell (p := ⟨g', k * 4, none⟩) lt3).trans e10.out); (have e2' := (kpf.out.cell (p := ⟨g', k * 4 + 1, none⟩) lt3).trans e20.out); clear hgf)
          have sf' := kpf.out.size
          have hapf := Aside.mk (hap' (k * 2 + 2) capf)
          clear hap' hgf' hrow kp hof hot hap hg hO hdb htb h kpw e1 e2 p1 p2 kpa kp2 kp3 ht hd hlong hg' s1
          go_region_law ((refine step_pushm rfl (.tmp 46) (.tmp 66) 37 rfl w3.heap.size 3 1 8 2 Try.underlying37 info_int (by decide) (by decide) u8 (k * 2) (ecells t d n k) ?_ ?_ ?_ ?_ ?_ ?_ ?_ ?_ ?_ ?_ ?_ ?_ ?_); (rfl); (focus repeat (first | assumption | refine World.ownsRow.drew ?_ | refine World.ownsRow.alloc ?_ _)); (rotate_left 3); (rfl); (refine heap_new ?_); (rfl); (rfl); (simp [Value.oneCell']); (omega); (omega); (simp only [World.size_alloc, World.size_drew]; omega); (intro gt capt wt hot2 hgt hgt2 hltt); (obtain ⟨hof2, kpt, hap2⟩ := step_lit hof' hot' hapf.out hgt hgt2 rfl (by have q := kpf.out; repeat (first | exact q | refine Kp.drewN ?_ _ | refine Kp.drew ?_ | refine Kp.alloc ?_ _)));  (have e1'' := (kpt.out.cell (p := ⟨g', k * 4, none⟩) lt3).trans e10.out); (have e2'' := (kpt.out.cell (p := ⟨g', k * 4 + 1, none⟩) lt3).trans e20.out); clear hgt)
          all_goals
            go_wp2
            all_goals
              go_roundw
              case rel => exact ⟨k + 1, by omega, by go_num, (by have e := hb8.out; first | exact all_step_t (e.trans (by assumption)) | exact all_step_f (e.trans (by assumption)) | (subst_vars; first | exact all_step_t e | exact all_step_f e) | (rename_i hx; subst hx; first | exact all_step_t e | exact all_step_f e) | (simp only [allEight, e]; simp_all; done)), kpt.out, push_f hof2, push_t b1 s3 hot2, hap2 _ _⟩
              case measure => simp [intOf]; omega
        · obtain rfl : n = k := by omega
          obtain ⟨Af, cf, rfl, hF⟩ := row_form hof
          obtain ⟨At, ct, rfl, hT⟩ := row_form hot
          replace hF := Aside.mk hF
          replace hT := Aside.mk hT
          replace hap := Aside.mk hap
          clear hof hot
          go_wp2
          go_loopw [82] (fun i wq => ∃ j : Nat, j ≤ n * 2 ∧ i = .int .i64 j ∧ Dr wr wq) (fun i _ => n * 2 - (intOf i).toNat)
          case atStart => exact ⟨0, Nat.zero_le _, rfl, Dr.refl _⟩
          case round =>
            obtain ⟨j, hj, rfl, ⟨m, rfl⟩⟩ := hrel
            by_cases hlt : j < n * 2
            · obtain ⟨gF, rfl, lF, cF⟩ := hF.out (by omega)
              obtain ⟨gT, rfl, lT, cT⟩ := hT.out (by omega)
              have f0 := (cF j hlt).trans (begins_at t d n j hlt)
              have t0 := (cT j hlt).trans (ends_at t d n j hlt)
              obtain ⟨x1, x2, x3, x4, x5⟩ := begins_facts t d n j hlt
              have xA := fun k hk => apart_facts t d n j k hlt hk
              replace cF := Aside.mk cF
              replace cT := Aside.mk cT
              replace xA := Aside.mk xA
              obtain ⟨F, hFe⟩ : ∃ F, F = begins t d n j := ⟨_, rfl⟩
              obtain ⟨T, hTe⟩ : ∃ T, T = ends t d n j := ⟨_, rfl⟩
              rw [← hFe] at f0 x1 x2 x4 x5
              rw [← hTe] at t0 x2 x3
              replace hFe := Aside.mk hFe
              replace hTe := Aside.mk hTe
              have y1 : ¬ ((F : Int) < 12) := by omega
              have y2 : ¬ (((base t n : Nat) : Int) + ((sumTo d n : Nat) : Int) < (T : Int)) := by omega
              replace x5 : j % 2 = 1 → b8 = true → F % 8 = 0 := fun h1 h2 => x5 h1 (hb8.out.trans h2)
              rcases Nat.mod_two_eq_zero_or_one j with e | e
              · have z1 : (j : Int) % 2 = 0 := by omega
                have z2 : (F : Int) % 4 = 0 := by have := x4 e; omega
                clear x4 x5
                go_wp2
                go_loopw [13] (fun i wq => ∃ k : Nat, k ≤ j ∧ i = .int .i64 k ∧ Dr wr wq) (fun i _ => j - (intOf i).toNat)
                case atStart => exact ⟨0, Nat.zero_le _, rfl, ⟨_, rfl⟩⟩
                case round =>
                  obtain ⟨k, hkj, rfl, ⟨m', rfl⟩⟩ := hrel
                  by_cases hl : k < j
                  · have hl2 : (k : Int) < (n : Int) * 2 := by omega
                    have fk := (cF.out k (by omega)).trans (begins_at t d n k (by omega))
                    have tk := (cT.out k (by omega)).trans (ends_at t d n k (by omega))
                    have xk := xA.out k hl
                    rw [← hFe.out, ← hTe.out] at xk
                    generalize begins t d n k = Fk at fk xk
                    generalize ends t d n k = Tk at tk xk
                    by_cases xq : F < Tk
                    · have v1 : ¬ Fk < T := by omega
                      have v2 : ((F : Nat) : Int) < (Tk : Int) := by omega
                      have v3 : ¬ ((Fk : Nat) : Int) < (T : Int) := by omega
                      clear xk
                      go_wp2
                      go_quiet (fail)
                      go_wp2
                      go_roundw
                      case rel => exact ⟨k + 1, by omega, by go_num, ⟨_, rfl⟩⟩
                      case measure => simp [intOf]; omega
                    · have v2 : ¬ ((F : Nat) : Int) < (Tk : Int) := by omega
                      clear xk
                      go_wp2
                      go_quiet (fail)
                      go_wp2
                      go_roundw
                      case rel => exact ⟨k + 1, by omega, by go_num, ⟨_, rfl⟩⟩
                      case measure => simp [intOf]; omega
                  · obtain rfl : j = k := by omega
                    go_wp2
                    go_roundw
                    case rel => exact ⟨j + 1, by omega, by go_num, ⟨_, rfl⟩⟩
                    case measure => simp [intOf]; omega
              · have z1 : (j : Int) % 2 = 1 := by omega
                cases b8 with
                | false =>
                  clear x4 x5
                  go_wp2
                  go_loopw [13] (fun i wq => ∃ k : Nat, k ≤ j ∧ i = .int .i64 k ∧ Dr wr wq) (fun i _ => j - (intOf i).toNat)
                  case atStart => exact ⟨0, Nat.zero_le _, rfl, ⟨_, rfl⟩⟩
                  case round =>
                    obtain ⟨k, hkj, rfl, ⟨m', rfl⟩⟩ := hrel
                    by_cases hl : k < j
                    · have hl2 : (k : Int) < (n : Int) * 2 := by omega
                      have fk := (cF.out k (by omega)).trans (begins_at t d n k (by omega))
                      have tk := (cT.out k (by omega)).trans (ends_at t d n k (by omega))
                      have xk := xA.out k hl
                      rw [← hFe.out, ← hTe.out] at xk
                      generalize begins t d n k = Fk at fk xk
                      generalize ends t d n k = Tk at tk xk
                      by_cases xq : F < Tk
                      · have v1 : ¬ Fk < T := by omega
                        have v2 : ((F : Nat) : Int) < (Tk : Int) := by omega
                        have v3 : ¬ ((Fk : Nat) : Int) < (T : Int) := by omega
                        clear xk
                        go_wp2
                        go_quiet (fail)
                        go_wp2
                        go_roundw
                        case rel => exact ⟨k + 1, by omega, by go_num, ⟨_, rfl⟩⟩
                        case measure => simp [intOf]; omega
                      · have v2 : ¬ ((F : Nat) : Int) < (Tk : Int) := by omega
                        clear xk
                        go_wp2
                        go_quiet (fail)
                        go_wp2
                        go_roundw
                        case rel => exact ⟨k + 1, by omega, by go_num, ⟨_, rfl⟩⟩
                        case measure => simp [intOf]; omega
                    · obtain rfl : j = k := by omega
                      go_wp2
                      go_roundw
                      case rel => exact ⟨j + 1, by omega, by go_num, ⟨_, rfl⟩⟩
                      case measure => simp [intOf]; omega
                | true =>
                  have z2 : (F : Int) % 8 = 0 := by have := x5 e rfl; omega
                  clear x4 x5
                  go_wp2
                  go_loopw [13] (fun i wq => ∃ k : Nat, k ≤ j ∧ i = .int .i64 k ∧ Dr wr wq) (fun i _ => j - (intOf i).toNat)
                  case atStart => exact ⟨0, Nat.zero_le _, rfl, ⟨_, rfl⟩⟩
                  case round =>
                    obtain ⟨k, hkj, rfl, ⟨m', rfl⟩⟩ := hrel
                    by_cases hl : k < j
                    · have hl2 : (k : Int) < (n : Int) * 2 := by omega
                      have fk := (cF.out k (by omega)).trans (begins_at t d n k (by omega))
                      have tk := (cT.out k (by omega)).trans (ends_at t d n k (by omega))
                      have xk := xA.out k hl
                      rw [← hFe.out, ← hTe.out] at xk
                      generalize begins t d n k = Fk at fk xk
                      generalize ends t d n k = Tk at tk xk
                      by_cases xq : F < Tk
                      · have v1 : ¬ Fk < T := by omega
                        have v2 : ((F : Nat) : Int) < (Tk : Int) := by omega
                        have v3 : ¬ ((Fk : Nat) : Int) < (T : Int) := by omega
                        clear xk
                        go_wp2
                        go_quiet (fail)
                        go_wp2
                        go_roundw
                        case rel => exact ⟨k + 1, by omega, by go_num, ⟨_, rfl⟩⟩
                        case measure => simp [intOf]; omega
                      · have v2 : ¬ ((F : Nat) : Int) < (Tk : Int) := by omega
                        clear xk
                        go_wp2
                        go_quiet (fail)
                        go_wp2
                        go_roundw
                        case rel => exact ⟨k + 1, by omega, by go_num, ⟨_, rfl⟩⟩
                        case measure => simp [intOf]; omega
                    · obtain rfl : j = k := by omega
                      go_wp2
                      go_roundw
                      case rel => exact ⟨j + 1, by omega, by go_num, ⟨_, rfl⟩⟩
                      case measure => simp [intOf]; omega
            · obtain rfl : j = n * 2 := by omega
              go_wp2
              go_ret
              exact ⟨rfl, by repeat (first | exact Kp.refl _ | assumption | exact Dr.kp (by assumption) | refine Kp.drewN ?_ _ | refine Kp.drew ?_ | refine Kp.alloc ?_ _ | refine Kp.setCell ?_ (by first | exact Nat.le_refl _ | assumption | omega) _ | refine Kp.trans ?_ (by assumption) | refine Kp.trans ?_ (Dr.kp (by assumption)))⟩
end Go.Proofs.Ytnaabjopheejbaa
