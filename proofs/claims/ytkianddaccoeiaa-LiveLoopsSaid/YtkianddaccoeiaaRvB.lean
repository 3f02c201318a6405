/- The reference: what follows an instruction; where a register is live. Walked. Conditions stand at each. -/
import Derived.Test.YtkianddaccoeiaaRvA
import Derived.Test.YtkianddaccoeiaaLivE
namespace Go.Proofs.Ytkianddaccoeiaa
open Go.RowKit Go.Maps Go.Proofs.Ytkianddaccoeiaa.PL
set_option linter.unusedVariables false
set_option linter.unusedSimpArgs false
set_option maxHeartbeats 4000000 in
theorem follow_calls (x : FunC) (n : Nat) (w : World) (h : FunAt w x) (hf : x.f.ok) (y : InsV) (hy : x.f.code[n]? = some y) (hlen : x.f.code.length ≤ 100000) : Calls Try.prog 48 #[.agg x.cells, .int .i64 n] w (IntsR w (nextI x.f.code.length n y)) := by
  have hn : n < x.f.code.length := (List.getElem?_eq_some_iff.1 hy).1
  have hnl := Aside.mk (next_last hf hy)
  obtain ⟨z, g, off, hz, hz2, hat, hC, hg, hcell⟩ := h.one hn
  obtain rfl := Option.some.inj (hy.symm.trans hz2)
  obtain ⟨c0, c1, c2, c3, c4, c5, c6, c7, c8⟩ := FunAt.nine hcell
  have hcc := h.slC.1
  obtain ⟨⟨op, dst, a, b, word, bits, name, args, tg⟩, A, c⟩ := z
  simp only [FunC.cells, hC] at *
  have hk := (Kp.refl w).alloc (.cells #[.string x.f.name, .bool x.f.static, .slice x.P x.f.params.length x.cp, .slice x.K x.f.kinds.length x.ck, .slice x.S x.f.slots.length x.cs, .slice (some ⟨g, off, none⟩) x.f.code.length x.cc] 25)
  have d0 := (hk.cell (p := ⟨g, off + n * 9, none⟩) hg).trans c0
  have d8 := (hk.cell (p := ⟨g, off + n * 9 + 8, none⟩) hg).trans c8
  clear hcell c0 c1 c2 c3 c4 c5 c6 c7 c8 hk hat hz hy hC h hf
  generalize x.f.code.length = len at *
  by_cases e17 : op = 17
  · subst e17
    simp only [nextI]
    go_enter Try.func48, Try.ntmps48
    go_wp2
    go_ret
    exact ⟨none, 0, rfl, ints_nil _ _, by repeat (with_reducible first | exact Kp.refl _ | assumption | exact Dr.kp (by assumption) | refine Kp.drewN ?_ _ | refine Kp.drew ?_ | refine Kp.alloc ?_ _ | refine Kp.setCell ?_ (by first | exact Nat.le_refl _ | assumption | omega) _ | refine Kp.trans ?_ (by assumption) | refine Kp.trans ?_ (Dr.kp (by assumption)))⟩
  by_cases e18 : op = 18
  · subst e18
    simp only [nextI]
    go_enter Try.func48, Try.ntmps48
    go_wp2
    go_ret
    exact ⟨_, _, rfl, ints_new [tg] _ (by simp) rfl, by repeat (with_reducible first | exact Kp.refl _ | assumption | exact Dr.kp (by assumption) | refine Kp.drewN ?_ _ | refine Kp.drew ?_ | refine Kp.alloc ?_ _ | refine Kp.setCell ?_ (by first | exact Nat.le_refl _ | assumption | omega) _ | refine Kp.trans ?_ (by assumption) | refine Kp.trans ?_ (Dr.kp (by assumption)))⟩
  have hl := hnl.out e17 e18
  have g17 : (op == 17) = false := beq_eq_false_iff_ne.2 e17
  have g18 : (op == 18) = false := beq_eq_false_iff_ne.2 e18
  by_cases e19 : op = 19
  · subst e19
    have hq : nextI len n ⟨19, dst, a, b, word, bits, name, args, tg⟩ = [(n : Int) + 1, tg] := by simp [nextI, hl]
    rw [hq]
    clear hq hl
    go_enter Try.func48, Try.ntmps48
    go_wp2
    go_ret
    exact ⟨_, _, rfl, ints_new [(n : Int) + 1, tg] _ (by simp) rfl, by repeat (with_reducible first | exact Kp.refl _ | assumption | exact Dr.kp (by assumption) | refine Kp.drewN ?_ _ | refine Kp.drew ?_ | refine Kp.alloc ?_ _ | refine Kp.setCell ?_ (by first | exact Nat.le_refl _ | assumption | omega) _ | refine Kp.trans ?_ (by assumption) | refine Kp.trans ?_ (Dr.kp (by assumption)))⟩
  have g19 : (op == 19) = false := beq_eq_false_iff_ne.2 e19
  have hq : nextI len n ⟨op, dst, a, b, word, bits, name, args, tg⟩ = [(n : Int) + 1] := by simp [nextI, hl, e17, e18, e19]
  rw [hq]
  clear hq e17 e18 e19 hl
  go_enter Try.func48, Try.ntmps48
  go_wp2
  go_ret
  exact ⟨_, _, rfl, ints_new [(n : Int) + 1] _ (by simp) rfl, by repeat (with_reducible first | exact Kp.refl _ | assumption | exact Dr.kp (by assumption) | refine Kp.drewN ?_ _ | refine Kp.drew ?_ | refine Kp.alloc ?_ _ | refine Kp.setCell ?_ (by first | exact Nat.le_refl _ | assumption | omega) _ | refine Kp.trans ?_ (by assumption) | refine Kp.trans ?_ (Dr.kp (by assumption)))⟩
set_option maxRecDepth 100000 in
theorem make_bools (T : Nat) (hT : T ≤ 100000) (x : Int) (hx : x = T) (W : World) : (Instr.makeSlice 56 (.int .i64 x) (.int .i64 x)).run Try.prog W = .ok (.slice (some ⟨W.heap.size, 0, none⟩) T T) (W.alloc (.cells (List.replicate T (.bool false)).toArray 4)) := by
  subst hx
  obtain ⟨i, hi, hz, h1, h2⟩ : ∃ i, Try.prog.info? 4 = some i ∧ i.zero = some (.bool false) ∧ i.size = 1 ∧ i.bytes = 1 := ⟨_, rfl, rfl, rfl, rfl⟩
  have hr := run_make (P := Try.prog) W 56 4 i _ Try.underlying56 hi hz .i64 .i64 T T (by omega) (by omega) (by rw [h2]; omega) (by omega)
  rw [hr]
  have e : madeCells (Value.bool false).cells ((T : Int).toNat * i.size) = (List.replicate T (.bool false)).toArray := by
    rw [h1]
    apply Array.ext
    · simp [madeCells]
    · intro j a b
      simp [madeCells, Value.cells, Nat.mod_one]
  rw [e]
  simp
/-- Truths in a row. -/
def boolsC (N : Nat) (T : Nat → Bool) : Array Value := ((List.range N).map fun n => Value.bool (T n)).toArray
theorem boolsC_at {N n : Nat} {T : Nat → Bool} (hn : n < N) : (boolsC N T)[n]? = some (.bool (T n)) := by
  unfold boolsC
  simp [hn]
theorem boolsC_size (N : Nat) (T : Nat → Bool) : (boolsC N T).size = N := by simp [boolsC]
theorem boolsC_start (N : Nat) : Array.replicate N (Value.bool false) = boolsC N (fun _ => false) := by
  apply Array.ext_getElem?
  intro i
  by_cases hi : i < N
  · rw [boolsC_at hi]
    simp [hi]
  · rw [Array.getElem?_eq_none (by simp; omega), Array.getElem?_eq_none (by rw [boolsC_size]; omega)]
/-- One more that is true. -/
def setT (T : Nat → Bool) (n : Nat) : Nat → Bool := fun j => decide (j = n) || T j
theorem boolsC_set {N n : Nat} {T : Nat → Bool} (hn : n < N) : (boolsC N T).setIfInBounds n (.bool true) = boolsC N (setT T n) := by
  apply Array.ext_getElem?
  intro i
  rw [Array.getElem?_setIfInBounds]
  by_cases e : n = i
  · subst e
    rw [if_pos rfl, if_pos (by rw [boolsC_size]; exact hn), boolsC_at hn]
    simp [setT]
  · rw [if_neg e]
    by_cases hi : i < N
    · rw [boolsC_at hi, boolsC_at hi]
      simp [setT, show ¬i = n from fun h => e h.symm]
    · rw [Array.getElem?_eq_none (by rw [boolsC_size]; omega), Array.getElem?_eq_none (by rw [boolsC_size]; omega)]
/-- How many of the first are false. -/
def countF (T : Nat → Bool) : Nat → Nat
  | 0 => 0
  | n + 1 => countF T n + if T n then 0 else 1
theorem countF_mono {T U : Nat → Bool} (h : ∀ n, T n = true → U n = true) : ∀ n, countF U n ≤ countF T n
  | 0 => Nat.le_refl _
  | n + 1 => by
    have := countF_mono h n
    show countF U n + _ ≤ countF T n + _
    by_cases ht : T n = true
    · rw [ht, h n ht]
      simpa using this
    · simp only [ht]
      split <;> simp <;> omega
theorem countF_less {T U : Nat → Bool} (h : ∀ n, T n = true → U n = true) {j : Nat} (h1 : T j = false) (h2 : U j = true) : ∀ n, j < n → countF U n + 1 ≤ countF T n
  | 0, hn => absurd hn (by omega)
  | n + 1, hn => by
    have hm := countF_mono h n
    show countF U n + _ + 1 ≤ countF T n + _
    by_cases e : j = n
    · subst e
      rw [h1, h2]
      simp
      omega
    · have := countF_less h h1 h2 n (by omega)
      by_cases ht : T n = true
      · rw [ht, h n ht]
        simpa using this
      · simp only [ht]
        split <;> simp <;> omega
theorem setT_old {T : Nat → Bool} (n : Nat) {j : Nat} (h : T j = true) : setT T n j = true := by simp [setT, h]
theorem setT_iff {T : Nat → Bool} {n j : Nat} : setT T n j = true ↔ j = n ∨ T j = true := by simp [setT]
/-- What is done at an instruction for a register. -/
def DoneR (f : FunV) (r : Int) (T0 T : Nat → Bool) (n : Nat) : Prop := ∀ i, f.code[n]? = some i → (r ∈ i.reads → T n = true) ∧ ∀ m ∈ nextI f.code.length n i, T0 m.toNat = true → r ≠ i.writes → T n = true
theorem doneR_eq {f : FunV} {r : Int} {T : Nat → Bool} (hs : ∀ n, T n = true → LiveP f n r) (h : ∀ n, n < f.code.length → DoneR f r T T n) : ∀ n, T n = liveB f n r := by
  intro n
  rw [Bool.eq_iff_iff, liveB_iff]
  refine ⟨hs n, fun hl => ?_⟩
  have := live_least (S := fun n q => q = r → T n = true) (fun n i hi => ?_) hl
  · exact this rfl
  · have hd := h n (List.getElem?_eq_some_iff.1 hi).1 i hi
    exact ⟨fun q hq e => hd.1 (e ▸ hq), fun m hm q hq hne e => hd.2 m hm (hq e) (e ▸ hne)⟩
end Go.Proofs.Ytkianddaccoeiaa
