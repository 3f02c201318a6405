/- What an instruction reads and writes, and what follows it, walked. Conditions stand at each. -/
import Derived.Test.YtkianddaccoeiaaLivA
namespace Go.Proofs.Ytkianddaccoeiaa
open Go.RowKit Go.Maps Go.Proofs.Ytkianddaccoeiaa.PL
set_option linter.unusedVariables false
set_option linter.unusedSimpArgs false
theorem op_cases {op : Int} (h : 1 ≤ op ∧ op ≤ 19) : op = 1 ∨ op = 2 ∨ op = 3 ∨ op = 4 ∨ op = 5 ∨ op = 6 ∨ op = 7 ∨ op = 8 ∨ op = 9 ∨ op = 10 ∨ op = 11 ∨ op = 12 ∨ op = 13 ∨ op = 14 ∨ op = 15 ∨ op = 16 ∨ op = 17 ∨ op = 18 ∨ op = 19 := by omega
set_option maxHeartbeats 2000000 in
theorem Writes_calls (x : InsC) (w : World) (h : 1 ≤ x.i.op ∧ x.i.op ≤ 19) : Calls Try.prog 22 #[.agg x.cells.toArray] w fun e w' => e = .returned (.int .i64 x.i.writes) ∧ Kp w w' := by
  obtain ⟨⟨op, dst, a, b, word, bits, name, args, tg⟩, A, c⟩ := x
  simp only [InsC.cells] at *
  rcases op_cases h with rfl | rfl | rfl | rfl | rfl | rfl | rfl | rfl | rfl | rfl | rfl | rfl | rfl | rfl | rfl | rfl | rfl | rfl | rfl
  all_goals
    simp only [InsV.writes]
    go_enter Try.func22, Try.ntmps22
    go_wp2
    go_ret
    exact ⟨by simp, by repeat (with_reducible first | exact Kp.refl _ | assumption | exact Dr.kp (by assumption) | refine Kp.drewN ?_ _ | refine Kp.drew ?_ | refine Kp.alloc ?_ _ | refine Kp.setCell ?_ (by first | exact Nat.le_refl _ | assumption | omega) _ | refine Kp.trans ?_ (by assumption) | refine Kp.trans ?_ (Dr.kp (by assumption)))⟩
/-- Numbers that were just laid. -/
theorem ints_new {w : World} {g : Nat} (xs : List Int) (t : TypeId) {cs : Array Value} (hg : w.heap.size = g) (hc : cs = (xs.map fun x => Value.int .i64 x).toArray) : IntsAt (w.alloc (.cells cs t)) (some ⟨g, 0, none⟩) xs := fun _ => by
  subst hg hc
  refine ⟨w.heap.size, 0, rfl, by simp, fun i hi => ?_⟩
  rw [cell_new]
  simp [List.getD_eq_getElem?_getD, List.getElem?_eq_getElem hi]
theorem ints_nil (w : World) (A : Option Addr) : IntsAt w A [] := fun h => absurd rfl h
/-- What a list of numbers that is handed back is. -/
def IntsR (w : World) (l : List Int) (e : Ending) (w' : World) : Prop := ∃ A c, e = .returned (.slice A l.length c) ∧ IntsAt w' A l ∧ Kp w w'
set_option maxHeartbeats 2000000 in
theorem Reads_calls (x : InsC) (w : World) (hx : x.at w) (h : 1 ≤ x.i.op ∧ x.i.op ≤ 19) : Calls Try.prog 36 #[.agg x.cells.toArray] w (IntsR w x.i.reads) := by
  obtain ⟨⟨op, dst, a, b, word, bits, name, args, tg⟩, A, c⟩ := x
  obtain ⟨hx, -⟩ := hx
  simp only [InsC.cells] at *
  replace hx := Aside.mk hx
  rcases op_cases h with rfl | rfl | rfl | rfl | rfl | rfl | rfl | rfl | rfl | rfl | rfl | rfl | rfl | rfl | rfl | rfl | rfl | rfl | rfl
  all_goals
    simp only [InsV.reads]
    try (by_cases e0 : 0 ≤ a)
  all_goals
    go_enter Try.func36, Try.ntmps36
    go_wp2
    go_ret
    first
      | exact ⟨none, 0, rfl, ints_nil _ _, by repeat (with_reducible first | exact Kp.refl _ | assumption | exact Dr.kp (by assumption) | refine Kp.drewN ?_ _ | refine Kp.drew ?_ | refine Kp.alloc ?_ _ | refine Kp.setCell ?_ (by first | exact Nat.le_refl _ | assumption | omega) _ | refine Kp.trans ?_ (by assumption) | refine Kp.trans ?_ (Dr.kp (by assumption)))⟩
      | exact ⟨_, _, rfl, ints_new [a] _ (by simp) rfl, by repeat (with_reducible first | exact Kp.refl _ | assumption | exact Dr.kp (by assumption) | refine Kp.drewN ?_ _ | refine Kp.drew ?_ | refine Kp.alloc ?_ _ | refine Kp.setCell ?_ (by first | exact Nat.le_refl _ | assumption | omega) _ | refine Kp.trans ?_ (by assumption) | refine Kp.trans ?_ (Dr.kp (by assumption)))⟩
      | exact ⟨_, _, rfl, ints_new [a, b] _ (by simp) rfl, by repeat (with_reducible first | exact Kp.refl _ | assumption | exact Dr.kp (by assumption) | refine Kp.drewN ?_ _ | refine Kp.drew ?_ | refine Kp.alloc ?_ _ | refine Kp.setCell ?_ (by first | exact Nat.le_refl _ | assumption | omega) _ | refine Kp.trans ?_ (by assumption) | refine Kp.trans ?_ (Dr.kp (by assumption)))⟩
      | exact ⟨_, _, rfl, hx.out.kp (by repeat (with_reducible first | exact Kp.refl _ | assumption | exact Dr.kp (by assumption) | refine Kp.drewN ?_ _ | refine Kp.drew ?_ | refine Kp.alloc ?_ _ | refine Kp.setCell ?_ (by first | exact Nat.le_refl _ | assumption | omega) _ | refine Kp.trans ?_ (by assumption) | refine Kp.trans ?_ (Dr.kp (by assumption)))), by repeat (with_reducible first | exact Kp.refl _ | assumption | exact Dr.kp (by assumption) | refine Kp.drewN ?_ _ | refine Kp.drew ?_ | refine Kp.alloc ?_ _ | refine Kp.setCell ?_ (by first | exact Nat.le_refl _ | assumption | omega) _ | refine Kp.trans ?_ (by assumption) | refine Kp.trans ?_ (Dr.kp (by assumption)))⟩
end Go.Proofs.Ytkianddaccoeiaa
