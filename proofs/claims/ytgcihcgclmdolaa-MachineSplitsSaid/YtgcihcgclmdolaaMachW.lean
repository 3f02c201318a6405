/- A machine's words and place told, walked. Conditions stand at each. -/
import Derived.Test.YtgcihcgclmdolaaMachWa
namespace Go.Proofs.Ytgcihcgclmdolaa
open Go.RowKit Go.Maps Go.Proofs.Ytgcihcgclmdolaa.PC Go.Proofs.Ytgcihcgclmdolaa.PW
set_option linter.unusedVariables false
set_option linter.unusedSimpArgs false
set_option maxHeartbeats 2000000 in
theorem Word_calls {w : World} {M B K N : Nat} {s : MS} (hm : Mac w M B K s N) (r : Nat) (hr : r < 32) : Calls Try.prog 15 #[.pointer (some ⟨M, 0, none⟩), .int .i64 r] w fun e w' => e = .returned (.int .u32 (s.x.getD r 0)) ∧ Kp w w' := by
  have hc := hm.cx hr
  have hl := hm.m.lt
  obtain ⟨q, hq⟩ : ∃ q, Aside (s.x.getD r 0 = q) := ⟨_, ⟨rfl⟩⟩
  rw [hq.out] at hc ⊢
  replace hm := Aside.mk hm
  go_enter Try.func15, Try.ntmps15
  go_wp2_with fail
  all_goals go_ret
  all_goals exact ⟨rfl, by repeat (with_reducible first | exact Kp.refl _ | assumption | exact Dr.kp (by assumption) | refine Kp.drewN ?_ _ | refine Kp.drew ?_ | refine Kp.alloc ?_ _ | refine Kp.setCell ?_ (by first | exact Nat.le_refl _ | assumption | omega) _ | refine Kp.trans ?_ (by assumption) | refine Kp.trans ?_ (Dr.kp (by assumption)))⟩
set_option maxHeartbeats 2000000 in
theorem Place_calls {w : World} {M B K N : Nat} {s : MS} (hm : Mac w M B K s N) : Calls Try.prog 18 #[.pointer (some ⟨M, 0, none⟩)] w fun e w' => e = .returned (.int .u32 s.pc) ∧ Kp w w' := by
  have hc := hm.facts.2.2.2.1
  have hl := hm.m.lt
  obtain ⟨q, hq⟩ : ∃ q, Aside (s.pc = q) := ⟨_, ⟨rfl⟩⟩
  rw [hq.out] at hc ⊢
  replace hm := Aside.mk hm
  go_enter Try.func18, Try.ntmps18
  go_wp2_with fail
  all_goals go_ret
  all_goals exact ⟨rfl, by repeat (with_reducible first | exact Kp.refl _ | assumption | exact Dr.kp (by assumption) | refine Kp.drewN ?_ _ | refine Kp.drew ?_ | refine Kp.alloc ?_ _ | refine Kp.setCell ?_ (by first | exact Nat.le_refl _ | assumption | omega) _ | refine Kp.trans ?_ (by assumption) | refine Kp.trans ?_ (Dr.kp (by assumption)))⟩
end Go.Proofs.Ytgcihcgclmdolaa
