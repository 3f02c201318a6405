/- The reference's Encode, walked: all kinds. -/
import Derived.Test.YtnbooljaodkedaaCodeReI
import Derived.Test.YtnbooljaodkedaaCodeReS
import Derived.Test.YtnbooljaodkedaaCodeReH
import Derived.Test.YtnbooljaodkedaaCodeReU
import Derived.Test.YtnbooljaodkedaaCodeReE
import Derived.Test.YtnbooljaodkedaaCodeReR
import Derived.Test.YtnbooljaodkedaaCodeReB
import Derived.Test.YtnbooljaodkedaaCodeReJ
namespace Go.Proofs.Ytnbooljaodkedaa
open Go.RowKit Go.Maps Go.Proofs.Ytnbooljaodkedaa.PC
set_option linter.unusedVariables false
set_option linter.unusedSimpArgs false
set_option maxRecDepth 100000 in
set_option maxHeartbeats 1000000 in
theorem rEnc_none (op rd rs1 rs2 n : Int) (hf : formOf op = none) (w : World) :
    Calls Try.prog 24 #[.agg #[.int .i64 op, .int .i64 rd, .int .i64 rs1, .int .i64 rs2, .int .i64 n]] w fun e w' => e = .returned (.tuple #[.int .u32 (insW op rd rs1 rs2 n), .int .i64 (insE op rd rs1 rs2 n)]) ∧ Kp w w' := by
  have oc := Of_calls op
  have hro : refOf op = .agg #[.int .u8 0, .int .i64 0, .int .i64 0, .int .i64 0, .int .i64 0] := by simp [refOf, hf]
  rw [hro] at oc
  replace oc := Aside.mk oc
  have e1 : insW op rd rs1 rs2 n = 0 := by simp [insW, hf]
  have e2 : insE op rd rs1 rs2 n = 2 := by simp [insE, hf]
  rw [e1, e2]
  clear hro hf e1 e2
  go_enter Try.func24, Try.ntmps24
  go_wp2_with ((go_at_call 36); (refine Calls.mono (oc.out _) ?_); (rintro e w1 ⟨rfl, kp1⟩))
  go_ret2
  exact ⟨rfl, by repeat (with_reducible first | exact Kp.refl _ | assumption | exact Dr.kp (by assumption) | refine Kp.drewN ?_ _ | refine Kp.drew ?_ | refine Kp.alloc ?_ _ | refine Kp.setCell ?_ (by first | exact Nat.le_refl _ | assumption | omega) _ | refine Kp.trans ?_ (by assumption) | refine Kp.trans ?_ (Dr.kp (by assumption)))⟩
/-- The reference's word of any instruction. -/
theorem rEncode_calls (op rd rs1 rs2 n : Int) (hn : -9223372036854775808 ≤ n ∧ n ≤ 9223372036854775807) (w : World) :
    Calls Try.prog 24 #[.agg #[.int .i64 op, .int .i64 rd, .int .i64 rs1, .int .i64 rs2, .int .i64 n]] w fun e w' => e = .returned (.tuple #[.int .u32 (insW op rd rs1 rs2 n), .int .i64 (insE op rd rs1 rs2 n)]) ∧ Kp w w' := by
  cases hf : formOf op with
  | none => exact rEnc_none op rd rs1 rs2 n hf w
  | some f =>
    have hg := (formOf_good hf).1
    obtain ⟨kind, o, f3, f7, r⟩ := f
    have hk := hg.2.2.2.2.2.2
    simp only at hk
    rcases hk with ⟨rfl, _⟩ | ⟨rfl, _⟩ | ⟨rfl, _⟩ | ⟨rfl, _⟩ | ⟨rfl, _⟩ | ⟨rfl, _⟩ | ⟨rfl, _⟩ | ⟨rfl, _⟩
    · by_cases hr : r < 0
      · exact rEnc_Ra op rd rs1 rs2 n o f3 f7 r hn hg hf hr w
      · exact rEnc_Rb op rd rs1 rs2 n o f3 f7 r hn hg hf hr w
    · exact rEnc_I op rd rs1 rs2 n o f3 f7 r hn hg hf trivial w
    · exact rEnc_H op rd rs1 rs2 n o f3 f7 r hn hg hf trivial w
    · exact rEnc_S op rd rs1 rs2 n o f3 f7 r hn hg hf trivial w
    · exact rEnc_B op rd rs1 rs2 n o f3 f7 r hn hg hf trivial w
    · exact rEnc_U op rd rs1 rs2 n o f3 f7 r hn hg hf trivial w
    · exact rEnc_J op rd rs1 rs2 n o f3 f7 r hn hg hf trivial w
    · exact rEnc_E op rd rs1 rs2 n o f3 f7 r hn hg hf trivial w
end Go.Proofs.Ytnbooljaodkedaa
