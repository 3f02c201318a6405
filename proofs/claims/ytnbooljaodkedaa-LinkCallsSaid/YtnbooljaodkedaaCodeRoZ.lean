/- The reference's rows, all. -/
import Derived.Test.YtnbooljaodkedaaCodeRoAx
import Derived.Test.YtnbooljaodkedaaCodeRoHx
import Derived.Test.YtnbooljaodkedaaCodeRoIx
import Derived.Test.YtnbooljaodkedaaCodeRoCx
import Derived.Test.YtnbooljaodkedaaCodeRoEx
namespace Go.Proofs.Ytnbooljaodkedaa
open Go.RowKit Go.Proofs.Ytnbooljaodkedaa.PC
set_option linter.unusedVariables false
set_option linter.unusedSimpArgs false
theorem Of_calls (op : Int) (w : World) : Calls Try.prog 36 #[.int .i64 op] w fun e w' => e = .returned (refOf op) ∧ Kp w w' := by
  by_cases h1 : op < 1
  · exact of_F op h1 w
  by_cases h2 : op ≤ 6
  · exact of_A op ⟨by omega, h2⟩ w
  by_cases h2 : op ≤ 12
  · exact of_A2 op ⟨by omega, h2⟩ w
  by_cases h2 : op ≤ 17
  · exact of_A3 op ⟨by omega, h2⟩ w
  by_cases h3 : op ≤ 23
  · exact of_B op ⟨by omega, h3⟩ w
  by_cases h4 : op ≤ 31
  · exact of_D op ⟨by omega, h4⟩ w
  by_cases h5 : op ≤ 37
  · exact of_C op ⟨by omega, h5⟩ w
  by_cases h6 : op ≤ 55
  · exact of_E op ⟨by omega, h6⟩ w
  · exact of_G op (by omega) w
end Go.Proofs.Ytnbooljaodkedaa
