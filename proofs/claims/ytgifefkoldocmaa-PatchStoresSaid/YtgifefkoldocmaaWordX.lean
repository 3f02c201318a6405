/- Words of fewer bits extended, walked. Condition: the argument is a word. -/
import Derived.Test.YtgifefkoldocmaaWordWalks
namespace Go.Proofs.Ytgifefkoldocmaa
open Go.RowKit Go.Proofs.Ytgifefkoldocmaa.PW
set_option linter.unusedVariables false
set_option linter.unusedSimpArgs false
/-- A word of its lowest bits, extended. -/
def extV (a p q : Int) : Int := (if a % p ≥ q then a % p - p else a % p) % 4294967296
theorem extV_U (a p q : Int) : U (extV a p q) := U_mod _
theorem ext12_val {a : Int} (ha : U a) : wrap32 (a * 1048576 % 4294967296) / 1048576 % 4294967296 = extV a 4096 2048 := by
  unfold U at ha
  unfold wrap32 extV
  split <;> omega
theorem ext8_val {a : Int} (ha : U a) : wrap32 (a * 16777216 % 4294967296) / 16777216 % 4294967296 = extV a 256 128 := by
  unfold U at ha
  unfold wrap32 extV
  split <;> omega
set_option maxHeartbeats 1000000 in
theorem ext12_calls (a : Int) (ha : U a) (w : World) : Calls Try.prog 32 #[.int .u32 a, .int .i64 12] w fun e w' => e = .returned (.tuple #[.int .u32 (extV a 4096 2048), .int .i64 0]) ∧ Dr w w' := by
  have hv := Aside.mk (ext12_val ha)
  go_enter Try.func32, Try.ntmps32
  go_wp2
  go_ret2
  exact ⟨by rw [← hv.out]; rfl, by repeat (first | exact Dr.refl _ | assumption | refine Dr.step ?_ _ | refine Dr.trans ?_ (by assumption))⟩
set_option maxHeartbeats 1000000 in
theorem ext8_calls (a : Int) (ha : U a) (w : World) : Calls Try.prog 32 #[.int .u32 a, .int .i64 8] w fun e w' => e = .returned (.tuple #[.int .u32 (extV a 256 128), .int .i64 0]) ∧ Dr w w' := by
  have hv := Aside.mk (ext8_val ha)
  go_enter Try.func32, Try.ntmps32
  go_wp2
  go_ret2
  exact ⟨by rw [← hv.out]; rfl, by repeat (first | exact Dr.refl _ | assumption | refine Dr.step ?_ _ | refine Dr.trans ?_ (by assumption))⟩
end Go.Proofs.Ytgifefkoldocmaa
