/- Reals of the machine: of, bits, Canon, OfInt, walked. No condition but ranges. -/
import Derived.Test.YtgcihcgclmdolaaMachA
import Derived.Test.YtgcihcgclmdolaaWordStill
import Derived.Laws.Externs
import Derived.WalkLawsBesides
namespace Go.Proofs.Ytgcihcgclmdolaa
open Go.RowKit Go.Proofs.Ytgcihcgclmdolaa.PC Go.Proofs.Ytgcihcgclmdolaa.PW
set_option linter.unusedVariables false
set_option linter.unusedSimpArgs false
theorem run_frombits (a : Int) (w : World) : (callFunc 70 #[.int .u64 a]).run Try.prog w = .ok (.value (.float .f64 a.toNat)) w := by
  rw [run_callFunc_extern (e := Extern.MathFloatBits.float64frombits) Try.func70 (by kernel_rfl) (by kernel_rfl) (by kernel_rfl) (by kernel_rfl)]
  rfl
theorem run_bits (b : Nat) (w : World) : (callFunc 69 #[.float .f64 b]).run Try.prog w = .ok (.value (.int .u64 b)) w := by
  rw [run_callFunc_extern (e := Extern.MathFloatBits.float64bits) Try.func69 (by kernel_rfl) (by kernel_rfl) (by kernel_rfl) (by kernel_rfl)]
  rfl
/-- Whether bits are a number's. -/
def numB (b : Nat) : Bool := FloatKind.f64.format.order b b == some .eq
/-- The bits, or NaN's. -/
def canV (b : Nat) : Int := if numB b = true then b else 9221120237041090560
theorem canV_again (b : Nat) : canV (canV b).toNat = canV b := by
  have h : numB 9221120237041090560 = false := by decide +kernel
  unfold canV
  by_cases e : numB b = true
  · simp [e]
  · simp [e, h]
theorem canV_U {b : Nat} (h : (b : Int) ≤ 18446744073709551615) : U64 (canV b) := by
  unfold canV U64
  split
  · omega
  · decide
set_option maxHeartbeats 1000000 in
theorem fof_calls (a : Int) (w : World) : Calls Try.prog 64 #[.int .u64 a] w fun e w' => e = .returned (.float .f64 a.toNat) ∧ w' = w := by
  have h := fun w => run_frombits a w
  go_enter Try.func64, Try.ntmps64
  go_wp2
  go_ret
  exact ⟨rfl, rfl⟩
set_option maxHeartbeats 1000000 in
theorem isNaN_calls (b : Nat) (w : World) : Calls Try.prog 67 #[.float .f64 b] w fun e w' => e = .returned (.bool (!numB b)) ∧ w' = w := by
  go_enter Try.func67, Try.ntmps67
  go_wp2
  go_ret
  exact ⟨rfl, rfl⟩
set_option maxHeartbeats 1000000 in
theorem fbits_calls (b : Nat) (w : World) : Calls Try.prog 63 #[.float .f64 b] w fun e w' => e = .returned (.int .u64 (canV b)) ∧ w' = w := by
  have h := fun w => run_bits b w
  by_cases hb : numB b = true
  · have hn := fun w => isNaN_calls b w
    rw [hb] at hn
    have hv : Aside (canV b = b) := ⟨by unfold canV; rw [if_pos hb]⟩
    replace hn := Aside.mk hn
    go_enter Try.func63, Try.ntmps63
    go_wp2_with ((go_at_call 67); (refine Calls.mono (hn.out _) ?_); (rintro e w1 ⟨rfl, rfl⟩))
    go_ret
    exact ⟨by rw [hv.out]; rfl, rfl⟩
  · have hb' : numB b = false := by simpa using hb
    have hn := fun w => isNaN_calls b w
    rw [hb'] at hn
    have hv : Aside (canV b = 9221120237041090560) := ⟨by unfold canV; rw [if_neg hb]⟩
    replace hn := Aside.mk hn
    clear h hb
    go_enter Try.func63, Try.ntmps63
    go_wp2_with ((go_at_call 67); (refine Calls.mono (hn.out _) ?_); (rintro e w1 ⟨rfl, rfl⟩))
    go_ret
    exact ⟨by rw [hv.out]; rfl, rfl⟩
set_option maxHeartbeats 1000000 in
theorem Canon_calls (a : Int) (w : World) : Calls Try.prog 55 #[.int .u64 a] w fun e w' => e = .returned (.int .u64 (canV a.toNat)) ∧ w' = w := by
  go_enter Try.func55, Try.ntmps55
  go_wp2_with (first | ((go_at_call 64); (refine Calls.mono (fof_calls _ _) ?_); (rintro e w1 ⟨rfl, rfl⟩)) | ((go_at_call 63); (refine Calls.mono (fbits_calls _ _) ?_); (rintro e w1 ⟨rfl, rfl⟩)))
  go_ret
  exact ⟨rfl, rfl⟩
set_option maxHeartbeats 1000000 in
theorem OfInt_calls (a : Int) (ha : U a) (w : World) : Calls Try.prog 59 #[.int .u32 a] w fun e w' => e = .returned (.int .u64 (canV (floatOfInt .f64 (sgn a)))) ∧ w' = w := by
  have hc := fun w => run_convert_int_float (P := Try.prog) w 3 128 .i64 .f64 (sgn a) (by kernel_rfl) Try.underlying128
  go_enter Try.func59, Try.ntmps59
  go_wp2_with (first | ((go_at_call 68); (refine Calls.mono (sgned_still _ ha _) ?_); (rintro e w1 ⟨rfl, rfl⟩)) | ((go_at_call 63); (refine Calls.mono (fbits_calls _ _) ?_); (rintro e w1 ⟨rfl, rfl⟩)))
  go_ret
  exact ⟨rfl, rfl⟩
end Go.Proofs.Ytgcihcgclmdolaa
