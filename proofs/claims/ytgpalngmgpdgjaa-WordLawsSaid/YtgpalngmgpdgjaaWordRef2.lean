/- What the reference's division, operations and extension of words come to: each call returns its plain value. Condition: the arguments are words. -/
import Derived.Test.YtgpalngmgpdgjaaWordRef
namespace Go.Proofs.Ytgpalngmgpdgjaa
open Go.RowKit Go.Proofs.Ytgpalngmgpdgjaa.PW
set_option linter.unusedVariables false
set_option linter.unusedSimpArgs false

theorem emod_le {a b : Int} (h : 0 ≤ a) (hb : 1 ≤ b) : a % b ≤ a := by
  have h1 := Int.mul_ediv_add_emod a b
  have h2 : 0 ≤ b * (a / b) := Int.mul_nonneg (by omega) (Int.ediv_nonneg h (by omega))
  omega
theorem rDiv_DIV (a b : Int) (ha : U a) (hb : U b) (hz : b ≠ 0) (w : World) : Calls Try.prog 27 #[.int .i64 14, .int .u32 a, .int .u32 b] w fun e w' => e = .returned (.tuple #[.int .u32 (mulV 14 a b), .bool true]) ∧ Dr w w' := by
  have sa := sgn_range ha
  have td := tdiv_S (y := sgn b) sa
  have tm := tmod_S (y := sgn b) sa
  have z1 : sgn b ≠ 0 := fun h => hz ((sgn_zero hb).1 h)
  have z2 : (sgn b == 0) = false := beq_eq_false_iff_ne.2 z1
  go_enter Try.func27, Try.ntmps27
  go_wp2_with (first | ((go_at_call 16); (first | (with_reducible refine (rSigned_calls a ha _).mono ?_) | (with_reducible refine (rSigned_calls b hb _).mono ?_)); (rintro e w' ⟨rfl, ⟨nd, rfl⟩⟩)) | (go_at_call 18; refine (rOf_calls _ (by omega) (by omega) _).mono ?_; rintro e w' ⟨rfl, ⟨nd, rfl⟩⟩))
  go_ret2
  exact ⟨by simp [mulV, doV, hz], ⟨_, rfl⟩⟩
theorem rDiv_REM (a b : Int) (ha : U a) (hb : U b) (hz : b ≠ 0) (w : World) : Calls Try.prog 27 #[.int .i64 16, .int .u32 a, .int .u32 b] w fun e w' => e = .returned (.tuple #[.int .u32 (mulV 16 a b), .bool true]) ∧ Dr w w' := by
  have sa := sgn_range ha
  have td := tdiv_S (y := sgn b) sa
  have tm := tmod_S (y := sgn b) sa
  have z1 : sgn b ≠ 0 := fun h => hz ((sgn_zero hb).1 h)
  have z2 : (sgn b == 0) = false := beq_eq_false_iff_ne.2 z1
  go_enter Try.func27, Try.ntmps27
  go_wp2_with (first | ((go_at_call 16); (first | (with_reducible refine (rSigned_calls a ha _).mono ?_) | (with_reducible refine (rSigned_calls b hb _).mono ?_)); (rintro e w' ⟨rfl, ⟨nd, rfl⟩⟩)) | (go_at_call 18; refine (rOf_calls _ (by omega) (by omega) _).mono ?_; rintro e w' ⟨rfl, ⟨nd, rfl⟩⟩))
  go_ret2
  exact ⟨by simp [mulV, doV, hz], ⟨_, rfl⟩⟩
theorem rDiv_DIVU (a b : Int) (ha : U a) (hb : U b) (hz : b ≠ 0) (w : World) : Calls Try.prog 27 #[.int .i64 15, .int .u32 a, .int .u32 b] w fun e w' => e = .returned (.tuple #[.int .u32 (mulV 15 a b), .bool true]) ∧ Dr w w' := by
  have dm := divU_mod ha hb
  have a0 := ha.1
  have b0 := hb.1
  have a1 := ha.2
  have b1 : 1 ≤ b := by omega
  have b2 := hb.2
  have d0 : 0 ≤ a / b := Int.ediv_nonneg a0 b0
  have d1 : a / b ≤ 4294967295 := Int.le_trans (Int.ediv_le_self _ a0) a1
  have m0 : 0 ≤ a % b := Int.emod_nonneg _ hz
  have m1 : a % b ≤ 4294967295 := Int.le_trans (emod_le a0 b1) a1
  have z2 : (b == 0) = false := beq_eq_false_iff_ne.2 hz
  go_enter Try.func27, Try.ntmps27
  go_wp2_with (first | ((go_at_call 16); (first | (with_reducible refine (rSigned_calls a ha _).mono ?_) | (with_reducible refine (rSigned_calls b hb _).mono ?_)); (rintro e w' ⟨rfl, ⟨nd, rfl⟩⟩)) | (go_at_call 18; refine (rOf_calls _ (by omega) (by omega) _).mono ?_; rintro e w' ⟨rfl, ⟨nd, rfl⟩⟩))
  go_ret2
  exact ⟨by first | (simp [mulV, doV, hz, dm]; done) | (simp [mulV, doV, hz]; omega), ⟨_, rfl⟩⟩
theorem rDiv_REMU (a b : Int) (ha : U a) (hb : U b) (hz : b ≠ 0) (w : World) : Calls Try.prog 27 #[.int .i64 17, .int .u32 a, .int .u32 b] w fun e w' => e = .returned (.tuple #[.int .u32 (mulV 17 a b), .bool true]) ∧ Dr w w' := by
  have dm := divU_mod ha hb
  have a0 := ha.1
  have b0 := hb.1
  have a1 := ha.2
  have b1 : 1 ≤ b := by omega
  have b2 := hb.2
  have d0 : 0 ≤ a / b := Int.ediv_nonneg a0 b0
  have d1 : a / b ≤ 4294967295 := Int.le_trans (Int.ediv_le_self _ a0) a1
  have m0 : 0 ≤ a % b := Int.emod_nonneg _ hz
  have m1 : a % b ≤ 4294967295 := Int.le_trans (emod_le a0 b1) a1
  have z2 : (b == 0) = false := beq_eq_false_iff_ne.2 hz
  go_enter Try.func27, Try.ntmps27
  go_wp2_with (first | ((go_at_call 16); (first | (with_reducible refine (rSigned_calls a ha _).mono ?_) | (with_reducible refine (rSigned_calls b hb _).mono ?_)); (rintro e w' ⟨rfl, ⟨nd, rfl⟩⟩)) | (go_at_call 18; refine (rOf_calls _ (by omega) (by omega) _).mono ?_; rintro e w' ⟨rfl, ⟨nd, rfl⟩⟩))
  go_ret2
  exact ⟨by first | (simp [mulV, doV, hz, dm]; done) | (simp [mulV, doV, hz]; omega), ⟨_, rfl⟩⟩
theorem rDiv_DIV0 (a b : Int) (ha : U a) (hb : U b) (hz : b = 0) (w : World) : Calls Try.prog 27 #[.int .i64 14, .int .u32 a, .int .u32 b] w fun e w' => e = .returned (.tuple #[.int .u32 (mulV 14 a b), .bool true]) ∧ Dr w w' := by
  have sa := sgn_range ha
  have z2 : (sgn b == 0) = true := by subst hz; rfl
  have HZ := Aside.mk hz
  clear hz
  go_enter Try.func27, Try.ntmps27
  go_wp2_with (first | ((go_at_call 16); (first | (with_reducible refine (rSigned_calls a ha _).mono ?_) | (with_reducible refine (rSigned_calls b hb _).mono ?_)); (rintro e w' ⟨rfl, ⟨nd, rfl⟩⟩)) | (go_at_call 18; refine (rOf_calls _ (by omega) (by omega) _).mono ?_; rintro e w' ⟨rfl, ⟨nd, rfl⟩⟩))
  go_ret2
  exact ⟨by simp [mulV, doV, HZ.out], ⟨_, rfl⟩⟩
theorem rDiv_DIVU0 (a b : Int) (ha : U a) (hb : U b) (hz : b = 0) (w : World) : Calls Try.prog 27 #[.int .i64 15, .int .u32 a, .int .u32 b] w fun e w' => e = .returned (.tuple #[.int .u32 (mulV 15 a b), .bool true]) ∧ Dr w w' := by
  have a0 := ha.1
  have a1 := ha.2
  have b0 := hb.1
  have b2 := hb.2
  have z2 : (b == 0) = true := by subst hz; rfl
  have HZ := Aside.mk hz
  clear hz
  go_enter Try.func27, Try.ntmps27
  go_wp2_with (first | ((go_at_call 16); (first | (with_reducible refine (rSigned_calls a ha _).mono ?_) | (with_reducible refine (rSigned_calls b hb _).mono ?_)); (rintro e w' ⟨rfl, ⟨nd, rfl⟩⟩)) | (go_at_call 18; refine (rOf_calls _ (by omega) (by omega) _).mono ?_; rintro e w' ⟨rfl, ⟨nd, rfl⟩⟩))
  go_ret2
  exact ⟨by simp [mulV, doV, HZ.out], ⟨_, rfl⟩⟩
theorem rDiv_REM0 (a b : Int) (ha : U a) (hb : U b) (hz : b = 0) (w : World) : Calls Try.prog 27 #[.int .i64 16, .int .u32 a, .int .u32 b] w fun e w' => e = .returned (.tuple #[.int .u32 (mulV 16 a b), .bool true]) ∧ Dr w w' := by
  have sa := sgn_range ha
  have z2 : (sgn b == 0) = true := by subst hz; rfl
  have HZ := Aside.mk hz
  clear hz
  go_enter Try.func27, Try.ntmps27
  go_wp2_with (first | ((go_at_call 16); (first | (with_reducible refine (rSigned_calls a ha _).mono ?_) | (with_reducible refine (rSigned_calls b hb _).mono ?_)); (rintro e w' ⟨rfl, ⟨nd, rfl⟩⟩)) | (go_at_call 18; refine (rOf_calls _ (by omega) (by omega) _).mono ?_; rintro e w' ⟨rfl, ⟨nd, rfl⟩⟩))
  go_ret2
  exact ⟨by simp [mulV, doV, HZ.out], ⟨_, rfl⟩⟩
theorem rDiv_REMU0 (a b : Int) (ha : U a) (hb : U b) (hz : b = 0) (w : World) : Calls Try.prog 27 #[.int .i64 17, .int .u32 a, .int .u32 b] w fun e w' => e = .returned (.tuple #[.int .u32 (mulV 17 a b), .bool true]) ∧ Dr w w' := by
  have a0 := ha.1
  have a1 := ha.2
  have b0 := hb.1
  have b2 := hb.2
  have z2 : (b == 0) = true := by subst hz; rfl
  have HZ := Aside.mk hz
  clear hz
  go_enter Try.func27, Try.ntmps27
  go_wp2_with (first | ((go_at_call 16); (first | (with_reducible refine (rSigned_calls a ha _).mono ?_) | (with_reducible refine (rSigned_calls b hb _).mono ?_)); (rintro e w' ⟨rfl, ⟨nd, rfl⟩⟩)) | (go_at_call 18; refine (rOf_calls _ (by omega) (by omega) _).mono ?_; rintro e w' ⟨rfl, ⟨nd, rfl⟩⟩))
  go_ret2
  exact ⟨by simp [mulV, doV, HZ.out], ⟨_, rfl⟩⟩
theorem rDiv_out (op : Int) (a b : Int) (ha : U a) (hb : U b) (hop : ¬ (14 ≤ op ∧ op ≤ 17)) (hop2 : ¬ (11 ≤ op ∧ op ≤ 17)) (w : World) : Calls Try.prog 27 #[.int .i64 op, .int .u32 a, .int .u32 b] w fun e w' => e = .returned (.tuple #[.int .u32 (mulV op a b), .bool false]) ∧ Dr w w' := by
  have n11 : (op == 11) = false := beq_eq_false_iff_ne.2 (by omega)
  have n12 : (op == 12) = false := beq_eq_false_iff_ne.2 (by omega)
  have n13 : (op == 13) = false := beq_eq_false_iff_ne.2 (by omega)
  have n14 : (op == 14) = false := beq_eq_false_iff_ne.2 (by omega)
  have n15 : (op == 15) = false := beq_eq_false_iff_ne.2 (by omega)
  have n16 : (op == 16) = false := beq_eq_false_iff_ne.2 (by omega)
  have n17 : (op == 17) = false := beq_eq_false_iff_ne.2 (by omega)
  go_enter Try.func27, Try.ntmps27
  go_wp2_with (first | ((go_at_call 16); (first | (with_reducible refine (rSigned_calls a ha _).mono ?_) | (with_reducible refine (rSigned_calls b hb _).mono ?_)); (rintro e w' ⟨rfl, ⟨nd, rfl⟩⟩)) | (go_at_call 18; refine (rOf_calls _ (by omega) (by omega) _).mono ?_; rintro e w' ⟨rfl, ⟨nd, rfl⟩⟩))
  go_ret2
  exact ⟨by simp [mulV, hop2], ⟨_, rfl⟩⟩
def doB (op : Int) : Bool := decide (1 ≤ op ∧ op ≤ 17)
theorem rDiv_calls (op a b : Int) (ha : U a) (hb : U b) (h : ¬ (1 ≤ op ∧ op ≤ 13)) (w : World) : Calls Try.prog 27 #[.int .i64 op, .int .u32 a, .int .u32 b] w fun e w' => e = .returned (.tuple #[.int .u32 (doV op a b), .bool (doB op)]) ∧ Dr w w' := by
  rw [← (mul_do a b (show ¬ (1 ≤ op ∧ op ≤ 10) by omega)).1]
  by_cases g : 14 ≤ op ∧ op ≤ 17
  · have hE : doB op = true := by simp [doB]; omega
    rw [hE]
    have hop : op = 14 ∨ op = 15 ∨ op = 16 ∨ op = 17 := by omega
    by_cases hz : b = 0
    · rcases hop with rfl | rfl | rfl | rfl
      · exact rDiv_DIV0 a b ha hb hz w
      · exact rDiv_DIVU0 a b ha hb hz w
      · exact rDiv_REM0 a b ha hb hz w
      · exact rDiv_REMU0 a b ha hb hz w
    · rcases hop with rfl | rfl | rfl | rfl
      · exact rDiv_DIV a b ha hb hz w
      · exact rDiv_DIVU a b ha hb hz w
      · exact rDiv_REM a b ha hb hz w
      · exact rDiv_REMU a b ha hb hz w
  · have hE : doB op = false := by simp [doB]; omega
    rw [hE]
    exact rDiv_out op a b ha hb g (by omega) w
end Go.Proofs.Ytgpalngmgpdgjaa
