/- (nothing of the world turned) What the functions of layer 1 (words) come to, in the program: each call returns its plain value. Condition: the arguments are words. -/
import Derived.Test.YtgcihcgclmdolaaProg
import Derived.Test.YtgcihcgclmdolaaBase
import Derived.Test.YtgcihcgclmdolaaPlainWord
namespace Go.Proofs.Ytgcihcgclmdolaa.Still
open Go.RowKit Go.Proofs.Ytgcihcgclmdolaa.PW
set_option linter.unusedVariables false
set_option linter.unusedSimpArgs false

/-- The world is the old one. -/
structure Sm (w w' : World) : Prop where mk :: (out : w' = w)
theorem Sm.refl (w : World) : Sm w w := ⟨rfl⟩
theorem Sm.trans {w w' w'' : World} (h : Sm w w') (g : Sm w' w'') : Sm w w'' := ⟨g.out.trans h.out⟩
/-! ### the program's package word -/
def bitV (b : Bool) : Int := if b then 1 else 0
theorem bit_calls (b : Bool) (w : World) : Calls Try.prog 51 #[.bool b] w fun e w' => e = .returned (.int .u32 (bitV b)) ∧ Sm w w' := by
  cases b
  all_goals
    go_enter Try.func51, Try.ntmps51
    go_wp2
    go_ret
    exact ⟨rfl, Sm.refl _⟩
theorem mul32_calls (a b : Int) (ha : U a) (hb : U b) (w : World) : Calls Try.prog 62 #[.int .u32 a, .int .u32 b] w fun e w' => e = .returned (.tuple #[.int .u32 (a * b / 4294967296), .int .u32 (a * b % 4294967296)]) ∧ Sm w w' := by
  have h := mul_U ha hb
  unfold U at ha hb
  obtain ⟨a0, a1⟩ := ha
  obtain ⟨b0, b1⟩ := hb
  go_enter Try.func62, Try.ntmps62
  go_wp2
  go_ret2
  exact ⟨rfl, Sm.refl _⟩
theorem sgned_calls (a : Int) (ha : U a) (w : World) : Calls Try.prog 68 #[.int .u32 a] w fun e w' => e = .returned (.int .i64 (sgn a)) ∧ Sm w w' := by
  have h := sgn_range ha
  have h2 := wrap32_sgn ha
  go_enter Try.func68, Try.ntmps68
  go_wp2
  go_ret
  exact ⟨rfl, Sm.refl _⟩
theorem wof_calls (n : Int) (w : World) : Calls Try.prog 40 #[.int .i64 n] w fun e w' => e = .returned (.int .u32 (n % 4294967296)) ∧ Sm w w' := by
  go_enter Try.func40, Try.ntmps40
  go_wp2
  go_ret
  exact ⟨rfl, Sm.refl _⟩

def mulV (op a b : Int) : Int := if 11 ≤ op ∧ op ≤ 17 then doV op a b else 0
def mulE (op : Int) : Int := if 11 ≤ op ∧ op ≤ 17 then 0 else 1
theorem divU_mod {a b : Int} (ha : U a) (hb : U b) : a / b % 4294967296 = a / b := by
  have h1 : 0 ≤ a / b := Int.ediv_nonneg ha.1 hb.1
  have h2 : a / b ≤ a := Int.ediv_le_self _ ha.1
  unfold U at ha
  omega
theorem muls_MUL (a b : Int) (ha : U a) (hb : U b) (w : World) : Calls Try.prog 52 #[.int .i64 11, .int .u32 a, .int .u32 b] w fun e w' => e = .returned (.tuple #[.int .u32 (mulV 11 a b), .int .i64 0]) ∧ Sm w w' := by
  have sa := sgn_range ha
  have sb := sgn_range hb
  have ea := wrap32_sgn ha
  have eb := wrap32_sgn hb
  have ms := mul_S sa sb
  go_enter Try.func52, Try.ntmps52
  go_wp2_with (go_at_call 62; refine (mul32_calls _ _ ha hb _).mono ?_; rintro e w' ⟨rfl, ⟨rfl⟩⟩)
  go_ret2
  exact ⟨by simp [mulV, doV], ⟨rfl⟩⟩
theorem muls_MULH (a b : Int) (ha : U a) (hb : U b) (w : World) : Calls Try.prog 52 #[.int .i64 12, .int .u32 a, .int .u32 b] w fun e w' => e = .returned (.tuple #[.int .u32 (mulV 12 a b), .int .i64 0]) ∧ Sm w w' := by
  have sa := sgn_range ha
  have sb := sgn_range hb
  have ea := wrap32_sgn ha
  have eb := wrap32_sgn hb
  have ms := mul_S sa sb
  go_enter Try.func52, Try.ntmps52
  go_wp2_with (go_at_call 62; refine (mul32_calls _ _ ha hb _).mono ?_; rintro e w' ⟨rfl, ⟨rfl⟩⟩)
  go_ret2
  exact ⟨by simp [mulV, doV], ⟨rfl⟩⟩
theorem muls_MULHU (a b : Int) (ha : U a) (hb : U b) (w : World) : Calls Try.prog 52 #[.int .i64 13, .int .u32 a, .int .u32 b] w fun e w' => e = .returned (.tuple #[.int .u32 (mulV 13 a b), .int .i64 0]) ∧ Sm w w' := by
  have sa := sgn_range ha
  have sb := sgn_range hb
  have ea := wrap32_sgn ha
  have eb := wrap32_sgn hb
  have ms := mul_S sa sb
  go_enter Try.func52, Try.ntmps52
  go_wp2_with (go_at_call 62; refine (mul32_calls _ _ ha hb _).mono ?_; rintro e w' ⟨rfl, ⟨rfl⟩⟩)
  go_ret2
  exact ⟨by simp [mulV, doV], ⟨rfl⟩⟩
theorem muls_DIV0 (a b : Int) (ha : U a) (hb : U b) (hz : b = 0) (w : World) : Calls Try.prog 52 #[.int .i64 14, .int .u32 a, .int .u32 b] w fun e w' => e = .returned (.tuple #[.int .u32 (mulV 14 a b), .int .i64 0]) ∧ Sm w w' := by
  subst hz
  go_enter Try.func52, Try.ntmps52
  go_wp2_with (go_at_call 62; refine (mul32_calls _ _ ha hb _).mono ?_; rintro e w' ⟨rfl, ⟨rfl⟩⟩)
  go_ret2
  exact ⟨by simp [mulV, doV], ⟨rfl⟩⟩
theorem muls_DIVU0 (a b : Int) (ha : U a) (hb : U b) (hz : b = 0) (w : World) : Calls Try.prog 52 #[.int .i64 15, .int .u32 a, .int .u32 b] w fun e w' => e = .returned (.tuple #[.int .u32 (mulV 15 a b), .int .i64 0]) ∧ Sm w w' := by
  subst hz
  go_enter Try.func52, Try.ntmps52
  go_wp2_with (go_at_call 62; refine (mul32_calls _ _ ha hb _).mono ?_; rintro e w' ⟨rfl, ⟨rfl⟩⟩)
  go_ret2
  exact ⟨by simp [mulV, doV], ⟨rfl⟩⟩
theorem muls_REM0 (a b : Int) (ha : U a) (hb : U b) (hz : b = 0) (w : World) : Calls Try.prog 52 #[.int .i64 16, .int .u32 a, .int .u32 b] w fun e w' => e = .returned (.tuple #[.int .u32 (mulV 16 a b), .int .i64 0]) ∧ Sm w w' := by
  subst hz
  go_enter Try.func52, Try.ntmps52
  go_wp2_with (go_at_call 62; refine (mul32_calls _ _ ha hb _).mono ?_; rintro e w' ⟨rfl, ⟨rfl⟩⟩)
  go_ret2
  exact ⟨by simp [mulV, doV], ⟨rfl⟩⟩
theorem muls_REMU0 (a b : Int) (ha : U a) (hb : U b) (hz : b = 0) (w : World) : Calls Try.prog 52 #[.int .i64 17, .int .u32 a, .int .u32 b] w fun e w' => e = .returned (.tuple #[.int .u32 (mulV 17 a b), .int .i64 0]) ∧ Sm w w' := by
  subst hz
  go_enter Try.func52, Try.ntmps52
  go_wp2_with (go_at_call 62; refine (mul32_calls _ _ ha hb _).mono ?_; rintro e w' ⟨rfl, ⟨rfl⟩⟩)
  go_ret2
  exact ⟨by simp [mulV, doV], ⟨rfl⟩⟩
theorem muls_DIV (a b : Int) (ha : U a) (hb : U b) (hz : b ≠ 0) (w : World) : Calls Try.prog 52 #[.int .i64 14, .int .u32 a, .int .u32 b] w fun e w' => e = .returned (.tuple #[.int .u32 (mulV 14 a b), .int .i64 0]) ∧ Sm w w' := by
  have sa := sgn_range ha
  have sb := sgn_range hb
  have ea := wrap32_sgn ha
  have eb := wrap32_sgn hb
  have ms := mul_S sa sb
  have z1 : sgn b ≠ 0 := fun h => hz ((sgn_zero hb).1 h)
  have z2 : (b == 0) = false := beq_eq_false_iff_ne.2 hz
  have z3 : (sgn b == 0) = false := beq_eq_false_iff_ne.2 z1
  go_enter Try.func52, Try.ntmps52
  go_wp2_with (go_at_call 62; refine (mul32_calls _ _ ha hb _).mono ?_; rintro e w' ⟨rfl, ⟨rfl⟩⟩)
  go_ret2
  exact ⟨by simp [mulV, doV, hz, wrap32_mod], ⟨rfl⟩⟩
theorem muls_DIVU (a b : Int) (ha : U a) (hb : U b) (hz : b ≠ 0) (w : World) : Calls Try.prog 52 #[.int .i64 15, .int .u32 a, .int .u32 b] w fun e w' => e = .returned (.tuple #[.int .u32 (mulV 15 a b), .int .i64 0]) ∧ Sm w w' := by
  have sa := sgn_range ha
  have sb := sgn_range hb
  have ea := wrap32_sgn ha
  have eb := wrap32_sgn hb
  have ms := mul_S sa sb
  have z1 : sgn b ≠ 0 := fun h => hz ((sgn_zero hb).1 h)
  have z2 : (b == 0) = false := beq_eq_false_iff_ne.2 hz
  have z3 : (sgn b == 0) = false := beq_eq_false_iff_ne.2 z1
  go_enter Try.func52, Try.ntmps52
  go_wp2_with (go_at_call 62; refine (mul32_calls _ _ ha hb _).mono ?_; rintro e w' ⟨rfl, ⟨rfl⟩⟩)
  go_ret2
  exact ⟨by simp [mulV, doV, hz, divU_mod ha hb, tdiv_pos ha.1], ⟨rfl⟩⟩
theorem muls_REM (a b : Int) (ha : U a) (hb : U b) (hz : b ≠ 0) (w : World) : Calls Try.prog 52 #[.int .i64 16, .int .u32 a, .int .u32 b] w fun e w' => e = .returned (.tuple #[.int .u32 (mulV 16 a b), .int .i64 0]) ∧ Sm w w' := by
  have sa := sgn_range ha
  have sb := sgn_range hb
  have ea := wrap32_sgn ha
  have eb := wrap32_sgn hb
  have ms := mul_S sa sb
  have z1 : sgn b ≠ 0 := fun h => hz ((sgn_zero hb).1 h)
  have z2 : (b == 0) = false := beq_eq_false_iff_ne.2 hz
  have z3 : (sgn b == 0) = false := beq_eq_false_iff_ne.2 z1
  go_enter Try.func52, Try.ntmps52
  go_wp2_with (go_at_call 62; refine (mul32_calls _ _ ha hb _).mono ?_; rintro e w' ⟨rfl, ⟨rfl⟩⟩)
  go_ret2
  exact ⟨by simp [mulV, doV, hz], ⟨rfl⟩⟩
theorem muls_REMU (a b : Int) (ha : U a) (hb : U b) (hz : b ≠ 0) (w : World) : Calls Try.prog 52 #[.int .i64 17, .int .u32 a, .int .u32 b] w fun e w' => e = .returned (.tuple #[.int .u32 (mulV 17 a b), .int .i64 0]) ∧ Sm w w' := by
  have sa := sgn_range ha
  have sb := sgn_range hb
  have ea := wrap32_sgn ha
  have eb := wrap32_sgn hb
  have ms := mul_S sa sb
  have z1 : sgn b ≠ 0 := fun h => hz ((sgn_zero hb).1 h)
  have z2 : (b == 0) = false := beq_eq_false_iff_ne.2 hz
  have z3 : (sgn b == 0) = false := beq_eq_false_iff_ne.2 z1
  go_enter Try.func52, Try.ntmps52
  go_wp2_with (go_at_call 62; refine (mul32_calls _ _ ha hb _).mono ?_; rintro e w' ⟨rfl, ⟨rfl⟩⟩)
  go_ret2
  exact ⟨by simp [mulV, doV, hz, tmod_pos ha.1], ⟨rfl⟩⟩
theorem muls_out0 (op : Int) (a b : Int) (ha : U a) (hb : U b) (hop : ¬ (11 ≤ op ∧ op ≤ 17)) (hz : b = 0) (w : World) : Calls Try.prog 52 #[.int .i64 op, .int .u32 a, .int .u32 b] w fun e w' => e = .returned (.tuple #[.int .u32 (mulV op a b), .int .i64 1]) ∧ Sm w w' := by
  have n11 : (op == 11) = false := beq_eq_false_iff_ne.2 (by omega)
  have n12 : (op == 12) = false := beq_eq_false_iff_ne.2 (by omega)
  have n13 : (op == 13) = false := beq_eq_false_iff_ne.2 (by omega)
  have n14 : (op == 14) = false := beq_eq_false_iff_ne.2 (by omega)
  have n15 : (op == 15) = false := beq_eq_false_iff_ne.2 (by omega)
  have n16 : (op == 16) = false := beq_eq_false_iff_ne.2 (by omega)
  have n17 : (op == 17) = false := beq_eq_false_iff_ne.2 (by omega)
  subst hz
  go_enter Try.func52, Try.ntmps52
  go_wp2_with (go_at_call 62; refine (mul32_calls _ _ ha hb _).mono ?_; rintro e w' ⟨rfl, ⟨rfl⟩⟩)
  go_ret2
  exact ⟨by simp [mulV, hop], ⟨rfl⟩⟩
theorem muls_out (op : Int) (a b : Int) (ha : U a) (hb : U b) (hop : ¬ (11 ≤ op ∧ op ≤ 17)) (hz : b ≠ 0) (w : World) : Calls Try.prog 52 #[.int .i64 op, .int .u32 a, .int .u32 b] w fun e w' => e = .returned (.tuple #[.int .u32 (mulV op a b), .int .i64 1]) ∧ Sm w w' := by
  have n11 : (op == 11) = false := beq_eq_false_iff_ne.2 (by omega)
  have n12 : (op == 12) = false := beq_eq_false_iff_ne.2 (by omega)
  have n13 : (op == 13) = false := beq_eq_false_iff_ne.2 (by omega)
  have n14 : (op == 14) = false := beq_eq_false_iff_ne.2 (by omega)
  have n15 : (op == 15) = false := beq_eq_false_iff_ne.2 (by omega)
  have n16 : (op == 16) = false := beq_eq_false_iff_ne.2 (by omega)
  have n17 : (op == 17) = false := beq_eq_false_iff_ne.2 (by omega)
  have z2 : (b == 0) = false := beq_eq_false_iff_ne.2 hz
  go_enter Try.func52, Try.ntmps52
  go_wp2_with (go_at_call 62; refine (mul32_calls _ _ ha hb _).mono ?_; rintro e w' ⟨rfl, ⟨rfl⟩⟩)
  go_ret2
  exact ⟨by simp [mulV, hop], ⟨rfl⟩⟩
theorem muls_calls (op a b : Int) (ha : U a) (hb : U b) (w : World) : Calls Try.prog 52 #[.int .i64 op, .int .u32 a, .int .u32 b] w fun e w' => e = .returned (.tuple #[.int .u32 (mulV op a b), .int .i64 (mulE op)]) ∧ Sm w w' := by
  by_cases h : 11 ≤ op ∧ op ≤ 17
  · have hE : mulE op = 0 := by simp [mulE, h]
    rw [hE]
    have hop : op = 11 ∨ op = 12 ∨ op = 13 ∨ op = 14 ∨ op = 15 ∨ op = 16 ∨ op = 17 := by omega
    by_cases hz : b = 0
    · rcases hop with rfl | rfl | rfl | rfl | rfl | rfl | rfl
      · exact muls_MUL a b ha hb w
      · exact muls_MULH a b ha hb w
      · exact muls_MULHU a b ha hb w
      · exact muls_DIV0 a b ha hb hz w
      · exact muls_DIVU0 a b ha hb hz w
      · exact muls_REM0 a b ha hb hz w
      · exact muls_REMU0 a b ha hb hz w
    · rcases hop with rfl | rfl | rfl | rfl | rfl | rfl | rfl
      · exact muls_MUL a b ha hb w
      · exact muls_MULH a b ha hb w
      · exact muls_MULHU a b ha hb w
      · exact muls_DIV a b ha hb hz w
      · exact muls_DIVU a b ha hb hz w
      · exact muls_REM a b ha hb hz w
      · exact muls_REMU a b ha hb hz w
  · have hE : mulE op = 1 := by simp [mulE, h]
    rw [hE]
    by_cases hz : b = 0
    · exact muls_out0 op a b ha hb h hz w
    · exact muls_out op a b ha hb h hz w
theorem Do_ADD (a b : Int) (ha : U a) (hb : U b) (w : World) : Calls Try.prog 41 #[.int .i64 1, .int .u32 a, .int .u32 b] w fun e w' => e = .returned (.tuple #[.int .u32 (doV 1 a b), .int .i64 0]) ∧ Sm w w' := by
  go_enter Try.func41, Try.ntmps41
  go_wp2_with fail
  go_ret2
  exact ⟨by simp [doV], Sm.refl _⟩
theorem Do_SUB (a b : Int) (ha : U a) (hb : U b) (w : World) : Calls Try.prog 41 #[.int .i64 2, .int .u32 a, .int .u32 b] w fun e w' => e = .returned (.tuple #[.int .u32 (doV 2 a b), .int .i64 0]) ∧ Sm w w' := by
  go_enter Try.func41, Try.ntmps41
  go_wp2_with fail
  go_ret2
  exact ⟨by simp [doV], Sm.refl _⟩
theorem Do_SLL (a b : Int) (ha : U a) (hb : U b) (w : World) : Calls Try.prog 41 #[.int .i64 3, .int .u32 a, .int .u32 b] w fun e w' => e = .returned (.tuple #[.int .u32 (doV 3 a b), .int .i64 0]) ∧ Sm w w' := by
  have c0 : 0 ≤ b % 32 := by omega
  have c1 : b % 32 ≤ 32 := by omega
  have c2 := and31 hb
  go_enter Try.func41, Try.ntmps41
  go_wp2_with fail
  go_ret2
  exact ⟨by simp [doV], Sm.refl _⟩
theorem Do_SLT (a b : Int) (ha : U a) (hb : U b) (w : World) : Calls Try.prog 41 #[.int .i64 4, .int .u32 a, .int .u32 b] w fun e w' => e = .returned (.tuple #[.int .u32 (doV 4 a b), .int .i64 0]) ∧ Sm w w' := by
  have sa := sgn_range ha
  have sb := sgn_range hb
  have ea := wrap32_sgn ha
  have eb := wrap32_sgn hb
  go_enter Try.func41, Try.ntmps41
  go_wp2_with (go_at_call 51; refine (bit_calls _ _).mono ?_; rintro e w' ⟨rfl, ⟨rfl⟩⟩)
  go_ret2
  exact ⟨by simp [doV, bitV], ⟨rfl⟩⟩
theorem Do_SLTU (a b : Int) (ha : U a) (hb : U b) (w : World) : Calls Try.prog 41 #[.int .i64 5, .int .u32 a, .int .u32 b] w fun e w' => e = .returned (.tuple #[.int .u32 (doV 5 a b), .int .i64 0]) ∧ Sm w w' := by
  go_enter Try.func41, Try.ntmps41
  go_wp2_with (go_at_call 51; refine (bit_calls _ _).mono ?_; rintro e w' ⟨rfl, ⟨rfl⟩⟩)
  go_ret2
  exact ⟨by simp [doV, bitV], ⟨rfl⟩⟩
theorem Do_XOR (a b : Int) (ha : U a) (hb : U b) (w : World) : Calls Try.prog 41 #[.int .i64 6, .int .u32 a, .int .u32 b] w fun e w' => e = .returned (.tuple #[.int .u32 (doV 6 a b), .int .i64 0]) ∧ Sm w w' := by
  go_enter Try.func41, Try.ntmps41
  go_wp2_with fail
  go_ret2
  exact ⟨by simp [doV], Sm.refl _⟩
theorem Do_SRL (a b : Int) (ha : U a) (hb : U b) (w : World) : Calls Try.prog 41 #[.int .i64 7, .int .u32 a, .int .u32 b] w fun e w' => e = .returned (.tuple #[.int .u32 (doV 7 a b), .int .i64 0]) ∧ Sm w w' := by
  have c0 : 0 ≤ b % 32 := by omega
  have c1 : b % 32 ≤ 32 := by omega
  have c2 := and31 hb
  go_enter Try.func41, Try.ntmps41
  go_wp2_with fail
  go_ret2
  exact ⟨by simp [doV], Sm.refl _⟩
theorem Do_SRA (a b : Int) (ha : U a) (hb : U b) (w : World) : Calls Try.prog 41 #[.int .i64 8, .int .u32 a, .int .u32 b] w fun e w' => e = .returned (.tuple #[.int .u32 (doV 8 a b), .int .i64 0]) ∧ Sm w w' := by
  have c0 : 0 ≤ b % 32 := by omega
  have c1 : b % 32 ≤ 32 := by omega
  have c2 := and31 hb
  have sa := sgn_range ha
  have sb := sgn_range hb
  have ea := wrap32_sgn ha
  have eb := wrap32_sgn hb
  go_enter Try.func41, Try.ntmps41
  go_wp2_with fail
  go_ret2
  exact ⟨by simp [doV], Sm.refl _⟩
theorem Do_OR (a b : Int) (ha : U a) (hb : U b) (w : World) : Calls Try.prog 41 #[.int .i64 9, .int .u32 a, .int .u32 b] w fun e w' => e = .returned (.tuple #[.int .u32 (doV 9 a b), .int .i64 0]) ∧ Sm w w' := by
  go_enter Try.func41, Try.ntmps41
  go_wp2_with fail
  go_ret2
  exact ⟨by simp [doV], Sm.refl _⟩
theorem Do_AND (a b : Int) (ha : U a) (hb : U b) (w : World) : Calls Try.prog 41 #[.int .i64 10, .int .u32 a, .int .u32 b] w fun e w' => e = .returned (.tuple #[.int .u32 (doV 10 a b), .int .i64 0]) ∧ Sm w w' := by
  go_enter Try.func41, Try.ntmps41
  go_wp2_with fail
  go_ret2
  exact ⟨by simp [doV], Sm.refl _⟩
theorem Do_muls (op a b : Int) (ha : U a) (hb : U b) (h : ¬ (1 ≤ op ∧ op ≤ 10)) (w : World) : Calls Try.prog 41 #[.int .i64 op, .int .u32 a, .int .u32 b] w fun e w' => e = .returned (.tuple #[.int .u32 (mulV op a b), .int .i64 (mulE op)]) ∧ Sm w w' := by
  have n1 : (op == 1) = false := beq_eq_false_iff_ne.2 (by omega)
  have n2 : (op == 2) = false := beq_eq_false_iff_ne.2 (by omega)
  have n3 : (op == 3) = false := beq_eq_false_iff_ne.2 (by omega)
  have n4 : (op == 4) = false := beq_eq_false_iff_ne.2 (by omega)
  have n5 : (op == 5) = false := beq_eq_false_iff_ne.2 (by omega)
  have n6 : (op == 6) = false := beq_eq_false_iff_ne.2 (by omega)
  have n7 : (op == 7) = false := beq_eq_false_iff_ne.2 (by omega)
  have n8 : (op == 8) = false := beq_eq_false_iff_ne.2 (by omega)
  have n9 : (op == 9) = false := beq_eq_false_iff_ne.2 (by omega)
  have n10 : (op == 10) = false := beq_eq_false_iff_ne.2 (by omega)
  go_enter Try.func41, Try.ntmps41
  go_wp2_with (go_at_call 52; refine (muls_calls _ _ _ ha hb _).mono ?_; rintro e w' ⟨rfl, ⟨rfl⟩⟩)
  go_ret2
  exact ⟨rfl, ⟨rfl⟩⟩
theorem mul_do {op : Int} (a b : Int) (h : ¬ (1 ≤ op ∧ op ≤ 10)) : mulV op a b = doV op a b ∧ mulE op = doE op := by
  by_cases g : 11 ≤ op ∧ op ≤ 17
  · refine ⟨by simp [mulV, g], ?_⟩
    rw [mulE, doE, if_pos g, if_pos (by omega)]
  · refine ⟨?_, ?_⟩
    · rw [mulV, if_neg g]
      have n1 : op ≠ 1 := by omega
      have n2 : op ≠ 2 := by omega
      have n3 : op ≠ 3 := by omega
      have n4 : op ≠ 4 := by omega
      have n5 : op ≠ 5 := by omega
      have n6 : op ≠ 6 := by omega
      have n7 : op ≠ 7 := by omega
      have n8 : op ≠ 8 := by omega
      have n9 : op ≠ 9 := by omega
      have n10 : op ≠ 10 := by omega
      have n11 : op ≠ 11 := by omega
      have n12 : op ≠ 12 := by omega
      have n13 : op ≠ 13 := by omega
      have n14 : op ≠ 14 := by omega
      have n15 : op ≠ 15 := by omega
      have n16 : op ≠ 16 := by omega
      have n17 : op ≠ 17 := by omega
      simp only [doV, n1, n2, n3, n4, n5, n6, n7, n8, n9, n10, n11, n12, n13, n14, n15, n16, n17, if_false]
    · rw [mulE, doE, if_neg g, if_neg (by omega)]
/-- word.Do: each operation of words. -/
theorem Do_calls (op a b : Int) (ha : U a) (hb : U b) (w : World) : Calls Try.prog 41 #[.int .i64 op, .int .u32 a, .int .u32 b] w fun e w' => e = .returned (.tuple #[.int .u32 (doV op a b), .int .i64 (doE op)]) ∧ Sm w w' := by
  by_cases h : 1 ≤ op ∧ op ≤ 10
  · have hE : doE op = 0 := by rw [doE, if_pos (by omega)]
    rw [hE]
    have hop : op = 1 ∨ op = 2 ∨ op = 3 ∨ op = 4 ∨ op = 5 ∨ op = 6 ∨ op = 7 ∨ op = 8 ∨ op = 9 ∨ op = 10 := by omega
    rcases hop with rfl | rfl | rfl | rfl | rfl | rfl | rfl | rfl | rfl | rfl
    · exact Do_ADD a b ha hb w
    · exact Do_SUB a b ha hb w
    · exact Do_SLL a b ha hb w
    · exact Do_SLT a b ha hb w
    · exact Do_SLTU a b ha hb w
    · exact Do_XOR a b ha hb w
    · exact Do_SRL a b ha hb w
    · exact Do_SRA a b ha hb w
    · exact Do_OR a b ha hb w
    · exact Do_AND a b ha hb w
  · rw [← (mul_do a b h).1, ← (mul_do a b h).2]
    exact Do_muls op a b ha hb h w
theorem ext8_val {a : Int} (ha : U a) : wrap32 (a * 16777216 % 4294967296) / 16777216 % 4294967296 = (if a % 256 ≥ 128 then a % 256 - 256 else a % 256) % 4294967296 := by
  unfold U at ha
  unfold wrap32
  split <;> omega
/-- A word of its lowest byte, extended. -/
def ext8 (a : Int) : Int := (if a % 256 ≥ 128 then a % 256 - 256 else a % 256) % 4294967296
theorem ext8_calls (a : Int) (ha : U a) (w : World) : Calls Try.prog 53 #[.int .u32 a, .int .i64 8] w fun e w' => e = .returned (.tuple #[.int .u32 (ext8 a), .int .i64 0]) ∧ w' = w := by
  have hv := Aside.mk (ext8_val ha)
  go_enter Try.func53, Try.ntmps53
  go_wp2
  go_ret2
  exact ⟨by rw [ext8, ← hv.out]; rfl, rfl⟩
end Go.Proofs.Ytgcihcgclmdolaa.Still
namespace Go.Proofs.Ytgcihcgclmdolaa
open Go.Proofs.Ytgcihcgclmdolaa.PW
/-- The operations of words leave the world alone. -/
theorem Do_still (op a b : Int) (ha : U a) (hb : U b) (w : World) : Calls Try.prog 41 #[.int .i64 op, .int .u32 a, .int .u32 b] w fun e w' => e = .returned (.tuple #[.int .u32 (doV op a b), .int .i64 (doE op)]) ∧ w' = w :=
  (Still.Do_calls op a b ha hb w).mono fun _ _ ⟨he, hd⟩ => ⟨he, hd.out⟩
theorem sgned_still (a : Int) (ha : U a) (w : World) : Calls Try.prog 68 #[.int .u32 a] w fun e w' => e = .returned (.int .i64 (sgn a)) ∧ w' = w :=
  (Still.sgned_calls a ha w).mono fun _ _ ⟨he, hd⟩ => ⟨he, hd.out⟩
theorem wof_still (n : Int) (w : World) : Calls Try.prog 40 #[.int .i64 n] w fun e w' => e = .returned (.int .u32 (n % 4294967296)) ∧ w' = w :=
  (Still.wof_calls n w).mono fun _ _ ⟨he, hd⟩ => ⟨he, hd.out⟩
end Go.Proofs.Ytgcihcgclmdolaa
