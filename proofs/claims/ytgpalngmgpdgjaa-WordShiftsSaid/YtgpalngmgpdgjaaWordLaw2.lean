/- The laws of layer 1 without the document's operations, walked: each call returns true. Condition: the arguments are words. -/
import Derived.Test.YtgpalngmgpdgjaaWordLaw
import Derived.Test.YtgpalngmgpdgjaaPlainLaw01
namespace Go.Proofs.Ytgpalngmgpdgjaa
open Go.RowKit Go.Proofs.Ytgpalngmgpdgjaa.PW
set_option linter.unusedVariables false
set_option linter.unusedSimpArgs false

theorem wordShifts_any (a n : Int) (ha : U a) (w : World) : Calls Try.prog 8 #[.int .u32 a, .int .i64 n] w fun e w' => e = .returned (.bool true) ∧ Dr w w' := by
  obtain ⟨k, hk⟩ : ∃ k, (IntKind.u64.wrap n).tmod 31 % 4294967296 = k := ⟨_, rfl⟩
  have hb : 0 ≤ k ∧ k ≤ 30 := by
    have h0 : 0 ≤ IntKind.u64.wrap n := by rw [wrap_u64]; omega
    rw [tmod_pos h0] at hk
    omega
  obtain ⟨k0, k1⟩ := hb
  obtain ⟨p0, p1⟩ := sh_pow k0 k1
  obtain ⟨q0, q1, q2, q3, q4⟩ := sh_sra ha k0 k1
  have e1 := sh_one k0 k1
  have e2 := (sh_sll (a := a) k0 k1).symm
  have e3 := (sh_srl (a := a) k0 k1).symm
  have sa := sgn_range ha
  have uk : U k := by unfold U; omega
  have u1 : U 1 := by unfold U; omega
  have up : U (2 ^ k.toNat) := by unfold U; omega
  have u8 : U (doV 8 a k) := doV_U 8 ha uk
  go_enter Try.func8, Try.ntmps8
  go_wp2_with (first | ((go_at_call 11); (refine (awake01_calls _).mono ?_); (rintro e w1 ⟨rfl, hd⟩)) | ((go_at_call 14); (refine (do01_calls _ _ _ ?_ ?_ _).mono ?_); (assumption); (assumption); (rintro e w1 ⟨rfl, hd⟩)) | ((go_at_call 15); (refine (sgned_calls _ ?_ _).mono ?_); (assumption); (rintro e w1 ⟨rfl, hd⟩)))
  go_ret
  exact ⟨rfl, by repeat (first | exact Dr.refl _ | assumption | refine Dr.step ?_ _ | refine Dr.trans ?_ (by assumption))⟩
theorem wordSigns_any (a n : Int) (ha : U a) (n0 : -9223372036854775808 ≤ n) (n1 : n ≤ 9223372036854775807) (w : World) : Calls Try.prog 9 #[.int .u32 a, .int .i64 n] w fun e w' => e = .returned (.bool true) ∧ Dr w w' := by
  have sa := sgn_range ha
  have e1 : sgn a % 4294967296 = a := by rw [sgn_mod, mod_U ha]
  have e2 : a % 4294967296 = a := mod_U ha
  have a0 := ha.1
  have a1 := ha.2
  go_enter Try.func9, Try.ntmps9
  go_wp2_with (first | ((go_at_call 11); (refine (awake01_calls _).mono ?_); (rintro e w1 ⟨rfl, hd⟩)) | ((go_at_call 15); (refine (sgned_calls _ ?_ _).mono ?_); (assumption); (rintro e w1 ⟨rfl, hd⟩)) | ((go_at_call 17); (refine (wof_calls _ _).mono ?_); (rintro e w1 ⟨rfl, hd⟩)) | ((go_at_call 16); (refine (rSigned_calls _ ?_ _).mono ?_); (assumption); (rintro e w1 ⟨rfl, hd⟩)) | ((go_at_call 18); (refine (rOf_calls _ ?_ ?_ _).mono ?_); (assumption); (assumption); (rintro e w1 ⟨rfl, hd⟩)))
  go_ret
  exact ⟨rfl, by repeat (first | exact Dr.refl _ | assumption | refine Dr.step ?_ _ | refine Dr.trans ?_ (by assumption))⟩
theorem wordLaws_any (a b c : Int) (ha : U a) (hb : U b) (hc : U c) (w : World) : Calls Try.prog 7 #[.int .u32 a, .int .u32 b, .int .u32 c] w fun e w' => e = .returned (.bool true) ∧ Dr w w' := by
  have cc := hc.1
  have u1 := doV_U 1 ha hb
  have u2 := doV_U 1 hb hc
  have u3 := doV_U 11 ha hb
  have u4 := doV_U 11 ha hc
  have u5 := doV_U 6 ha hb
  have u6 := doV_U 3 ha hc
  have c0 : 0 ≤ c % 32 := by omega
  have c1 : c % 32 ≤ 31 := by omega
  have e1 : doV 1 b a = doV 1 a b := doV_add_comm b a
  have e2 : doV 11 b a = doV 11 a b := doV_mul_comm b a
  have e3 := doV_sub_add b ha
  have e4 := doV_xor_xor ha hb
  have e5 := doV_mul_add a b c
  obtain ⟨s0, s1, s2⟩ := doV_slt_sum' a b
  have e6 := doV_sltu_iff a b
  have e7 := doV_srl_sll c ha
  have p0 : (1 : Int) ≤ 2 ^ (32 - c % 32).toNat := by have := pow_pos (32 - c % 32).toNat; omega
  have p1 : (2 : Int) ^ (32 - c % 32).toNat ≤ 4294967296 := by
    have h2 : (2 : Nat) ^ (32 - c % 32).toNat ≤ 2 ^ 32 := Nat.pow_le_pow_right (by decide) (by omega)
    have h4 : (2 : Int) ^ (32 - c % 32).toNat ≤ 2 ^ 32 := by exact_mod_cast h2
    exact h4
  have u7 : U (2 ^ (32 - c % 32).toNat - 1) := by unfold U; omega
  go_enter Try.func7, Try.ntmps7
  go_wp2_with (first | ((go_at_call 11); (refine (awake01_calls _).mono ?_); (rintro e w1 ⟨rfl, hd⟩)) | ((go_at_call 14); (refine (do01_calls _ _ _ ?_ ?_ _).mono ?_); (assumption); (assumption); (rintro e w1 ⟨rfl, hd⟩)))
  go_ret
  exact ⟨rfl, by repeat (first | exact Dr.refl _ | assumption | refine Dr.step ?_ _ | refine Dr.trans ?_ (by assumption))⟩
theorem wordAll_any (a b : Int) (ha : U a) (hb : U b) (w : World) : Calls Try.prog 4 #[.int .u32 a, .int .u32 b] w fun e w' => e = .returned (.bool true) ∧ Dr w w' := by
  go_enter Try.func4, Try.ntmps4
  go_wp2_with (first | ((go_at_call 11); (refine (awake01_calls _).mono ?_); (rintro e w1 ⟨rfl, hd⟩)))
  go_loopw [5] (fun op wr => ∃ k : Int, -1 ≤ k ∧ k ≤ 21 ∧ op = .int .i64 k ∧ Dr w wr) (fun op _ => (21 - intOf op).toNat)
  case atStart => exact ⟨-1, by omega, by omega, rfl, by repeat (first | exact Dr.refl _ | assumption | refine Dr.step ?_ _ | refine Dr.trans ?_ (by assumption))⟩
  case round =>
    obtain ⟨k, k0, k1, rfl, hd2⟩ := hrel
    by_cases hlt : k ≤ 20
    · by_cases h : 1 ≤ k ∧ k ≤ 17
      · have hE : doE k = 0 := by rw [doE, if_pos h]
        have hB : doB k = true := by simp [doB]; omega
        go_wp2_with (first | ((go_at_call 12); (refine (Do_calls _ a b ha hb _).mono ?_); (rintro e w1 ⟨rfl, hd⟩)) | ((go_at_call 13); (refine (rDo_calls _ a b ha hb _).mono ?_); (rintro e w1 ⟨rfl, hd⟩)))
        go_roundw
        case rel => exact ⟨k + 1, by omega, by omega, by go_num, by repeat (first | exact Dr.refl _ | assumption | refine Dr.step ?_ _ | refine Dr.trans ?_ (by assumption))⟩
        case measure => simp [intOf]; omega
      · have hE : doE k = 1 := by rw [doE, if_neg h]
        have hB : doB k = false := by simp [doB]; omega
        go_wp2_with (first | ((go_at_call 12); (refine (Do_calls _ a b ha hb _).mono ?_); (rintro e w1 ⟨rfl, hd⟩)) | ((go_at_call 13); (refine (rDo_calls _ a b ha hb _).mono ?_); (rintro e w1 ⟨rfl, hd⟩)))
        go_roundw
        case rel => exact ⟨k + 1, by omega, by omega, by go_num, by repeat (first | exact Dr.refl _ | assumption | refine Dr.step ?_ _ | refine Dr.trans ?_ (by assumption))⟩
        case measure => simp [intOf]; omega
    · go_wp2
      go_ret
      exact ⟨rfl, by repeat (first | exact Dr.refl _ | assumption | refine Dr.step ?_ _ | refine Dr.trans ?_ (by assumption))⟩
theorem wordDivides_any (a b : Int) (ha : U a) (hb : U b) (w : World) : Calls Try.prog 5 #[.int .u32 a, .int .u32 b] w fun e w' => e = .returned (.bool true) ∧ Kp w w' := by
  have u1 := doV_U 14 ha hb
  have u2 := doV_U 15 ha hb
  have u3 := doV_U 16 ha hb
  have u4 := doV_U 17 ha hb
  have u5 := doV_U 11 u1 hb
  have u6 := doV_U 11 u2 hb
  have e1 := div_law ha hb
  have e2 := divu_law ha hb
  have hlt : b ≠ 0 → doV 17 a b < b := remu_lt hb
  go_enter Try.func5, Try.ntmps5
  go_wp2_with (first | ((go_at_call 11); (refine (awake01_calls _).mono ?_); (rintro e w1 ⟨rfl, hd⟩)) | ((go_at_call 14); (refine (do01_calls _ _ _ ?_ ?_ _).mono ?_); (assumption); (assumption); (rintro e w1 ⟨rfl, hd⟩)))
  go_loopw [14] (fun i wr => (i = .int .i64 0 ∨ i = .int .i64 1 ∨ i = .int .i64 2) ∧ Kp w wr) (fun i _ => (2 - intOf i).toNat)
  case atStart => exact ⟨Or.inl rfl, by repeat (first | exact Kp.refl _ | assumption | exact Dr.kp (by assumption) | refine Kp.drewN ?_ _ | refine Kp.drew ?_ | refine Kp.alloc ?_ _ | refine Kp.trans ?_ (by assumption) | refine Kp.trans ?_ (Dr.kp (by assumption)))⟩
  case round =>
    have i0 : ∀ w : World, (Instr.index 32 (.agg #[.int .i64 14, .int .i64 16, .int .i64 15, .int .i64 17]) (.int .i64 0)).run Try.prog w = .ok (.agg #[.int .i64 14, .int .i64 16]) w := fun _ => by kernel_rfl
    have i1 : ∀ w : World, (Instr.index 32 (.agg #[.int .i64 14, .int .i64 16, .int .i64 15, .int .i64 17]) (.int .i64 1)).run Try.prog w = .ok (.agg #[.int .i64 15, .int .i64 17]) w := fun _ => by kernel_rfl
    have j0 : ∀ w : World, (Instr.index 31 (.agg #[.int .i64 14, .int .i64 16]) (.int .i64 0)).run Try.prog w = .ok (.int .i64 14) w := fun _ => by kernel_rfl
    have j1 : ∀ w : World, (Instr.index 31 (.agg #[.int .i64 14, .int .i64 16]) (.int .i64 1)).run Try.prog w = .ok (.int .i64 16) w := fun _ => by kernel_rfl
    have j2 : ∀ w : World, (Instr.index 31 (.agg #[.int .i64 15, .int .i64 17]) (.int .i64 0)).run Try.prog w = .ok (.int .i64 15) w := fun _ => by kernel_rfl
    have j3 : ∀ w : World, (Instr.index 31 (.agg #[.int .i64 15, .int .i64 17]) (.int .i64 1)).run Try.prog w = .ok (.int .i64 17) w := fun _ => by kernel_rfl
    obtain ⟨rfl | rfl | rfl, hd2⟩ := hrel
    · go_wp2
      go_quiet ((go_at_call 14; exact quiet_dr (do01_calls _ _ _ (by assumption) (by assumption) _)))
      go_wp2_with (first | ((go_at_call 14); (refine (do01_calls _ _ _ ?_ ?_ _).mono ?_); (assumption); (assumption); (rintro e w1 ⟨rfl, hd⟩)))
      go_roundw
      case rel => exact ⟨Or.inr (Or.inl rfl), by repeat (first | exact Kp.refl _ | assumption | exact Dr.kp (by assumption) | refine Kp.drewN ?_ _ | refine Kp.drew ?_ | refine Kp.alloc ?_ _ | refine Kp.trans ?_ (by assumption) | refine Kp.trans ?_ (Dr.kp (by assumption)))⟩
      case measure => simp [intOf]
    · go_wp2
      go_quiet ((go_at_call 14; exact quiet_dr (do01_calls _ _ _ (by assumption) (by assumption) _)))
      go_wp2_with (first | ((go_at_call 14); (refine (do01_calls _ _ _ ?_ ?_ _).mono ?_); (assumption); (assumption); (rintro e w1 ⟨rfl, hd⟩)))
      go_roundw
      case rel => exact ⟨Or.inr (Or.inr rfl), by repeat (first | exact Kp.refl _ | assumption | exact Dr.kp (by assumption) | refine Kp.drewN ?_ _ | refine Kp.drew ?_ | refine Kp.alloc ?_ _ | refine Kp.trans ?_ (by assumption) | refine Kp.trans ?_ (Dr.kp (by assumption)))⟩
      case measure => simp [intOf]
    · by_cases z : b = 0
      · have z2 : (b == 0) = true := beq_iff_eq.2 z
        clear z
        go_wp2
        go_ret
        exact ⟨rfl, by repeat (first | exact Kp.refl _ | assumption | exact Dr.kp (by assumption) | refine Kp.drewN ?_ _ | refine Kp.drew ?_ | refine Kp.alloc ?_ _ | refine Kp.trans ?_ (by assumption) | refine Kp.trans ?_ (Dr.kp (by assumption)))⟩
      · have z2 : (b == 0) = false := beq_eq_false_iff_ne.2 z
        have z3 := hlt z
        go_wp2_with (first | ((go_at_call 14); (refine (do01_calls _ _ _ ?_ ?_ _).mono ?_); (assumption); (assumption); (rintro e w1 ⟨rfl, hd⟩)))
        go_ret
        exact ⟨rfl, by repeat (first | exact Kp.refl _ | assumption | exact Dr.kp (by assumption) | refine Kp.drewN ?_ _ | refine Kp.drew ?_ | refine Kp.alloc ?_ _ | refine Kp.trans ?_ (by assumption) | refine Kp.trans ?_ (Dr.kp (by assumption)))⟩
theorem wordAll_law (a : Int) (b : Int) (w0 : (Lit.int .u32 a).wf = true) (w1 : (Lit.int .u32 b).wf = true) (w : World) : Calls Try.prog 4 #[.int .u32 a, .int .u32 b] w fun e w' => e = .returned (.bool true) ∧ Below w.heap.size w w' :=
  (wordAll_any a b (U_of w0) (U_of w1) w).mono fun _ _ ⟨he, hd⟩ => ⟨he, hd.below⟩
theorem wordDivides_law (a : Int) (b : Int) (w0 : (Lit.int .u32 a).wf = true) (w1 : (Lit.int .u32 b).wf = true) (w : World) : Calls Try.prog 5 #[.int .u32 a, .int .u32 b] w fun e w' => e = .returned (.bool true) ∧ Below w.heap.size w w' :=
  (wordDivides_any a b (U_of w0) (U_of w1) w).mono fun _ _ ⟨he, hd⟩ => ⟨he, hd.out⟩
theorem wordLaws_law (a : Int) (b : Int) (c : Int) (w0 : (Lit.int .u32 a).wf = true) (w1 : (Lit.int .u32 b).wf = true) (w2 : (Lit.int .u32 c).wf = true) (w : World) : Calls Try.prog 7 #[.int .u32 a, .int .u32 b, .int .u32 c] w fun e w' => e = .returned (.bool true) ∧ Below w.heap.size w w' :=
  (wordLaws_any a b c (U_of w0) (U_of w1) (U_of w2) w).mono fun _ _ ⟨he, hd⟩ => ⟨he, hd.below⟩
theorem wordShifts_law (a : Int) (n : Int) (w0 : (Lit.int .u32 a).wf = true) (w1 : (Lit.int .i64 n).wf = true) (w : World) : Calls Try.prog 8 #[.int .u32 a, .int .i64 n] w fun e w' => e = .returned (.bool true) ∧ Below w.heap.size w w' :=
  (wordShifts_any a n (U_of w0) w).mono fun _ _ ⟨he, hd⟩ => ⟨he, hd.below⟩
theorem wordSigns_law (a : Int) (n : Int) (w0 : (Lit.int .u32 a).wf = true) (w1 : (Lit.int .i64 n).wf = true) (w : World) : Calls Try.prog 9 #[.int .u32 a, .int .i64 n] w fun e w' => e = .returned (.bool true) ∧ Below w.heap.size w w' :=
  (wordSigns_any a n (U_of w0) (bounds_i64 w1).1 (bounds_i64 w1).2 w).mono fun _ _ ⟨he, hd⟩ => ⟨he, hd.below⟩
end Go.Proofs.Ytgpalngmgpdgjaa
