/- What the reference's operations and extensions of words come to: each call returns its plain value. Condition: the arguments are words. -/
import Derived.Test.YtgpalngmgpdgjaaWordRef2
namespace Go.Proofs.Ytgpalngmgpdgjaa
open Go.RowKit Go.Proofs.Ytgpalngmgpdgjaa.PW
set_option linter.unusedVariables false
set_option linter.unusedSimpArgs false

theorem pow_le {n m : Nat} (h : n ≤ m) : (1 : Int) ≤ 2 ^ n ∧ (2 : Int) ^ n ≤ 2 ^ m := by
  have h1 : (0 : Int) < 2 ^ n := Int.pow_pos (by decide)
  have h2 : (2 : Nat) ^ n ≤ 2 ^ m := Nat.pow_le_pow_right (by decide) h
  exact ⟨by omega, by exact_mod_cast h2⟩
theorem rDo_ADD (a b : Int) (ha : U a) (hb : U b) (w : World) : Calls Try.prog 13 #[.int .i64 1, .int .u32 a, .int .u32 b] w fun e w' => e = .returned (.tuple #[.int .u32 (doV 1 a b), .bool true]) ∧ Dr w w' := by
  have a0 := ha.1
  have a1 := ha.2
  have b0 := hb.1
  have b1 := hb.2
  go_enter Try.func13, Try.ntmps13
  go_wp2_with (first | ((go_at_call 16); (first | (with_reducible refine (rSigned_calls a ha _).mono ?_) | (with_reducible refine (rSigned_calls b hb _).mono ?_)); (rintro e w' ⟨rfl, ⟨nd, rfl⟩⟩)) | (go_at_call 18; refine (rOf_calls _ (by omega) (by omega) _).mono ?_; rintro e w' ⟨rfl, ⟨nd, rfl⟩⟩))
  go_ret2
  exact ⟨by simp [doV], ⟨_, rfl⟩⟩
theorem rDo_SUB (a b : Int) (ha : U a) (hb : U b) (w : World) : Calls Try.prog 13 #[.int .i64 2, .int .u32 a, .int .u32 b] w fun e w' => e = .returned (.tuple #[.int .u32 (doV 2 a b), .bool true]) ∧ Dr w w' := by
  have a0 := ha.1
  have a1 := ha.2
  have b0 := hb.1
  have b1 := hb.2
  go_enter Try.func13, Try.ntmps13
  go_wp2_with (first | ((go_at_call 16); (first | (with_reducible refine (rSigned_calls a ha _).mono ?_) | (with_reducible refine (rSigned_calls b hb _).mono ?_)); (rintro e w' ⟨rfl, ⟨nd, rfl⟩⟩)) | (go_at_call 18; refine (rOf_calls _ (by omega) (by omega) _).mono ?_; rintro e w' ⟨rfl, ⟨nd, rfl⟩⟩))
  go_ret2
  exact ⟨by simp [doV], ⟨_, rfl⟩⟩
theorem rDo_XOR (a b : Int) (ha : U a) (hb : U b) (w : World) : Calls Try.prog 13 #[.int .i64 6, .int .u32 a, .int .u32 b] w fun e w' => e = .returned (.tuple #[.int .u32 (doV 6 a b), .bool true]) ∧ Dr w w' := by
  go_enter Try.func13, Try.ntmps13
  go_wp2_with (first | ((go_at_call 16); (first | (with_reducible refine (rSigned_calls a ha _).mono ?_) | (with_reducible refine (rSigned_calls b hb _).mono ?_)); (rintro e w' ⟨rfl, ⟨nd, rfl⟩⟩)) | (go_at_call 24; refine (rBits_xor _ _ ha hb _).mono ?_; rintro e w' ⟨rfl, ⟨nd, rfl⟩⟩))
  go_ret2
  exact ⟨by simp [doV], ⟨_, rfl⟩⟩
theorem rDo_OR (a b : Int) (ha : U a) (hb : U b) (w : World) : Calls Try.prog 13 #[.int .i64 9, .int .u32 a, .int .u32 b] w fun e w' => e = .returned (.tuple #[.int .u32 (doV 9 a b), .bool true]) ∧ Dr w w' := by
  go_enter Try.func13, Try.ntmps13
  go_wp2_with (first | ((go_at_call 16); (first | (with_reducible refine (rSigned_calls a ha _).mono ?_) | (with_reducible refine (rSigned_calls b hb _).mono ?_)); (rintro e w' ⟨rfl, ⟨nd, rfl⟩⟩)) | (go_at_call 24; refine (rBits_or _ _ ha hb _).mono ?_; rintro e w' ⟨rfl, ⟨nd, rfl⟩⟩))
  go_ret2
  exact ⟨by simp [doV], ⟨_, rfl⟩⟩
theorem rDo_AND (a b : Int) (ha : U a) (hb : U b) (w : World) : Calls Try.prog 13 #[.int .i64 10, .int .u32 a, .int .u32 b] w fun e w' => e = .returned (.tuple #[.int .u32 (doV 10 a b), .bool true]) ∧ Dr w w' := by
  go_enter Try.func13, Try.ntmps13
  go_wp2_with (first | ((go_at_call 16); (first | (with_reducible refine (rSigned_calls a ha _).mono ?_) | (with_reducible refine (rSigned_calls b hb _).mono ?_)); (rintro e w' ⟨rfl, ⟨nd, rfl⟩⟩)) | (go_at_call 24; refine (rBits_and _ _ ha hb _).mono ?_; rintro e w' ⟨rfl, ⟨nd, rfl⟩⟩))
  go_ret2
  exact ⟨by simp [doV], ⟨_, rfl⟩⟩
theorem rDo_MULHU (a b : Int) (ha : U a) (hb : U b) (w : World) : Calls Try.prog 13 #[.int .i64 13, .int .u32 a, .int .u32 b] w fun e w' => e = .returned (.tuple #[.int .u32 (doV 13 a b), .bool true]) ∧ Dr w w' := by
  go_enter Try.func13, Try.ntmps13
  go_wp2_with (first | ((go_at_call 16); (first | (with_reducible refine (rSigned_calls a ha _).mono ?_) | (with_reducible refine (rSigned_calls b hb _).mono ?_)); (rintro e w' ⟨rfl, ⟨nd, rfl⟩⟩)) | (go_at_call 26; refine (rUpper_calls _ _ ha hb _).mono ?_; rintro e w' ⟨rfl, ⟨nd, rfl⟩⟩))
  go_ret2
  exact ⟨by simp [doV], ⟨_, rfl⟩⟩
theorem rPow_calls (n : Int) (h0 : 0 ≤ n) (hn : n ≤ 62) (w : World) : Calls Try.prog 23 #[.int .i64 n] w fun e w' => e = .returned (.int .i64 (2 ^ n.toNat)) ∧ Dr w w' := by
  have h := rPower_calls n.toNat (by omega) w
  rwa [Int.toNat_of_nonneg h0] at h
theorem rDo_SLT (a b : Int) (ha : U a) (hb : U b) (hc : (sgn a < sgn b)) (w : World) : Calls Try.prog 13 #[.int .i64 4, .int .u32 a, .int .u32 b] w fun e w' => e = .returned (.tuple #[.int .u32 (doV 4 a b), .bool true]) ∧ Dr w w' := by
  have a0 := ha.1
  have a1 := ha.2
  have b0 := hb.1
  have b1 := hb.2
  have sa := sgn_range ha
  have sb := sgn_range hb
  have V := Aside.mk (show doV 4 a b = 1 by simp [doV, hc])
  go_enter Try.func13, Try.ntmps13
  go_wp2_with (first | ((go_at_call 16); (first | (with_reducible refine (rSigned_calls a ha _).mono ?_) | (with_reducible refine (rSigned_calls b hb _).mono ?_)); (rintro e w' ⟨rfl, ⟨nd, rfl⟩⟩)))
  go_ret2
  exact ⟨by rw [V.out]; rfl, ⟨_, rfl⟩⟩
theorem rDo_SLT0 (a b : Int) (ha : U a) (hb : U b) (hc : ¬ (sgn a < sgn b)) (w : World) : Calls Try.prog 13 #[.int .i64 4, .int .u32 a, .int .u32 b] w fun e w' => e = .returned (.tuple #[.int .u32 (doV 4 a b), .bool true]) ∧ Dr w w' := by
  have a0 := ha.1
  have a1 := ha.2
  have b0 := hb.1
  have b1 := hb.2
  have sa := sgn_range ha
  have sb := sgn_range hb
  have V := Aside.mk (show doV 4 a b = 0 by simp [doV, hc])
  go_enter Try.func13, Try.ntmps13
  go_wp2_with (first | ((go_at_call 16); (first | (with_reducible refine (rSigned_calls a ha _).mono ?_) | (with_reducible refine (rSigned_calls b hb _).mono ?_)); (rintro e w' ⟨rfl, ⟨nd, rfl⟩⟩)))
  go_ret2
  exact ⟨by rw [V.out]; rfl, ⟨_, rfl⟩⟩
theorem rDo_SLTU (a b : Int) (ha : U a) (hb : U b) (hc : (a < b)) (w : World) : Calls Try.prog 13 #[.int .i64 5, .int .u32 a, .int .u32 b] w fun e w' => e = .returned (.tuple #[.int .u32 (doV 5 a b), .bool true]) ∧ Dr w w' := by
  have a0 := ha.1
  have a1 := ha.2
  have b0 := hb.1
  have b1 := hb.2
  have sa := sgn_range ha
  have sb := sgn_range hb
  have V := Aside.mk (show doV 5 a b = 1 by simp [doV, hc])
  go_enter Try.func13, Try.ntmps13
  go_wp2_with (first | ((go_at_call 16); (first | (with_reducible refine (rSigned_calls a ha _).mono ?_) | (with_reducible refine (rSigned_calls b hb _).mono ?_)); (rintro e w' ⟨rfl, ⟨nd, rfl⟩⟩)))
  go_ret2
  exact ⟨by rw [V.out]; rfl, ⟨_, rfl⟩⟩
theorem rDo_SLTU0 (a b : Int) (ha : U a) (hb : U b) (hc : ¬ (a < b)) (w : World) : Calls Try.prog 13 #[.int .i64 5, .int .u32 a, .int .u32 b] w fun e w' => e = .returned (.tuple #[.int .u32 (doV 5 a b), .bool true]) ∧ Dr w w' := by
  have a0 := ha.1
  have a1 := ha.2
  have b0 := hb.1
  have b1 := hb.2
  have sa := sgn_range ha
  have sb := sgn_range hb
  have V := Aside.mk (show doV 5 a b = 0 by simp [doV, hc])
  go_enter Try.func13, Try.ntmps13
  go_wp2_with (first | ((go_at_call 16); (first | (with_reducible refine (rSigned_calls a ha _).mono ?_) | (with_reducible refine (rSigned_calls b hb _).mono ?_)); (rintro e w' ⟨rfl, ⟨nd, rfl⟩⟩)))
  go_ret2
  exact ⟨by rw [V.out]; rfl, ⟨_, rfl⟩⟩
theorem sll_V (a : Int) {k : Int} (h0 : 0 ≤ k) (h1 : k ≤ 31) : 0 ≤ a % 2 ^ (32 - k).toNat * 2 ^ k.toNat ∧ a % 2 ^ (32 - k).toNat * 2 ^ k.toNat ≤ 4294967296 ∧ a % 2 ^ (32 - k).toNat * 2 ^ k.toNat % 4294967296 = a * 2 ^ k.toNat % 4294967296 := by
  have hm : (2 : Int) ^ (32 - k).toNat * 2 ^ k.toNat = 4294967296 := by
    rw [← Int.pow_add, show (32 - k).toNat + k.toNat = 32 by omega]; rfl
  obtain ⟨p0, _⟩ := pow_le (n := (32 - k).toNat) (m := 32) (by omega)
  obtain ⟨q0, _⟩ := pow_le (n := k.toNat) (m := 31) (by omega)
  have e0 := Int.emod_nonneg a (b := 2 ^ (32 - k).toNat) (by omega)
  have e1 := Int.emod_lt_of_pos a (b := 2 ^ (32 - k).toNat) (by omega)
  have e2 := Int.emod_add_mul_ediv a (2 ^ (32 - k).toNat)
  generalize (2 : Int) ^ (32 - k).toNat = m at *
  generalize (2 : Int) ^ k.toNat = p at *
  refine ⟨Int.mul_nonneg e0 (by omega), ?_, ?_⟩
  · calc a % m * p ≤ m * p := Int.mul_le_mul_of_nonneg_right (by omega) (by omega)
      _ = 4294967296 := hm
  · have e3 : a * p = a % m * p + 4294967296 * (a / m) := by
      rw [← hm]
      grind
    rw [e3, Int.add_mul_emod_self_left]
theorem rDo_SLL (a b : Int) (ha : U a) (hb : U b) (w : World) : Calls Try.prog 13 #[.int .i64 3, .int .u32 a, .int .u32 b] w fun e w' => e = .returned (.tuple #[.int .u32 (doV 3 a b), .bool true]) ∧ Dr w w' := by
  have k0 : 0 ≤ b % 32 := by omega
  have k1 : b % 32 ≤ 31 := by omega
  obtain ⟨p0, p1⟩ := pow_le (n := (b % 32).toNat) (m := 31) (by omega)
  have P1 := Aside.mk p1
  clear p1
  have p2 : (2 : Int) ^ (b % 32).toNat ≤ 2147483648 := P1.out
  have a0 := ha.1
  have a1 := ha.2
  have b0 := hb.1
  have b1 := hb.2
  have V := Aside.mk (show doV 3 a b = a * 2 ^ (b % 32).toNat % 4294967296 by simp [doV])
  obtain ⟨q0, _⟩ := pow_le (n := (32 - b % 32).toNat) (m := 32) (by omega)
  obtain ⟨s0, s1, s2⟩ := sll_V a k0 k1
  have S2 := Aside.mk s2
  clear s2
  go_enter Try.func13, Try.ntmps13
  go_wp2_with (first | ((go_at_call 16); (first | (with_reducible refine (rSigned_calls a ha _).mono ?_) | (with_reducible refine (rSigned_calls b hb _).mono ?_)); (rintro e w1 ⟨rfl, hd⟩)) | (go_at_call 23; refine (rPow_calls _ (by omega) (by omega) _).mono ?_; rintro e w1 ⟨rfl, hd⟩) | (go_at_call 18; refine (rOf_calls _ (by omega) (by omega) _).mono ?_; rintro e w1 ⟨rfl, hd⟩))
  go_quiet ((first | (go_at_call 23; exact quiet_dr (rPow_calls _ (by omega) (by omega) _)) | (go_at_call 18; exact quiet_dr (rOf_calls _ (by omega) (by omega) _))))
  go_wp2
  go_ret2
  exact ⟨by rw [V.out, ← S2.out]; rfl, by repeat (first | exact Dr.refl _ | assumption | refine Dr.step ?_ _ | refine Dr.trans ?_ (by assumption))⟩
theorem rDo_SRL (a b : Int) (ha : U a) (hb : U b) (w : World) : Calls Try.prog 13 #[.int .i64 7, .int .u32 a, .int .u32 b] w fun e w' => e = .returned (.tuple #[.int .u32 (doV 7 a b), .bool true]) ∧ Dr w w' := by
  have k0 : 0 ≤ b % 32 := by omega
  have k1 : b % 32 ≤ 31 := by omega
  obtain ⟨p0, p1⟩ := pow_le (n := (b % 32).toNat) (m := 31) (by omega)
  have P1 := Aside.mk p1
  clear p1
  have p2 : (2 : Int) ^ (b % 32).toNat ≤ 2147483648 := P1.out
  have a0 := ha.1
  have a1 := ha.2
  have b0 := hb.1
  have b1 := hb.2
  have V := Aside.mk (show doV 7 a b = a / 2 ^ (b % 32).toNat by simp [doV])
  have d0 : 0 ≤ a / 2 ^ (b % 32).toNat := Int.ediv_nonneg a0 (by omega)
  have d1 : a / 2 ^ (b % 32).toNat ≤ 4294967295 := Int.le_trans (Int.ediv_le_self _ a0) a1
  go_enter Try.func13, Try.ntmps13
  go_wp2_with (first | ((go_at_call 16); (first | (with_reducible refine (rSigned_calls a ha _).mono ?_) | (with_reducible refine (rSigned_calls b hb _).mono ?_)); (rintro e w' ⟨rfl, ⟨nd, rfl⟩⟩)) | (go_at_call 23; refine (rPow_calls _ (by omega) (by omega) _).mono ?_; rintro e w' ⟨rfl, ⟨nd, rfl⟩⟩))
  go_ret2
  exact ⟨by rw [V.out]; rfl, ⟨_, rfl⟩⟩
theorem div_S {x m : Int} (hx : -2147483648 ≤ x ∧ x ≤ 2147483647) (hm : 1 ≤ m) : -2147483648 ≤ x / m ∧ x / m ≤ 2147483647 := by
  have h1 := Int.mul_ediv_add_emod x m
  have h2 := Int.emod_nonneg x (b := m) (by omega)
  have h3 := Int.emod_lt_of_pos x (b := m) (by omega)
  have h4 := floor_V (x := x) hm
  have h5 := tdiv_le (x := x) (m := m)
  refine ⟨?_, ?_⟩
  · rcases Int.lt_or_le (x / m) (-2147483648) with g | g
    · have : m * (x / m) ≤ m * (-2147483649) := Int.mul_le_mul_of_nonneg_left (by omega) (by omega)
      omega
    · exact g
  · by_cases c : Int.tmod x m < 0
    · rw [← h4.1 c]; omega
    · rw [← h4.2 c]
      by_cases d : 0 ≤ x
      · omega
      · have := Int.tdiv_eq_ediv (a := x) (b := m)
        have e := h4.2 c
        rw [e]
        rcases Int.lt_or_le 0 (x / m) with g | g
        · have : m * 1 ≤ m * (x / m) := Int.mul_le_mul_of_nonneg_left (by omega) (by omega)
          omega
        · omega
theorem rDo_SRA (a b : Int) (ha : U a) (hb : U b) (w : World) : Calls Try.prog 13 #[.int .i64 8, .int .u32 a, .int .u32 b] w fun e w' => e = .returned (.tuple #[.int .u32 (doV 8 a b), .bool true]) ∧ Dr w w' := by
  have a0 := ha.1
  have a1 := ha.2
  have b0 := hb.1
  have b1 := hb.2
  have sa := sgn_range ha
  have sb := sgn_range hb
  have k0 : 0 ≤ b % 32 := by omega
  have k1 : b % 32 ≤ 31 := by omega
  obtain ⟨p0, p1⟩ := pow_le (n := (b % 32).toNat) (m := 31) (by omega)
  have P1 := Aside.mk p1
  clear p1
  have p2 : (2 : Int) ^ (b % 32).toNat ≤ 2147483648 := P1.out
  have V := Aside.mk (show doV 8 a b = sgn a / 2 ^ (b % 32).toNat % 4294967296 by simp [doV])
  obtain ⟨d0, d1⟩ := div_S sa p0
  go_enter Try.func13, Try.ntmps13
  go_wp2_with (first | ((go_at_call 16); (first | (with_reducible refine (rSigned_calls a ha _).mono ?_) | (with_reducible refine (rSigned_calls b hb _).mono ?_)); (rintro e w' ⟨rfl, ⟨nd, rfl⟩⟩)) | (go_at_call 23; refine (rPow_calls _ (by omega) (by omega) _).mono ?_; rintro e w' ⟨rfl, ⟨nd, rfl⟩⟩) | (go_at_call 25; refine (rFloor_calls _ _ (by omega) (by omega) (by omega) _).mono ?_; rintro e w' ⟨rfl, ⟨nd, rfl⟩⟩) | (go_at_call 18; refine (rOf_calls _ (by omega) (by omega) _).mono ?_; rintro e w' ⟨rfl, ⟨nd, rfl⟩⟩))
  go_ret2
  exact ⟨by rw [V.out]; rfl, ⟨_, rfl⟩⟩
theorem mul_V {a b : Int} (ha : U a) (hb : U b) : (0 ≤ a % 65536 * b ∧ a % 65536 * b ≤ 281474976710656) ∧ (0 ≤ a / 65536 * (b % 65536) ∧ a / 65536 * (b % 65536) ≤ 4294836225) ∧ (a % 65536 * b + a / 65536 * (b % 65536) * 65536) % 4294967296 = a * b % 4294967296 := by
  obtain ⟨hc, hd⟩ := half_le ha
  obtain ⟨he, hf⟩ := half_le hb
  have m2 := mul_half hc hf
  have hb' := hb
  unfold U at hb'
  refine ⟨⟨Int.mul_nonneg hd.1 hb'.1, ?_⟩, m2, ?_⟩
  · calc a % 65536 * b ≤ 65535 * 4294967295 := Int.mul_le_mul hd.2 hb'.2 hb'.1 (by decide)
      _ ≤ 281474976710656 := by decide
  · have ea : a = a / 65536 * 65536 + a % 65536 := by omega
    have eb : b = b / 65536 * 65536 + b % 65536 := by omega
    have e3 : a * b = (a % 65536 * b + a / 65536 * (b % 65536) * 65536) + 4294967296 * (a / 65536 * (b / 65536)) := by
      generalize a / 65536 = c at *
      generalize a % 65536 = d at *
      generalize b / 65536 = e at *
      generalize b % 65536 = f at *
      grind
    rw [e3, Int.add_mul_emod_self_left]
theorem rDo_MUL (a b : Int) (ha : U a) (hb : U b) (w : World) : Calls Try.prog 13 #[.int .i64 11, .int .u32 a, .int .u32 b] w fun e w' => e = .returned (.tuple #[.int .u32 (doV 11 a b), .bool true]) ∧ Dr w w' := by
  have a0 := ha.1
  have a1 := ha.2
  have b0 := hb.1
  have b1 := hb.2
  have V := Aside.mk (show doV 11 a b = a * b % 4294967296 by simp [doV])
  obtain ⟨⟨s0, s1⟩, ⟨s2, s3⟩, s4⟩ := mul_V ha hb
  have S4 := Aside.mk s4
  clear s4
  go_enter Try.func13, Try.ntmps13
  go_wp2_with (first | ((go_at_call 16); (first | (with_reducible refine (rSigned_calls a ha _).mono ?_) | (with_reducible refine (rSigned_calls b hb _).mono ?_)); (rintro e w' ⟨rfl, ⟨nd, rfl⟩⟩)) | (go_at_call 18; refine (rOf_calls _ (by omega) (by omega) _).mono ?_; rintro e w' ⟨rfl, ⟨nd, rfl⟩⟩))
  go_ret2
  exact ⟨by rw [V.out, ← S4.out]; rfl, ⟨_, rfl⟩⟩
theorem rDo_MULH (a b : Int) (ha : U a) (hb : U b) (w : World) : Calls Try.prog 13 #[.int .i64 12, .int .u32 a, .int .u32 b] w fun e w' => e = .returned (.tuple #[.int .u32 (doV 12 a b), .bool true]) ∧ Dr w w' := by
  have a0 := ha.1
  have a1 := ha.2
  have b0 := hb.1
  have b1 := hb.2
  have sa := sgn_range ha
  have sb := sgn_range hb
  have V := Aside.mk (show doV 12 a b = sgn a * sgn b / 4294967296 % 4294967296 by simp [doV])
  obtain ⟨m0, m1⟩ := mul_S sa sb
  go_enter Try.func13, Try.ntmps13
  go_wp2_with (first | ((go_at_call 16); (first | (with_reducible refine (rSigned_calls a ha _).mono ?_) | (with_reducible refine (rSigned_calls b hb _).mono ?_)); (rintro e w' ⟨rfl, ⟨nd, rfl⟩⟩)) | (go_at_call 25; refine (rFloor_calls _ _ (by omega) (by omega) (by omega) _).mono ?_; rintro e w' ⟨rfl, ⟨nd, rfl⟩⟩) | (go_at_call 18; refine (rOf_calls _ (by omega) (by omega) _).mono ?_; rintro e w' ⟨rfl, ⟨nd, rfl⟩⟩))
  go_ret2
  exact ⟨by rw [V.out]; rfl, ⟨_, rfl⟩⟩
theorem rDo_divided (op : Int) (a b : Int) (ha : U a) (hb : U b) (h : ¬ (1 ≤ op ∧ op ≤ 13)) (w : World) : Calls Try.prog 13 #[.int .i64 op, .int .u32 a, .int .u32 b] w fun e w' => e = .returned (.tuple #[.int .u32 (doV op a b), .bool (doB op)]) ∧ Dr w w' := by
  have a0 := ha.1
  have a1 := ha.2
  have b0 := hb.1
  have b1 := hb.2
  have n1 : (op == 1) = false := beq_eq_false_iff_ne.2 (by omega)
  have n2 : (op == 2) = false := beq_eq_false_iff_ne.2 (by omega)
  have n3 : (op == 3) = false := beq_eq_false_iff_ne.2 (by omega)
  have n4 : (op == 4) = false := beq_eq_false_iff_ne.2 (by omega)
  have n5 : (op == 5) = false := beq_eq_false_iff_ne.2 (by omega)
  have n6 : (op == 6) = false := beq_eq_false_iff_ne.2 (by omega)
  have n7 : (op == 7) = false := beq_eq_false_iff_ne.2 (by omega)
  have n8 : (op == 8) = false := beq_eq_false_iff_ne.2 (by omega)
  have n9 : (op == 9) = false := beq_eq_false_iff_ne.2 (by omega)
  have n10 : (op == 10) = false := beq_eq_false_iff_ne.2 (by omega)
  have n11 : (op == 11) = false := beq_eq_false_iff_ne.2 (by omega)
  have n12 : (op == 12) = false := beq_eq_false_iff_ne.2 (by omega)
  have n13 : (op == 13) = false := beq_eq_false_iff_ne.2 (by omega)
  go_enter Try.func13, Try.ntmps13
  go_wp2_with (first | ((go_at_call 16); (first | (with_reducible refine (rSigned_calls a ha _).mono ?_) | (with_reducible refine (rSigned_calls b hb _).mono ?_)); (rintro e w' ⟨rfl, ⟨nd, rfl⟩⟩)) | (go_at_call 27; refine (rDiv_calls _ _ _ ha hb h _).mono ?_; rintro e w' ⟨rfl, ⟨nd, rfl⟩⟩))
  go_ret2
  exact ⟨by rfl, ⟨_, rfl⟩⟩
/-- solderref01.Do: each operation of words. -/
theorem rDo_calls (op a b : Int) (ha : U a) (hb : U b) (w : World) : Calls Try.prog 13 #[.int .i64 op, .int .u32 a, .int .u32 b] w fun e w' => e = .returned (.tuple #[.int .u32 (doV op a b), .bool (doB op)]) ∧ Dr w w' := by
  by_cases h : 1 ≤ op ∧ op ≤ 13
  · have hE : doB op = true := by simp [doB]; omega
    rw [hE]
    have hop : op = 1 ∨ op = 2 ∨ op = 3 ∨ op = 4 ∨ op = 5 ∨ op = 6 ∨ op = 7 ∨ op = 8 ∨ op = 9 ∨ op = 10 ∨ op = 11 ∨ op = 12 ∨ op = 13 := by omega
    rcases hop with rfl | rfl | rfl | rfl | rfl | rfl | rfl | rfl | rfl | rfl | rfl | rfl | rfl
    · exact rDo_ADD a b ha hb w
    · exact rDo_SUB a b ha hb w
    · exact rDo_SLL a b ha hb w
    · by_cases c : sgn a < sgn b
      · exact rDo_SLT a b ha hb c w
      · exact rDo_SLT0 a b ha hb c w
    · by_cases c : a < b
      · exact rDo_SLTU a b ha hb c w
      · exact rDo_SLTU0 a b ha hb c w
    · exact rDo_XOR a b ha hb w
    · exact rDo_SRL a b ha hb w
    · exact rDo_SRA a b ha hb w
    · exact rDo_OR a b ha hb w
    · exact rDo_AND a b ha hb w
    · exact rDo_MUL a b ha hb w
    · exact rDo_MULH a b ha hb w
    · exact rDo_MULHU a b ha hb w
  · exact rDo_divided op a b ha hb h w
end Go.Proofs.Ytgpalngmgpdgjaa
