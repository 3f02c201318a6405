/- What the reference's functions of layer 1 (words) come to: each call returns its plain value. Condition: the arguments are words. -/
import Derived.Test.YtgpalngmgpdgjaaWordWalks
namespace Go.Proofs.Ytgpalngmgpdgjaa
open Go.RowKit Go.Proofs.Ytgpalngmgpdgjaa.PW
set_option linter.unusedVariables false
set_option linter.unusedSimpArgs false

theorem rSigned_calls (a : Int) (ha : U a) (w : World) : Calls Try.prog 16 #[.int .u32 a] w fun e w' => e = .returned (.int .i64 (sgn a)) ∧ Dr w w' := by
  have h0 := ha.1
  have h1 := ha.2
  by_cases h : 2147483648 ≤ a
  · have E := Aside.mk (show sgn a = a - 4294967296 by unfold sgn; rw [if_pos h])
    go_enter Try.func16, Try.ntmps16
    go_wp2
    go_ret
    exact ⟨by rw [E.out]; rfl, Dr.refl _⟩
  · have E := Aside.mk (show sgn a = a by unfold sgn; rw [if_neg h])
    go_enter Try.func16, Try.ntmps16
    go_wp2
    go_ret
    exact ⟨by rw [E.out]; rfl, Dr.refl _⟩
theorem rOf_calls (n : Int) (h0 : -9223372036854775808 ≤ n) (h1 : n ≤ 9223372036854775807) (w : World) : Calls Try.prog 18 #[.int .i64 n] w fun e w' => e = .returned (.int .u32 (n % 4294967296)) ∧ Dr w w' := by
  have hm : -4294967296 < Int.tmod n 4294967296 ∧ Int.tmod n 4294967296 < 4294967296 ∧ (Int.tmod n 4294967296) % 4294967296 = n % 4294967296 := by
    by_cases h : 0 ≤ n
    · rw [tmod_pos h]; omega
    · have e := Int.neg_tmod (-n) 4294967296
      rw [Int.neg_neg] at e
      rw [e, tmod_pos (n := -n) (by omega)]; omega
  generalize hr : Int.tmod n 4294967296 = r at hm
  obtain ⟨r0, r1, r2⟩ := hm
  have R2 := Aside.mk r2
  clear r2
  by_cases h : r < 0
  all_goals
    go_enter Try.func18, Try.ntmps18
    go_wp2
    go_ret
    refine ⟨?_, Dr.refl _⟩
    have := R2.out
    show Ending.returned (Value.int IntKind.u32 _) = _
    congr 2
    omega
theorem rPower_calls (n : Nat) (hn : n ≤ 62) (w : World) : Calls Try.prog 23 #[.int .i64 n] w fun e w' => e = .returned (.int .i64 (2 ^ n)) ∧ Dr w w' := by
  go_enter Try.func23, Try.ntmps23
  go_wp2
  go_loop [3, 4] (fun p i => ∃ j : Nat, j ≤ n ∧ i = .int .i64 j ∧ p = .int .i64 (2 ^ j)) (fun _ i => n - (intOf i).toNat)
  case atStart => exact ⟨0, Nat.zero_le _, rfl, rfl⟩
  case round =>
    obtain ⟨j, hj, rfl, rfl⟩ := hrel
    have hb : (2 : Int) ^ j ≤ 2 ^ 62 := by
      have : (2 : Nat) ^ j ≤ 2 ^ 62 := Nat.pow_le_pow_right (by decide) (by omega)
      exact_mod_cast this
    have hb1 : (2 : Int) ^ j * 2 = 2 ^ (j + 1) := (Int.pow_succ ..).symm
    have hp : (0 : Int) < 2 ^ j := Int.pow_pos (by decide)
    have B := Aside.mk hb
    have B1 := Aside.mk hb1
    have B2 := Aside.mk hp
    clear hb hb1 hp
    by_cases hlt : j < n
    · go_wp2
      go_round
      case rel =>
        refine ⟨j + 1, by omega, by go_num, ?_⟩
        have := B.out
        have := B2.out
        have hw : wrap64 (2 ^ j * 2) = 2 ^ j * 2 := wrap64_id (by
          have hb2 : (2 : Int) ^ j * 2 ≤ 2 ^ 62 := by
            rw [B1.out]
            have : (2 : Nat) ^ (j + 1) ≤ 2 ^ 62 := Nat.pow_le_pow_right (by decide) (by omega)
            exact_mod_cast this
          omega)
        first | rw [hw, B1.out] | rw [B1.out]
      case measure => simp [intOf]; omega
    · obtain rfl : j = n := by omega
      go_wp2
      go_ret
      exact ⟨rfl, Dr.refl _⟩
theorem floor_V {x m : Int} (hm : 1 ≤ m) : (Int.tmod x m < 0 → Int.tdiv x m - 1 = x / m) ∧ (¬ Int.tmod x m < 0 → Int.tdiv x m = x / m) := by
  have h1 := Int.tdiv_eq_ediv (a := x) (b := m)
  have h2 := Int.tmod_eq_emod (a := x) (b := m)
  have h3 := Int.emod_nonneg x (b := m) (by omega)
  have h4 := Int.emod_lt_of_pos x (b := m) (by omega)
  have h5 : m.sign = 1 := Int.sign_eq_one_of_pos (by omega)
  by_cases c : 0 ≤ x ∨ m ∣ x
  · rw [if_pos c] at h1 h2
    omega
  · rw [if_neg c] at h1 h2
    rw [h5] at h1
    omega
theorem tdiv_le {x m : Int} : -(x.natAbs : Int) ≤ Int.tdiv x m ∧ Int.tdiv x m ≤ x.natAbs := by
  have h : (Int.tdiv x m).natAbs ≤ x.natAbs := by rw [Int.natAbs_tdiv]; exact Nat.div_le_self _ _
  omega
theorem rFloor_calls (x m : Int) (hx : -9223372036854775807 ≤ x) (hx' : x ≤ 9223372036854775807) (hm : 1 ≤ m) (w : World) : Calls Try.prog 25 #[.int .i64 x, .int .i64 m] w fun e w' => e = .returned (.int .i64 (x / m)) ∧ Dr w w' := by
  have b1 := tdiv_le (x := x) (m := m)
  have b2 : -9223372036854775807 ≤ Int.tdiv x m := by omega
  have b3 : Int.tdiv x m ≤ 9223372036854775807 := by omega
  have V := Aside.mk (floor_V (x := x) hm)
  clear b1
  by_cases h : Int.tmod x m < 0
  · go_enter Try.func25, Try.ntmps25
    go_wp2
    go_ret
    refine ⟨?_, Dr.refl _⟩
    rw [← V.out.1 h]; rfl
  · go_enter Try.func25, Try.ntmps25
    go_wp2
    go_ret
    refine ⟨?_, Dr.refl _⟩
    rw [← V.out.2 h]; rfl
theorem half_le {a : Int} (h : U a) : (0 ≤ a / 65536 ∧ a / 65536 ≤ 65535) ∧ (0 ≤ a % 65536 ∧ a % 65536 ≤ 65535) := by unfold U at h; omega
theorem mul_half {c f : Int} (h : 0 ≤ c ∧ c ≤ 65535) (g : 0 ≤ f ∧ f ≤ 65535) : 0 ≤ c * f ∧ c * f ≤ 4294836225 :=
  ⟨Int.mul_nonneg h.1 g.1, by
    calc c * f ≤ 65535 * 65535 := Int.mul_le_mul h.2 g.2 g.1 (by decide)
      _ = 4294836225 := by decide⟩
theorem upper_V {a b : Int} (ha : U a) (hb : U b) : a / 65536 * (b / 65536) + (a / 65536 * (b % 65536) + a % 65536 * (b / 65536) + a % 65536 * (b % 65536) / 65536) / 65536 = a * b / 4294967296 := by
  obtain ⟨hc, hd⟩ := half_le ha
  obtain ⟨he, hf⟩ := half_le hb
  have m1 := mul_half hc he
  have m2 := mul_half hc hf
  have m3 := mul_half hd he
  have m4 := mul_half hd hf
  have ea : a = a / 65536 * 65536 + a % 65536 := by omega
  have eb : b = b / 65536 * 65536 + b % 65536 := by omega
  have hm := mul_U ha hb
  have em : a * b = 4294967296 * (a / 65536 * (b / 65536)) + 65536 * (a / 65536 * (b % 65536) + a % 65536 * (b / 65536)) + a % 65536 * (b % 65536) := by
    generalize a / 65536 = c at *
    generalize a % 65536 = d at *
    generalize b / 65536 = e at *
    generalize b % 65536 = f at *
    rw [ea, eb]
    grind
  rw [em] at hm ⊢
  generalize a / 65536 * (b / 65536) = x1 at *
  generalize a / 65536 * (b % 65536) = x2 at *
  generalize a % 65536 * (b / 65536) = x3 at *
  generalize a % 65536 * (b % 65536) = x4 at *
  clear em ea eb
  omega
theorem rUpper_calls (a b : Int) (ha : U a) (hb : U b) (w : World) : Calls Try.prog 26 #[.int .u32 a, .int .u32 b] w fun e w' => e = .returned (.int .u32 (a * b / 4294967296)) ∧ Dr w w' := by
  have V := Aside.mk (upper_V ha hb)
  obtain ⟨⟨c0, c1⟩, ⟨d0, d1⟩⟩ := half_le ha
  obtain ⟨⟨e0, e1⟩, ⟨f0, f1⟩⟩ := half_le hb
  obtain ⟨m0, m1⟩ := mul_half ⟨c0, c1⟩ ⟨e0, e1⟩
  obtain ⟨m2, m3⟩ := mul_half ⟨c0, c1⟩ ⟨f0, f1⟩
  obtain ⟨m4, m5⟩ := mul_half ⟨d0, d1⟩ ⟨e0, e1⟩
  obtain ⟨m6, m7⟩ := mul_half ⟨d0, d1⟩ ⟨f0, f1⟩
  obtain ⟨a0, a1⟩ := ha
  obtain ⟨b0, b1⟩ := hb
  go_enter Try.func26, Try.ntmps26
  go_wp2
  go_ret
  exact ⟨by rw [← V.out]; rfl, Dr.refl _⟩
theorem rBits_xor (a b : Int) (ha : U a) (hb : U b) (w : World) : Calls Try.prog 24 #[.int .i64 1, .int .u32 a, .int .u32 b] w fun e w' => e = .returned (.int .u32 (Go.bits .xor .u32 a b)) ∧ Dr w w' := by
  have V := Aside.mk (bitsR_xor ha hb)
  have a0 := ha.1
  have b0 := hb.1
  go_enter Try.func24, Try.ntmps24
  go_wp2
  go_loopw [7, 8] (fun v7 v8 w' => ∃ j : Nat, j ≤ 32 ∧ v8 = .int .i64 j ∧ v7 = .int .u32 (bitsR 1 a b j) ∧ Dr w w') (fun _ i _ => 32 - (intOf i).toNat)
  case atStart => exact ⟨0, by omega, rfl, rfl, Dr.refl _⟩
  case round =>
    obtain ⟨j, hj, rfl, rfl, ⟨m, rfl⟩⟩ := hrel
    by_cases hlt : j < 32
    · have a1 : 0 ≤ a / 2 ^ j := Int.ediv_nonneg a0 (Int.le_of_lt (Int.pow_pos (by decide)))
      have b1 : 0 ≤ b / 2 ^ j := Int.ediv_nonneg b0 (Int.le_of_lt (Int.pow_pos (by decide)))
      rcases (show a / 2 ^ j % 2 = 0 ∨ a / 2 ^ j % 2 = 1 by omega) with hx | hx <;> rcases (show b / 2 ^ j % 2 = 0 ∨ b / 2 ^ j % 2 = 1 by omega) with hy | hy
      all_goals
        go_wp2
        go_quiet (fail)
        go_wp2
        go_roundw
        case rel => exact ⟨j + 1, by omega, by go_num, by rw [bitsR, hx, hy]; simp [zV], ⟨_, rfl⟩⟩
        case measure => simp [intOf]; omega
    · obtain rfl : j = 32 := by omega
      go_wp2
      go_ret
      exact ⟨by rw [← V.out]; rfl, ⟨_, rfl⟩⟩
theorem rBits_or (a b : Int) (ha : U a) (hb : U b) (w : World) : Calls Try.prog 24 #[.int .i64 2, .int .u32 a, .int .u32 b] w fun e w' => e = .returned (.int .u32 (Go.bits .or .u32 a b)) ∧ Dr w w' := by
  have V := Aside.mk (bitsR_or ha hb)
  have a0 := ha.1
  have b0 := hb.1
  go_enter Try.func24, Try.ntmps24
  go_wp2
  go_loopw [7, 8] (fun v7 v8 w' => ∃ j : Nat, j ≤ 32 ∧ v8 = .int .i64 j ∧ v7 = .int .u32 (bitsR 2 a b j) ∧ Dr w w') (fun _ i _ => 32 - (intOf i).toNat)
  case atStart => exact ⟨0, by omega, rfl, rfl, Dr.refl _⟩
  case round =>
    obtain ⟨j, hj, rfl, rfl, ⟨m, rfl⟩⟩ := hrel
    by_cases hlt : j < 32
    · have a1 : 0 ≤ a / 2 ^ j := Int.ediv_nonneg a0 (Int.le_of_lt (Int.pow_pos (by decide)))
      have b1 : 0 ≤ b / 2 ^ j := Int.ediv_nonneg b0 (Int.le_of_lt (Int.pow_pos (by decide)))
      rcases (show a / 2 ^ j % 2 = 0 ∨ a / 2 ^ j % 2 = 1 by omega) with hx | hx <;> rcases (show b / 2 ^ j % 2 = 0 ∨ b / 2 ^ j % 2 = 1 by omega) with hy | hy
      all_goals
        go_wp2
        go_quiet (fail)
        go_wp2
        go_roundw
        case rel => exact ⟨j + 1, by omega, by go_num, by rw [bitsR, hx, hy]; simp [zV], ⟨_, rfl⟩⟩
        case measure => simp [intOf]; omega
    · obtain rfl : j = 32 := by omega
      go_wp2
      go_ret
      exact ⟨by rw [← V.out]; rfl, ⟨_, rfl⟩⟩
theorem rBits_and (a b : Int) (ha : U a) (hb : U b) (w : World) : Calls Try.prog 24 #[.int .i64 3, .int .u32 a, .int .u32 b] w fun e w' => e = .returned (.int .u32 (Go.bits .and .u32 a b)) ∧ Dr w w' := by
  have V := Aside.mk (bitsR_and ha hb)
  have a0 := ha.1
  have b0 := hb.1
  go_enter Try.func24, Try.ntmps24
  go_wp2
  go_loopw [7, 8] (fun v7 v8 w' => ∃ j : Nat, j ≤ 32 ∧ v8 = .int .i64 j ∧ v7 = .int .u32 (bitsR 3 a b j) ∧ Dr w w') (fun _ i _ => 32 - (intOf i).toNat)
  case atStart => exact ⟨0, by omega, rfl, rfl, Dr.refl _⟩
  case round =>
    obtain ⟨j, hj, rfl, rfl, ⟨m, rfl⟩⟩ := hrel
    by_cases hlt : j < 32
    · have a1 : 0 ≤ a / 2 ^ j := Int.ediv_nonneg a0 (Int.le_of_lt (Int.pow_pos (by decide)))
      have b1 : 0 ≤ b / 2 ^ j := Int.ediv_nonneg b0 (Int.le_of_lt (Int.pow_pos (by decide)))
      rcases (show a / 2 ^ j % 2 = 0 ∨ a / 2 ^ j % 2 = 1 by omega) with hx | hx <;> rcases (show b / 2 ^ j % 2 = 0 ∨ b / 2 ^ j % 2 = 1 by omega) with hy | hy
      all_goals
        go_wp2
        go_quiet (fail)
        go_wp2
        go_roundw
        case rel => exact ⟨j + 1, by omega, by go_num, by rw [bitsR, hx, hy]; simp [zV], ⟨_, rfl⟩⟩
        case measure => simp [intOf]; omega
    · obtain rfl : j = 32 := by omega
      go_wp2
      go_ret
      exact ⟨by rw [← V.out]; rfl, ⟨_, rfl⟩⟩
end Go.Proofs.Ytgpalngmgpdgjaa
