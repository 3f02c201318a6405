/- The reference's small functions, walked. -/
import Derived.Test.YtgcihcgclmdolaaCodeE
import Derived.Test.YtgcihcgclmdolaaCodeDp
namespace Go.Proofs.Ytgcihcgclmdolaa
open Go.RowKit Go.Maps Go.Proofs.Ytgcihcgclmdolaa.PC
set_option linter.unusedVariables false
set_option linter.unusedSimpArgs false
theorem pow_le40 {n : Nat} (h : n ≤ 40) : (0 : Int) < 2 ^ n ∧ (2 : Int) ^ n ≤ 1099511627776 := by
  have h1 : (2 : Nat) ^ n ≤ 2 ^ 40 := Nat.pow_le_pow_right (by decide) h
  have h2 : (2 : Int) ^ n ≤ 2 ^ 40 := by exact_mod_cast h1
  have h3 : (2 : Int) ^ 40 = 1099511627776 := by decide
  exact ⟨Int.pow_pos (by decide), by omega⟩
set_option maxHeartbeats 1000000 in
theorem power_calls (n : Nat) (hn : n ≤ 40) (w : World) : Calls Try.prog 47 #[.int .i64 (n : Int)] w fun e w' => e = .returned (.int .i64 (2 ^ n)) ∧ Dr w w' := by
  go_enter Try.func47, Try.ntmps47
  go_wp2
  go_loopw [3, 4] (fun p i wr => ∃ k : Nat, k ≤ n ∧ i = .int .i64 k ∧ p = .int .i64 (2 ^ k) ∧ Dr w wr) (fun _ i _ => n - (intOf i).toNat)
  case atStart => exact ⟨0, Nat.zero_le _, rfl, rfl, Dr.refl _⟩
  case round =>
    obtain ⟨k, hk, rfl, rfl, ⟨m, rfl⟩⟩ := hrel
    have hp := pow_le40 (n := k) (by omega)
    by_cases hlt : k < n
    · have hs : (2 : Int) ^ (k + 1) = 2 ^ k * 2 := Int.pow_succ 2 k
      replace hs := Aside.mk hs
      generalize (2 : Int) ^ k = P at *
      go_wp2
      go_roundw
      case rel => exact ⟨k + 1, by omega, by go_num, by rw [hs.out], ⟨_, rfl⟩⟩
      case measure => simp [intOf]; omega
    · obtain rfl : n = k := by omega
      go_wp2
      go_ret
      exact ⟨rfl, ⟨_, rfl⟩⟩
theorem half_even {x : Int} (h : x % 2 = 0) : Int.tmod x 2 = 0 ∧ Int.tdiv x 2 = x / 2 := by
  obtain ⟨y, rfl⟩ : ∃ y, x = 2 * y := ⟨x / 2, by omega⟩
  refine ⟨Int.mul_tmod_right _ _, ?_⟩
  rw [Int.mul_tdiv_cancel_left _ (by decide)]
  omega
theorem half_odd {x : Int} (h : x % 2 = 1) : Int.tmod x 2 ≠ 0 ∧ Int.tdiv (x - 1) 2 = x / 2 := by
  refine ⟨?_, ?_⟩
  · intro e
    have := Int.dvd_of_tmod_eq_zero e
    omega
  · rw [(half_even (x := x - 1) (by omega)).2]; omega
theorem div_pow_succ (x : Int) (k : Nat) : x / 2 ^ (k + 1) = x / 2 ^ k / 2 := by
  rw [Int.pow_succ, Int.ediv_ediv_of_nonneg (Int.pow_nonneg (by decide))]
theorem tmod_fix {y P : Int} (hP : 0 < P) : (Int.tmod y P < 0 → Int.tmod y P + P = y % P) ∧ (¬Int.tmod y P < 0 → Int.tmod y P = y % P) ∧ -P < Int.tmod y P ∧ Int.tmod y P < P := by
  have h0 := Int.emod_nonneg y (Int.ne_of_gt hP)
  have h1 := Int.emod_lt_of_pos y hP
  have e := Int.tmod_eq_emod (a := y) (b := P)
  have ea : (P.natAbs : Int) = P := by omega
  split at e
  · refine ⟨fun h => by omega, fun h => by omega, by omega, by omega⟩
  · rename_i hh
    have h2 : y % P ≠ 0 := fun h => hh (Or.inr (Int.dvd_of_emod_eq_zero h))
    refine ⟨fun h => by omega, fun h => by omega, by omega, by omega⟩
set_option maxHeartbeats 1000000 in
theorem field_calls (x : Int) (f n : Nat) (hx : -9223372036854775808 ≤ x ∧ x ≤ 9223372036854775807) (hf : f ≤ 40) (hn : n ≤ 40) (w : World) :
    Calls Try.prog 38 #[.int .i64 x, .int .i64 (f : Int), .int .i64 (n : Int)] w fun e w' => e = .returned (.int .i64 (x / 2 ^ f % 2 ^ n)) ∧ Dr w w' := by
  go_enter Try.func38, Try.ntmps38
  go_wp2
  go_loopw [0, 7] (fun p i wr => ∃ k : Nat, k ≤ f ∧ i = .int .i64 k ∧ p = .int .i64 (x / 2 ^ k) ∧ Dr w wr) (fun _ i _ => f - (intOf i).toNat)
  case atStart => exact ⟨0, Nat.zero_le _, rfl, by simp, Dr.refl _⟩
  case round =>
    obtain ⟨k, hk, rfl, rfl, ⟨m, rfl⟩⟩ := hrel
    have hp := pow_le40 (n := k) (by omega)
    have hy : -9223372036854775808 ≤ x / 2 ^ k ∧ x / 2 ^ k ≤ 9223372036854775807 := by
      refine ⟨Int.le_ediv_of_mul_le hp.1 ?_, Int.ediv_le_of_le_mul hp.1 ?_⟩
      · have : -9223372036854775808 * 2 ^ k ≤ (-9223372036854775808 : Int) := by have h1 := hp.1; omega
        omega
      · have : (9223372036854775807 : Int) ≤ 9223372036854775807 * 2 ^ k := by have h1 := hp.1; omega
        omega
    by_cases hlt : k < f
    · have hs := div_pow_succ x k
      replace hs := Aside.mk hs
      generalize x / 2 ^ k = y at *
      clear hp
      rcases Int.emod_two_eq y with h2 | h2
      · obtain ⟨t1, t2⟩ := half_even h2
        clear h2
        go_wp2
        go_roundw
        case rel => exact ⟨k + 1, by omega, by go_num, by rw [hs.out], ⟨_, rfl⟩⟩
        case measure => simp [intOf]; omega
      · obtain ⟨t1, t2⟩ := half_odd h2
        have h3 : y ≠ -9223372036854775808 := by omega
        have h4 : -9223372036854775808 ≤ y - 1 := by omega
        clear h2
        go_wp2
        go_roundw
        case rel => exact ⟨k + 1, by omega, by go_num, by rw [hs.out], ⟨_, rfl⟩⟩
        case measure => simp [intOf]; omega
    · obtain rfl : f = k := by omega
      have hq := pow_le40 (n := n) hn
      generalize hye : x / 2 ^ f = y at *
      replace hye := Aside.mk hye
      have pc := fun w => power_calls n hn w
      replace pc := Aside.mk pc
      generalize hPe : (2 : Int) ^ n = P at *
      replace hPe := Aside.mk hPe
      obtain ⟨t1, t2, t3, t4⟩ := tmod_fix (y := y) hq.1
      replace t1 := Aside.mk t1
      replace t2 := Aside.mk t2
      have hq1 : P ≠ 0 := by omega
      by_cases ht : Int.tmod y P < 0
      · go_wp2_with ((go_at_call 47); (refine (pc.out _).mono ?_); (rintro e w1 ⟨rfl, hd⟩))
        go_ret
        have t5 := t1.out ht
        exact ⟨congrArg (fun b => Ending.returned (Value.int .i64 b)) (t5.trans (by rw [hye.out, hPe.out])), by repeat (first | exact Dr.refl _ | assumption | refine Dr.step ?_ _ | refine Dr.trans ?_ (by assumption))⟩
      · go_wp2_with ((go_at_call 47); (refine (pc.out _).mono ?_); (rintro e w1 ⟨rfl, hd⟩))
        go_ret
        have t5 := t2.out ht
        exact ⟨congrArg (fun b => Ending.returned (Value.int .i64 b)) (t5.trans (by rw [hye.out, hPe.out])), by repeat (first | exact Dr.refl _ | assumption | refine Dr.step ?_ _ | refine Dr.trans ?_ (by assumption))⟩
end Go.Proofs.Ytgcihcgclmdolaa
