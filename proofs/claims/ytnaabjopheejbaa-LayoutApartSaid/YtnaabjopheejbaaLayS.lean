/- LayoutSums, walked. -/
import Derived.Test.YtnaabjopheejbaaLayP
namespace Go.Proofs.Ytnaabjopheejbaa
open Go.RowKit
set_option linter.unusedVariables false
set_option linter.unusedSimpArgs false
set_option maxRecDepth 100000 in
set_option maxHeartbeats 1000000 in
theorem sums_any (A : Option Addr) (n c : Nat) (t d : Nat → Nat) (w : World) (h : Sizes w A n c t d) :
    Calls Try.prog 6 #[.slice A n c] w fun e w' => e = .returned (.bool true) ∧ Kp w w' := by
  by_cases hn : 12 < n
  · go_enter Try.func6, Try.ntmps6
    go_wp2_with ((go_at_call 8); (refine (awake07_calls _).mono ?_); (rintro e w1 ⟨rfl, kpa⟩))
    go_ret
    exact ⟨rfl, by repeat (first | exact Kp.refl _ | assumption | exact Dr.kp (by assumption) | refine Kp.drewN ?_ _ | refine Kp.drew ?_ | refine Kp.alloc ?_ _ | refine Kp.setCell ?_ (by first | exact Nat.le_refl _ | assumption | omega) _ | refine Kp.trans ?_ (by assumption) | refine Kp.trans ?_ (Dr.kp (by assumption)))⟩
  · have ht := sumTo_le t 65535 n h.ht
    have hd := sumTo_le d 65535 n h.hd
    go_enter Try.func6, Try.ntmps6
    go_wp2_with ((go_at_call 8); (refine (awake07_calls _).mono ?_); (rintro e w1 ⟨rfl, kpa⟩))
    have h1 := h.kept kpa
    replace h1 := Aside.mk h1
    go_loopw [3, 19] (fun s i wr => ∃ k : Nat, k ≤ n ∧ i = .int .i64 k ∧ s = .int .i64 ((12 + (4 * sumTo t k + sumTo d k) : Nat) : Int) ∧ Kp w1 wr) (fun _ i _ => n - (intOf i).toNat)
    case atStart => exact ⟨0, Nat.zero_le _, rfl, rfl, Kp.refl _⟩
    case round =>
      obtain ⟨k, hk, rfl, rfl, kp⟩ := hrel
      by_cases hlt : k < n
      · obtain ⟨g, o, rfl, hg, hc⟩ := h1.out.at_ (by omega)
        have e1 := (kp.cell (p := ⟨g, o + k * 2, none⟩) hg).trans (hc k hlt).1
        have e2 := (kp.cell (p := ⟨g, o + k * 2 + 1, none⟩) hg).trans (hc k hlt).2
        have b1 := h1.out.ht k hlt
        have b2 := h1.out.hd k hlt
        have b3 : sumTo t k + t k ≤ n * 65535 := Nat.le_trans (sumTo_mono t (show k + 1 ≤ n by omega)) ht
        have b4 : sumTo d k + d k ≤ n * 65535 := Nat.le_trans (sumTo_mono d (show k + 1 ≤ n by omega)) hd
        clear hc
        go_wp2
        go_roundw
        case rel => exact ⟨k + 1, by omega, by go_num, by simp only [sumTo]; go_num, by repeat (first | exact Kp.refl _ | assumption | exact Dr.kp (by assumption) | refine Kp.drewN ?_ _ | refine Kp.drew ?_ | refine Kp.alloc ?_ _ | refine Kp.setCell ?_ (by first | exact Nat.le_refl _ | assumption | omega) _ | refine Kp.trans ?_ (by assumption) | refine Kp.trans ?_ (Dr.kp (by assumption)))⟩
        case measure => simp [intOf]; omega
      · obtain rfl : n = k := by omega
        go_wp2_with fail
        refine ((h1.out.kept kp).objects (by omega)).mono ?_
        rintro e w2 ⟨v, xs, rfl, kp2, hown, hobj⟩
        go_wp2_with fail
        refine (lay_own hown hobj (by omega) (by omega) (by omega)).mono ?_
        intro e w3 hlay
        have hb : 12 + 4 * sumTo t n ≤ base t n ∧ base t n ≤ 12 + 4 * sumTo t n + 7 := by unfold base; omega
        by_cases hlong : 2097152 < base t n + sumTo d n
        · obtain ⟨rfl, kp3⟩ := lay_long hlay hlong
          go_wp2
          go_ret
          exact ⟨by simp; omega, by repeat (first | exact Kp.refl _ | assumption | exact Dr.kp (by assumption) | refine Kp.drewN ?_ _ | refine Kp.drew ?_ | refine Kp.alloc ?_ _ | refine Kp.setCell ?_ (by first | exact Nat.le_refl _ | assumption | omega) _ | refine Kp.trans ?_ (by assumption) | refine Kp.trans ?_ (Dr.kp (by assumption)))⟩
        · obtain ⟨rfl, kp3, hrow⟩ := lay_short hlay (by omega)
          go_wp2
          go_ret
          exact ⟨by simp; omega, by repeat (first | exact Kp.refl _ | assumption | exact Dr.kp (by assumption) | refine Kp.drewN ?_ _ | refine Kp.drew ?_ | refine Kp.alloc ?_ _ | refine Kp.setCell ?_ (by first | exact Nat.le_refl _ | assumption | omega) _ | refine Kp.trans ?_ (by assumption) | refine Kp.trans ?_ (Dr.kp (by assumption)))⟩
end Go.Proofs.Ytnaabjopheejbaa
