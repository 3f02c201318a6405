/- LayoutPlaces, walked. -/
import Derived.Test.YtnaabjopheejbaaLayM
namespace Go.Proofs.Ytnaabjopheejbaa
open Go.RowKit
set_option linter.unusedVariables false
set_option linter.unusedSimpArgs false
/-- Sizes that came in: so many pairs of numbers of 16 bits. -/
structure Sizes (w : World) (A : Option Addr) (n c : Nat) (t d : Nat → Nat) : Prop where
  at_ : 0 < n → ∃ g o, A = some ⟨g, o, none⟩ ∧ g < w.heap.size ∧ ∀ i, i < n → w.cell? ⟨g, o + i * 2, none⟩ = some (.int .u16 (t i)) ∧ w.cell? ⟨g, o + i * 2 + 1, none⟩ = some (.int .u16 (d i))
  ht : ∀ i, i < n → t i ≤ 65535
  hd : ∀ i, i < n → d i ≤ 65535
  nil_ : A = none → n = 0 ∧ c = 0
theorem Sizes.kept {w w' : World} {A : Option Addr} {n c : Nat} {t d : Nat → Nat} (h : Sizes w A n c t d) (k : Kp w w') : Sizes w' A n c t d := by
  refine ⟨fun hn => ?_, h.ht, h.hd, h.nil_⟩
  obtain ⟨g, o, hA, hg, hc⟩ := h.at_ hn
  exact ⟨g, o, hA, Nat.lt_of_lt_of_le hg k.size, fun i hi => ⟨(k.cell hg).trans (hc i hi).1, (k.cell hg).trans (hc i hi).2⟩⟩
theorem Sizes.objects {w : World} {A : Option Addr} {n c : Nat} {t d : Nat → Nat} (h : Sizes w A n c t d) (hn : n ≤ 1000) : Calls Try.prog 9 #[.slice A n c] w (ObjR w n t d) := by
  by_cases h0 : 0 < n
  · obtain ⟨g, o, hA, hg, hc⟩ := h.at_ h0
    exact obj_calls A g o n c (fun _ => hA) t d w hn (fun _ => hg) (fun i hi => (hc i hi).1) (fun i hi => (hc i hi).2) h.ht h.hd
  · exact obj_calls A 0 0 n c (fun h => absurd h h0) t d w hn (fun h => absurd h h0) (fun i hi => absurd hi (by omega)) (fun i hi => absurd hi (by omega)) h.ht h.hd
set_option maxRecDepth 100000 in
set_option maxHeartbeats 1000000 in
theorem places_any (A : Option Addr) (n c : Nat) (t d : Nat → Nat) (w : World) (h : Sizes w A n c t d) :
    Calls Try.prog 3 #[.slice A n c] w fun e w' => e = .returned (.bool true) ∧ Kp w w' := by
  by_cases hn : 12 < n
  · go_enter Try.func3, Try.ntmps3
    go_wp2_with ((go_at_call 8); (refine (awake07_calls _).mono ?_); (rintro e w1 ⟨rfl, kpa⟩))
    go_ret
    exact ⟨rfl, by repeat (first | exact Kp.refl _ | assumption | exact Dr.kp (by assumption) | refine Kp.drewN ?_ _ | refine Kp.drew ?_ | refine Kp.alloc ?_ _ | refine Kp.setCell ?_ (by first | exact Nat.le_refl _ | assumption | omega) _ | refine Kp.trans ?_ (by assumption) | refine Kp.trans ?_ (Dr.kp (by assumption)))⟩
  · have ht := sumTo_le t 65535 n h.ht
    have hd := sumTo_le d 65535 n h.hd
    go_enter Try.func3, Try.ntmps3
    go_wp2_with ((go_at_call 8); (refine (awake07_calls _).mono ?_); (rintro e w1 ⟨rfl, kpa⟩))
    refine ((h.kept kpa).objects (by omega)).mono ?_
    rintro e w2 ⟨v, xs, rfl, kp2, hown, hobj⟩
    go_wp2_with fail
    refine (lay_own hown hobj (by omega) (by omega) (by omega)).mono ?_
    intro e w3 hlay
    by_cases hlong : 2097152 < base t n + sumTo d n
    · obtain ⟨rfl, kp3⟩ := lay_long hlay hlong
      go_wp2_with fail
      refine (ref_own (Kp.own hown kp3) hobj (by omega) (by omega) (by omega)).mono ?_
      rintro e w4 ⟨kp4, ⟨_, rfl⟩ | ⟨hs, _⟩⟩
      · go_wp2
        go_loopw [59] (fun i wr => i = .int .i64 0 ∧ wr = w4) (fun _ _ => 0)
        case atStart => exact ⟨rfl, rfl⟩
        case round =>
          obtain ⟨rfl, rfl⟩ := hrel
          go_wp2
          go_ret
          exact ⟨rfl, by repeat (first | exact Kp.refl _ | assumption | exact Dr.kp (by assumption) | refine Kp.drewN ?_ _ | refine Kp.drew ?_ | refine Kp.alloc ?_ _ | refine Kp.setCell ?_ (by first | exact Nat.le_refl _ | assumption | omega) _ | refine Kp.trans ?_ (by assumption) | refine Kp.trans ?_ (Dr.kp (by assumption)))⟩
      · omega
    · obtain ⟨rfl, kp3, hrow⟩ := lay_short hlay (by omega)
      go_wp2_with fail
      refine (ref_own (Kp.own hown kp3) hobj (by omega) (by omega) (by omega)).mono ?_
      rintro e w4 ⟨kp4, ⟨hs, _⟩ | ⟨_, rv, rfl, hrown⟩⟩
      · omega
      · replace hrow := Kp.row hrow kp4
        rcases hrown.2 with ⟨hv, hz⟩ | ⟨rg, rcap, cur, hv, hb, hg, _⟩
        · subst hv
          go_wp2
          go_loopw [59] (fun i wr => i = .int .i64 0 ∧ wr = w4) (fun _ _ => 0)
          case atStart => exact ⟨rfl, rfl⟩
          case round =>
            obtain ⟨rfl, rfl⟩ := hrel
            go_wp2
            go_ret
            exact ⟨rfl, by repeat (first | exact Kp.refl _ | assumption | exact Dr.kp (by assumption) | refine Kp.drewN ?_ _ | refine Kp.drew ?_ | refine Kp.alloc ?_ _ | refine Kp.setCell ?_ (by first | exact Nat.le_refl _ | assumption | omega) _ | refine Kp.trans ?_ (by assumption) | refine Kp.trans ?_ (Dr.kp (by assumption)))⟩
        · subst hv
          go_wp2
          go_loopw [59] (fun i wr => ∃ k : Nat, k ≤ n ∧ i = .int .i64 k ∧ Dr w4 wr) (fun i _ => n - (intOf i).toNat)
          case atStart => exact ⟨0, Nat.zero_le _, rfl, Dr.refl _⟩
          case round =>
            obtain ⟨k, hk, rfl, ⟨m, rfl⟩⟩ := hrel
            by_cases hlt : k < n
            · have e1 := hrow.cell (i := k * 2) (by omega)
              have e2 := hrow.cell (i := k * 2 + 1) (by omega)
              rw [lay2_even t d n k hlt] at e1
              rw [lay2_odd t d n k hlt] at e2
              have f1 := (hrown.cellAt (g := rg) (cap := rcap) (k * 2) (by omega)).trans (rcells_at t d n n k hlt).1
              have f2 := (hrown.cellAt (g := rg) (cap := rcap) (k * 2 + 1) (by omega)).trans (rcells_at t d n n k hlt).2
              go_wp2
              go_quiet (fail)
              go_wp2
              go_roundw
              case rel => exact ⟨k + 1, by omega, by go_num, ⟨_, rfl⟩⟩
              case measure => simp [intOf]; omega
            · obtain rfl : n = k := by omega
              go_wp2
              go_ret
              exact ⟨rfl, by repeat (first | exact Kp.refl _ | assumption | exact Dr.kp (by assumption) | refine Kp.drewN ?_ _ | refine Kp.drew ?_ | refine Kp.alloc ?_ _ | refine Kp.setCell ?_ (by first | exact Nat.le_refl _ | assumption | omega) _ | refine Kp.trans ?_ (by assumption) | refine Kp.trans ?_ (Dr.kp (by assumption)))⟩
end Go.Proofs.Ytnaabjopheejbaa
