/- The reference's small functions, walked. · The reference's rows, walked. · The reference's rows: what the walk goes by. -/
import Derived.Test.YtnbooljaodkedaaPlainPatch
import Derived.Test.YtnbooljaodkedaaPlainLnkB
import Derived.Deep.DeepCutAuto
import Derived.Deep.MidRow
import Derived.Deep.RegionHeld3
namespace Go.Proofs.Ytnbooljaodkedaa
open Go.RowKit Go.Maps Go.Proofs.Ytnbooljaodkedaa.PC
set_option linter.unusedVariables false
set_option linter.unusedSimpArgs false
theorem pow_le40 {n : Nat} (h : n ≤ 40) : (0 : Int) < 2 ^ n ∧ (2 : Int) ^ n ≤ 1099511627776 := by
  have h1 : (2 : Nat) ^ n ≤ 2 ^ 40 := Nat.pow_le_pow_right (by decide) h
  have h2 : (2 : Int) ^ n ≤ 2 ^ 40 := by exact_mod_cast h1
  have h3 : (2 : Int) ^ 40 = 1099511627776 := by decide
  exact ⟨Int.pow_pos (by decide), by omega⟩
set_option maxHeartbeats 1000000 in
theorem power_calls (n : Nat) (hn : n ≤ 40) (w : World) : Calls Try.prog 57 #[.int .i64 (n : Int)] w fun e w' => e = .returned (.int .i64 (2 ^ n)) ∧ Dr w w' := by
  go_enter Try.func57, Try.ntmps57
  go_wp2
  go_loopw [3, 4] (fun p i wr => ∃ k : Nat, k ≤ n ∧ i = .int .i64 k ∧ p = .int .i64 (2 ^ k) ∧ Dr w wr) (fun _ i _ => n - (intOf i).toNat)
  case atStart => exact ⟨0, Nat.zero_le _, rfl, rfl, Dr.refl _⟩
  case round =>
    obtain ⟨k, hk, rfl, rfl, ⟨m, rfl⟩⟩ := hrel
    have hp := pow_le40 (n := k) (by omega)
    by_cases hlt : k < n
    · have hs : (2 : Int) ^ (k + 1) = 2 ^ k * 2 := Int.pow_succ 2 k
      replace hs := Aside.mk hs
      generalize (2 : Int) ^ k = P at *
      go_wp2
      go_roundw
      case rel => exact ⟨k + 1, by omega, by go_num, by rw [hs.out], ⟨_, rfl⟩⟩
      case measure => simp [intOf]; omega
    · obtain rfl : n = k := by omega
      go_wp2
      go_ret
      exact ⟨rfl, ⟨_, rfl⟩⟩
theorem half_even {x : Int} (h : x % 2 = 0) : Int.tmod x 2 = 0 ∧ Int.tdiv x 2 = x / 2 := by
  obtain ⟨y, rfl⟩ : ∃ y, x = 2 * y := ⟨x / 2, by omega⟩
  refine ⟨Int.mul_tmod_right _ _, ?_⟩
  rw [Int.mul_tdiv_cancel_left _ (by decide)]
  omega
theorem half_odd {x : Int} (h : x % 2 = 1) : Int.tmod x 2 ≠ 0 ∧ Int.tdiv (x - 1) 2 = x / 2 := by
  refine ⟨?_, ?_⟩
  · intro e
    have := Int.dvd_of_tmod_eq_zero e
    omega
  · rw [(half_even (x := x - 1) (by omega)).2]; omega
theorem div_pow_succ (x : Int) (k : Nat) : x / 2 ^ (k + 1) = x / 2 ^ k / 2 := by
  rw [Int.pow_succ, Int.ediv_ediv_of_nonneg (Int.pow_nonneg (by decide))]
theorem tmod_fix {y P : Int} (hP : 0 < P) : (Int.tmod y P < 0 → Int.tmod y P + P = y % P) ∧ (¬Int.tmod y P < 0 → Int.tmod y P = y % P) ∧ -P < Int.tmod y P ∧ Int.tmod y P < P := by
  have h0 := Int.emod_nonneg y (Int.ne_of_gt hP)
  have h1 := Int.emod_lt_of_pos y hP
  have e := Int.tmod_eq_emod (a := y) (b := P)
  have ea : (P.natAbs : Int) = P := by omega
  split at e
  · refine ⟨fun h => by omega, fun h => by omega, by omega, by omega⟩
  · rename_i hh
    have h2 : y % P ≠ 0 := fun h => hh (Or.inr (Int.dvd_of_emod_eq_zero h))
    refine ⟨fun h => by omega, fun h => by omega, by omega, by omega⟩
set_option maxHeartbeats 1000000 in
theorem field_calls (x : Int) (f n : Nat) (hx : -9223372036854775808 ≤ x ∧ x ≤ 9223372036854775807) (hf : f ≤ 40) (hn : n ≤ 40) (w : World) :
    Calls Try.prog 39 #[.int .i64 x, .int .i64 (f : Int), .int .i64 (n : Int)] w fun e w' => e = .returned (.int .i64 (x / 2 ^ f % 2 ^ n)) ∧ Dr w w' := by
  go_enter Try.func39, Try.ntmps39
  go_wp2
  go_loopw [0, 7] (fun p i wr => ∃ k : Nat, k ≤ f ∧ i = .int .i64 k ∧ p = .int .i64 (x / 2 ^ k) ∧ Dr w wr) (fun _ i _ => f - (intOf i).toNat)
  case atStart => exact ⟨0, Nat.zero_le _, rfl, by simp, Dr.refl _⟩
  case round =>
    obtain ⟨k, hk, rfl, rfl, ⟨m, rfl⟩⟩ := hrel
    have hp := pow_le40 (n := k) (by omega)
    have hy : -9223372036854775808 ≤ x / 2 ^ k ∧ x / 2 ^ k ≤ 9223372036854775807 := by
      refine ⟨Int.le_ediv_of_mul_le hp.1 ?_, Int.ediv_le_of_le_mul hp.1 ?_⟩
      · have : -9223372036854775808 * 2 ^ k ≤ (-9223372036854775808 : Int) := by have h1 := hp.1; omega
        omega
      · have : (9223372036854775807 : Int) ≤ 9223372036854775807 * 2 ^ k := by have h1 := hp.1; omega
        omega
    by_cases hlt : k < f
    · have hs := div_pow_succ x k
      replace hs := Aside.mk hs
      generalize x / 2 ^ k = y at *
      clear hp
      rcases Int.emod_two_eq y with h2 | h2
      · obtain ⟨t1, t2⟩ := half_even h2
        clear h2
        go_wp2
        go_roundw
        case rel => exact ⟨k + 1, by omega, by go_num, by rw [hs.out], ⟨_, rfl⟩⟩
        case measure => simp [intOf]; omega
      · obtain ⟨t1, t2⟩ := half_odd h2
        have h3 : y ≠ -9223372036854775808 := by omega
        have h4 : -9223372036854775808 ≤ y - 1 := by omega
        clear h2
        go_wp2
        go_roundw
        case rel => exact ⟨k + 1, by omega, by go_num, by rw [hs.out], ⟨_, rfl⟩⟩
        case measure => simp [intOf]; omega
    · obtain rfl : f = k := by omega
      have hq := pow_le40 (n := n) hn
      generalize hye : x / 2 ^ f = y at *
      replace hye := Aside.mk hye
      have pc := fun w => power_calls n hn w
      replace pc := Aside.mk pc
      generalize hPe : (2 : Int) ^ n = P at *
      replace hPe := Aside.mk hPe
      obtain ⟨t1, t2, t3, t4⟩ := tmod_fix (y := y) hq.1
      replace t1 := Aside.mk t1
      replace t2 := Aside.mk t2
      have hq1 : P ≠ 0 := by omega
      by_cases ht : Int.tmod y P < 0
      · go_wp2_with ((go_at_call 57); (refine (pc.out _).mono ?_); (rintro e w1 ⟨rfl, hd⟩))
        go_ret
        have t5 := t1.out ht
        exact ⟨congrArg (fun b => Ending.returned (Value.int .i64 b)) (t5.trans (by rw [hye.out, hPe.out])), by repeat (first | exact Dr.refl _ | assumption | refine Dr.step ?_ _ | refine Dr.trans ?_ (by assumption))⟩
      · go_wp2_with ((go_at_call 57); (refine (pc.out _).mono ?_); (rintro e w1 ⟨rfl, hd⟩))
        go_ret
        have t5 := t2.out ht
        exact ⟨congrArg (fun b => Ending.returned (Value.int .i64 b)) (t5.trans (by rw [hye.out, hPe.out])), by repeat (first | exact Dr.refl _ | assumption | refine Dr.step ?_ _ | refine Dr.trans ?_ (by assumption))⟩
end Go.Proofs.Ytnbooljaodkedaa
namespace Go.Proofs.Ytnbooljaodkedaa
open Go.RowKit Go.Maps Go.Proofs.Ytnbooljaodkedaa.PC
set_option linter.unusedVariables false
set_option linter.unusedSimpArgs false
/-- A row of the reference's table. -/
def rowV (f : Fm) : Value := .agg #[.int .u8 f.kind, .int .i64 f.op, .int .i64 f.f3, .int .i64 f.f7, .int .i64 (if f.kind = 69 then 0 else f.rs2)]
def refOf (op : Int) : Value := match formOf op with | none => .agg #[.int .u8 0, .int .i64 0, .int .i64 0, .int .i64 0, .int .i64 0] | some f => rowV f
set_option maxHeartbeats 1000000 in
theorem rFits_calls (kd a b c d n : Int) (hk : kd = 0 ∨ kd = 82 ∨ kd = 73 ∨ kd = 72 ∨ kd = 83 ∨ kd = 66 ∨ kd = 85 ∨ kd = 74 ∨ kd = 69) (hn : -9223372036854775808 ≤ n ∧ n ≤ 9223372036854775807) (w : World) :
    Calls Try.prog 37 #[.agg #[.int .u8 kd, .int .i64 a, .int .i64 b, .int .i64 c, .int .i64 d], .int .i64 n] w fun e w' => e = .returned (.bool (decide (fitsK kd n))) ∧ Kp w w' := by
  have ht : Int.tmod n 2 = 0 ↔ n % 2 = 0 := ⟨fun h => by have := Int.dvd_of_tmod_eq_zero h; omega, fun h => (half_even h).1⟩
  replace ht := Aside.mk ht
  rcases hk with rfl | rfl | rfl | rfl | rfl | rfl | rfl | rfl | rfl <;>
  · go_enter Try.func37, Try.ntmps37
    go_wp2
    all_goals
      go_ret
      refine ⟨congrArg (fun b => Ending.returned (Value.bool b)) ?_, by repeat (with_reducible first | exact Kp.refl _ | assumption | exact Dr.kp (by assumption) | refine Kp.drewN ?_ _ | refine Kp.drew ?_ | refine Kp.alloc ?_ _ | refine Kp.setCell ?_ (by first | exact Nat.le_refl _ | assumption | omega) _ | refine Kp.trans ?_ (by assumption) | refine Kp.trans ?_ (Dr.kp (by assumption)))⟩
      rw [Bool.eq_iff_iff]
      have ht := ht.out
      simp [fitsK]
      try omega
set_option maxHeartbeats 1000000 in
theorem word_calls (op rd f3 rs1 rs2 f7 : Int) (h1 : 0 ≤ op ∧ op ≤ 1048576) (h2 : 0 ≤ rd ∧ rd ≤ 1048576) (h3 : 0 ≤ f3 ∧ f3 ≤ 1048576) (h4 : 0 ≤ rs1 ∧ rs1 ≤ 1048576) (h5 : 0 ≤ rs2 ∧ rs2 ≤ 1048576) (h6 : 0 ≤ f7 ∧ f7 ≤ 1048576) (w : World) :
    Calls Try.prog 38 #[.int .i64 op, .int .i64 rd, .int .i64 f3, .int .i64 rs1, .int .i64 rs2, .int .i64 f7] w fun e w' => e = .returned (.int .u32 ((op + 128 * rd + 4096 * f3 + 32768 * rs1 + 1048576 * rs2 + 33554432 * f7) % 4294967296)) ∧ w' = w := by
  go_enter Try.func38, Try.ntmps38
  go_wp2
  go_ret
  exact ⟨rfl, rfl⟩
end Go.Proofs.Ytnbooljaodkedaa
namespace Go.Proofs.Ytnbooljaodkedaa
open Go.RowKit Go.Maps Go.Proofs.Ytnbooljaodkedaa.PC
set_option linter.unusedVariables false
set_option linter.unusedSimpArgs false
theorem Kp.setCells {w0 : World} {b : Nat} (hb : w0.heap.size ≤ b) : ∀ (vs : List Value) (o : Nat) (w : World), Kp w0 w → Kp w0 (w.setCells b o vs)
  | [], _, _, h => h
  | v :: vs, o, w, h => Kp.setCells hb vs (o + 1) _ (h.setCell hb v)
theorem Blk.setCells {b b' : Nat} {cs : Array Value} {ty : TypeId} (hne : b' ≠ b) : ∀ (vs : List Value) (o : Nat) (w : World), Blk w b' cs ty → Blk (w.setCells b o vs) b' cs ty
  | [], _, _, h => h
  | v :: vs, o, w, h => Blk.setCells hne vs (o + 1) _ (h.far hne v)
theorem there_new (w : World) (zs : Array Value) (ty : TypeId) {b n : Nat} (hb : w.heap.size = b) (hn : zs.size = n) : (w.alloc (.cells zs ty)).there b 0 n := by
  subst hb hn
  intro j hj
  have hB := Blk.new w zs ty
  refine ⟨?_, ?_⟩
  · rw [hB.cell, Nat.zero_add, Array.getElem?_eq_getElem hj]; rfl
  · exact hB.frozen _
/-- The world behind a part: the result's block is there. -/
def OfW (w : World) (wx : World) : Prop := Kp w wx ∧ Blk wx w.heap.size #[.int .u8 0, .int .i64 0, .int .i64 0, .int .i64 0, .int .i64 0] 108
theorem OfW.start (w : World) : OfW w (w.alloc (.cells #[.int .u8 0, .int .i64 0, .int .i64 0, .int .i64 0, .int .i64 0] 108)) := ⟨(Kp.refl w).alloc _, Blk.new _ _ _⟩
theorem OfW.stored {w wx : World} {b : Nat} (h : OfW w wx) (zs : Array Value) (ty : TypeId) (cs : List Value) (hb : wx.heap.size = b) (hl : zs.size = cs.length) :
    OfW w ((wx.alloc (.cells zs ty)).setCells b 0 cs) ∧ w.heap.size < b ∧ ((wx.alloc (.cells zs ty)).setCells b 0 cs).rangeAt b 0 cs := by
  have h1 := h.2.lt
  subst hb
  exact ⟨⟨Kp.setCells h.1.size _ _ _ (h.1.alloc _), Blk.setCells (by omega) _ _ _ (h.2.alloc _)⟩, h1, World.rangeAt_setCells_same _ _ _ _ (by rw [← hl]; exact there_new wx zs ty rfl rfl)⟩
end Go.Proofs.Ytnbooljaodkedaa
