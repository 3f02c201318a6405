/- The reference's words of two instructions, walked: the words. -/
import Derived.Test.YtgifefkoldocmaaPatSt
import Derived.Deep.RegionHeld3
namespace Go.Proofs.Ytgifefkoldocmaa
open Go.RowKit Go.Maps Go.Proofs.Ytgifefkoldocmaa.PC
set_option linter.unusedVariables false
set_option linter.unusedSimpArgs false
def pF (x f n : Int) : Int := x / 2 ^ f.toNat % 2 ^ n.toNat
theorem pfield_calls (x f n : Int) (hx : -9223372036854775808 ≤ x ∧ x ≤ 9223372036854775807) (hf : 0 ≤ f ∧ f ≤ 40) (hn : 0 ≤ n ∧ n ≤ 40) (w : World) :
    Calls Try.prog 42 #[.int .i64 x, .int .i64 f, .int .i64 n] w fun e w' => e = .returned (.int .i64 (pF x f n)) ∧ Dr w w' := by
  have h := field_calls x f.toNat n.toNat hx (by omega) (by omega) w
  have e1 : ((f.toNat : Nat) : Int) = f := by omega
  have e2 : ((n.toNat : Nat) : Int) = n := by omega
  rw [e1, e2] at h
  exact h
theorem word_17 : (19 + 128 * 17 + 4096 * 0 + 32768 * 0 + 1048576 * pF 2 0 5 + 33554432 * pF 2 5 7) % 4294967296 = 2099347 := by decide
set_option maxRecDepth 100000 in
set_option maxHeartbeats 200000 in
theorem enc_17 (w : World) : Calls Try.prog 31 #[.agg #[.int .i64 18, .int .i64 17, .int .i64 0, .int .i64 0, .int .i64 2]] w fun e w' => e = .returned (.tuple #[.int .u32 (insW 18 17 0 0 2), .int .i64 0]) ∧ Kp w w' := by
  have oc := fun w => of_18 w
  rw [show refOf 18 = .agg #[.int .u8 73, .int .i64 19, .int .i64 0, .int .i64 0, .int .i64 (-1)] from rfl] at oc
  have e1 : insW 18 17 0 0 2 = 2099347 := by decide +kernel
  rw [e1]
  clear e1
  have v1 : 0 ≤ pF 2 0 5 ∧ pF 2 0 5 ≤ 1048576 := by decide
  have v2 : 0 ≤ pF 2 5 7 ∧ pF 2 5 7 ≤ 1048576 := by decide
  have ft := fun w => rFits_calls 73 19 0 0 (-1) 2 (by decide) (by decide) w
  have kf : decide (fitsK 73 2) = true := by decide
  rw [kf] at ft
  clear kf
  replace oc := Aside.mk oc
  replace ft := Aside.mk ft
  have bI := Aside.mk (Blk.new w #[.int .i64 18, .int .i64 17, .int .i64 0, .int .i64 0, .int .i64 2] 36)
  have kI : Aside (Kp w (w.alloc (.cells #[.int .i64 18, .int .i64 17, .int .i64 0, .int .i64 0, .int .i64 2] 36))) := ⟨(Kp.refl w).alloc _⟩
  go_enter Try.func31, Try.ntmps31
  go_wp2_with fail
  refine Calls.mono (oc.out _) ?_
  rintro e w1 ⟨rfl, kp1⟩
  obtain ⟨il, i0, i1, i2, i3, i4, -⟩ := (bI.out.kp kp1).five
  replace kI : Aside (Kp w w1) := ⟨kI.out.trans kp1⟩
  have bR := Aside.mk (Blk.new w1 #[.int .u8 73, .int .i64 19, .int .i64 0, .int .i64 0, .int .i64 (-1)] 92)
  replace bI := Aside.mk (bI.out.kp kp1)
  clear kp1
  go_wp2_with fail
  refine Calls.mono (ft.out _) ?_
  rintro e w2 ⟨rfl, kp2⟩
  obtain ⟨il2, j0, j1, j2, j3, j4, -⟩ := ((bI.out.kp ((Kp.refl w1).alloc _)).kp kp2).five
  obtain ⟨rl, r0, r1, r2, r3, r4, -⟩ := (bR.out.kp kp2).five
  replace kI : Aside (Kp w w2) := ⟨(kI.out.alloc _).trans kp2⟩
  clear kp2 i0 i1 i2 i3 i4 il
  go_wp2_with fail
  go_quiet (first | (go_at_call 42; exact quiet_dr (pfield_calls _ _ _ (by decide) (by decide) (by decide) _)) | (go_at_call 44; exact Calls.quiet_of_same (word_calls _ _ _ _ _ _ (by omega) (by omega) (by omega) (by omega) (by omega) (by omega) _)))
  go_wp2
  go_ret2
  exact ⟨congrArg (fun q => Ending.returned (Value.tuple #[.int .u32 q, .int .i64 0])) word_17, kI.out.drewN _⟩
set_option maxRecDepth 100000 in
set_option maxHeartbeats 200000 in
theorem enc_42 (w : World) : Calls Try.prog 31 #[.agg #[.int .i64 42, .int .i64 0, .int .i64 0, .int .i64 0, .int .i64 0]] w fun e w' => e = .returned (.tuple #[.int .u32 (insW 42 0 0 0 0), .int .i64 0]) ∧ Kp w w' := by
  have oc := fun w => of_42 w
  rw [show refOf 42 = .agg #[.int .u8 69, .int .i64 115, .int .i64 0, .int .i64 0, .int .i64 0] from rfl] at oc
  have e1 : insW 42 0 0 0 0 = 115 := by decide +kernel
  rw [e1]
  clear e1
  replace oc := Aside.mk oc
  have bI := Aside.mk (Blk.new w #[.int .i64 42, .int .i64 0, .int .i64 0, .int .i64 0, .int .i64 0] 36)
  have kI : Aside (Kp w (w.alloc (.cells #[.int .i64 42, .int .i64 0, .int .i64 0, .int .i64 0, .int .i64 0] 36))) := ⟨(Kp.refl w).alloc _⟩
  go_enter Try.func31, Try.ntmps31
  go_wp2_with fail
  refine Calls.mono (oc.out _) ?_
  rintro e w1 ⟨rfl, kp1⟩
  obtain ⟨il, i0, i1, i2, i3, i4, -⟩ := (bI.out.kp kp1).five
  replace kI : Aside (Kp w w1) := ⟨kI.out.trans kp1⟩
  clear kp1
  go_wp2_with fail
  go_ret2
  exact ⟨rfl, by have q := kI.out; repeat (with_reducible first | exact Kp.refl _ | assumption | exact Dr.kp (by assumption) | refine Kp.drewN ?_ _ | refine Kp.drew ?_ | refine Kp.alloc ?_ _ | refine Kp.setCell ?_ (by first | exact Nat.le_refl _ | assumption | omega) _ | refine Kp.trans ?_ (by assumption) | refine Kp.trans ?_ (Dr.kp (by assumption)))⟩
end Go.Proofs.Ytgifefkoldocmaa
