/- The fixed fact of layer 8 (patch), walked. No condition. -/
import Derived.Test.YtgifefkoldocmaaPatW
namespace Go.Proofs.Ytgifefkoldocmaa
open Go.RowKit Go.Maps Go.Proofs.Ytgifefkoldocmaa.PC Go.Proofs.Ytgifefkoldocmaa.PW
set_option linter.unusedVariables false
set_option linter.unusedSimpArgs false
theorem wk_1 : insW 40 1 0 0 0 = 239 := by decide +kernel
theorem wk_2 : insE 40 1 0 0 0 = 0 := by decide +kernel
theorem wk_3 : insW 40 1 0 0 8 = 8388847 := by decide +kernel
theorem wk_4 : insE 40 1 0 0 8 = 0 := by decide +kernel
theorem wk_5 : fitsOp 40 8 = true := by decide +kernel
theorem wk_6 : hiV 4095 = 1 := by decide
theorem wk_7 : loV 4095 = -1 := by decide
theorem wk_pat {W E : Int} (h : PatR 4 239 108 100 W E) : W = 8388847 ∧ E = 0 := by
  have g : PatR 4 239 108 100 8388847 0 := by
    refine Or.inr (Or.inr ⟨by decide, 40, 1, 0, 0, 0, 0, Or.inl ⟨rfl, wk_2, wk_1⟩, Or.inr ⟨rfl, rfl, by decide, Or.inr ?_⟩⟩)
    have e : immP 4 108 100 = 8 := by decide
    rw [e]
    exact ⟨wk_5, wk_3.symm, rfl⟩
  exact patR_unique h g
set_option maxHeartbeats 1000000 in
theorem awake08_calls (w : World) : Calls Try.prog 8 #[] w fun e w' => e = .returned (.bool true) ∧ Kp w w' := by
  have h239 : U 239 := by unfold U; decide
  have h108 : U 108 := by unfold U; decide
  have h100 : U 100 := by unfold U; decide
  have hx : (0 : Int) ≤ 8388847 ∧ (8388847 : Int) ≤ 4294967295 := by decide
  have u95 : U 4095 := by unfold U; decide
  have hc := fun w => Hi_calls 4095 u95 w
  have lc := fun w => Lo_calls 4095 u95 w
  rw [wk_6] at hc
  rw [wk_7] at lc
  have ec := fun w => Encode_calls 40 1 0 0 0 (by decide) (by decide) w
  rw [wk_1, wk_2] at ec
  replace hc := Aside.mk hc
  replace lc := Aside.mk lc
  replace ec := Aside.mk ec
  go_enter Try.func8, Try.ntmps8
  go_wp2_with fail
  refine Calls.mono (ec.out _) ?_
  rintro e w1 ⟨rfl, k1⟩
  go_wp2_with fail
  refine Calls.mono (Patch_calls 4 239 108 100 h239 h108 h100 _) ?_
  rintro e w2 ⟨W, E, rfl, hp, k2⟩
  obtain ⟨rfl, rfl⟩ := wk_pat hp
  clear hp
  go_wp2_with fail
  refine Calls.mono (Decode_calls 8388847 hx _) ?_
  rintro e w3 ⟨a, b, c, d, g, er, rfl, k3, hd⟩
  rw [← wk_3] at hd
  obtain ⟨rfl, rfl, rfl, rfl, rfl, rfl⟩ := decR_of wk_4 hd
  clear hd
  have b1 := Aside.mk (Blk.new w3 #[.int .i64 40, .int .i64 1, .int .i64 0, .int .i64 0, .int .i64 8] 36)
  have kk : Aside (Kp w (w3.alloc (.cells #[.int .i64 40, .int .i64 1, .int .i64 0, .int .i64 0, .int .i64 8] 36))) := ⟨((k1.trans k2).trans k3).alloc _⟩
  clear k1 k2 k3
  go_wp2_with (first | ((go_at_call 11); (refine Calls.mono (hc.out _) ?_); (rintro e w4 ⟨rfl, k4⟩)) | ((go_at_call 12); (refine Calls.mono (lc.out _) ?_); (rintro e w5 ⟨rfl, k5⟩); (have b2 := Aside.mk (b1.out.kp (k4.trans k5))); (obtain ⟨il, i0, i1, i2, i3, i4, -⟩ := b2.out.five)))
  go_ret
  exact ⟨rfl, kk.out.trans (k4.trans k5)⟩
end Go.Proofs.Ytgifefkoldocmaa
