/- The laws of layer 8 (patch) that ask no machine, walked. Condition: the arguments are words. -/
import Derived.Test.YtgifefkoldocmaaPatW
import Derived.Test.YtgifefkoldocmaaPatR
namespace Go.Proofs.Ytgifefkoldocmaa
open Go.RowKit Go.Maps Go.Proofs.Ytgifefkoldocmaa.PC Go.Proofs.Ytgifefkoldocmaa.PW
set_option linter.unusedVariables false
set_option linter.unusedSimpArgs false
theorem wk_1 : insW 40 1 0 0 0 = 239 := by decide +kernel
theorem wk_2 : insE 40 1 0 0 0 = 0 := by decide +kernel
theorem wk_3 : insW 40 1 0 0 8 = 8388847 := by decide +kernel
theorem wk_4 : insE 40 1 0 0 8 = 0 := by decide +kernel
theorem wk_5 : fitsOp 40 8 = true := by decide +kernel
theorem wk_6 : hiV 4095 = 1 := by decide
theorem wk_7 : loV 4095 = -1 := by decide
theorem wk_pat {W E : Int} (h : PatR 4 239 108 100 W E) : W = 8388847 ∧ E = 0 := by
  have g : PatR 4 239 108 100 8388847 0 := by
    refine Or.inr (Or.inr ⟨by decide, 40, 1, 0, 0, 0, 0, Or.inl ⟨rfl, wk_2, wk_1⟩, Or.inr ⟨rfl, rfl, by decide, Or.inr ?_⟩⟩)
    have e : immP 4 108 100 = 8 := by decide
    rw [e]
    exact ⟨wk_5, wk_3.symm, rfl⟩
  exact patR_unique h g
set_option maxHeartbeats 1000000 in
theorem awake08_calls (w : World) : Calls Try.prog 8 #[] w fun e w' => e = .returned (.bool true) ∧ Kp w w' := by
  have h239 : U 239 := by unfold U; decide
  have h108 : U 108 := by unfold U; decide
  have h100 : U 100 := by unfold U; decide
  have hx : (0 : Int) ≤ 8388847 ∧ (8388847 : Int) ≤ 4294967295 := by decide
  have u95 : U 4095 := by unfold U; decide
  have hc := fun w => Hi_calls 4095 u95 w
  have lc := fun w => Lo_calls 4095 u95 w
  rw [wk_6] at hc
  rw [wk_7] at lc
  have ec := fun w => Encode_calls 40 1 0 0 0 (by decide) (by decide) w
  rw [wk_1, wk_2] at ec
  replace hc := Aside.mk hc
  replace lc := Aside.mk lc
  replace ec := Aside.mk ec
  go_enter Try.func8, Try.ntmps8
  go_wp2_with fail
  refine Calls.mono (ec.out _) ?_
  rintro e w1 ⟨rfl, k1⟩
  go_wp2_with fail
  refine Calls.mono (Patch_calls 4 239 108 100 h239 h108 h100 _) ?_
  rintro e w2 ⟨W, E, rfl, hp, k2⟩
  obtain ⟨rfl, rfl⟩ := wk_pat hp
  clear hp
  go_wp2_with fail
  refine Calls.mono (Decode_calls 8388847 hx _) ?_
  rintro e w3 ⟨a, b, c, d, g, er, rfl, k3, hd⟩
  rw [← wk_3] at hd
  obtain ⟨rfl, rfl, rfl, rfl, rfl, rfl⟩ := decR_of wk_4 hd
  clear hd
  have b1 := Aside.mk (Blk.new w3 #[.int .i64 40, .int .i64 1, .int .i64 0, .int .i64 0, .int .i64 8] 36)
  have kk : Aside (Kp w (w3.alloc (.cells #[.int .i64 40, .int .i64 1, .int .i64 0, .int .i64 0, .int .i64 8] 36))) := ⟨((k1.trans k2).trans k3).alloc _⟩
  clear k1 k2 k3
  go_wp2_with (first | ((go_at_call 11); (refine Calls.mono (hc.out _) ?_); (rintro e w4 ⟨rfl, k4⟩)) | ((go_at_call 12); (refine Calls.mono (lc.out _) ?_); (rintro e w5 ⟨rfl, k5⟩); (have b2 := Aside.mk (b1.out.kp (k4.trans k5))); (obtain ⟨il, i0, i1, i2, i3, i4, -⟩ := b2.out.five)))
  go_ret
  exact ⟨rfl, kk.out.trans (k4.trans k5)⟩
def errOK (p : Prop) : Prop := p
set_option maxHeartbeats 1000000 in
theorem patchWords_any (k x v p : Int) (hx : U x) (hv : U v) (hp : U p) (w : World) :
    Calls Try.prog 3 #[.int .i64 k, .int .u32 x, .agg #[.int .u32 v, .int .u32 p]] w fun e w' => e = .returned (.bool true) ∧ Kp w w' := by
  go_enter Try.func3, Try.ntmps3
  go_wp2_with fail
  refine Calls.mono (awake08_calls _) ?_
  rintro e w1 ⟨rfl, k1⟩
  have b1 := Aside.mk ((Blk.new _ _ _).kp k1)
  have kk : Aside (Kp w w1) := ⟨((Kp.refl w).alloc _).trans k1⟩
  clear k1
  have i0 := b1.out.cell 0
  have i1 := b1.out.cell 1
  have il := b1.out.lt
  simp at i0 i1
  go_wp2_with fail
  refine Calls.mono (Patch_calls k x v p hx hv hp _) ?_
  rintro e w2 ⟨W, E, rfl, hp1, k2⟩
  replace hp1 := Aside.mk hp1
  replace b1 := Aside.mk (b1.out.kp k2)
  replace kk : Aside (Kp w w2) := ⟨kk.out.trans k2⟩
  clear k2 i0 i1 il
  have i0 := b1.out.cell 0
  have i1 := b1.out.cell 1
  have il := b1.out.lt
  simp at i0 i1
  go_wp2_with fail
  refine Calls.mono (rPatch_calls k x v p hx hv hp _) ?_
  rintro e w3 ⟨W', E', rfl, hp2, k3⟩
  obtain ⟨rfl, rfl⟩ := patR_unique hp1.out hp2
  clear hp1 hp2
  go_wp2_with fail
  go_ret
  exact ⟨rfl, kk.out.trans k3⟩
set_option maxHeartbeats 1000000 in
theorem patchParts_any (v : Int) (hv : U v) (w : World) : Calls Try.prog 4 #[.int .u32 v] w fun e w' => e = .returned (.bool true) ∧ Kp w w' := by
  have h1 := hiV_range v
  have h2 := loV_range v
  have hl := Aside.mk (parts_law hv)
  go_enter Try.func4, Try.ntmps4
  go_wp2_with (first | ((go_at_call 11); (refine Calls.mono (Hi_calls v hv _) ?_); (rintro e w1 ⟨rfl, k1⟩)) | ((go_at_call 12); (refine Calls.mono (Lo_calls v hv _) ?_); (rintro e w2 ⟨rfl, k2⟩)) | ((go_at_call 8); (refine Calls.mono (awake08_calls _) ?_); (rintro e w3 ⟨rfl, k3⟩)) | ((go_at_call 13); (refine Calls.mono (rHi_calls v hv _) ?_); (rintro e w4 ⟨rfl, k4⟩)) | ((go_at_call 14); (refine Calls.mono (rLo_calls v hv _) ?_); (rintro e w5 ⟨rfl, k5⟩)))
  go_ret
  have e : (hiV v * 4096 + loV v) % 4294967296 = v := by have := hl.out; omega
  exact ⟨congrArg (fun b => Ending.returned (Value.bool b)) (beq_iff_eq.2 e), (k1.trans k2).trans ((k3.trans k4).trans k5)⟩
theorem patchParts_law (v : Int) (w0 : (Lit.int .u32 v).wf = true) (w : World) : Calls Try.prog 4 #[.int .u32 v] w fun e w' => e = .returned (.bool true) ∧ Below w.heap.size w w' :=
  (patchParts_any v (U_of w0) w).mono fun _ _ ⟨he, hk⟩ => ⟨he, hk.out⟩
end Go.Proofs.Ytgifefkoldocmaa
