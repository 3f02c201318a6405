/- Reading a word back, walked. -/
import Derived.Test.YtgcihcgclmdolaaCodeN
import Derived.Test.YtgcihcgclmdolaaCodeDb
import Derived.Deep.DeepCutAuto
import Derived.Deep.RegionHeld3
namespace Go.Proofs.Ytgcihcgclmdolaa
open Go.RowKit Go.Maps Go.Proofs.Ytgcihcgclmdolaa.PC
set_option linter.unusedVariables false
set_option linter.unusedSimpArgs false
set_option maxRecDepth 100000 in
set_option maxHeartbeats 2000000 in
theorem Decode_calls (x : Int) (hx : 0 ≤ x ∧ x ≤ 4294967295) (w : World) :
    Calls Try.prog 50 #[.int .u32 x] w fun e w' => ∃ op rd rs1 rs2 n er : Int, e = .returned (.tuple #[.agg #[.int .i64 op, .int .i64 rd, .int .i64 rs1, .int .i64 rs2, .int .i64 n], .int .i64 er]) ∧ Kp w w' ∧ DecR x op rd rs1 rs2 n er := by
  have h127 : bits .and .u32 x 127 = x % 128 := u32_and127 hx.1 (by omega)
  replace h127 := Aside.mk h127
  go_enter Try.func50, Try.ntmps50
  go_wp2_with (first | ((go_at_call 22); (refine Calls.mono (forms_calls _) ?_); (rintro e w1 ⟨rfl, kp1, hown⟩); (simp only [World.size_alloc] at hown); (have hres := Aside.mk (Blk.kp (Blk.new _ _ _) kp1)); (have kp1' : Aside (Kp w w1) := ⟨((Kp.refl w).alloc _).trans kp1⟩); clear kp1) | (at_range; (refine wpList_range_own _ rfl _ 70 rfl 3 68 lawK Try.underlying70 RF _ 55 tableD rfl hown ?_; intro w0 hrg0 hg0 hs0)))
  go_frame
  have kp0 : Aside (Kp w w0) := ⟨kp1'.out.trans ⟨(Below.refl _ _).grown hg0 (Nat.le_refl _) (fun k hk => by cases hk)⟩⟩
  have hres0 := Aside.mk (hres.out.kp ⟨(Below.refl _ _).grown hg0 (Nat.le_refl _) (fun k hk => by cases hk)⟩)
  have hR : Aside (w.heap.size < w1.heap.size) := ⟨hres.out.lt⟩
  clear hg0 hs0 hres kp1'
  go_loopw [14] (fun _ wr => ∃ left cnt, wr.ranges Try.prog 3 RF (w.heap.size + 1) w1.heap.size 55 tableD left cnt ∧ NoHit x left ∧ Kp w wr ∧ Blk wr w.heap.size #[.int .i64 0, .int .i64 0, .int .i64 0, .int .i64 0, .int .i64 0] 26) (fun _ wr => wr.rangeLeft (w.heap.size + 1) w1.heap.size)
  case atStart => exact ⟨_, _, hrg0, noHit_start x, kp0.out, hres0.out⟩
  case round =>
    obtain ⟨left, cnt, hrg, hno, kpr, hbr⟩ := hrel
    replace hno := Aside.mk hno
    replace kpr := Aside.mk kpr
    replace hbr := Aside.mk hbr
    clear hrg0 hown
    go_wp2_with (at_next; refine wpList_next_F _ rfl _ rfl _ _ _ _ _ rfl hrg ?_ ?_)
    · intro hl
      obtain ⟨q0, q1, q2, q3, q4, q5, q6, q7, q8, q9, q10⟩ := hbr.out.five
      go_wp2
      refine bodyPost_ret (results_cell_tmp_row rfl _ _ w.heap.size _ _ _ rfl (Blk.set (Blk.set (Blk.set (Blk.set (Blk.set hbr.out _) _) _) _) _) Try.underlying26 (by kernel_rfl)) rfl ?_
      exact ⟨0, 0, 0, 0, 0, 2, rfl, (((((kpr.out.setCell (Nat.le_refl _) _).setCell (Nat.le_refl _) _).setCell (Nat.le_refl _) _).setCell (Nat.le_refl _) _).setCell (Nat.le_refl _) _), decR_none (fun op f hf => hno.out op f hf (hl _))⟩
    · intro o f w2 cnt2 hf hrg2 hlt hg2 hen
      have hg := (formOf_good hf).1
      have hor := (formOf_good hf).2
      have kp2 : Aside (Kp w w2) := ⟨Kp.grown kpr.out hg2 (fun k hk => by have := hR.out; cases hk; omega)⟩
      have hb2 : Aside (Blk w2 w.heap.size #[.int .i64 0, .int .i64 0, .int .i64 0, .int .i64 0, .int .i64 0] 26) := ⟨(hg2.block _ hbr.out.lt (by have := hR.out; simp; omega)).trans hbr.out⟩
      replace hf := Aside.mk hf
      replace hor := Aside.mk hor
      have hm : Aside (∀ wq, Kp w2 wq → wq.rangeLeft (w.heap.size + 1) w1.heap.size < wr.rangeLeft (w.heap.size + 1) w1.heap.size) := ⟨fun wq k => by rw [(World.ranges.kp hrg2 k).left_eq, hrg.left_eq]; exact hlt⟩
      have hend : Aside (∀ wq, Kp w2 wq → ¬Hit o x → ∃ left cnt, wq.ranges Try.prog 3 RF (w.heap.size + 1) w1.heap.size 55 tableD left cnt ∧ NoHit x left ∧ Kp w wq ∧ Blk wq w.heap.size #[.int .i64 0, .int .i64 0, .int .i64 0, .int .i64 0, .int .i64 0] 26) :=
        ⟨fun wq k hh => ⟨_, _, World.ranges.kp hrg2 k, noHit_step hno.out hh, kp2.out.trans k, hb2.out.kp k⟩⟩
      clear hrg2 hrg hlt hg2 hno kpr hbr
      have h127' := h127.out
      have uc := uses_calls f hg
      simp only [usesV] at uc
      replace uc := Aside.mk uc
      by_cases hs : x % 128 = f.op
      · go_wp2_with ((go_at_call 23); (refine Calls.mono (uc.out _) ?_); (rintro e w3 ⟨rfl, kp3⟩); (have hbf := Aside.mk (Blk.kp (Blk.new _ _ _) kp3)); (have kp3' : Aside (Kp w2 w3) := ⟨((Kp.refl w2).alloc _).trans kp3⟩); clear kp3)
        obtain ⟨w4, hw4⟩ : ∃ w4, w4 = (w3.alloc (Obj.cells #[Value.bool (decide f.uRd), Value.bool (decide f.uRs1), Value.bool (decide f.uRs2), Value.bool (decide f.uImm)] 72)).alloc (Obj.cells #[Value.int IntKind.i64 o, Value.int IntKind.i64 0, Value.int IntKind.i64 0, Value.int IntKind.i64 0, Value.int IntKind.i64 0] 26) := ⟨_, rfl⟩
        rw [← hw4]
        have kp4 : Aside (Kp w2 w4) := ⟨by rw [hw4]; exact (kp3'.out.alloc _).alloc _⟩
        have hbf4 : Aside (Blk w4 w2.heap.size #[.int .u8 f.kind, .int .u32 f.op, .int .u32 f.f3, .int .u32 f.f7, .int .i64 f.rs2] 68) := ⟨by rw [hw4]; exact (hbf.out.alloc _).alloc _⟩
        have hbu4 : Aside (Blk w4 w3.heap.size #[.bool (decide f.uRd), .bool (decide f.uRs1), .bool (decide f.uRs2), .bool (decide f.uImm)] 72) := ⟨by rw [hw4]; exact (Blk.new _ _ _).alloc _⟩
        have hbi4 : Aside (Blk w4 (w3.heap.size + 1) #[.int .i64 o, .int .i64 0, .int .i64 0, .int .i64 0, .int .i64 0] 26) := ⟨by rw [hw4]; exact heap_new (by rw [World.size_alloc])⟩
        have hsz : Aside (w2.heap.size < w3.heap.size) := ⟨hbf.out.lt⟩
        clear hw4 kp3' hbf
        go_loopw [32] (fun i wq => Kp w2 wq ∧ Blk wq w2.heap.size #[.int .u8 f.kind, .int .u32 f.op, .int .u32 f.f3, .int .u32 f.f7, .int .i64 f.rs2] 68 ∧ Blk wq w3.heap.size #[.bool (decide f.uRd), .bool (decide f.uRs1), .bool (decide f.uRs2), .bool (decide f.uImm)] 72 ∧ ((i = .int .i64 0 ∧ Blk wq (w3.heap.size + 1) #[.int .i64 o, .int .i64 0, .int .i64 0, .int .i64 0, .int .i64 0] 26) ∨ (i = .int .i64 1 ∧ Blk wq (w3.heap.size + 1) #[.int .i64 o, .int .i64 (cRd f x), .int .i64 0, .int .i64 0, .int .i64 0] 26) ∨ (i = .int .i64 2 ∧ Blk wq (w3.heap.size + 1) #[.int .i64 o, .int .i64 (cRd f x), .int .i64 (cRs1 f x), .int .i64 0, .int .i64 0] 26) ∨ (i = .int .i64 3 ∧ Blk wq (w3.heap.size + 1) #[.int .i64 o, .int .i64 (cRd f x), .int .i64 (cRs1 f x), .int .i64 (cRs2 f x), .int .i64 0] 26))) (fun i _ => 3 - (intOf i).toNat)
        case atStart => exact ⟨kp4.out, hbf4.out, hbu4.out, Or.inl ⟨rfl, hbi4.out⟩⟩
        case round =>
          obtain ⟨kq, hqf, hqu, hq⟩ := hrel
          clear kp4 hbf4 hbu4 hbi4
          replace kq := Aside.mk kq
          replace hqf := Aside.mk hqf
          obtain ⟨ul, v0, v1, v2, v3⟩ := hqu.four
          replace hqu := Aside.mk hqu
          rcases hq with ⟨rfl, hq⟩ | ⟨rfl, hq⟩ | ⟨rfl, hq⟩ | ⟨rfl, hq⟩
          · obtain ⟨il, i0, i1, i2, i3, i4, g0, g1, g2, g3, g4⟩ := hq.five
            replace hq := Aside.mk hq
            have hi1 : ∀ (p0 p1 p2 : Value) (wz : World), (Instr.index 122 (.agg #[p0, p1, p2]) (.int .i64 0)).run Try.prog wz = .ok p0 wz := fun _ _ _ _ => rfl
            have hi2 : ∀ wz : World, (Instr.index 123 (.agg #[.int .u64 7, .int .u64 15, .int .u64 20]) (.int .i64 0)).run Try.prog wz = .ok (.int .u64 7) wz := fun _ => rfl
            have h31 : bits .and .u32 (x / 128) 31 = x / 128 % 32 := u32_and31 (by omega) (by omega)
            by_cases hu : f.uRd
            · have hc : x / 128 % 32 = cRd f x := by rw [cRd, if_pos hu]
              replace hc := Aside.mk hc
              go_wp2
              go_roundw
              case rel =>
                rw [hc.out]
                exact ⟨kq.out.setCell (show w2.heap.size ≤ w3.heap.size + 1 by have := hsz.out; omega) _, hqf.out.far (by have := hsz.out; omega) _, hqu.out.far (by omega) _, Or.inr (Or.inl ⟨rfl, hq.out.set _⟩)⟩
              case measure => simp [intOf]
            · have hc : cRd f x = 0 := by rw [cRd, if_neg hu]
              replace hc := Aside.mk hc
              go_wp2
              go_roundw
              case rel => exact ⟨kq.out, hqf.out, hqu.out, Or.inr (Or.inl ⟨rfl, by rw [hc.out]; exact hq.out⟩)⟩
              case measure => simp [intOf]
          · obtain ⟨il, i0, i1, i2, i3, i4, g0, g1, g2, g3, g4⟩ := hq.five
            replace hq := Aside.mk hq
            have hi1 : ∀ (p0 p1 p2 : Value) (wz : World), (Instr.index 122 (.agg #[p0, p1, p2]) (.int .i64 1)).run Try.prog wz = .ok p1 wz := fun _ _ _ _ => rfl
            have hi2 : ∀ wz : World, (Instr.index 123 (.agg #[.int .u64 7, .int .u64 15, .int .u64 20]) (.int .i64 1)).run Try.prog wz = .ok (.int .u64 15) wz := fun _ => rfl
            have h31 : bits .and .u32 (x / 32768) 31 = x / 32768 % 32 := u32_and31 (by omega) (by omega)
            by_cases hu : f.uRs1
            · have hc : x / 32768 % 32 = cRs1 f x := by rw [cRs1, if_pos hu]
              replace hc := Aside.mk hc
              go_wp2
              go_roundw
              case rel =>
                rw [hc.out]
                exact ⟨kq.out.setCell (show w2.heap.size ≤ w3.heap.size + 1 by have := hsz.out; omega) _, hqf.out.far (by have := hsz.out; omega) _, hqu.out.far (by omega) _, Or.inr (Or.inr (Or.inl ⟨rfl, hq.out.set _⟩))⟩
              case measure => simp [intOf]
            · have hc : cRs1 f x = 0 := by rw [cRs1, if_neg hu]
              replace hc := Aside.mk hc
              go_wp2
              go_roundw
              case rel => exact ⟨kq.out, hqf.out, hqu.out, Or.inr (Or.inr (Or.inl ⟨rfl, by rw [hc.out]; exact hq.out⟩))⟩
              case measure => simp [intOf]
          · obtain ⟨il, i0, i1, i2, i3, i4, g0, g1, g2, g3, g4⟩ := hq.five
            replace hq := Aside.mk hq
            have hi1 : ∀ (p0 p1 p2 : Value) (wz : World), (Instr.index 122 (.agg #[p0, p1, p2]) (.int .i64 2)).run Try.prog wz = .ok p2 wz := fun _ _ _ _ => rfl
            have hi2 : ∀ wz : World, (Instr.index 123 (.agg #[.int .u64 7, .int .u64 15, .int .u64 20]) (.int .i64 2)).run Try.prog wz = .ok (.int .u64 20) wz := fun _ => rfl
            have h31 : bits .and .u32 (x / 1048576) 31 = x / 1048576 % 32 := u32_and31 (by omega) (by omega)
            by_cases hu : f.uRs2
            · have hc : x / 1048576 % 32 = cRs2 f x := by rw [cRs2, if_pos hu]
              replace hc := Aside.mk hc
              go_wp2
              go_roundw
              case rel =>
                rw [hc.out]
                exact ⟨kq.out.setCell (show w2.heap.size ≤ w3.heap.size + 1 by have := hsz.out; omega) _, hqf.out.far (by have := hsz.out; omega) _, hqu.out.far (by omega) _, Or.inr (Or.inr (Or.inr (⟨rfl, hq.out.set _⟩)))⟩
              case measure => simp [intOf]
            · have hc : cRs2 f x = 0 := by rw [cRs2, if_neg hu]
              replace hc := Aside.mk hc
              go_wp2
              go_roundw
              case rel => exact ⟨kq.out, hqf.out, hqu.out, Or.inr (Or.inr (Or.inr (⟨rfl, by rw [hc.out]; exact hq.out⟩)))⟩
              case measure => simp [intOf]
          · obtain ⟨il, i0, i1, i2, i3, i4, g0, g1, g2, g3, g4⟩ := hq.five
            replace hq := Aside.mk hq
            go_upto_if 50 with fail
            go_cut [] (fun wx => Kp w2 wx ∧ Blk wx (w3.heap.size + 1) #[.int .i64 o, .int .i64 (cRd f x), .int .i64 (cRs1 f x), .int .i64 (cRs2 f x), .int .i64 (cImm f x)] 26)
            case first =>
              obtain ⟨fl, b0, b1, b2, b3, b4, -⟩ := hqf.out.five
              by_cases hu : f.uImm
              · go_wp2_with ((go_at_call 61); (refine Calls.mono (signed_calls f hg x hx _) ?_); (rintro e w5 ⟨rfl, kp5⟩); (have hq5 := Aside.mk (hq.out.kp kp5)); (have k5 := Aside.mk (kq.out.trans kp5)); (obtain ⟨il5, i05, i15, i25, i35, i45, g05, g15, g25, g35, g45⟩ := hq5.out.five); clear kp5)
                go_meet
                exact ⟨k5.out.setCell (show w2.heap.size ≤ w3.heap.size + 1 by have := hsz.out; omega) _, hq5.out.set _⟩
              · have hc := cImm_none hg hu x
                replace hc := Aside.mk hc
                go_wp2
                go_meet
                exact ⟨kq.out, by rw [hc.out]; exact hq.out⟩
            case rest =>
              obtain ⟨kx, hx5⟩ := hcut
              obtain ⟨jl, j0, j1, j2, j3, j4, m0, m1, m2, m3, m4⟩ := hx5.five
              replace kx := Aside.mk kx
              replace hx5 := Aside.mk hx5
              clear il i0 i1 i2 i3 i4 g0 g1 g2 g3 g4 hq kq hqf hqu ul v0 v1 v2 v3
              by_cases hE : insE o (cRd f x) (cRs1 f x) (cRs2 f x) (cImm f x) = 0
              · by_cases hW : insW o (cRd f x) (cRs1 f x) (cRs2 f x) (cImm f x) = x
                · have hEE := Aside.mk hE
                  have hWW := Aside.mk hW
                  go_wp2_with ((go_at_call 9); (refine Calls.mono (Encode_calls o (cRd f x) (cRs1 f x) (cRs2 f x) (cImm f x) ?_ ?_ _) ?_); (have := hor.out; omega); (exact immOf_range hx); (rintro e w6 ⟨rfl, kp6⟩); (have k6 := Aside.mk (kx.out.trans kp6)); (have q6 := Aside.mk (hx5.out.kp kp6)); (have r6 := Aside.mk (hb2.out.kp k6.out)); (obtain ⟨jl6, j06, j16, j26, j36, j46, -⟩ := q6.out.five); (obtain ⟨rl6, r06, r16, r26, r36, r46, s06, s16, s26, s36, s46⟩ := r6.out.five); clear kp6)
                  refine bodyPost_ret (results_cell_tmp_row rfl _ _ w.heap.size _ _ _ rfl (Blk.set (Blk.set (Blk.set (Blk.set (Blk.set r6.out _) _) _) _) _) Try.underlying26 (by kernel_rfl)) rfl ?_
                  exact ⟨_, _, _, _, _, 0, rfl, (((((kp2.out.trans k6.out).setCell (Nat.le_refl _) _).setCell (Nat.le_refl _) _).setCell (Nat.le_refl _) _).setCell (Nat.le_refl _) _).setCell (Nat.le_refl _) _, Or.inl ⟨rfl, hEE.out, hWW.out⟩⟩
                · have hno := Aside.mk (no_hit hf.out (fun h => hW h.2))
                  go_wp2_with ((go_at_call 9); (refine Calls.mono (Encode_calls o (cRd f x) (cRs1 f x) (cRs2 f x) (cImm f x) ?_ ?_ _) ?_); (have := hor.out; omega); (exact immOf_range hx); (rintro e w6 ⟨rfl, kp6⟩); (have k6 := Aside.mk (kx.out.trans kp6)); (have q6 := Aside.mk (hx5.out.kp kp6)); (have r6 := Aside.mk (hb2.out.kp k6.out)); (obtain ⟨jl6, j06, j16, j26, j36, j46, -⟩ := q6.out.five); (obtain ⟨rl6, r06, r16, r26, r36, r46, s06, s16, s26, s36, s46⟩ := r6.out.five); clear kp6)
                  go_roundw
                  case rel => exact hend.out _ k6.out hno.out
                  case measure => exact hm.out _ k6.out
              · have hno := Aside.mk (no_hit hf.out (fun h => hE h.1))
                go_wp2_with ((go_at_call 9); (refine Calls.mono (Encode_calls o (cRd f x) (cRs1 f x) (cRs2 f x) (cImm f x) ?_ ?_ _) ?_); (have := hor.out; omega); (exact immOf_range hx); (rintro e w6 ⟨rfl, kp6⟩); (have k6 := Aside.mk (kx.out.trans kp6)); (have q6 := Aside.mk (hx5.out.kp kp6)); (have r6 := Aside.mk (hb2.out.kp k6.out)); (obtain ⟨jl6, j06, j16, j26, j36, j46, -⟩ := q6.out.five); (obtain ⟨rl6, r06, r16, r26, r36, r46, s06, s16, s26, s36, s46⟩ := r6.out.five); clear kp6)
                go_roundw
                case rel => exact hend.out _ k6.out hno.out
                case measure => exact hm.out _ k6.out
      · go_wp2_with fail
        go_roundw
        case rel => exact hend.out _ ((Kp.refl _).alloc _) (no_hit_op hf.out (fun e => hs e.symm))
        case measure => exact hm.out _ ((Kp.refl _).alloc _)
end Go.Proofs.Ytgcihcgclmdolaa
