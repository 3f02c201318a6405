/- The reference's rows, walked: the numbers of part E. -/
import Derived.Test.YtnbooljaodkedaaCodeRoB
namespace Go.Proofs.Ytnbooljaodkedaa
open Go.RowKit Go.Maps Go.Proofs.Ytnbooljaodkedaa.PC
set_option linter.unusedVariables false
set_option linter.unusedSimpArgs false
set_option maxRecDepth 100000 in
set_option maxHeartbeats 4000000 in
theorem of_E (op : Int) (h : 38 ≤ op ∧ op ≤ 55) (w : World) : Calls Try.prog 36 #[.int .i64 op] w fun e w' => e = .returned (refOf op) ∧ Kp w w' := by
  have h0 : Aside (OfW w (w.alloc (.cells #[.int .u8 0, .int .i64 0, .int .i64 0, .int .i64 0, .int .i64 0] 108))) := ⟨OfW.start w⟩
  go_enter Try.func36, Try.ntmps36
  go_upto_region 1 with fail
  go_cut [3] (fun s wx => OfW w wx ∧ ∃ b, s = .pointer (some ⟨b, 0, none⟩) ∧ w.heap.size < b ∧ wx.rangeAt b 0 (#[.int .i64 0, .int .i64 0, .int .i64 0, .int .i64 0, .int .i64 0, .int .i64 32, .int .i64 1, .int .i64 0, .int .i64 2, .int .i64 0, .int .i64 3, .int .i64 0, .int .i64 4, .int .i64 0, .int .i64 5, .int .i64 0, .int .i64 5, .int .i64 32, .int .i64 6, .int .i64 0, .int .i64 7, .int .i64 0, .int .i64 0, .int .i64 1, .int .i64 1, .int .i64 1, .int .i64 3, .int .i64 1, .int .i64 4, .int .i64 1, .int .i64 5, .int .i64 1, .int .i64 6, .int .i64 1, .int .i64 7, .int .i64 1] : Array Value).toList)
  case first =>
    clear h
    go_wp2_with (refine wpList_store_mid rfl 135 (.tmp 3) (.tmp 24) rfl (w.heap.size + 1) 0 #[.int .i64 0, .int .i64 0, .int .i64 0, .int .i64 0, .int .i64 0, .int .i64 32, .int .i64 1, .int .i64 0, .int .i64 2, .int .i64 0, .int .i64 3, .int .i64 0, .int .i64 4, .int .i64 0, .int .i64 5, .int .i64 0, .int .i64 5, .int .i64 32, .int .i64 6, .int .i64 0, .int .i64 7, .int .i64 0, .int .i64 0, .int .i64 1, .int .i64 1, .int .i64 1, .int .i64 3, .int .i64 1, .int .i64 4, .int .i64 1, .int .i64 5, .int .i64 1, .int .i64 6, .int .i64 1, .int .i64 7, .int .i64 1] rfl rfl (there_new _ _ _ (World.size_alloc _ _) rfl) (by kernel_rfl) (by kernel_rfl) ?_)
    go_meet
    have hs := fun zs ty cs hl => h0.out.stored (b := (w.heap.size + 1)) zs ty cs (World.size_alloc _ _) hl
    refine ⟨(hs _ _ _ ?_).1, _, rfl, (hs _ _ _ ?_).2⟩
    · rfl
    · rfl
  case rest =>
    clear h0
    obtain ⟨h0, b, rfl, lb, hr⟩ := hcut
    replace h0 := Aside.mk h0
    replace hr := Aside.mk hr
    replace lb := Aside.mk lb
    clear hr lb
    go_upto_region 4 with fail
    go_cut [4] (fun s wx => OfW w wx ∧ ∃ b, s = .pointer (some ⟨b, 0, none⟩) ∧ w.heap.size < b ∧ wx.rangeAt b 0 (#[.int .i64 0, .int .i64 2, .int .i64 3, .int .i64 4, .int .i64 6, .int .i64 7] : Array Value).toList)
    case first =>
      go_wp2_with (refine wpList_store_mid rfl 136 (.tmp 4) (.tmp 40) rfl wc.heap.size 0 #[.int .i64 0, .int .i64 2, .int .i64 3, .int .i64 4, .int .i64 6, .int .i64 7] rfl rfl (there_new _ _ _ rfl rfl) (by kernel_rfl) (by kernel_rfl) ?_)
      go_meet
      have hs := fun zs ty cs hl => h0.out.stored (b := wc.heap.size) zs ty cs rfl hl
      refine ⟨(hs _ _ _ ?_).1, _, rfl, (hs _ _ _ ?_).2⟩
      · rfl
      · rfl
    case rest =>
      clear h0
      obtain ⟨h0, b, rfl, lb, hr⟩ := hcut
      replace h0 := Aside.mk h0
      replace hr := Aside.mk hr
      replace lb := Aside.mk lb
      clear hr lb
      go_upto_region 7 with fail
      go_cut [5] (fun s wx => OfW w wx ∧ ∃ b, s = .pointer (some ⟨b, 0, none⟩) ∧ w.heap.size < b ∧ wx.rangeAt b 0 (#[.int .i64 0, .int .i64 1, .int .i64 4, .int .i64 5, .int .i64 6, .int .i64 7] : Array Value).toList)
      case first =>
        go_wp2_with (refine wpList_store_mid rfl 136 (.tmp 5) (.tmp 52) rfl wc.heap.size 0 #[.int .i64 0, .int .i64 1, .int .i64 4, .int .i64 5, .int .i64 6, .int .i64 7] rfl rfl (there_new _ _ _ rfl rfl) (by kernel_rfl) (by kernel_rfl) ?_)
        go_meet
        have hs := fun zs ty cs hl => h0.out.stored (b := wc.heap.size) zs ty cs rfl hl
        refine ⟨(hs _ _ _ ?_).1, _, rfl, (hs _ _ _ ?_).2⟩
        · rfl
        · rfl
      case rest =>
        clear h0
        obtain ⟨h0, b, rfl, lb, hr⟩ := hcut
        replace h0 := Aside.mk h0
        replace hr := Aside.mk hr
        replace lb := Aside.mk lb
        have hk : Aside (Kp w wc) := ⟨h0.out.1⟩
        have hz : Aside (Blk wc w.heap.size #[.int .u8 0, .int .i64 0, .int .i64 0, .int .i64 0, .int .i64 0] 108) := ⟨h0.out.2⟩
        clear h0
        obtain ⟨zl, z0, z1, z2, z3, z4, y0, y1, y2, y3, y4⟩ := hz.out.five
        clear hr
        have h' : op = 38 ∨ op = 39 ∨ op = 40 ∨ op = 41 ∨ op = 42 ∨ op = 43 ∨ op = 44 ∨ op = 45 ∨ op = 46 ∨ op = 47 ∨ op = 48 ∨ op = 49 ∨ op = 50 ∨ op = 51 ∨ op = 52 ∨ op = 53 ∨ op = 54 ∨ op = 55 := by omega
        clear h
        rcases h' with rfl | rfl | rfl | rfl | rfl | rfl | rfl | rfl | rfl | rfl | rfl | rfl | rfl | rfl | rfl | rfl | rfl | rfl
        · go_wp2
          (refine bodyPost_ret (results_cell_row rfl _ _ w.heap.size _ _ _ _ rfl (Blk.set (Blk.set (Blk.set (Blk.set (Blk.set hz.out _) _) _) _) _) Try.underlying108 rfl (by kernel_rfl)) rfl ?_; exact ⟨rfl, (((((hk.out.setCell (Nat.le_refl _) _).setCell (Nat.le_refl _) _).setCell (Nat.le_refl _) _).setCell (Nat.le_refl _) _).setCell (Nat.le_refl _) _)⟩)
        · go_wp2
          (refine bodyPost_ret (results_cell_row rfl _ _ w.heap.size _ _ _ _ rfl (Blk.set (Blk.set (Blk.set (Blk.set (Blk.set hz.out _) _) _) _) _) Try.underlying108 rfl (by kernel_rfl)) rfl ?_; exact ⟨rfl, (((((hk.out.setCell (Nat.le_refl _) _).setCell (Nat.le_refl _) _).setCell (Nat.le_refl _) _).setCell (Nat.le_refl _) _).setCell (Nat.le_refl _) _)⟩)
        · go_wp2
          (refine bodyPost_ret (results_cell_row rfl _ _ w.heap.size _ _ _ _ rfl (Blk.set (Blk.set (Blk.set (Blk.set (Blk.set hz.out _) _) _) _) _) Try.underlying108 rfl (by kernel_rfl)) rfl ?_; exact ⟨rfl, (((((hk.out.setCell (Nat.le_refl _) _).setCell (Nat.le_refl _) _).setCell (Nat.le_refl _) _).setCell (Nat.le_refl _) _).setCell (Nat.le_refl _) _)⟩)
        · go_wp2
          (refine bodyPost_ret (results_cell_row rfl _ _ w.heap.size _ _ _ _ rfl (Blk.set (Blk.set (Blk.set (Blk.set (Blk.set hz.out _) _) _) _) _) Try.underlying108 rfl (by kernel_rfl)) rfl ?_; exact ⟨rfl, (((((hk.out.setCell (Nat.le_refl _) _).setCell (Nat.le_refl _) _).setCell (Nat.le_refl _) _).setCell (Nat.le_refl _) _).setCell (Nat.le_refl _) _)⟩)
        · go_wp2
          (refine bodyPost_ret (results_cell_row rfl _ _ w.heap.size _ _ _ _ rfl (Blk.set (Blk.set (Blk.set (Blk.set (Blk.set hz.out _) _) _) _) _) Try.underlying108 rfl (by kernel_rfl)) rfl ?_; exact ⟨rfl, (((((hk.out.setCell (Nat.le_refl _) _).setCell (Nat.le_refl _) _).setCell (Nat.le_refl _) _).setCell (Nat.le_refl _) _).setCell (Nat.le_refl _) _)⟩)
        · go_wp2
          (refine bodyPost_ret (results_cell_row rfl _ _ w.heap.size _ _ _ _ rfl (Blk.set (Blk.set (Blk.set (Blk.set (Blk.set hz.out _) _) _) _) _) Try.underlying108 rfl (by kernel_rfl)) rfl ?_; exact ⟨rfl, (((((hk.out.setCell (Nat.le_refl _) _).setCell (Nat.le_refl _) _).setCell (Nat.le_refl _) _).setCell (Nat.le_refl _) _).setCell (Nat.le_refl _) _)⟩)
        · go_wp2
          (refine bodyPost_ret (results_cell_row rfl _ _ w.heap.size _ _ _ _ rfl (Blk.set (Blk.set (Blk.set (Blk.set (Blk.set hz.out _) _) _) _) _) Try.underlying108 rfl (by kernel_rfl)) rfl ?_; exact ⟨rfl, (((((hk.out.setCell (Nat.le_refl _) _).setCell (Nat.le_refl _) _).setCell (Nat.le_refl _) _).setCell (Nat.le_refl _) _).setCell (Nat.le_refl _) _)⟩)
        · go_wp2
          (refine bodyPost_ret (results_cell_row rfl _ _ w.heap.size _ _ _ _ rfl (Blk.set (Blk.set (Blk.set (Blk.set (Blk.set hz.out _) _) _) _) _) Try.underlying108 rfl (by kernel_rfl)) rfl ?_; exact ⟨rfl, (((((hk.out.setCell (Nat.le_refl _) _).setCell (Nat.le_refl _) _).setCell (Nat.le_refl _) _).setCell (Nat.le_refl _) _).setCell (Nat.le_refl _) _)⟩)
        · go_wp2
          (refine bodyPost_ret (results_cell_row rfl _ _ w.heap.size _ _ _ _ rfl (Blk.set (Blk.set (Blk.set (Blk.set (Blk.set hz.out _) _) _) _) _) Try.underlying108 rfl (by kernel_rfl)) rfl ?_; exact ⟨rfl, (((((hk.out.setCell (Nat.le_refl _) _).setCell (Nat.le_refl _) _).setCell (Nat.le_refl _) _).setCell (Nat.le_refl _) _).setCell (Nat.le_refl _) _)⟩)
        · go_wp2
          (refine bodyPost_ret (results_cell_row rfl _ _ w.heap.size _ _ _ _ rfl (Blk.set (Blk.set (Blk.set (Blk.set (Blk.set hz.out _) _) _) _) _) Try.underlying108 rfl (by kernel_rfl)) rfl ?_; exact ⟨rfl, (((((hk.out.setCell (Nat.le_refl _) _).setCell (Nat.le_refl _) _).setCell (Nat.le_refl _) _).setCell (Nat.le_refl _) _).setCell (Nat.le_refl _) _)⟩)
        · go_wp2
          (refine bodyPost_ret (results_cell_row rfl _ _ w.heap.size _ _ _ _ rfl (Blk.set (Blk.set (Blk.set (Blk.set (Blk.set hz.out _) _) _) _) _) Try.underlying108 rfl (by kernel_rfl)) rfl ?_; exact ⟨rfl, (((((hk.out.setCell (Nat.le_refl _) _).setCell (Nat.le_refl _) _).setCell (Nat.le_refl _) _).setCell (Nat.le_refl _) _).setCell (Nat.le_refl _) _)⟩)
        · go_wp2
          (refine bodyPost_ret (results_cell_row rfl _ _ w.heap.size _ _ _ _ rfl (Blk.set (Blk.set (Blk.set (Blk.set (Blk.set hz.out _) _) _) _) _) Try.underlying108 rfl (by kernel_rfl)) rfl ?_; exact ⟨rfl, (((((hk.out.setCell (Nat.le_refl _) _).setCell (Nat.le_refl _) _).setCell (Nat.le_refl _) _).setCell (Nat.le_refl _) _).setCell (Nat.le_refl _) _)⟩)
        · go_wp2
          (refine bodyPost_ret (results_cell_row rfl _ _ w.heap.size _ _ _ _ rfl (Blk.set (Blk.set (Blk.set (Blk.set (Blk.set hz.out _) _) _) _) _) Try.underlying108 rfl (by kernel_rfl)) rfl ?_; exact ⟨rfl, (((((hk.out.setCell (Nat.le_refl _) _).setCell (Nat.le_refl _) _).setCell (Nat.le_refl _) _).setCell (Nat.le_refl _) _).setCell (Nat.le_refl _) _)⟩)
        · go_wp2
          (refine bodyPost_ret (results_cell_row rfl _ _ w.heap.size _ _ _ _ rfl (Blk.set (Blk.set (Blk.set (Blk.set (Blk.set hz.out _) _) _) _) _) Try.underlying108 rfl (by kernel_rfl)) rfl ?_; exact ⟨rfl, (((((hk.out.setCell (Nat.le_refl _) _).setCell (Nat.le_refl _) _).setCell (Nat.le_refl _) _).setCell (Nat.le_refl _) _).setCell (Nat.le_refl _) _)⟩)
        · go_wp2
          (refine bodyPost_ret (results_cell_row rfl _ _ w.heap.size _ _ _ _ rfl (Blk.set (Blk.set (Blk.set (Blk.set (Blk.set hz.out _) _) _) _) _) Try.underlying108 rfl (by kernel_rfl)) rfl ?_; exact ⟨rfl, (((((hk.out.setCell (Nat.le_refl _) _).setCell (Nat.le_refl _) _).setCell (Nat.le_refl _) _).setCell (Nat.le_refl _) _).setCell (Nat.le_refl _) _)⟩)
        · go_wp2
          (refine bodyPost_ret (results_cell_row rfl _ _ w.heap.size _ _ _ _ rfl (Blk.set (Blk.set (Blk.set (Blk.set (Blk.set hz.out _) _) _) _) _) Try.underlying108 rfl (by kernel_rfl)) rfl ?_; exact ⟨rfl, (((((hk.out.setCell (Nat.le_refl _) _).setCell (Nat.le_refl _) _).setCell (Nat.le_refl _) _).setCell (Nat.le_refl _) _).setCell (Nat.le_refl _) _)⟩)
        · go_wp2
          (refine bodyPost_ret (results_cell_row rfl _ _ w.heap.size _ _ _ _ rfl (Blk.set (Blk.set (Blk.set (Blk.set (Blk.set hz.out _) _) _) _) _) Try.underlying108 rfl (by kernel_rfl)) rfl ?_; exact ⟨rfl, (((((hk.out.setCell (Nat.le_refl _) _).setCell (Nat.le_refl _) _).setCell (Nat.le_refl _) _).setCell (Nat.le_refl _) _).setCell (Nat.le_refl _) _)⟩)
        · go_wp2
          (refine bodyPost_ret (results_cell_row rfl _ _ w.heap.size _ _ _ _ rfl (Blk.set (Blk.set (Blk.set (Blk.set (Blk.set hz.out _) _) _) _) _) Try.underlying108 rfl (by kernel_rfl)) rfl ?_; exact ⟨rfl, (((((hk.out.setCell (Nat.le_refl _) _).setCell (Nat.le_refl _) _).setCell (Nat.le_refl _) _).setCell (Nat.le_refl _) _).setCell (Nat.le_refl _) _)⟩)
set_option maxRecDepth 100000 in
set_option maxHeartbeats 4000000 in
theorem of_F (op : Int) (h : op < 1) (w : World) : Calls Try.prog 36 #[.int .i64 op] w fun e w' => e = .returned (refOf op) ∧ Kp w w' := by
  have h0 : Aside (OfW w (w.alloc (.cells #[.int .u8 0, .int .i64 0, .int .i64 0, .int .i64 0, .int .i64 0] 108))) := ⟨OfW.start w⟩
  go_enter Try.func36, Try.ntmps36
  go_upto_region 1 with fail
  go_cut [3] (fun s wx => OfW w wx ∧ ∃ b, s = .pointer (some ⟨b, 0, none⟩) ∧ w.heap.size < b ∧ wx.rangeAt b 0 (#[.int .i64 0, .int .i64 0, .int .i64 0, .int .i64 0, .int .i64 0, .int .i64 32, .int .i64 1, .int .i64 0, .int .i64 2, .int .i64 0, .int .i64 3, .int .i64 0, .int .i64 4, .int .i64 0, .int .i64 5, .int .i64 0, .int .i64 5, .int .i64 32, .int .i64 6, .int .i64 0, .int .i64 7, .int .i64 0, .int .i64 0, .int .i64 1, .int .i64 1, .int .i64 1, .int .i64 3, .int .i64 1, .int .i64 4, .int .i64 1, .int .i64 5, .int .i64 1, .int .i64 6, .int .i64 1, .int .i64 7, .int .i64 1] : Array Value).toList)
  case first =>
    clear h
    go_wp2_with (refine wpList_store_mid rfl 135 (.tmp 3) (.tmp 24) rfl (w.heap.size + 1) 0 #[.int .i64 0, .int .i64 0, .int .i64 0, .int .i64 0, .int .i64 0, .int .i64 32, .int .i64 1, .int .i64 0, .int .i64 2, .int .i64 0, .int .i64 3, .int .i64 0, .int .i64 4, .int .i64 0, .int .i64 5, .int .i64 0, .int .i64 5, .int .i64 32, .int .i64 6, .int .i64 0, .int .i64 7, .int .i64 0, .int .i64 0, .int .i64 1, .int .i64 1, .int .i64 1, .int .i64 3, .int .i64 1, .int .i64 4, .int .i64 1, .int .i64 5, .int .i64 1, .int .i64 6, .int .i64 1, .int .i64 7, .int .i64 1] rfl rfl (there_new _ _ _ (World.size_alloc _ _) rfl) (by kernel_rfl) (by kernel_rfl) ?_)
    go_meet
    have hs := fun zs ty cs hl => h0.out.stored (b := (w.heap.size + 1)) zs ty cs (World.size_alloc _ _) hl
    refine ⟨(hs _ _ _ ?_).1, _, rfl, (hs _ _ _ ?_).2⟩
    · rfl
    · rfl
  case rest =>
    clear h0
    obtain ⟨h0, b, rfl, lb, hr⟩ := hcut
    replace h0 := Aside.mk h0
    replace hr := Aside.mk hr
    replace lb := Aside.mk lb
    clear hr lb
    go_upto_region 4 with fail
    go_cut [4] (fun s wx => OfW w wx ∧ ∃ b, s = .pointer (some ⟨b, 0, none⟩) ∧ w.heap.size < b ∧ wx.rangeAt b 0 (#[.int .i64 0, .int .i64 2, .int .i64 3, .int .i64 4, .int .i64 6, .int .i64 7] : Array Value).toList)
    case first =>
      go_wp2_with (refine wpList_store_mid rfl 136 (.tmp 4) (.tmp 40) rfl wc.heap.size 0 #[.int .i64 0, .int .i64 2, .int .i64 3, .int .i64 4, .int .i64 6, .int .i64 7] rfl rfl (there_new _ _ _ rfl rfl) (by kernel_rfl) (by kernel_rfl) ?_)
      go_meet
      have hs := fun zs ty cs hl => h0.out.stored (b := wc.heap.size) zs ty cs rfl hl
      refine ⟨(hs _ _ _ ?_).1, _, rfl, (hs _ _ _ ?_).2⟩
      · rfl
      · rfl
    case rest =>
      clear h0
      obtain ⟨h0, b, rfl, lb, hr⟩ := hcut
      replace h0 := Aside.mk h0
      replace hr := Aside.mk hr
      replace lb := Aside.mk lb
      clear hr lb
      go_upto_region 7 with fail
      go_cut [5] (fun s wx => OfW w wx ∧ ∃ b, s = .pointer (some ⟨b, 0, none⟩) ∧ w.heap.size < b ∧ wx.rangeAt b 0 (#[.int .i64 0, .int .i64 1, .int .i64 4, .int .i64 5, .int .i64 6, .int .i64 7] : Array Value).toList)
      case first =>
        go_wp2_with (refine wpList_store_mid rfl 136 (.tmp 5) (.tmp 52) rfl wc.heap.size 0 #[.int .i64 0, .int .i64 1, .int .i64 4, .int .i64 5, .int .i64 6, .int .i64 7] rfl rfl (there_new _ _ _ rfl rfl) (by kernel_rfl) (by kernel_rfl) ?_)
        go_meet
        have hs := fun zs ty cs hl => h0.out.stored (b := wc.heap.size) zs ty cs rfl hl
        refine ⟨(hs _ _ _ ?_).1, _, rfl, (hs _ _ _ ?_).2⟩
        · rfl
        · rfl
      case rest =>
        clear h0
        obtain ⟨h0, b, rfl, lb, hr⟩ := hcut
        replace h0 := Aside.mk h0
        replace hr := Aside.mk hr
        replace lb := Aside.mk lb
        have hk : Aside (Kp w wc) := ⟨h0.out.1⟩
        have hz : Aside (Blk wc w.heap.size #[.int .u8 0, .int .i64 0, .int .i64 0, .int .i64 0, .int .i64 0] 108) := ⟨h0.out.2⟩
        clear h0
        obtain ⟨zl, z0, z1, z2, z3, z4, y0, y1, y2, y3, y4⟩ := hz.out.five
        clear hr
        have hro : refOf op = .agg #[.int .u8 0, .int .i64 0, .int .i64 0, .int .i64 0, .int .i64 0] := by
          unfold refOf formOf
          rw [if_neg (by omega)]
        replace hro := Aside.mk hro
        have n24 : op ≠ 24 := by omega
        have n25 : op ≠ 25 := by omega
        have n26 : op ≠ 26 := by omega
        have n27 : op ≠ 27 := by omega
        have n28 : op ≠ 28 := by omega
        have n29 : op ≠ 29 := by omega
        have n30 : op ≠ 30 := by omega
        have n31 : op ≠ 31 := by omega
        have n38 : op ≠ 38 := by omega
        have n39 : op ≠ 39 := by omega
        have n40 : op ≠ 40 := by omega
        have n41 : op ≠ 41 := by omega
        have n42 : op ≠ 42 := by omega
        have n43 : op ≠ 43 := by omega
        have n44 : op ≠ 44 := by omega
        have n45 : op ≠ 45 := by omega
        have n46 : op ≠ 46 := by omega
        have n47 : op ≠ 47 := by omega
        have n48 : op ≠ 48 := by omega
        have n49 : op ≠ 49 := by omega
        have n50 : op ≠ 50 := by omega
        have n51 : op ≠ 51 := by omega
        have n52 : op ≠ 52 := by omega
        have n53 : op ≠ 53 := by omega
        have n54 : op ≠ 54 := by omega
        have n55 : op ≠ 55 := by omega
        go_wp2
        refine bodyPost_ret (results_cell_row rfl _ _ w.heap.size _ _ _ _ rfl (Blk.set (Blk.set (Blk.set (Blk.set (Blk.set hz.out _) _) _) _) _) Try.underlying108 rfl (by kernel_rfl)) rfl ?_
        exact ⟨by rw [hro.out]; rfl, (((((hk.out.setCell (Nat.le_refl _) _).setCell (Nat.le_refl _) _).setCell (Nat.le_refl _) _).setCell (Nat.le_refl _) _).setCell (Nat.le_refl _) _)⟩
set_option maxRecDepth 100000 in
set_option maxHeartbeats 4000000 in
theorem of_G (op : Int) (h : 55 < op) (w : World) : Calls Try.prog 36 #[.int .i64 op] w fun e w' => e = .returned (refOf op) ∧ Kp w w' := by
  have h0 : Aside (OfW w (w.alloc (.cells #[.int .u8 0, .int .i64 0, .int .i64 0, .int .i64 0, .int .i64 0] 108))) := ⟨OfW.start w⟩
  go_enter Try.func36, Try.ntmps36
  go_upto_region 1 with fail
  go_cut [3] (fun s wx => OfW w wx ∧ ∃ b, s = .pointer (some ⟨b, 0, none⟩) ∧ w.heap.size < b ∧ wx.rangeAt b 0 (#[.int .i64 0, .int .i64 0, .int .i64 0, .int .i64 0, .int .i64 0, .int .i64 32, .int .i64 1, .int .i64 0, .int .i64 2, .int .i64 0, .int .i64 3, .int .i64 0, .int .i64 4, .int .i64 0, .int .i64 5, .int .i64 0, .int .i64 5, .int .i64 32, .int .i64 6, .int .i64 0, .int .i64 7, .int .i64 0, .int .i64 0, .int .i64 1, .int .i64 1, .int .i64 1, .int .i64 3, .int .i64 1, .int .i64 4, .int .i64 1, .int .i64 5, .int .i64 1, .int .i64 6, .int .i64 1, .int .i64 7, .int .i64 1] : Array Value).toList)
  case first =>
    clear h
    go_wp2_with (refine wpList_store_mid rfl 135 (.tmp 3) (.tmp 24) rfl (w.heap.size + 1) 0 #[.int .i64 0, .int .i64 0, .int .i64 0, .int .i64 0, .int .i64 0, .int .i64 32, .int .i64 1, .int .i64 0, .int .i64 2, .int .i64 0, .int .i64 3, .int .i64 0, .int .i64 4, .int .i64 0, .int .i64 5, .int .i64 0, .int .i64 5, .int .i64 32, .int .i64 6, .int .i64 0, .int .i64 7, .int .i64 0, .int .i64 0, .int .i64 1, .int .i64 1, .int .i64 1, .int .i64 3, .int .i64 1, .int .i64 4, .int .i64 1, .int .i64 5, .int .i64 1, .int .i64 6, .int .i64 1, .int .i64 7, .int .i64 1] rfl rfl (there_new _ _ _ (World.size_alloc _ _) rfl) (by kernel_rfl) (by kernel_rfl) ?_)
    go_meet
    have hs := fun zs ty cs hl => h0.out.stored (b := (w.heap.size + 1)) zs ty cs (World.size_alloc _ _) hl
    refine ⟨(hs _ _ _ ?_).1, _, rfl, (hs _ _ _ ?_).2⟩
    · rfl
    · rfl
  case rest =>
    clear h0
    obtain ⟨h0, b, rfl, lb, hr⟩ := hcut
    replace h0 := Aside.mk h0
    replace hr := Aside.mk hr
    replace lb := Aside.mk lb
    clear hr lb
    go_upto_region 4 with fail
    go_cut [4] (fun s wx => OfW w wx ∧ ∃ b, s = .pointer (some ⟨b, 0, none⟩) ∧ w.heap.size < b ∧ wx.rangeAt b 0 (#[.int .i64 0, .int .i64 2, .int .i64 3, .int .i64 4, .int .i64 6, .int .i64 7] : Array Value).toList)
    case first =>
      go_wp2_with (refine wpList_store_mid rfl 136 (.tmp 4) (.tmp 40) rfl wc.heap.size 0 #[.int .i64 0, .int .i64 2, .int .i64 3, .int .i64 4, .int .i64 6, .int .i64 7] rfl rfl (there_new _ _ _ rfl rfl) (by kernel_rfl) (by kernel_rfl) ?_)
      go_meet
      have hs := fun zs ty cs hl => h0.out.stored (b := wc.heap.size) zs ty cs rfl hl
      refine ⟨(hs _ _ _ ?_).1, _, rfl, (hs _ _ _ ?_).2⟩
      · rfl
      · rfl
    case rest =>
      clear h0
      obtain ⟨h0, b, rfl, lb, hr⟩ := hcut
      replace h0 := Aside.mk h0
      replace hr := Aside.mk hr
      replace lb := Aside.mk lb
      clear hr lb
      go_upto_region 7 with fail
      go_cut [5] (fun s wx => OfW w wx ∧ ∃ b, s = .pointer (some ⟨b, 0, none⟩) ∧ w.heap.size < b ∧ wx.rangeAt b 0 (#[.int .i64 0, .int .i64 1, .int .i64 4, .int .i64 5, .int .i64 6, .int .i64 7] : Array Value).toList)
      case first =>
        go_wp2_with (refine wpList_store_mid rfl 136 (.tmp 5) (.tmp 52) rfl wc.heap.size 0 #[.int .i64 0, .int .i64 1, .int .i64 4, .int .i64 5, .int .i64 6, .int .i64 7] rfl rfl (there_new _ _ _ rfl rfl) (by kernel_rfl) (by kernel_rfl) ?_)
        go_meet
        have hs := fun zs ty cs hl => h0.out.stored (b := wc.heap.size) zs ty cs rfl hl
        refine ⟨(hs _ _ _ ?_).1, _, rfl, (hs _ _ _ ?_).2⟩
        · rfl
        · rfl
      case rest =>
        clear h0
        obtain ⟨h0, b, rfl, lb, hr⟩ := hcut
        replace h0 := Aside.mk h0
        replace hr := Aside.mk hr
        replace lb := Aside.mk lb
        have hk : Aside (Kp w wc) := ⟨h0.out.1⟩
        have hz : Aside (Blk wc w.heap.size #[.int .u8 0, .int .i64 0, .int .i64 0, .int .i64 0, .int .i64 0] 108) := ⟨h0.out.2⟩
        clear h0
        obtain ⟨zl, z0, z1, z2, z3, z4, y0, y1, y2, y3, y4⟩ := hz.out.five
        clear hr
        have hro : refOf op = .agg #[.int .u8 0, .int .i64 0, .int .i64 0, .int .i64 0, .int .i64 0] := by
          unfold refOf formOf
          rw [if_neg (by omega)]
        replace hro := Aside.mk hro
        have n24 : op ≠ 24 := by omega
        have n25 : op ≠ 25 := by omega
        have n26 : op ≠ 26 := by omega
        have n27 : op ≠ 27 := by omega
        have n28 : op ≠ 28 := by omega
        have n29 : op ≠ 29 := by omega
        have n30 : op ≠ 30 := by omega
        have n31 : op ≠ 31 := by omega
        have n38 : op ≠ 38 := by omega
        have n39 : op ≠ 39 := by omega
        have n40 : op ≠ 40 := by omega
        have n41 : op ≠ 41 := by omega
        have n42 : op ≠ 42 := by omega
        have n43 : op ≠ 43 := by omega
        have n44 : op ≠ 44 := by omega
        have n45 : op ≠ 45 := by omega
        have n46 : op ≠ 46 := by omega
        have n47 : op ≠ 47 := by omega
        have n48 : op ≠ 48 := by omega
        have n49 : op ≠ 49 := by omega
        have n50 : op ≠ 50 := by omega
        have n51 : op ≠ 51 := by omega
        have n52 : op ≠ 52 := by omega
        have n53 : op ≠ 53 := by omega
        have n54 : op ≠ 54 := by omega
        have n55 : op ≠ 55 := by omega
        go_wp2
        refine bodyPost_ret (results_cell_row rfl _ _ w.heap.size _ _ _ _ rfl (Blk.set (Blk.set (Blk.set (Blk.set (Blk.set hz.out _) _) _) _) _) Try.underlying108 rfl (by kernel_rfl)) rfl ?_
        exact ⟨by rw [hro.out]; rfl, (((((hk.out.setCell (Nat.le_refl _) _).setCell (Nat.le_refl _) _).setCell (Nat.le_refl _) _).setCell (Nat.le_refl _) _).setCell (Nat.le_refl _) _)⟩
end Go.Proofs.Ytnbooljaodkedaa
