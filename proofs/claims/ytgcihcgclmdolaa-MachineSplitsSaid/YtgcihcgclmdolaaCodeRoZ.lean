/- The reference's rows, walked: the numbers of part A. · The reference's rows, walked: the numbers of part H. · The reference's rows, walked: the numbers of part I. · The reference's rows, walked: the numbers of part C. · The reference's rows, walked: the numbers of part E. · The reference's rows, all. -/
import Derived.Test.YtgcihcgclmdolaaCodeRoB
namespace Go.Proofs.Ytgcihcgclmdolaa
open Go.RowKit Go.Maps Go.Proofs.Ytgcihcgclmdolaa.PC
set_option linter.unusedVariables false
set_option linter.unusedSimpArgs false
set_option maxRecDepth 100000 in
set_option maxHeartbeats 4000000 in
theorem of_A (op : Int) (h : 1 ≤ op ∧ op ≤ 6) (w : World) : Calls Try.prog 35 #[.int .i64 op] w fun e w' => e = .returned (refOf op) ∧ Kp w w' := by
  have h0 : Aside (OfW w (w.alloc (.cells #[.int .u8 0, .int .i64 0, .int .i64 0, .int .i64 0, .int .i64 0] 93))) := ⟨OfW.start w⟩
  go_enter Try.func35, Try.ntmps35
  go_upto_region 1 with fail
  go_cut [3] (fun s wx => OfW w wx ∧ ∃ b, s = .pointer (some ⟨b, 0, none⟩) ∧ w.heap.size < b ∧ wx.rangeAt b 0 (#[.int .i64 0, .int .i64 0, .int .i64 0, .int .i64 0, .int .i64 0, .int .i64 32, .int .i64 1, .int .i64 0, .int .i64 2, .int .i64 0, .int .i64 3, .int .i64 0, .int .i64 4, .int .i64 0, .int .i64 5, .int .i64 0, .int .i64 5, .int .i64 32, .int .i64 6, .int .i64 0, .int .i64 7, .int .i64 0, .int .i64 0, .int .i64 1, .int .i64 1, .int .i64 1, .int .i64 3, .int .i64 1, .int .i64 4, .int .i64 1, .int .i64 5, .int .i64 1, .int .i64 6, .int .i64 1, .int .i64 7, .int .i64 1] : Array Value).toList)
  case first =>
    clear h
    go_wp2_with (refine wpList_store_mid rfl 104 (.tmp 3) (.tmp 24) rfl (w.heap.size + 1) 0 #[.int .i64 0, .int .i64 0, .int .i64 0, .int .i64 0, .int .i64 0, .int .i64 32, .int .i64 1, .int .i64 0, .int .i64 2, .int .i64 0, .int .i64 3, .int .i64 0, .int .i64 4, .int .i64 0, .int .i64 5, .int .i64 0, .int .i64 5, .int .i64 32, .int .i64 6, .int .i64 0, .int .i64 7, .int .i64 0, .int .i64 0, .int .i64 1, .int .i64 1, .int .i64 1, .int .i64 3, .int .i64 1, .int .i64 4, .int .i64 1, .int .i64 5, .int .i64 1, .int .i64 6, .int .i64 1, .int .i64 7, .int .i64 1] rfl rfl (there_new _ _ _ (World.size_alloc _ _) rfl) (by kernel_rfl) (by kernel_rfl) ?_)
    go_meet
    have hs := fun zs ty cs hl => h0.out.stored (b := (w.heap.size + 1)) zs ty cs (World.size_alloc _ _) hl
    refine ⟨(hs _ _ _ ?_).1, _, rfl, (hs _ _ _ ?_).2⟩
    · rfl
    · rfl
  case rest =>
    clear h0
    obtain ⟨h0, b, rfl, lb, hr⟩ := hcut
    replace h0 := Aside.mk h0
    replace hr := Aside.mk hr
    replace lb := Aside.mk lb
    have hk : Aside (Kp w wc) := ⟨h0.out.1⟩
    have hz : Aside (Blk wc w.heap.size #[.int .u8 0, .int .i64 0, .int .i64 0, .int .i64 0, .int .i64 0] 93) := ⟨h0.out.2⟩
    clear h0
    obtain ⟨zl, z0, z1, z2, z3, z4, y0, y1, y2, y3, y4⟩ := hz.out.five
    have bl := lb.out
    have bn1 : b ≠ w.heap.size := by omega
    have bn2 : w.heap.size ≠ b := by omega
    have h' : op = 1 ∨ op = 2 ∨ op = 3 ∨ op = 4 ∨ op = 5 ∨ op = 6 := by omega
    clear h
    rcases h' with rfl | rfl | rfl | rfl | rfl | rfl
    · have e0 : wc.cell? ⟨b, 2, none⟩ = some (.int .i64 0) := hr.out 2 _ rfl
      have e1 : wc.cell? ⟨b, 3, none⟩ = some (.int .i64 0) := hr.out 3 _ rfl
      go_wp2
      go_region_held3 (fun w' => w'.cell? ⟨b, 2, none⟩ = some (.int .i64 0) ∧ w'.cell? ⟨b, 3, none⟩ = some (.int .i64 0)) (go_keep) (fail)
      all_goals
        go_wp2
        (refine bodyPost_ret (results_cell_row rfl _ _ w.heap.size _ _ _ _ rfl (Blk.set (Blk.set (Blk.set (Blk.set (Blk.set hz.out _) _) _) _) _) Try.underlying93 rfl (by kernel_rfl)) rfl ?_; exact ⟨rfl, Kp.drew (((((hk.out.setCell (Nat.le_refl _) _).setCell (Nat.le_refl _) _).setCell (Nat.le_refl _) _).setCell (Nat.le_refl _) _).setCell (Nat.le_refl _) _)⟩)
    · have e0 : wc.cell? ⟨b, 4, none⟩ = some (.int .i64 0) := hr.out 4 _ rfl
      have e1 : wc.cell? ⟨b, 5, none⟩ = some (.int .i64 32) := hr.out 5 _ rfl
      go_wp2
      go_region_held3 (fun w' => w'.cell? ⟨b, 4, none⟩ = some (.int .i64 0) ∧ w'.cell? ⟨b, 5, none⟩ = some (.int .i64 32)) (go_keep) (fail)
      all_goals
        go_wp2
        (refine bodyPost_ret (results_cell_row rfl _ _ w.heap.size _ _ _ _ rfl (Blk.set (Blk.set (Blk.set (Blk.set (Blk.set hz.out _) _) _) _) _) Try.underlying93 rfl (by kernel_rfl)) rfl ?_; exact ⟨rfl, Kp.drew (((((hk.out.setCell (Nat.le_refl _) _).setCell (Nat.le_refl _) _).setCell (Nat.le_refl _) _).setCell (Nat.le_refl _) _).setCell (Nat.le_refl _) _)⟩)
    · have e0 : wc.cell? ⟨b, 6, none⟩ = some (.int .i64 1) := hr.out 6 _ rfl
      have e1 : wc.cell? ⟨b, 7, none⟩ = some (.int .i64 0) := hr.out 7 _ rfl
      go_wp2
      go_region_held3 (fun w' => w'.cell? ⟨b, 6, none⟩ = some (.int .i64 1) ∧ w'.cell? ⟨b, 7, none⟩ = some (.int .i64 0)) (go_keep) (fail)
      all_goals
        go_wp2
        (refine bodyPost_ret (results_cell_row rfl _ _ w.heap.size _ _ _ _ rfl (Blk.set (Blk.set (Blk.set (Blk.set (Blk.set hz.out _) _) _) _) _) Try.underlying93 rfl (by kernel_rfl)) rfl ?_; exact ⟨rfl, Kp.drew (((((hk.out.setCell (Nat.le_refl _) _).setCell (Nat.le_refl _) _).setCell (Nat.le_refl _) _).setCell (Nat.le_refl _) _).setCell (Nat.le_refl _) _)⟩)
    · have e0 : wc.cell? ⟨b, 8, none⟩ = some (.int .i64 2) := hr.out 8 _ rfl
      have e1 : wc.cell? ⟨b, 9, none⟩ = some (.int .i64 0) := hr.out 9 _ rfl
      go_wp2
      go_region_held3 (fun w' => w'.cell? ⟨b, 8, none⟩ = some (.int .i64 2) ∧ w'.cell? ⟨b, 9, none⟩ = some (.int .i64 0)) (go_keep) (fail)
      all_goals
        go_wp2
        (refine bodyPost_ret (results_cell_row rfl _ _ w.heap.size _ _ _ _ rfl (Blk.set (Blk.set (Blk.set (Blk.set (Blk.set hz.out _) _) _) _) _) Try.underlying93 rfl (by kernel_rfl)) rfl ?_; exact ⟨rfl, Kp.drew (((((hk.out.setCell (Nat.le_refl _) _).setCell (Nat.le_refl _) _).setCell (Nat.le_refl _) _).setCell (Nat.le_refl _) _).setCell (Nat.le_refl _) _)⟩)
    · have e0 : wc.cell? ⟨b, 10, none⟩ = some (.int .i64 3) := hr.out 10 _ rfl
      have e1 : wc.cell? ⟨b, 11, none⟩ = some (.int .i64 0) := hr.out 11 _ rfl
      go_wp2
      go_region_held3 (fun w' => w'.cell? ⟨b, 10, none⟩ = some (.int .i64 3) ∧ w'.cell? ⟨b, 11, none⟩ = some (.int .i64 0)) (go_keep) (fail)
      all_goals
        go_wp2
        (refine bodyPost_ret (results_cell_row rfl _ _ w.heap.size _ _ _ _ rfl (Blk.set (Blk.set (Blk.set (Blk.set (Blk.set hz.out _) _) _) _) _) Try.underlying93 rfl (by kernel_rfl)) rfl ?_; exact ⟨rfl, Kp.drew (((((hk.out.setCell (Nat.le_refl _) _).setCell (Nat.le_refl _) _).setCell (Nat.le_refl _) _).setCell (Nat.le_refl _) _).setCell (Nat.le_refl _) _)⟩)
    · have e0 : wc.cell? ⟨b, 12, none⟩ = some (.int .i64 4) := hr.out 12 _ rfl
      have e1 : wc.cell? ⟨b, 13, none⟩ = some (.int .i64 0) := hr.out 13 _ rfl
      go_wp2
      go_region_held3 (fun w' => w'.cell? ⟨b, 12, none⟩ = some (.int .i64 4) ∧ w'.cell? ⟨b, 13, none⟩ = some (.int .i64 0)) (go_keep) (fail)
      all_goals
        go_wp2
        (refine bodyPost_ret (results_cell_row rfl _ _ w.heap.size _ _ _ _ rfl (Blk.set (Blk.set (Blk.set (Blk.set (Blk.set hz.out _) _) _) _) _) Try.underlying93 rfl (by kernel_rfl)) rfl ?_; exact ⟨rfl, Kp.drew (((((hk.out.setCell (Nat.le_refl _) _).setCell (Nat.le_refl _) _).setCell (Nat.le_refl _) _).setCell (Nat.le_refl _) _).setCell (Nat.le_refl _) _)⟩)
end Go.Proofs.Ytgcihcgclmdolaa
namespace Go.Proofs.Ytgcihcgclmdolaa
open Go.RowKit Go.Maps Go.Proofs.Ytgcihcgclmdolaa.PC
set_option linter.unusedVariables false
set_option linter.unusedSimpArgs false
set_option maxRecDepth 100000 in
set_option maxHeartbeats 4000000 in
theorem of_A2 (op : Int) (h : 7 ≤ op ∧ op ≤ 12) (w : World) : Calls Try.prog 35 #[.int .i64 op] w fun e w' => e = .returned (refOf op) ∧ Kp w w' := by
  have h0 : Aside (OfW w (w.alloc (.cells #[.int .u8 0, .int .i64 0, .int .i64 0, .int .i64 0, .int .i64 0] 93))) := ⟨OfW.start w⟩
  go_enter Try.func35, Try.ntmps35
  go_upto_region 1 with fail
  go_cut [3] (fun s wx => OfW w wx ∧ ∃ b, s = .pointer (some ⟨b, 0, none⟩) ∧ w.heap.size < b ∧ wx.rangeAt b 0 (#[.int .i64 0, .int .i64 0, .int .i64 0, .int .i64 0, .int .i64 0, .int .i64 32, .int .i64 1, .int .i64 0, .int .i64 2, .int .i64 0, .int .i64 3, .int .i64 0, .int .i64 4, .int .i64 0, .int .i64 5, .int .i64 0, .int .i64 5, .int .i64 32, .int .i64 6, .int .i64 0, .int .i64 7, .int .i64 0, .int .i64 0, .int .i64 1, .int .i64 1, .int .i64 1, .int .i64 3, .int .i64 1, .int .i64 4, .int .i64 1, .int .i64 5, .int .i64 1, .int .i64 6, .int .i64 1, .int .i64 7, .int .i64 1] : Array Value).toList)
  case first =>
    clear h
    go_wp2_with (refine wpList_store_mid rfl 104 (.tmp 3) (.tmp 24) rfl (w.heap.size + 1) 0 #[.int .i64 0, .int .i64 0, .int .i64 0, .int .i64 0, .int .i64 0, .int .i64 32, .int .i64 1, .int .i64 0, .int .i64 2, .int .i64 0, .int .i64 3, .int .i64 0, .int .i64 4, .int .i64 0, .int .i64 5, .int .i64 0, .int .i64 5, .int .i64 32, .int .i64 6, .int .i64 0, .int .i64 7, .int .i64 0, .int .i64 0, .int .i64 1, .int .i64 1, .int .i64 1, .int .i64 3, .int .i64 1, .int .i64 4, .int .i64 1, .int .i64 5, .int .i64 1, .int .i64 6, .int .i64 1, .int .i64 7, .int .i64 1] rfl rfl (there_new _ _ _ (World.size_alloc _ _) rfl) (by kernel_rfl) (by kernel_rfl) ?_)
    go_meet
    have hs := fun zs ty cs hl => h0.out.stored (b := (w.heap.size + 1)) zs ty cs (World.size_alloc _ _) hl
    refine ⟨(hs _ _ _ ?_).1, _, rfl, (hs _ _ _ ?_).2⟩
    · rfl
    · rfl
  case rest =>
    clear h0
    obtain ⟨h0, b, rfl, lb, hr⟩ := hcut
    replace h0 := Aside.mk h0
    replace hr := Aside.mk hr
    replace lb := Aside.mk lb
    have hk : Aside (Kp w wc) := ⟨h0.out.1⟩
    have hz : Aside (Blk wc w.heap.size #[.int .u8 0, .int .i64 0, .int .i64 0, .int .i64 0, .int .i64 0] 93) := ⟨h0.out.2⟩
    clear h0
    obtain ⟨zl, z0, z1, z2, z3, z4, y0, y1, y2, y3, y4⟩ := hz.out.five
    have bl := lb.out
    have bn1 : b ≠ w.heap.size := by omega
    have bn2 : w.heap.size ≠ b := by omega
    have h' : op = 7 ∨ op = 8 ∨ op = 9 ∨ op = 10 ∨ op = 11 ∨ op = 12 := by omega
    clear h
    rcases h' with rfl | rfl | rfl | rfl | rfl | rfl
    · have e0 : wc.cell? ⟨b, 14, none⟩ = some (.int .i64 5) := hr.out 14 _ rfl
      have e1 : wc.cell? ⟨b, 15, none⟩ = some (.int .i64 0) := hr.out 15 _ rfl
      go_wp2
      go_region_held3 (fun w' => w'.cell? ⟨b, 14, none⟩ = some (.int .i64 5) ∧ w'.cell? ⟨b, 15, none⟩ = some (.int .i64 0)) (go_keep) (fail)
      all_goals
        go_wp2
        (refine bodyPost_ret (results_cell_row rfl _ _ w.heap.size _ _ _ _ rfl (Blk.set (Blk.set (Blk.set (Blk.set (Blk.set hz.out _) _) _) _) _) Try.underlying93 rfl (by kernel_rfl)) rfl ?_; exact ⟨rfl, Kp.drew (((((hk.out.setCell (Nat.le_refl _) _).setCell (Nat.le_refl _) _).setCell (Nat.le_refl _) _).setCell (Nat.le_refl _) _).setCell (Nat.le_refl _) _)⟩)
    · have e0 : wc.cell? ⟨b, 16, none⟩ = some (.int .i64 5) := hr.out 16 _ rfl
      have e1 : wc.cell? ⟨b, 17, none⟩ = some (.int .i64 32) := hr.out 17 _ rfl
      go_wp2
      go_region_held3 (fun w' => w'.cell? ⟨b, 16, none⟩ = some (.int .i64 5) ∧ w'.cell? ⟨b, 17, none⟩ = some (.int .i64 32)) (go_keep) (fail)
      all_goals
        go_wp2
        (refine bodyPost_ret (results_cell_row rfl _ _ w.heap.size _ _ _ _ rfl (Blk.set (Blk.set (Blk.set (Blk.set (Blk.set hz.out _) _) _) _) _) Try.underlying93 rfl (by kernel_rfl)) rfl ?_; exact ⟨rfl, Kp.drew (((((hk.out.setCell (Nat.le_refl _) _).setCell (Nat.le_refl _) _).setCell (Nat.le_refl _) _).setCell (Nat.le_refl _) _).setCell (Nat.le_refl _) _)⟩)
    · have e0 : wc.cell? ⟨b, 18, none⟩ = some (.int .i64 6) := hr.out 18 _ rfl
      have e1 : wc.cell? ⟨b, 19, none⟩ = some (.int .i64 0) := hr.out 19 _ rfl
      go_wp2
      go_region_held3 (fun w' => w'.cell? ⟨b, 18, none⟩ = some (.int .i64 6) ∧ w'.cell? ⟨b, 19, none⟩ = some (.int .i64 0)) (go_keep) (fail)
      all_goals
        go_wp2
        (refine bodyPost_ret (results_cell_row rfl _ _ w.heap.size _ _ _ _ rfl (Blk.set (Blk.set (Blk.set (Blk.set (Blk.set hz.out _) _) _) _) _) Try.underlying93 rfl (by kernel_rfl)) rfl ?_; exact ⟨rfl, Kp.drew (((((hk.out.setCell (Nat.le_refl _) _).setCell (Nat.le_refl _) _).setCell (Nat.le_refl _) _).setCell (Nat.le_refl _) _).setCell (Nat.le_refl _) _)⟩)
    · have e0 : wc.cell? ⟨b, 20, none⟩ = some (.int .i64 7) := hr.out 20 _ rfl
      have e1 : wc.cell? ⟨b, 21, none⟩ = some (.int .i64 0) := hr.out 21 _ rfl
      go_wp2
      go_region_held3 (fun w' => w'.cell? ⟨b, 20, none⟩ = some (.int .i64 7) ∧ w'.cell? ⟨b, 21, none⟩ = some (.int .i64 0)) (go_keep) (fail)
      all_goals
        go_wp2
        (refine bodyPost_ret (results_cell_row rfl _ _ w.heap.size _ _ _ _ rfl (Blk.set (Blk.set (Blk.set (Blk.set (Blk.set hz.out _) _) _) _) _) Try.underlying93 rfl (by kernel_rfl)) rfl ?_; exact ⟨rfl, Kp.drew (((((hk.out.setCell (Nat.le_refl _) _).setCell (Nat.le_refl _) _).setCell (Nat.le_refl _) _).setCell (Nat.le_refl _) _).setCell (Nat.le_refl _) _)⟩)
    · have e0 : wc.cell? ⟨b, 22, none⟩ = some (.int .i64 0) := hr.out 22 _ rfl
      have e1 : wc.cell? ⟨b, 23, none⟩ = some (.int .i64 1) := hr.out 23 _ rfl
      go_wp2
      go_region_held3 (fun w' => w'.cell? ⟨b, 22, none⟩ = some (.int .i64 0) ∧ w'.cell? ⟨b, 23, none⟩ = some (.int .i64 1)) (go_keep) (fail)
      all_goals
        go_wp2
        (refine bodyPost_ret (results_cell_row rfl _ _ w.heap.size _ _ _ _ rfl (Blk.set (Blk.set (Blk.set (Blk.set (Blk.set hz.out _) _) _) _) _) Try.underlying93 rfl (by kernel_rfl)) rfl ?_; exact ⟨rfl, Kp.drew (((((hk.out.setCell (Nat.le_refl _) _).setCell (Nat.le_refl _) _).setCell (Nat.le_refl _) _).setCell (Nat.le_refl _) _).setCell (Nat.le_refl _) _)⟩)
    · have e0 : wc.cell? ⟨b, 24, none⟩ = some (.int .i64 1) := hr.out 24 _ rfl
      have e1 : wc.cell? ⟨b, 25, none⟩ = some (.int .i64 1) := hr.out 25 _ rfl
      go_wp2
      go_region_held3 (fun w' => w'.cell? ⟨b, 24, none⟩ = some (.int .i64 1) ∧ w'.cell? ⟨b, 25, none⟩ = some (.int .i64 1)) (go_keep) (fail)
      all_goals
        go_wp2
        (refine bodyPost_ret (results_cell_row rfl _ _ w.heap.size _ _ _ _ rfl (Blk.set (Blk.set (Blk.set (Blk.set (Blk.set hz.out _) _) _) _) _) Try.underlying93 rfl (by kernel_rfl)) rfl ?_; exact ⟨rfl, Kp.drew (((((hk.out.setCell (Nat.le_refl _) _).setCell (Nat.le_refl _) _).setCell (Nat.le_refl _) _).setCell (Nat.le_refl _) _).setCell (Nat.le_refl _) _)⟩)
end Go.Proofs.Ytgcihcgclmdolaa
namespace Go.Proofs.Ytgcihcgclmdolaa
open Go.RowKit Go.Maps Go.Proofs.Ytgcihcgclmdolaa.PC
set_option linter.unusedVariables false
set_option linter.unusedSimpArgs false
set_option maxRecDepth 100000 in
set_option maxHeartbeats 4000000 in
theorem of_A3 (op : Int) (h : 13 ≤ op ∧ op ≤ 17) (w : World) : Calls Try.prog 35 #[.int .i64 op] w fun e w' => e = .returned (refOf op) ∧ Kp w w' := by
  have h0 : Aside (OfW w (w.alloc (.cells #[.int .u8 0, .int .i64 0, .int .i64 0, .int .i64 0, .int .i64 0] 93))) := ⟨OfW.start w⟩
  go_enter Try.func35, Try.ntmps35
  go_upto_region 1 with fail
  go_cut [3] (fun s wx => OfW w wx ∧ ∃ b, s = .pointer (some ⟨b, 0, none⟩) ∧ w.heap.size < b ∧ wx.rangeAt b 0 (#[.int .i64 0, .int .i64 0, .int .i64 0, .int .i64 0, .int .i64 0, .int .i64 32, .int .i64 1, .int .i64 0, .int .i64 2, .int .i64 0, .int .i64 3, .int .i64 0, .int .i64 4, .int .i64 0, .int .i64 5, .int .i64 0, .int .i64 5, .int .i64 32, .int .i64 6, .int .i64 0, .int .i64 7, .int .i64 0, .int .i64 0, .int .i64 1, .int .i64 1, .int .i64 1, .int .i64 3, .int .i64 1, .int .i64 4, .int .i64 1, .int .i64 5, .int .i64 1, .int .i64 6, .int .i64 1, .int .i64 7, .int .i64 1] : Array Value).toList)
  case first =>
    clear h
    go_wp2_with (refine wpList_store_mid rfl 104 (.tmp 3) (.tmp 24) rfl (w.heap.size + 1) 0 #[.int .i64 0, .int .i64 0, .int .i64 0, .int .i64 0, .int .i64 0, .int .i64 32, .int .i64 1, .int .i64 0, .int .i64 2, .int .i64 0, .int .i64 3, .int .i64 0, .int .i64 4, .int .i64 0, .int .i64 5, .int .i64 0, .int .i64 5, .int .i64 32, .int .i64 6, .int .i64 0, .int .i64 7, .int .i64 0, .int .i64 0, .int .i64 1, .int .i64 1, .int .i64 1, .int .i64 3, .int .i64 1, .int .i64 4, .int .i64 1, .int .i64 5, .int .i64 1, .int .i64 6, .int .i64 1, .int .i64 7, .int .i64 1] rfl rfl (there_new _ _ _ (World.size_alloc _ _) rfl) (by kernel_rfl) (by kernel_rfl) ?_)
    go_meet
    have hs := fun zs ty cs hl => h0.out.stored (b := (w.heap.size + 1)) zs ty cs (World.size_alloc _ _) hl
    refine ⟨(hs _ _ _ ?_).1, _, rfl, (hs _ _ _ ?_).2⟩
    · rfl
    · rfl
  case rest =>
    clear h0
    obtain ⟨h0, b, rfl, lb, hr⟩ := hcut
    replace h0 := Aside.mk h0
    replace hr := Aside.mk hr
    replace lb := Aside.mk lb
    have hk : Aside (Kp w wc) := ⟨h0.out.1⟩
    have hz : Aside (Blk wc w.heap.size #[.int .u8 0, .int .i64 0, .int .i64 0, .int .i64 0, .int .i64 0] 93) := ⟨h0.out.2⟩
    clear h0
    obtain ⟨zl, z0, z1, z2, z3, z4, y0, y1, y2, y3, y4⟩ := hz.out.five
    have bl := lb.out
    have bn1 : b ≠ w.heap.size := by omega
    have bn2 : w.heap.size ≠ b := by omega
    have h' : op = 13 ∨ op = 14 ∨ op = 15 ∨ op = 16 ∨ op = 17 := by omega
    clear h
    rcases h' with rfl | rfl | rfl | rfl | rfl
    · have e0 : wc.cell? ⟨b, 26, none⟩ = some (.int .i64 3) := hr.out 26 _ rfl
      have e1 : wc.cell? ⟨b, 27, none⟩ = some (.int .i64 1) := hr.out 27 _ rfl
      go_wp2
      go_region_held3 (fun w' => w'.cell? ⟨b, 26, none⟩ = some (.int .i64 3) ∧ w'.cell? ⟨b, 27, none⟩ = some (.int .i64 1)) (go_keep) (fail)
      all_goals
        go_wp2
        (refine bodyPost_ret (results_cell_row rfl _ _ w.heap.size _ _ _ _ rfl (Blk.set (Blk.set (Blk.set (Blk.set (Blk.set hz.out _) _) _) _) _) Try.underlying93 rfl (by kernel_rfl)) rfl ?_; exact ⟨rfl, Kp.drew (((((hk.out.setCell (Nat.le_refl _) _).setCell (Nat.le_refl _) _).setCell (Nat.le_refl _) _).setCell (Nat.le_refl _) _).setCell (Nat.le_refl _) _)⟩)
    · have e0 : wc.cell? ⟨b, 28, none⟩ = some (.int .i64 4) := hr.out 28 _ rfl
      have e1 : wc.cell? ⟨b, 29, none⟩ = some (.int .i64 1) := hr.out 29 _ rfl
      go_wp2
      go_region_held3 (fun w' => w'.cell? ⟨b, 28, none⟩ = some (.int .i64 4) ∧ w'.cell? ⟨b, 29, none⟩ = some (.int .i64 1)) (go_keep) (fail)
      all_goals
        go_wp2
        (refine bodyPost_ret (results_cell_row rfl _ _ w.heap.size _ _ _ _ rfl (Blk.set (Blk.set (Blk.set (Blk.set (Blk.set hz.out _) _) _) _) _) Try.underlying93 rfl (by kernel_rfl)) rfl ?_; exact ⟨rfl, Kp.drew (((((hk.out.setCell (Nat.le_refl _) _).setCell (Nat.le_refl _) _).setCell (Nat.le_refl _) _).setCell (Nat.le_refl _) _).setCell (Nat.le_refl _) _)⟩)
    · have e0 : wc.cell? ⟨b, 30, none⟩ = some (.int .i64 5) := hr.out 30 _ rfl
      have e1 : wc.cell? ⟨b, 31, none⟩ = some (.int .i64 1) := hr.out 31 _ rfl
      go_wp2
      go_region_held3 (fun w' => w'.cell? ⟨b, 30, none⟩ = some (.int .i64 5) ∧ w'.cell? ⟨b, 31, none⟩ = some (.int .i64 1)) (go_keep) (fail)
      all_goals
        go_wp2
        (refine bodyPost_ret (results_cell_row rfl _ _ w.heap.size _ _ _ _ rfl (Blk.set (Blk.set (Blk.set (Blk.set (Blk.set hz.out _) _) _) _) _) Try.underlying93 rfl (by kernel_rfl)) rfl ?_; exact ⟨rfl, Kp.drew (((((hk.out.setCell (Nat.le_refl _) _).setCell (Nat.le_refl _) _).setCell (Nat.le_refl _) _).setCell (Nat.le_refl _) _).setCell (Nat.le_refl _) _)⟩)
    · have e0 : wc.cell? ⟨b, 32, none⟩ = some (.int .i64 6) := hr.out 32 _ rfl
      have e1 : wc.cell? ⟨b, 33, none⟩ = some (.int .i64 1) := hr.out 33 _ rfl
      go_wp2
      go_region_held3 (fun w' => w'.cell? ⟨b, 32, none⟩ = some (.int .i64 6) ∧ w'.cell? ⟨b, 33, none⟩ = some (.int .i64 1)) (go_keep) (fail)
      all_goals
        go_wp2
        (refine bodyPost_ret (results_cell_row rfl _ _ w.heap.size _ _ _ _ rfl (Blk.set (Blk.set (Blk.set (Blk.set (Blk.set hz.out _) _) _) _) _) Try.underlying93 rfl (by kernel_rfl)) rfl ?_; exact ⟨rfl, Kp.drew (((((hk.out.setCell (Nat.le_refl _) _).setCell (Nat.le_refl _) _).setCell (Nat.le_refl _) _).setCell (Nat.le_refl _) _).setCell (Nat.le_refl _) _)⟩)
    · have e0 : wc.cell? ⟨b, 34, none⟩ = some (.int .i64 7) := hr.out 34 _ rfl
      have e1 : wc.cell? ⟨b, 35, none⟩ = some (.int .i64 1) := hr.out 35 _ rfl
      go_wp2
      go_region_held3 (fun w' => w'.cell? ⟨b, 34, none⟩ = some (.int .i64 7) ∧ w'.cell? ⟨b, 35, none⟩ = some (.int .i64 1)) (go_keep) (fail)
      all_goals
        go_wp2
        (refine bodyPost_ret (results_cell_row rfl _ _ w.heap.size _ _ _ _ rfl (Blk.set (Blk.set (Blk.set (Blk.set (Blk.set hz.out _) _) _) _) _) Try.underlying93 rfl (by kernel_rfl)) rfl ?_; exact ⟨rfl, Kp.drew (((((hk.out.setCell (Nat.le_refl _) _).setCell (Nat.le_refl _) _).setCell (Nat.le_refl _) _).setCell (Nat.le_refl _) _).setCell (Nat.le_refl _) _)⟩)
end Go.Proofs.Ytgcihcgclmdolaa
namespace Go.Proofs.Ytgcihcgclmdolaa
open Go.RowKit Go.Maps Go.Proofs.Ytgcihcgclmdolaa.PC
set_option linter.unusedVariables false
set_option linter.unusedSimpArgs false
set_option maxRecDepth 100000 in
set_option maxHeartbeats 4000000 in
theorem of_B (op : Int) (h : 18 ≤ op ∧ op ≤ 23) (w : World) : Calls Try.prog 35 #[.int .i64 op] w fun e w' => e = .returned (refOf op) ∧ Kp w w' := by
  have h0 : Aside (OfW w (w.alloc (.cells #[.int .u8 0, .int .i64 0, .int .i64 0, .int .i64 0, .int .i64 0] 93))) := ⟨OfW.start w⟩
  go_enter Try.func35, Try.ntmps35
  go_upto_region 1 with fail
  go_cut [3] (fun s wx => OfW w wx ∧ ∃ b, s = .pointer (some ⟨b, 0, none⟩) ∧ w.heap.size < b ∧ wx.rangeAt b 0 (#[.int .i64 0, .int .i64 0, .int .i64 0, .int .i64 0, .int .i64 0, .int .i64 32, .int .i64 1, .int .i64 0, .int .i64 2, .int .i64 0, .int .i64 3, .int .i64 0, .int .i64 4, .int .i64 0, .int .i64 5, .int .i64 0, .int .i64 5, .int .i64 32, .int .i64 6, .int .i64 0, .int .i64 7, .int .i64 0, .int .i64 0, .int .i64 1, .int .i64 1, .int .i64 1, .int .i64 3, .int .i64 1, .int .i64 4, .int .i64 1, .int .i64 5, .int .i64 1, .int .i64 6, .int .i64 1, .int .i64 7, .int .i64 1] : Array Value).toList)
  case first =>
    clear h
    go_wp2_with (refine wpList_store_mid rfl 104 (.tmp 3) (.tmp 24) rfl (w.heap.size + 1) 0 #[.int .i64 0, .int .i64 0, .int .i64 0, .int .i64 0, .int .i64 0, .int .i64 32, .int .i64 1, .int .i64 0, .int .i64 2, .int .i64 0, .int .i64 3, .int .i64 0, .int .i64 4, .int .i64 0, .int .i64 5, .int .i64 0, .int .i64 5, .int .i64 32, .int .i64 6, .int .i64 0, .int .i64 7, .int .i64 0, .int .i64 0, .int .i64 1, .int .i64 1, .int .i64 1, .int .i64 3, .int .i64 1, .int .i64 4, .int .i64 1, .int .i64 5, .int .i64 1, .int .i64 6, .int .i64 1, .int .i64 7, .int .i64 1] rfl rfl (there_new _ _ _ (World.size_alloc _ _) rfl) (by kernel_rfl) (by kernel_rfl) ?_)
    go_meet
    have hs := fun zs ty cs hl => h0.out.stored (b := (w.heap.size + 1)) zs ty cs (World.size_alloc _ _) hl
    refine ⟨(hs _ _ _ ?_).1, _, rfl, (hs _ _ _ ?_).2⟩
    · rfl
    · rfl
  case rest =>
    clear h0
    obtain ⟨h0, b, rfl, lb, hr⟩ := hcut
    replace h0 := Aside.mk h0
    replace hr := Aside.mk hr
    replace lb := Aside.mk lb
    clear hr lb
    go_upto_region 4 with fail
    go_cut [4] (fun s wx => OfW w wx ∧ ∃ b, s = .pointer (some ⟨b, 0, none⟩) ∧ w.heap.size < b ∧ wx.rangeAt b 0 (#[.int .i64 0, .int .i64 2, .int .i64 3, .int .i64 4, .int .i64 6, .int .i64 7] : Array Value).toList)
    case first =>
      go_wp2_with (refine wpList_store_mid rfl 105 (.tmp 4) (.tmp 40) rfl wc.heap.size 0 #[.int .i64 0, .int .i64 2, .int .i64 3, .int .i64 4, .int .i64 6, .int .i64 7] rfl rfl (there_new _ _ _ rfl rfl) (by kernel_rfl) (by kernel_rfl) ?_)
      go_meet
      have hs := fun zs ty cs hl => h0.out.stored (b := wc.heap.size) zs ty cs rfl hl
      refine ⟨(hs _ _ _ ?_).1, _, rfl, (hs _ _ _ ?_).2⟩
      · rfl
      · rfl
    case rest =>
      clear h0
      obtain ⟨h0, b, rfl, lb, hr⟩ := hcut
      replace h0 := Aside.mk h0
      replace hr := Aside.mk hr
      replace lb := Aside.mk lb
      have hk : Aside (Kp w wc) := ⟨h0.out.1⟩
      have hz : Aside (Blk wc w.heap.size #[.int .u8 0, .int .i64 0, .int .i64 0, .int .i64 0, .int .i64 0] 93) := ⟨h0.out.2⟩
      clear h0
      obtain ⟨zl, z0, z1, z2, z3, z4, y0, y1, y2, y3, y4⟩ := hz.out.five
      have bl := lb.out
      have h' : op = 18 ∨ op = 19 ∨ op = 20 ∨ op = 21 ∨ op = 22 ∨ op = 23 := by omega
      clear h
      rcases h' with rfl | rfl | rfl | rfl | rfl | rfl
      · have e0 : wc.cell? ⟨b, 0, none⟩ = some (.int .i64 0) := hr.out 0 _ rfl
        go_wp2
        (refine bodyPost_ret (results_cell_row rfl _ _ w.heap.size _ _ _ _ rfl (Blk.set (Blk.set (Blk.set (Blk.set (Blk.set hz.out _) _) _) _) _) Try.underlying93 rfl (by kernel_rfl)) rfl ?_; exact ⟨rfl, (((((hk.out.setCell (Nat.le_refl _) _).setCell (Nat.le_refl _) _).setCell (Nat.le_refl _) _).setCell (Nat.le_refl _) _).setCell (Nat.le_refl _) _)⟩)
      · have e0 : wc.cell? ⟨b, 1, none⟩ = some (.int .i64 2) := hr.out 1 _ rfl
        go_wp2
        (refine bodyPost_ret (results_cell_row rfl _ _ w.heap.size _ _ _ _ rfl (Blk.set (Blk.set (Blk.set (Blk.set (Blk.set hz.out _) _) _) _) _) Try.underlying93 rfl (by kernel_rfl)) rfl ?_; exact ⟨rfl, (((((hk.out.setCell (Nat.le_refl _) _).setCell (Nat.le_refl _) _).setCell (Nat.le_refl _) _).setCell (Nat.le_refl _) _).setCell (Nat.le_refl _) _)⟩)
      · have e0 : wc.cell? ⟨b, 2, none⟩ = some (.int .i64 3) := hr.out 2 _ rfl
        go_wp2
        (refine bodyPost_ret (results_cell_row rfl _ _ w.heap.size _ _ _ _ rfl (Blk.set (Blk.set (Blk.set (Blk.set (Blk.set hz.out _) _) _) _) _) Try.underlying93 rfl (by kernel_rfl)) rfl ?_; exact ⟨rfl, (((((hk.out.setCell (Nat.le_refl _) _).setCell (Nat.le_refl _) _).setCell (Nat.le_refl _) _).setCell (Nat.le_refl _) _).setCell (Nat.le_refl _) _)⟩)
      · have e0 : wc.cell? ⟨b, 3, none⟩ = some (.int .i64 4) := hr.out 3 _ rfl
        go_wp2
        (refine bodyPost_ret (results_cell_row rfl _ _ w.heap.size _ _ _ _ rfl (Blk.set (Blk.set (Blk.set (Blk.set (Blk.set hz.out _) _) _) _) _) Try.underlying93 rfl (by kernel_rfl)) rfl ?_; exact ⟨rfl, (((((hk.out.setCell (Nat.le_refl _) _).setCell (Nat.le_refl _) _).setCell (Nat.le_refl _) _).setCell (Nat.le_refl _) _).setCell (Nat.le_refl _) _)⟩)
      · have e0 : wc.cell? ⟨b, 4, none⟩ = some (.int .i64 6) := hr.out 4 _ rfl
        go_wp2
        (refine bodyPost_ret (results_cell_row rfl _ _ w.heap.size _ _ _ _ rfl (Blk.set (Blk.set (Blk.set (Blk.set (Blk.set hz.out _) _) _) _) _) Try.underlying93 rfl (by kernel_rfl)) rfl ?_; exact ⟨rfl, (((((hk.out.setCell (Nat.le_refl _) _).setCell (Nat.le_refl _) _).setCell (Nat.le_refl _) _).setCell (Nat.le_refl _) _).setCell (Nat.le_refl _) _)⟩)
      · have e0 : wc.cell? ⟨b, 5, none⟩ = some (.int .i64 7) := hr.out 5 _ rfl
        go_wp2
        (refine bodyPost_ret (results_cell_row rfl _ _ w.heap.size _ _ _ _ rfl (Blk.set (Blk.set (Blk.set (Blk.set (Blk.set hz.out _) _) _) _) _) Try.underlying93 rfl (by kernel_rfl)) rfl ?_; exact ⟨rfl, (((((hk.out.setCell (Nat.le_refl _) _).setCell (Nat.le_refl _) _).setCell (Nat.le_refl _) _).setCell (Nat.le_refl _) _).setCell (Nat.le_refl _) _)⟩)
set_option maxRecDepth 100000 in
set_option maxHeartbeats 4000000 in
theorem of_C (op : Int) (h : 32 ≤ op ∧ op ≤ 37) (w : World) : Calls Try.prog 35 #[.int .i64 op] w fun e w' => e = .returned (refOf op) ∧ Kp w w' := by
  have h0 : Aside (OfW w (w.alloc (.cells #[.int .u8 0, .int .i64 0, .int .i64 0, .int .i64 0, .int .i64 0] 93))) := ⟨OfW.start w⟩
  go_enter Try.func35, Try.ntmps35
  go_upto_region 1 with fail
  go_cut [3] (fun s wx => OfW w wx ∧ ∃ b, s = .pointer (some ⟨b, 0, none⟩) ∧ w.heap.size < b ∧ wx.rangeAt b 0 (#[.int .i64 0, .int .i64 0, .int .i64 0, .int .i64 0, .int .i64 0, .int .i64 32, .int .i64 1, .int .i64 0, .int .i64 2, .int .i64 0, .int .i64 3, .int .i64 0, .int .i64 4, .int .i64 0, .int .i64 5, .int .i64 0, .int .i64 5, .int .i64 32, .int .i64 6, .int .i64 0, .int .i64 7, .int .i64 0, .int .i64 0, .int .i64 1, .int .i64 1, .int .i64 1, .int .i64 3, .int .i64 1, .int .i64 4, .int .i64 1, .int .i64 5, .int .i64 1, .int .i64 6, .int .i64 1, .int .i64 7, .int .i64 1] : Array Value).toList)
  case first =>
    clear h
    go_wp2_with (refine wpList_store_mid rfl 104 (.tmp 3) (.tmp 24) rfl (w.heap.size + 1) 0 #[.int .i64 0, .int .i64 0, .int .i64 0, .int .i64 0, .int .i64 0, .int .i64 32, .int .i64 1, .int .i64 0, .int .i64 2, .int .i64 0, .int .i64 3, .int .i64 0, .int .i64 4, .int .i64 0, .int .i64 5, .int .i64 0, .int .i64 5, .int .i64 32, .int .i64 6, .int .i64 0, .int .i64 7, .int .i64 0, .int .i64 0, .int .i64 1, .int .i64 1, .int .i64 1, .int .i64 3, .int .i64 1, .int .i64 4, .int .i64 1, .int .i64 5, .int .i64 1, .int .i64 6, .int .i64 1, .int .i64 7, .int .i64 1] rfl rfl (there_new _ _ _ (World.size_alloc _ _) rfl) (by kernel_rfl) (by kernel_rfl) ?_)
    go_meet
    have hs := fun zs ty cs hl => h0.out.stored (b := (w.heap.size + 1)) zs ty cs (World.size_alloc _ _) hl
    refine ⟨(hs _ _ _ ?_).1, _, rfl, (hs _ _ _ ?_).2⟩
    · rfl
    · rfl
  case rest =>
    clear h0
    obtain ⟨h0, b, rfl, lb, hr⟩ := hcut
    replace h0 := Aside.mk h0
    replace hr := Aside.mk hr
    replace lb := Aside.mk lb
    clear hr lb
    go_upto_region 4 with fail
    go_cut [4] (fun s wx => OfW w wx ∧ ∃ b, s = .pointer (some ⟨b, 0, none⟩) ∧ w.heap.size < b ∧ wx.rangeAt b 0 (#[.int .i64 0, .int .i64 2, .int .i64 3, .int .i64 4, .int .i64 6, .int .i64 7] : Array Value).toList)
    case first =>
      go_wp2_with (refine wpList_store_mid rfl 105 (.tmp 4) (.tmp 40) rfl wc.heap.size 0 #[.int .i64 0, .int .i64 2, .int .i64 3, .int .i64 4, .int .i64 6, .int .i64 7] rfl rfl (there_new _ _ _ rfl rfl) (by kernel_rfl) (by kernel_rfl) ?_)
      go_meet
      have hs := fun zs ty cs hl => h0.out.stored (b := wc.heap.size) zs ty cs rfl hl
      refine ⟨(hs _ _ _ ?_).1, _, rfl, (hs _ _ _ ?_).2⟩
      · rfl
      · rfl
    case rest =>
      clear h0
      obtain ⟨h0, b, rfl, lb, hr⟩ := hcut
      replace h0 := Aside.mk h0
      replace hr := Aside.mk hr
      replace lb := Aside.mk lb
      clear hr lb
      go_upto_region 7 with fail
      go_cut [5] (fun s wx => OfW w wx ∧ ∃ b, s = .pointer (some ⟨b, 0, none⟩) ∧ w.heap.size < b ∧ wx.rangeAt b 0 (#[.int .i64 0, .int .i64 1, .int .i64 4, .int .i64 5, .int .i64 6, .int .i64 7] : Array Value).toList)
      case first =>
        go_wp2_with (refine wpList_store_mid rfl 105 (.tmp 5) (.tmp 52) rfl wc.heap.size 0 #[.int .i64 0, .int .i64 1, .int .i64 4, .int .i64 5, .int .i64 6, .int .i64 7] rfl rfl (there_new _ _ _ rfl rfl) (by kernel_rfl) (by kernel_rfl) ?_)
        go_meet
        have hs := fun zs ty cs hl => h0.out.stored (b := wc.heap.size) zs ty cs rfl hl
        refine ⟨(hs _ _ _ ?_).1, _, rfl, (hs _ _ _ ?_).2⟩
        · rfl
        · rfl
      case rest =>
        clear h0
        obtain ⟨h0, b, rfl, lb, hr⟩ := hcut
        replace h0 := Aside.mk h0
        replace hr := Aside.mk hr
        replace lb := Aside.mk lb
        have hk : Aside (Kp w wc) := ⟨h0.out.1⟩
        have hz : Aside (Blk wc w.heap.size #[.int .u8 0, .int .i64 0, .int .i64 0, .int .i64 0, .int .i64 0] 93) := ⟨h0.out.2⟩
        clear h0
        obtain ⟨zl, z0, z1, z2, z3, z4, y0, y1, y2, y3, y4⟩ := hz.out.five
        have bl := lb.out
        have h' : op = 32 ∨ op = 33 ∨ op = 34 ∨ op = 35 ∨ op = 36 ∨ op = 37 := by omega
        clear h
        rcases h' with rfl | rfl | rfl | rfl | rfl | rfl
        · have e0 : wc.cell? ⟨b, 0, none⟩ = some (.int .i64 0) := hr.out 0 _ rfl
          go_wp2
          (refine bodyPost_ret (results_cell_row rfl _ _ w.heap.size _ _ _ _ rfl (Blk.set (Blk.set (Blk.set (Blk.set (Blk.set hz.out _) _) _) _) _) Try.underlying93 rfl (by kernel_rfl)) rfl ?_; exact ⟨rfl, (((((hk.out.setCell (Nat.le_refl _) _).setCell (Nat.le_refl _) _).setCell (Nat.le_refl _) _).setCell (Nat.le_refl _) _).setCell (Nat.le_refl _) _)⟩)
        · have e0 : wc.cell? ⟨b, 1, none⟩ = some (.int .i64 1) := hr.out 1 _ rfl
          go_wp2
          (refine bodyPost_ret (results_cell_row rfl _ _ w.heap.size _ _ _ _ rfl (Blk.set (Blk.set (Blk.set (Blk.set (Blk.set hz.out _) _) _) _) _) Try.underlying93 rfl (by kernel_rfl)) rfl ?_; exact ⟨rfl, (((((hk.out.setCell (Nat.le_refl _) _).setCell (Nat.le_refl _) _).setCell (Nat.le_refl _) _).setCell (Nat.le_refl _) _).setCell (Nat.le_refl _) _)⟩)
        · have e0 : wc.cell? ⟨b, 2, none⟩ = some (.int .i64 4) := hr.out 2 _ rfl
          go_wp2
          (refine bodyPost_ret (results_cell_row rfl _ _ w.heap.size _ _ _ _ rfl (Blk.set (Blk.set (Blk.set (Blk.set (Blk.set hz.out _) _) _) _) _) Try.underlying93 rfl (by kernel_rfl)) rfl ?_; exact ⟨rfl, (((((hk.out.setCell (Nat.le_refl _) _).setCell (Nat.le_refl _) _).setCell (Nat.le_refl _) _).setCell (Nat.le_refl _) _).setCell (Nat.le_refl _) _)⟩)
        · have e0 : wc.cell? ⟨b, 3, none⟩ = some (.int .i64 5) := hr.out 3 _ rfl
          go_wp2
          (refine bodyPost_ret (results_cell_row rfl _ _ w.heap.size _ _ _ _ rfl (Blk.set (Blk.set (Blk.set (Blk.set (Blk.set hz.out _) _) _) _) _) Try.underlying93 rfl (by kernel_rfl)) rfl ?_; exact ⟨rfl, (((((hk.out.setCell (Nat.le_refl _) _).setCell (Nat.le_refl _) _).setCell (Nat.le_refl _) _).setCell (Nat.le_refl _) _).setCell (Nat.le_refl _) _)⟩)
        · have e0 : wc.cell? ⟨b, 4, none⟩ = some (.int .i64 6) := hr.out 4 _ rfl
          go_wp2
          (refine bodyPost_ret (results_cell_row rfl _ _ w.heap.size _ _ _ _ rfl (Blk.set (Blk.set (Blk.set (Blk.set (Blk.set hz.out _) _) _) _) _) Try.underlying93 rfl (by kernel_rfl)) rfl ?_; exact ⟨rfl, (((((hk.out.setCell (Nat.le_refl _) _).setCell (Nat.le_refl _) _).setCell (Nat.le_refl _) _).setCell (Nat.le_refl _) _).setCell (Nat.le_refl _) _)⟩)
        · have e0 : wc.cell? ⟨b, 5, none⟩ = some (.int .i64 7) := hr.out 5 _ rfl
          go_wp2
          (refine bodyPost_ret (results_cell_row rfl _ _ w.heap.size _ _ _ _ rfl (Blk.set (Blk.set (Blk.set (Blk.set (Blk.set hz.out _) _) _) _) _) Try.underlying93 rfl (by kernel_rfl)) rfl ?_; exact ⟨rfl, (((((hk.out.setCell (Nat.le_refl _) _).setCell (Nat.le_refl _) _).setCell (Nat.le_refl _) _).setCell (Nat.le_refl _) _).setCell (Nat.le_refl _) _)⟩)
set_option maxRecDepth 100000 in
set_option maxHeartbeats 4000000 in
theorem of_D (op : Int) (h : 24 ≤ op ∧ op ≤ 31) (w : World) : Calls Try.prog 35 #[.int .i64 op] w fun e w' => e = .returned (refOf op) ∧ Kp w w' := by
  have h0 : Aside (OfW w (w.alloc (.cells #[.int .u8 0, .int .i64 0, .int .i64 0, .int .i64 0, .int .i64 0] 93))) := ⟨OfW.start w⟩
  go_enter Try.func35, Try.ntmps35
  go_upto_region 1 with fail
  go_cut [3] (fun s wx => OfW w wx ∧ ∃ b, s = .pointer (some ⟨b, 0, none⟩) ∧ w.heap.size < b ∧ wx.rangeAt b 0 (#[.int .i64 0, .int .i64 0, .int .i64 0, .int .i64 0, .int .i64 0, .int .i64 32, .int .i64 1, .int .i64 0, .int .i64 2, .int .i64 0, .int .i64 3, .int .i64 0, .int .i64 4, .int .i64 0, .int .i64 5, .int .i64 0, .int .i64 5, .int .i64 32, .int .i64 6, .int .i64 0, .int .i64 7, .int .i64 0, .int .i64 0, .int .i64 1, .int .i64 1, .int .i64 1, .int .i64 3, .int .i64 1, .int .i64 4, .int .i64 1, .int .i64 5, .int .i64 1, .int .i64 6, .int .i64 1, .int .i64 7, .int .i64 1] : Array Value).toList)
  case first =>
    clear h
    go_wp2_with (refine wpList_store_mid rfl 104 (.tmp 3) (.tmp 24) rfl (w.heap.size + 1) 0 #[.int .i64 0, .int .i64 0, .int .i64 0, .int .i64 0, .int .i64 0, .int .i64 32, .int .i64 1, .int .i64 0, .int .i64 2, .int .i64 0, .int .i64 3, .int .i64 0, .int .i64 4, .int .i64 0, .int .i64 5, .int .i64 0, .int .i64 5, .int .i64 32, .int .i64 6, .int .i64 0, .int .i64 7, .int .i64 0, .int .i64 0, .int .i64 1, .int .i64 1, .int .i64 1, .int .i64 3, .int .i64 1, .int .i64 4, .int .i64 1, .int .i64 5, .int .i64 1, .int .i64 6, .int .i64 1, .int .i64 7, .int .i64 1] rfl rfl (there_new _ _ _ (World.size_alloc _ _) rfl) (by kernel_rfl) (by kernel_rfl) ?_)
    go_meet
    have hs := fun zs ty cs hl => h0.out.stored (b := (w.heap.size + 1)) zs ty cs (World.size_alloc _ _) hl
    refine ⟨(hs _ _ _ ?_).1, _, rfl, (hs _ _ _ ?_).2⟩
    · rfl
    · rfl
  case rest =>
    clear h0
    obtain ⟨h0, b, rfl, lb, hr⟩ := hcut
    replace h0 := Aside.mk h0
    replace hr := Aside.mk hr
    replace lb := Aside.mk lb
    clear hr lb
    go_upto_region 4 with fail
    go_cut [4] (fun s wx => OfW w wx ∧ ∃ b, s = .pointer (some ⟨b, 0, none⟩) ∧ w.heap.size < b ∧ wx.rangeAt b 0 (#[.int .i64 0, .int .i64 2, .int .i64 3, .int .i64 4, .int .i64 6, .int .i64 7] : Array Value).toList)
    case first =>
      go_wp2_with (refine wpList_store_mid rfl 105 (.tmp 4) (.tmp 40) rfl wc.heap.size 0 #[.int .i64 0, .int .i64 2, .int .i64 3, .int .i64 4, .int .i64 6, .int .i64 7] rfl rfl (there_new _ _ _ rfl rfl) (by kernel_rfl) (by kernel_rfl) ?_)
      go_meet
      have hs := fun zs ty cs hl => h0.out.stored (b := wc.heap.size) zs ty cs rfl hl
      refine ⟨(hs _ _ _ ?_).1, _, rfl, (hs _ _ _ ?_).2⟩
      · rfl
      · rfl
    case rest =>
      clear h0
      obtain ⟨h0, b, rfl, lb, hr⟩ := hcut
      replace h0 := Aside.mk h0
      replace hr := Aside.mk hr
      replace lb := Aside.mk lb
      clear hr lb
      go_upto_region 7 with fail
      go_cut [5] (fun s wx => OfW w wx ∧ ∃ b, s = .pointer (some ⟨b, 0, none⟩) ∧ w.heap.size < b ∧ wx.rangeAt b 0 (#[.int .i64 0, .int .i64 1, .int .i64 4, .int .i64 5, .int .i64 6, .int .i64 7] : Array Value).toList)
      case first =>
        go_wp2_with (refine wpList_store_mid rfl 105 (.tmp 5) (.tmp 52) rfl wc.heap.size 0 #[.int .i64 0, .int .i64 1, .int .i64 4, .int .i64 5, .int .i64 6, .int .i64 7] rfl rfl (there_new _ _ _ rfl rfl) (by kernel_rfl) (by kernel_rfl) ?_)
        go_meet
        have hs := fun zs ty cs hl => h0.out.stored (b := wc.heap.size) zs ty cs rfl hl
        refine ⟨(hs _ _ _ ?_).1, _, rfl, (hs _ _ _ ?_).2⟩
        · rfl
        · rfl
      case rest =>
        clear h0
        obtain ⟨h0, b, rfl, lb, hr⟩ := hcut
        replace h0 := Aside.mk h0
        replace hr := Aside.mk hr
        replace lb := Aside.mk lb
        have hk : Aside (Kp w wc) := ⟨h0.out.1⟩
        have hz : Aside (Blk wc w.heap.size #[.int .u8 0, .int .i64 0, .int .i64 0, .int .i64 0, .int .i64 0] 93) := ⟨h0.out.2⟩
        clear h0
        obtain ⟨zl, z0, z1, z2, z3, z4, y0, y1, y2, y3, y4⟩ := hz.out.five
        clear hr
        have h' : op = 24 ∨ op = 25 ∨ op = 26 ∨ op = 27 ∨ op = 28 ∨ op = 29 ∨ op = 30 ∨ op = 31 := by omega
        clear h
        rcases h' with rfl | rfl | rfl | rfl | rfl | rfl | rfl | rfl
        · go_wp2
          (refine bodyPost_ret (results_cell_row rfl _ _ w.heap.size _ _ _ _ rfl (Blk.set (Blk.set (Blk.set (Blk.set (Blk.set hz.out _) _) _) _) _) Try.underlying93 rfl (by kernel_rfl)) rfl ?_; exact ⟨rfl, (((((hk.out.setCell (Nat.le_refl _) _).setCell (Nat.le_refl _) _).setCell (Nat.le_refl _) _).setCell (Nat.le_refl _) _).setCell (Nat.le_refl _) _)⟩)
        · go_wp2
          (refine bodyPost_ret (results_cell_row rfl _ _ w.heap.size _ _ _ _ rfl (Blk.set (Blk.set (Blk.set (Blk.set (Blk.set hz.out _) _) _) _) _) Try.underlying93 rfl (by kernel_rfl)) rfl ?_; exact ⟨rfl, (((((hk.out.setCell (Nat.le_refl _) _).setCell (Nat.le_refl _) _).setCell (Nat.le_refl _) _).setCell (Nat.le_refl _) _).setCell (Nat.le_refl _) _)⟩)
        · go_wp2
          (refine bodyPost_ret (results_cell_row rfl _ _ w.heap.size _ _ _ _ rfl (Blk.set (Blk.set (Blk.set (Blk.set (Blk.set hz.out _) _) _) _) _) Try.underlying93 rfl (by kernel_rfl)) rfl ?_; exact ⟨rfl, (((((hk.out.setCell (Nat.le_refl _) _).setCell (Nat.le_refl _) _).setCell (Nat.le_refl _) _).setCell (Nat.le_refl _) _).setCell (Nat.le_refl _) _)⟩)
        · go_wp2
          (refine bodyPost_ret (results_cell_row rfl _ _ w.heap.size _ _ _ _ rfl (Blk.set (Blk.set (Blk.set (Blk.set (Blk.set hz.out _) _) _) _) _) Try.underlying93 rfl (by kernel_rfl)) rfl ?_; exact ⟨rfl, (((((hk.out.setCell (Nat.le_refl _) _).setCell (Nat.le_refl _) _).setCell (Nat.le_refl _) _).setCell (Nat.le_refl _) _).setCell (Nat.le_refl _) _)⟩)
        · go_wp2
          (refine bodyPost_ret (results_cell_row rfl _ _ w.heap.size _ _ _ _ rfl (Blk.set (Blk.set (Blk.set (Blk.set (Blk.set hz.out _) _) _) _) _) Try.underlying93 rfl (by kernel_rfl)) rfl ?_; exact ⟨rfl, (((((hk.out.setCell (Nat.le_refl _) _).setCell (Nat.le_refl _) _).setCell (Nat.le_refl _) _).setCell (Nat.le_refl _) _).setCell (Nat.le_refl _) _)⟩)
        · go_wp2
          (refine bodyPost_ret (results_cell_row rfl _ _ w.heap.size _ _ _ _ rfl (Blk.set (Blk.set (Blk.set (Blk.set (Blk.set hz.out _) _) _) _) _) Try.underlying93 rfl (by kernel_rfl)) rfl ?_; exact ⟨rfl, (((((hk.out.setCell (Nat.le_refl _) _).setCell (Nat.le_refl _) _).setCell (Nat.le_refl _) _).setCell (Nat.le_refl _) _).setCell (Nat.le_refl _) _)⟩)
        · go_wp2
          (refine bodyPost_ret (results_cell_row rfl _ _ w.heap.size _ _ _ _ rfl (Blk.set (Blk.set (Blk.set (Blk.set (Blk.set hz.out _) _) _) _) _) Try.underlying93 rfl (by kernel_rfl)) rfl ?_; exact ⟨rfl, (((((hk.out.setCell (Nat.le_refl _) _).setCell (Nat.le_refl _) _).setCell (Nat.le_refl _) _).setCell (Nat.le_refl _) _).setCell (Nat.le_refl _) _)⟩)
        · go_wp2
          (refine bodyPost_ret (results_cell_row rfl _ _ w.heap.size _ _ _ _ rfl (Blk.set (Blk.set (Blk.set (Blk.set (Blk.set hz.out _) _) _) _) _) Try.underlying93 rfl (by kernel_rfl)) rfl ?_; exact ⟨rfl, (((((hk.out.setCell (Nat.le_refl _) _).setCell (Nat.le_refl _) _).setCell (Nat.le_refl _) _).setCell (Nat.le_refl _) _).setCell (Nat.le_refl _) _)⟩)
end Go.Proofs.Ytgcihcgclmdolaa
namespace Go.Proofs.Ytgcihcgclmdolaa
open Go.RowKit Go.Maps Go.Proofs.Ytgcihcgclmdolaa.PC
set_option linter.unusedVariables false
set_option linter.unusedSimpArgs false
set_option maxRecDepth 100000 in
set_option maxHeartbeats 4000000 in
theorem of_E (op : Int) (h : 38 ≤ op ∧ op ≤ 55) (w : World) : Calls Try.prog 35 #[.int .i64 op] w fun e w' => e = .returned (refOf op) ∧ Kp w w' := by
  have h0 : Aside (OfW w (w.alloc (.cells #[.int .u8 0, .int .i64 0, .int .i64 0, .int .i64 0, .int .i64 0] 93))) := ⟨OfW.start w⟩
  go_enter Try.func35, Try.ntmps35
  go_upto_region 1 with fail
  go_cut [3] (fun s wx => OfW w wx ∧ ∃ b, s = .pointer (some ⟨b, 0, none⟩) ∧ w.heap.size < b ∧ wx.rangeAt b 0 (#[.int .i64 0, .int .i64 0, .int .i64 0, .int .i64 0, .int .i64 0, .int .i64 32, .int .i64 1, .int .i64 0, .int .i64 2, .int .i64 0, .int .i64 3, .int .i64 0, .int .i64 4, .int .i64 0, .int .i64 5, .int .i64 0, .int .i64 5, .int .i64 32, .int .i64 6, .int .i64 0, .int .i64 7, .int .i64 0, .int .i64 0, .int .i64 1, .int .i64 1, .int .i64 1, .int .i64 3, .int .i64 1, .int .i64 4, .int .i64 1, .int .i64 5, .int .i64 1, .int .i64 6, .int .i64 1, .int .i64 7, .int .i64 1] : Array Value).toList)
  case first =>
    clear h
    go_wp2_with (refine wpList_store_mid rfl 104 (.tmp 3) (.tmp 24) rfl (w.heap.size + 1) 0 #[.int .i64 0, .int .i64 0, .int .i64 0, .int .i64 0, .int .i64 0, .int .i64 32, .int .i64 1, .int .i64 0, .int .i64 2, .int .i64 0, .int .i64 3, .int .i64 0, .int .i64 4, .int .i64 0, .int .i64 5, .int .i64 0, .int .i64 5, .int .i64 32, .int .i64 6, .int .i64 0, .int .i64 7, .int .i64 0, .int .i64 0, .int .i64 1, .int .i64 1, .int .i64 1, .int .i64 3, .int .i64 1, .int .i64 4, .int .i64 1, .int .i64 5, .int .i64 1, .int .i64 6, .int .i64 1, .int .i64 7, .int .i64 1] rfl rfl (there_new _ _ _ (World.size_alloc _ _) rfl) (by kernel_rfl) (by kernel_rfl) ?_)
    go_meet
    have hs := fun zs ty cs hl => h0.out.stored (b := (w.heap.size + 1)) zs ty cs (World.size_alloc _ _) hl
    refine ⟨(hs _ _ _ ?_).1, _, rfl, (hs _ _ _ ?_).2⟩
    · rfl
    · rfl
  case rest =>
    clear h0
    obtain ⟨h0, b, rfl, lb, hr⟩ := hcut
    replace h0 := Aside.mk h0
    replace hr := Aside.mk hr
    replace lb := Aside.mk lb
    clear hr lb
    go_upto_region 4 with fail
    go_cut [4] (fun s wx => OfW w wx ∧ ∃ b, s = .pointer (some ⟨b, 0, none⟩) ∧ w.heap.size < b ∧ wx.rangeAt b 0 (#[.int .i64 0, .int .i64 2, .int .i64 3, .int .i64 4, .int .i64 6, .int .i64 7] : Array Value).toList)
    case first =>
      go_wp2_with (refine wpList_store_mid rfl 105 (.tmp 4) (.tmp 40) rfl wc.heap.size 0 #[.int .i64 0, .int .i64 2, .int .i64 3, .int .i64 4, .int .i64 6, .int .i64 7] rfl rfl (there_new _ _ _ rfl rfl) (by kernel_rfl) (by kernel_rfl) ?_)
      go_meet
      have hs := fun zs ty cs hl => h0.out.stored (b := wc.heap.size) zs ty cs rfl hl
      refine ⟨(hs _ _ _ ?_).1, _, rfl, (hs _ _ _ ?_).2⟩
      · rfl
      · rfl
    case rest =>
      clear h0
      obtain ⟨h0, b, rfl, lb, hr⟩ := hcut
      replace h0 := Aside.mk h0
      replace hr := Aside.mk hr
      replace lb := Aside.mk lb
      clear hr lb
      go_upto_region 7 with fail
      go_cut [5] (fun s wx => OfW w wx ∧ ∃ b, s = .pointer (some ⟨b, 0, none⟩) ∧ w.heap.size < b ∧ wx.rangeAt b 0 (#[.int .i64 0, .int .i64 1, .int .i64 4, .int .i64 5, .int .i64 6, .int .i64 7] : Array Value).toList)
      case first =>
        go_wp2_with (refine wpList_store_mid rfl 105 (.tmp 5) (.tmp 52) rfl wc.heap.size 0 #[.int .i64 0, .int .i64 1, .int .i64 4, .int .i64 5, .int .i64 6, .int .i64 7] rfl rfl (there_new _ _ _ rfl rfl) (by kernel_rfl) (by kernel_rfl) ?_)
        go_meet
        have hs := fun zs ty cs hl => h0.out.stored (b := wc.heap.size) zs ty cs rfl hl
        refine ⟨(hs _ _ _ ?_).1, _, rfl, (hs _ _ _ ?_).2⟩
        · rfl
        · rfl
      case rest =>
        clear h0
        obtain ⟨h0, b, rfl, lb, hr⟩ := hcut
        replace h0 := Aside.mk h0
        replace hr := Aside.mk hr
        replace lb := Aside.mk lb
        have hk : Aside (Kp w wc) := ⟨h0.out.1⟩
        have hz : Aside (Blk wc w.heap.size #[.int .u8 0, .int .i64 0, .int .i64 0, .int .i64 0, .int .i64 0] 93) := ⟨h0.out.2⟩
        clear h0
        obtain ⟨zl, z0, z1, z2, z3, z4, y0, y1, y2, y3, y4⟩ := hz.out.five
        clear hr
        have h' : op = 38 ∨ op = 39 ∨ op = 40 ∨ op = 41 ∨ op = 42 ∨ op = 43 ∨ op = 44 ∨ op = 45 ∨ op = 46 ∨ op = 47 ∨ op = 48 ∨ op = 49 ∨ op = 50 ∨ op = 51 ∨ op = 52 ∨ op = 53 ∨ op = 54 ∨ op = 55 := by omega
        clear h
        rcases h' with rfl | rfl | rfl | rfl | rfl | rfl | rfl | rfl | rfl | rfl | rfl | rfl | rfl | rfl | rfl | rfl | rfl | rfl
        · go_wp2
          (refine bodyPost_ret (results_cell_row rfl _ _ w.heap.size _ _ _ _ rfl (Blk.set (Blk.set (Blk.set (Blk.set (Blk.set hz.out _) _) _) _) _) Try.underlying93 rfl (by kernel_rfl)) rfl ?_; exact ⟨rfl, (((((hk.out.setCell (Nat.le_refl _) _).setCell (Nat.le_refl _) _).setCell (Nat.le_refl _) _).setCell (Nat.le_refl _) _).setCell (Nat.le_refl _) _)⟩)
        · go_wp2
          (refine bodyPost_ret (results_cell_row rfl _ _ w.heap.size _ _ _ _ rfl (Blk.set (Blk.set (Blk.set (Blk.set (Blk.set hz.out _) _) _) _) _) Try.underlying93 rfl (by kernel_rfl)) rfl ?_; exact ⟨rfl, (((((hk.out.setCell (Nat.le_refl _) _).setCell (Nat.le_refl _) _).setCell (Nat.le_refl _) _).setCell (Nat.le_refl _) _).setCell (Nat.le_refl _) _)⟩)
        · go_wp2
          (refine bodyPost_ret (results_cell_row rfl _ _ w.heap.size _ _ _ _ rfl (Blk.set (Blk.set (Blk.set (Blk.set (Blk.set hz.out _) _) _) _) _) Try.underlying93 rfl (by kernel_rfl)) rfl ?_; exact ⟨rfl, (((((hk.out.setCell (Nat.le_refl _) _).setCell (Nat.le_refl _) _).setCell (Nat.le_refl _) _).setCell (Nat.le_refl _) _).setCell (Nat.le_refl _) _)⟩)
        · go_wp2
          (refine bodyPost_ret (results_cell_row rfl _ _ w.heap.size _ _ _ _ rfl (Blk.set (Blk.set (Blk.set (Blk.set (Blk.set hz.out _) _) _) _) _) Try.underlying93 rfl (by kernel_rfl)) rfl ?_; exact ⟨rfl, (((((hk.out.setCell (Nat.le_refl _) _).setCell (Nat.le_refl _) _).setCell (Nat.le_refl _) _).setCell (Nat.le_refl _) _).setCell (Nat.le_refl _) _)⟩)
        · go_wp2
          (refine bodyPost_ret (results_cell_row rfl _ _ w.heap.size _ _ _ _ rfl (Blk.set (Blk.set (Blk.set (Blk.set (Blk.set hz.out _) _) _) _) _) Try.underlying93 rfl (by kernel_rfl)) rfl ?_; exact ⟨rfl, (((((hk.out.setCell (Nat.le_refl _) _).setCell (Nat.le_refl _) _).setCell (Nat.le_refl _) _).setCell (Nat.le_refl _) _).setCell (Nat.le_refl _) _)⟩)
        · go_wp2
          (refine bodyPost_ret (results_cell_row rfl _ _ w.heap.size _ _ _ _ rfl (Blk.set (Blk.set (Blk.set (Blk.set (Blk.set hz.out _) _) _) _) _) Try.underlying93 rfl (by kernel_rfl)) rfl ?_; exact ⟨rfl, (((((hk.out.setCell (Nat.le_refl _) _).setCell (Nat.le_refl _) _).setCell (Nat.le_refl _) _).setCell (Nat.le_refl _) _).setCell (Nat.le_refl _) _)⟩)
        · go_wp2
          (refine bodyPost_ret (results_cell_row rfl _ _ w.heap.size _ _ _ _ rfl (Blk.set (Blk.set (Blk.set (Blk.set (Blk.set hz.out _) _) _) _) _) Try.underlying93 rfl (by kernel_rfl)) rfl ?_; exact ⟨rfl, (((((hk.out.setCell (Nat.le_refl _) _).setCell (Nat.le_refl _) _).setCell (Nat.le_refl _) _).setCell (Nat.le_refl _) _).setCell (Nat.le_refl _) _)⟩)
        · go_wp2
          (refine bodyPost_ret (results_cell_row rfl _ _ w.heap.size _ _ _ _ rfl (Blk.set (Blk.set (Blk.set (Blk.set (Blk.set hz.out _) _) _) _) _) Try.underlying93 rfl (by kernel_rfl)) rfl ?_; exact ⟨rfl, (((((hk.out.setCell (Nat.le_refl _) _).setCell (Nat.le_refl _) _).setCell (Nat.le_refl _) _).setCell (Nat.le_refl _) _).setCell (Nat.le_refl _) _)⟩)
        · go_wp2
          (refine bodyPost_ret (results_cell_row rfl _ _ w.heap.size _ _ _ _ rfl (Blk.set (Blk.set (Blk.set (Blk.set (Blk.set hz.out _) _) _) _) _) Try.underlying93 rfl (by kernel_rfl)) rfl ?_; exact ⟨rfl, (((((hk.out.setCell (Nat.le_refl _) _).setCell (Nat.le_refl _) _).setCell (Nat.le_refl _) _).setCell (Nat.le_refl _) _).setCell (Nat.le_refl _) _)⟩)
        · go_wp2
          (refine bodyPost_ret (results_cell_row rfl _ _ w.heap.size _ _ _ _ rfl (Blk.set (Blk.set (Blk.set (Blk.set (Blk.set hz.out _) _) _) _) _) Try.underlying93 rfl (by kernel_rfl)) rfl ?_; exact ⟨rfl, (((((hk.out.setCell (Nat.le_refl _) _).setCell (Nat.le_refl _) _).setCell (Nat.le_refl _) _).setCell (Nat.le_refl _) _).setCell (Nat.le_refl _) _)⟩)
        · go_wp2
          (refine bodyPost_ret (results_cell_row rfl _ _ w.heap.size _ _ _ _ rfl (Blk.set (Blk.set (Blk.set (Blk.set (Blk.set hz.out _) _) _) _) _) Try.underlying93 rfl (by kernel_rfl)) rfl ?_; exact ⟨rfl, (((((hk.out.setCell (Nat.le_refl _) _).setCell (Nat.le_refl _) _).setCell (Nat.le_refl _) _).setCell (Nat.le_refl _) _).setCell (Nat.le_refl _) _)⟩)
        · go_wp2
          (refine bodyPost_ret (results_cell_row rfl _ _ w.heap.size _ _ _ _ rfl (Blk.set (Blk.set (Blk.set (Blk.set (Blk.set hz.out _) _) _) _) _) Try.underlying93 rfl (by kernel_rfl)) rfl ?_; exact ⟨rfl, (((((hk.out.setCell (Nat.le_refl _) _).setCell (Nat.le_refl _) _).setCell (Nat.le_refl _) _).setCell (Nat.le_refl _) _).setCell (Nat.le_refl _) _)⟩)
        · go_wp2
          (refine bodyPost_ret (results_cell_row rfl _ _ w.heap.size _ _ _ _ rfl (Blk.set (Blk.set (Blk.set (Blk.set (Blk.set hz.out _) _) _) _) _) Try.underlying93 rfl (by kernel_rfl)) rfl ?_; exact ⟨rfl, (((((hk.out.setCell (Nat.le_refl _) _).setCell (Nat.le_refl _) _).setCell (Nat.le_refl _) _).setCell (Nat.le_refl _) _).setCell (Nat.le_refl _) _)⟩)
        · go_wp2
          (refine bodyPost_ret (results_cell_row rfl _ _ w.heap.size _ _ _ _ rfl (Blk.set (Blk.set (Blk.set (Blk.set (Blk.set hz.out _) _) _) _) _) Try.underlying93 rfl (by kernel_rfl)) rfl ?_; exact ⟨rfl, (((((hk.out.setCell (Nat.le_refl _) _).setCell (Nat.le_refl _) _).setCell (Nat.le_refl _) _).setCell (Nat.le_refl _) _).setCell (Nat.le_refl _) _)⟩)
        · go_wp2
          (refine bodyPost_ret (results_cell_row rfl _ _ w.heap.size _ _ _ _ rfl (Blk.set (Blk.set (Blk.set (Blk.set (Blk.set hz.out _) _) _) _) _) Try.underlying93 rfl (by kernel_rfl)) rfl ?_; exact ⟨rfl, (((((hk.out.setCell (Nat.le_refl _) _).setCell (Nat.le_refl _) _).setCell (Nat.le_refl _) _).setCell (Nat.le_refl _) _).setCell (Nat.le_refl _) _)⟩)
        · go_wp2
          (refine bodyPost_ret (results_cell_row rfl _ _ w.heap.size _ _ _ _ rfl (Blk.set (Blk.set (Blk.set (Blk.set (Blk.set hz.out _) _) _) _) _) Try.underlying93 rfl (by kernel_rfl)) rfl ?_; exact ⟨rfl, (((((hk.out.setCell (Nat.le_refl _) _).setCell (Nat.le_refl _) _).setCell (Nat.le_refl _) _).setCell (Nat.le_refl _) _).setCell (Nat.le_refl _) _)⟩)
        · go_wp2
          (refine bodyPost_ret (results_cell_row rfl _ _ w.heap.size _ _ _ _ rfl (Blk.set (Blk.set (Blk.set (Blk.set (Blk.set hz.out _) _) _) _) _) Try.underlying93 rfl (by kernel_rfl)) rfl ?_; exact ⟨rfl, (((((hk.out.setCell (Nat.le_refl _) _).setCell (Nat.le_refl _) _).setCell (Nat.le_refl _) _).setCell (Nat.le_refl _) _).setCell (Nat.le_refl _) _)⟩)
        · go_wp2
          (refine bodyPost_ret (results_cell_row rfl _ _ w.heap.size _ _ _ _ rfl (Blk.set (Blk.set (Blk.set (Blk.set (Blk.set hz.out _) _) _) _) _) Try.underlying93 rfl (by kernel_rfl)) rfl ?_; exact ⟨rfl, (((((hk.out.setCell (Nat.le_refl _) _).setCell (Nat.le_refl _) _).setCell (Nat.le_refl _) _).setCell (Nat.le_refl _) _).setCell (Nat.le_refl _) _)⟩)
set_option maxRecDepth 100000 in
set_option maxHeartbeats 4000000 in
theorem of_F (op : Int) (h : op < 1) (w : World) : Calls Try.prog 35 #[.int .i64 op] w fun e w' => e = .returned (refOf op) ∧ Kp w w' := by
  have h0 : Aside (OfW w (w.alloc (.cells #[.int .u8 0, .int .i64 0, .int .i64 0, .int .i64 0, .int .i64 0] 93))) := ⟨OfW.start w⟩
  go_enter Try.func35, Try.ntmps35
  go_upto_region 1 with fail
  go_cut [3] (fun s wx => OfW w wx ∧ ∃ b, s = .pointer (some ⟨b, 0, none⟩) ∧ w.heap.size < b ∧ wx.rangeAt b 0 (#[.int .i64 0, .int .i64 0, .int .i64 0, .int .i64 0, .int .i64 0, .int .i64 32, .int .i64 1, .int .i64 0, .int .i64 2, .int .i64 0, .int .i64 3, .int .i64 0, .int .i64 4, .int .i64 0, .int .i64 5, .int .i64 0, .int .i64 5, .int .i64 32, .int .i64 6, .int .i64 0, .int .i64 7, .int .i64 0, .int .i64 0, .int .i64 1, .int .i64 1, .int .i64 1, .int .i64 3, .int .i64 1, .int .i64 4, .int .i64 1, .int .i64 5, .int .i64 1, .int .i64 6, .int .i64 1, .int .i64 7, .int .i64 1] : Array Value).toList)
  case first =>
    clear h
    go_wp2_with (refine wpList_store_mid rfl 104 (.tmp 3) (.tmp 24) rfl (w.heap.size + 1) 0 #[.int .i64 0, .int .i64 0, .int .i64 0, .int .i64 0, .int .i64 0, .int .i64 32, .int .i64 1, .int .i64 0, .int .i64 2, .int .i64 0, .int .i64 3, .int .i64 0, .int .i64 4, .int .i64 0, .int .i64 5, .int .i64 0, .int .i64 5, .int .i64 32, .int .i64 6, .int .i64 0, .int .i64 7, .int .i64 0, .int .i64 0, .int .i64 1, .int .i64 1, .int .i64 1, .int .i64 3, .int .i64 1, .int .i64 4, .int .i64 1, .int .i64 5, .int .i64 1, .int .i64 6, .int .i64 1, .int .i64 7, .int .i64 1] rfl rfl (there_new _ _ _ (World.size_alloc _ _) rfl) (by kernel_rfl) (by kernel_rfl) ?_)
    go_meet
    have hs := fun zs ty cs hl => h0.out.stored (b := (w.heap.size + 1)) zs ty cs (World.size_alloc _ _) hl
    refine ⟨(hs _ _ _ ?_).1, _, rfl, (hs _ _ _ ?_).2⟩
    · rfl
    · rfl
  case rest =>
    clear h0
    obtain ⟨h0, b, rfl, lb, hr⟩ := hcut
    replace h0 := Aside.mk h0
    replace hr := Aside.mk hr
    replace lb := Aside.mk lb
    clear hr lb
    go_upto_region 4 with fail
    go_cut [4] (fun s wx => OfW w wx ∧ ∃ b, s = .pointer (some ⟨b, 0, none⟩) ∧ w.heap.size < b ∧ wx.rangeAt b 0 (#[.int .i64 0, .int .i64 2, .int .i64 3, .int .i64 4, .int .i64 6, .int .i64 7] : Array Value).toList)
    case first =>
      go_wp2_with (refine wpList_store_mid rfl 105 (.tmp 4) (.tmp 40) rfl wc.heap.size 0 #[.int .i64 0, .int .i64 2, .int .i64 3, .int .i64 4, .int .i64 6, .int .i64 7] rfl rfl (there_new _ _ _ rfl rfl) (by kernel_rfl) (by kernel_rfl) ?_)
      go_meet
      have hs := fun zs ty cs hl => h0.out.stored (b := wc.heap.size) zs ty cs rfl hl
      refine ⟨(hs _ _ _ ?_).1, _, rfl, (hs _ _ _ ?_).2⟩
      · rfl
      · rfl
    case rest =>
      clear h0
      obtain ⟨h0, b, rfl, lb, hr⟩ := hcut
      replace h0 := Aside.mk h0
      replace hr := Aside.mk hr
      replace lb := Aside.mk lb
      clear hr lb
      go_upto_region 7 with fail
      go_cut [5] (fun s wx => OfW w wx ∧ ∃ b, s = .pointer (some ⟨b, 0, none⟩) ∧ w.heap.size < b ∧ wx.rangeAt b 0 (#[.int .i64 0, .int .i64 1, .int .i64 4, .int .i64 5, .int .i64 6, .int .i64 7] : Array Value).toList)
      case first =>
        go_wp2_with (refine wpList_store_mid rfl 105 (.tmp 5) (.tmp 52) rfl wc.heap.size 0 #[.int .i64 0, .int .i64 1, .int .i64 4, .int .i64 5, .int .i64 6, .int .i64 7] rfl rfl (there_new _ _ _ rfl rfl) (by kernel_rfl) (by kernel_rfl) ?_)
        go_meet
        have hs := fun zs ty cs hl => h0.out.stored (b := wc.heap.size) zs ty cs rfl hl
        refine ⟨(hs _ _ _ ?_).1, _, rfl, (hs _ _ _ ?_).2⟩
        · rfl
        · rfl
      case rest =>
        clear h0
        obtain ⟨h0, b, rfl, lb, hr⟩ := hcut
        replace h0 := Aside.mk h0
        replace hr := Aside.mk hr
        replace lb := Aside.mk lb
        have hk : Aside (Kp w wc) := ⟨h0.out.1⟩
        have hz : Aside (Blk wc w.heap.size #[.int .u8 0, .int .i64 0, .int .i64 0, .int .i64 0, .int .i64 0] 93) := ⟨h0.out.2⟩
        clear h0
        obtain ⟨zl, z0, z1, z2, z3, z4, y0, y1, y2, y3, y4⟩ := hz.out.five
        clear hr
        have hro : refOf op = .agg #[.int .u8 0, .int .i64 0, .int .i64 0, .int .i64 0, .int .i64 0] := by
          unfold refOf formOf
          rw [if_neg (by omega)]
        replace hro := Aside.mk hro
        have n24 : op ≠ 24 := by omega
        have n25 : op ≠ 25 := by omega
        have n26 : op ≠ 26 := by omega
        have n27 : op ≠ 27 := by omega
        have n28 : op ≠ 28 := by omega
        have n29 : op ≠ 29 := by omega
        have n30 : op ≠ 30 := by omega
        have n31 : op ≠ 31 := by omega
        have n38 : op ≠ 38 := by omega
        have n39 : op ≠ 39 := by omega
        have n40 : op ≠ 40 := by omega
        have n41 : op ≠ 41 := by omega
        have n42 : op ≠ 42 := by omega
        have n43 : op ≠ 43 := by omega
        have n44 : op ≠ 44 := by omega
        have n45 : op ≠ 45 := by omega
        have n46 : op ≠ 46 := by omega
        have n47 : op ≠ 47 := by omega
        have n48 : op ≠ 48 := by omega
        have n49 : op ≠ 49 := by omega
        have n50 : op ≠ 50 := by omega
        have n51 : op ≠ 51 := by omega
        have n52 : op ≠ 52 := by omega
        have n53 : op ≠ 53 := by omega
        have n54 : op ≠ 54 := by omega
        have n55 : op ≠ 55 := by omega
        go_wp2
        refine bodyPost_ret (results_cell_row rfl _ _ w.heap.size _ _ _ _ rfl (Blk.set (Blk.set (Blk.set (Blk.set (Blk.set hz.out _) _) _) _) _) Try.underlying93 rfl (by kernel_rfl)) rfl ?_
        exact ⟨by rw [hro.out]; rfl, (((((hk.out.setCell (Nat.le_refl _) _).setCell (Nat.le_refl _) _).setCell (Nat.le_refl _) _).setCell (Nat.le_refl _) _).setCell (Nat.le_refl _) _)⟩
set_option maxRecDepth 100000 in
set_option maxHeartbeats 4000000 in
theorem of_G (op : Int) (h : 55 < op) (w : World) : Calls Try.prog 35 #[.int .i64 op] w fun e w' => e = .returned (refOf op) ∧ Kp w w' := by
  have h0 : Aside (OfW w (w.alloc (.cells #[.int .u8 0, .int .i64 0, .int .i64 0, .int .i64 0, .int .i64 0] 93))) := ⟨OfW.start w⟩
  go_enter Try.func35, Try.ntmps35
  go_upto_region 1 with fail
  go_cut [3] (fun s wx => OfW w wx ∧ ∃ b, s = .pointer (some ⟨b, 0, none⟩) ∧ w.heap.size < b ∧ wx.rangeAt b 0 (#[.int .i64 0, .int .i64 0, .int .i64 0, .int .i64 0, .int .i64 0, .int .i64 32, .int .i64 1, .int .i64 0, .int .i64 2, .int .i64 0, .int .i64 3, .int .i64 0, .int .i64 4, .int .i64 0, .int .i64 5, .int .i64 0, .int .i64 5, .int .i64 32, .int .i64 6, .int .i64 0, .int .i64 7, .int .i64 0, .int .i64 0, .int .i64 1, .int .i64 1, .int .i64 1, .int .i64 3, .int .i64 1, .int .i64 4, .int .i64 1, .int .i64 5, .int .i64 1, .int .i64 6, .int .i64 1, .int .i64 7, .int .i64 1] : Array Value).toList)
  case first =>
    clear h
    go_wp2_with (refine wpList_store_mid rfl 104 (.tmp 3) (.tmp 24) rfl (w.heap.size + 1) 0 #[.int .i64 0, .int .i64 0, .int .i64 0, .int .i64 0, .int .i64 0, .int .i64 32, .int .i64 1, .int .i64 0, .int .i64 2, .int .i64 0, .int .i64 3, .int .i64 0, .int .i64 4, .int .i64 0, .int .i64 5, .int .i64 0, .int .i64 5, .int .i64 32, .int .i64 6, .int .i64 0, .int .i64 7, .int .i64 0, .int .i64 0, .int .i64 1, .int .i64 1, .int .i64 1, .int .i64 3, .int .i64 1, .int .i64 4, .int .i64 1, .int .i64 5, .int .i64 1, .int .i64 6, .int .i64 1, .int .i64 7, .int .i64 1] rfl rfl (there_new _ _ _ (World.size_alloc _ _) rfl) (by kernel_rfl) (by kernel_rfl) ?_)
    go_meet
    have hs := fun zs ty cs hl => h0.out.stored (b := (w.heap.size + 1)) zs ty cs (World.size_alloc _ _) hl
    refine ⟨(hs _ _ _ ?_).1, _, rfl, (hs _ _ _ ?_).2⟩
    · rfl
    · rfl
  case rest =>
    clear h0
    obtain ⟨h0, b, rfl, lb, hr⟩ := hcut
    replace h0 := Aside.mk h0
    replace hr := Aside.mk hr
    replace lb := Aside.mk lb
    clear hr lb
    go_upto_region 4 with fail
    go_cut [4] (fun s wx => OfW w wx ∧ ∃ b, s = .pointer (some ⟨b, 0, none⟩) ∧ w.heap.size < b ∧ wx.rangeAt b 0 (#[.int .i64 0, .int .i64 2, .int .i64 3, .int .i64 4, .int .i64 6, .int .i64 7] : Array Value).toList)
    case first =>
      go_wp2_with (refine wpList_store_mid rfl 105 (.tmp 4) (.tmp 40) rfl wc.heap.size 0 #[.int .i64 0, .int .i64 2, .int .i64 3, .int .i64 4, .int .i64 6, .int .i64 7] rfl rfl (there_new _ _ _ rfl rfl) (by kernel_rfl) (by kernel_rfl) ?_)
      go_meet
      have hs := fun zs ty cs hl => h0.out.stored (b := wc.heap.size) zs ty cs rfl hl
      refine ⟨(hs _ _ _ ?_).1, _, rfl, (hs _ _ _ ?_).2⟩
      · rfl
      · rfl
    case rest =>
      clear h0
      obtain ⟨h0, b, rfl, lb, hr⟩ := hcut
      replace h0 := Aside.mk h0
      replace hr := Aside.mk hr
      replace lb := Aside.mk lb
      clear hr lb
      go_upto_region 7 with fail
      go_cut [5] (fun s wx => OfW w wx ∧ ∃ b, s = .pointer (some ⟨b, 0, none⟩) ∧ w.heap.size < b ∧ wx.rangeAt b 0 (#[.int .i64 0, .int .i64 1, .int .i64 4, .int .i64 5, .int .i64 6, .int .i64 7] : Array Value).toList)
      case first =>
        go_wp2_with (refine wpList_store_mid rfl 105 (.tmp 5) (.tmp 52) rfl wc.heap.size 0 #[.int .i64 0, .int .i64 1, .int .i64 4, .int .i64 5, .int .i64 6, .int .i64 7] rfl rfl (there_new _ _ _ rfl rfl) (by kernel_rfl) (by kernel_rfl) ?_)
        go_meet
        have hs := fun zs ty cs hl => h0.out.stored (b := wc.heap.size) zs ty cs rfl hl
        refine ⟨(hs _ _ _ ?_).1, _, rfl, (hs _ _ _ ?_).2⟩
        · rfl
        · rfl
      case rest =>
        clear h0
        obtain ⟨h0, b, rfl, lb, hr⟩ := hcut
        replace h0 := Aside.mk h0
        replace hr := Aside.mk hr
        replace lb := Aside.mk lb
        have hk : Aside (Kp w wc) := ⟨h0.out.1⟩
        have hz : Aside (Blk wc w.heap.size #[.int .u8 0, .int .i64 0, .int .i64 0, .int .i64 0, .int .i64 0] 93) := ⟨h0.out.2⟩
        clear h0
        obtain ⟨zl, z0, z1, z2, z3, z4, y0, y1, y2, y3, y4⟩ := hz.out.five
        clear hr
        have hro : refOf op = .agg #[.int .u8 0, .int .i64 0, .int .i64 0, .int .i64 0, .int .i64 0] := by
          unfold refOf formOf
          rw [if_neg (by omega)]
        replace hro := Aside.mk hro
        have n24 : op ≠ 24 := by omega
        have n25 : op ≠ 25 := by omega
        have n26 : op ≠ 26 := by omega
        have n27 : op ≠ 27 := by omega
        have n28 : op ≠ 28 := by omega
        have n29 : op ≠ 29 := by omega
        have n30 : op ≠ 30 := by omega
        have n31 : op ≠ 31 := by omega
        have n38 : op ≠ 38 := by omega
        have n39 : op ≠ 39 := by omega
        have n40 : op ≠ 40 := by omega
        have n41 : op ≠ 41 := by omega
        have n42 : op ≠ 42 := by omega
        have n43 : op ≠ 43 := by omega
        have n44 : op ≠ 44 := by omega
        have n45 : op ≠ 45 := by omega
        have n46 : op ≠ 46 := by omega
        have n47 : op ≠ 47 := by omega
        have n48 : op ≠ 48 := by omega
        have n49 : op ≠ 49 := by omega
        have n50 : op ≠ 50 := by omega
        have n51 : op ≠ 51 := by omega
        have n52 : op ≠ 52 := by omega
        have n53 : op ≠ 53 := by omega
        have n54 : op ≠ 54 := by omega
        have n55 : op ≠ 55 := by omega
        go_wp2
        refine bodyPost_ret (results_cell_row rfl _ _ w.heap.size _ _ _ _ rfl (Blk.set (Blk.set (Blk.set (Blk.set (Blk.set hz.out _) _) _) _) _) Try.underlying93 rfl (by kernel_rfl)) rfl ?_
        exact ⟨by rw [hro.out]; rfl, (((((hk.out.setCell (Nat.le_refl _) _).setCell (Nat.le_refl _) _).setCell (Nat.le_refl _) _).setCell (Nat.le_refl _) _).setCell (Nat.le_refl _) _)⟩
end Go.Proofs.Ytgcihcgclmdolaa
namespace Go.Proofs.Ytgcihcgclmdolaa
open Go.RowKit Go.Proofs.Ytgcihcgclmdolaa.PC
set_option linter.unusedVariables false
set_option linter.unusedSimpArgs false
theorem Of_calls (op : Int) (w : World) : Calls Try.prog 35 #[.int .i64 op] w fun e w' => e = .returned (refOf op) ∧ Kp w w' := by
  by_cases h1 : op < 1
  · exact of_F op h1 w
  by_cases h2 : op ≤ 6
  · exact of_A op ⟨by omega, h2⟩ w
  by_cases h2 : op ≤ 12
  · exact of_A2 op ⟨by omega, h2⟩ w
  by_cases h2 : op ≤ 17
  · exact of_A3 op ⟨by omega, h2⟩ w
  by_cases h3 : op ≤ 23
  · exact of_B op ⟨by omega, h3⟩ w
  by_cases h4 : op ≤ 31
  · exact of_D op ⟨by omega, h4⟩ w
  by_cases h5 : op ≤ 37
  · exact of_C op ⟨by omega, h5⟩ w
  by_cases h6 : op ≤ 55
  · exact of_E op ⟨by omega, h6⟩ w
  · exact of_G op (by omega) w
end Go.Proofs.Ytgcihcgclmdolaa
