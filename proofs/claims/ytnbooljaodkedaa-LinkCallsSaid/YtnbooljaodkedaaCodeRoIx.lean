/- The reference's rows, walked: the numbers of part I. -/
import Derived.Test.YtnbooljaodkedaaCodeRoB
namespace Go.Proofs.Ytnbooljaodkedaa
open Go.RowKit Go.Maps Go.Proofs.Ytnbooljaodkedaa.PC
set_option linter.unusedVariables false
set_option linter.unusedSimpArgs false
set_option maxRecDepth 100000 in
set_option maxHeartbeats 4000000 in
theorem of_A3 (op : Int) (h : 13 ≤ op ∧ op ≤ 17) (w : World) : Calls Try.prog 36 #[.int .i64 op] w fun e w' => e = .returned (refOf op) ∧ Kp w w' := by
  have h0 : Aside (OfW w (w.alloc (.cells #[.int .u8 0, .int .i64 0, .int .i64 0, .int .i64 0, .int .i64 0] 108))) := ⟨OfW.start w⟩
  go_enter Try.func36, Try.ntmps36
  go_upto_region 1 with fail
  go_cut [3] (fun s wx => OfW w wx ∧ ∃ b, s = .pointer (some ⟨b, 0, none⟩) ∧ w.heap.size < b ∧ wx.rangeAt b 0 (#[.int .i64 0, .int .i64 0, .int .i64 0, .int .i64 0, .int .i64 0, .int .i64 32, .int .i64 1, .int .i64 0, .int .i64 2, .int .i64 0, .int .i64 3, .int .i64 0, .int .i64 4, .int .i64 0, .int .i64 5, .int .i64 0, .int .i64 5, .int .i64 32, .int .i64 6, .int .i64 0, .int .i64 7, .int .i64 0, .int .i64 0, .int .i64 1, .int .i64 1, .int .i64 1, .int .i64 3, .int .i64 1, .int .i64 4, .int .i64 1, .int .i64 5, .int .i64 1, .int .i64 6, .int .i64 1, .int .i64 7, .int .i64 1] : Array Value).toList)
  case first =>
    clear h
    go_wp2_with (refine wpList_store_mid rfl 135 (.tmp 3) (.tmp 24) rfl (w.heap.size + 1) 0 #[.int .i64 0, .int .i64 0, .int .i64 0, .int .i64 0, .int .i64 0, .int .i64 32, .int .i64 1, .int .i64 0, .int .i64 2, .int .i64 0, .int .i64 3, .int .i64 0, .int .i64 4, .int .i64 0, .int .i64 5, .int .i64 0, .int .i64 5, .int .i64 32, .int .i64 6, .int .i64 0, .int .i64 7, .int .i64 0, .int .i64 0, .int .i64 1, .int .i64 1, .int .i64 1, .int .i64 3, .int .i64 1, .int .i64 4, .int .i64 1, .int .i64 5, .int .i64 1, .int .i64 6, .int .i64 1, .int .i64 7, .int .i64 1] rfl rfl (there_new _ _ _ (World.size_alloc _ _) rfl) (by kernel_rfl) (by kernel_rfl) ?_)
    go_meet
    have hs := fun zs ty cs hl => h0.out.stored (b := (w.heap.size + 1)) zs ty cs (World.size_alloc _ _) hl
    refine ⟨(hs _ _ _ ?_).1, _, rfl, (hs _ _ _ ?_).2⟩
    · rfl
    · rfl
  case rest =>
    clear h0
    obtain ⟨h0, b, rfl, lb, hr⟩ := hcut
    replace h0 := Aside.mk h0
    replace hr := Aside.mk hr
    replace lb := Aside.mk lb
    have hk : Aside (Kp w wc) := ⟨h0.out.1⟩
    have hz : Aside (Blk wc w.heap.size #[.int .u8 0, .int .i64 0, .int .i64 0, .int .i64 0, .int .i64 0] 108) := ⟨h0.out.2⟩
    clear h0
    obtain ⟨zl, z0, z1, z2, z3, z4, y0, y1, y2, y3, y4⟩ := hz.out.five
    have bl := lb.out
    have bn1 : b ≠ w.heap.size := by omega
    have bn2 : w.heap.size ≠ b := by omega
    have h' : op = 13 ∨ op = 14 ∨ op = 15 ∨ op = 16 ∨ op = 17 := by omega
    clear h
    rcases h' with rfl | rfl | rfl | rfl | rfl
    · have e0 : wc.cell? ⟨b, 26, none⟩ = some (.int .i64 3) := hr.out 26 _ rfl
      have e1 : wc.cell? ⟨b, 27, none⟩ = some (.int .i64 1) := hr.out 27 _ rfl
      go_wp2
      go_region_held3 (fun w' => w'.cell? ⟨b, 26, none⟩ = some (.int .i64 3) ∧ w'.cell? ⟨b, 27, none⟩ = some (.int .i64 1)) (go_keep) (fail)
      all_goals
        go_wp2
        (refine bodyPost_ret (results_cell_row rfl _ _ w.heap.size _ _ _ _ rfl (Blk.set (Blk.set (Blk.set (Blk.set (Blk.set hz.out _) _) _) _) _) Try.underlying108 rfl (by kernel_rfl)) rfl ?_; exact ⟨rfl, Kp.drew (((((hk.out.setCell (Nat.le_refl _) _).setCell (Nat.le_refl _) _).setCell (Nat.le_refl _) _).setCell (Nat.le_refl _) _).setCell (Nat.le_refl _) _)⟩)
    · have e0 : wc.cell? ⟨b, 28, none⟩ = some (.int .i64 4) := hr.out 28 _ rfl
      have e1 : wc.cell? ⟨b, 29, none⟩ = some (.int .i64 1) := hr.out 29 _ rfl
      go_wp2
      go_region_held3 (fun w' => w'.cell? ⟨b, 28, none⟩ = some (.int .i64 4) ∧ w'.cell? ⟨b, 29, none⟩ = some (.int .i64 1)) (go_keep) (fail)
      all_goals
        go_wp2
        (refine bodyPost_ret (results_cell_row rfl _ _ w.heap.size _ _ _ _ rfl (Blk.set (Blk.set (Blk.set (Blk.set (Blk.set hz.out _) _) _) _) _) Try.underlying108 rfl (by kernel_rfl)) rfl ?_; exact ⟨rfl, Kp.drew (((((hk.out.setCell (Nat.le_refl _) _).setCell (Nat.le_refl _) _).setCell (Nat.le_refl _) _).setCell (Nat.le_refl _) _).setCell (Nat.le_refl _) _)⟩)
    · have e0 : wc.cell? ⟨b, 30, none⟩ = some (.int .i64 5) := hr.out 30 _ rfl
      have e1 : wc.cell? ⟨b, 31, none⟩ = some (.int .i64 1) := hr.out 31 _ rfl
      go_wp2
      go_region_held3 (fun w' => w'.cell? ⟨b, 30, none⟩ = some (.int .i64 5) ∧ w'.cell? ⟨b, 31, none⟩ = some (.int .i64 1)) (go_keep) (fail)
      all_goals
        go_wp2
        (refine bodyPost_ret (results_cell_row rfl _ _ w.heap.size _ _ _ _ rfl (Blk.set (Blk.set (Blk.set (Blk.set (Blk.set hz.out _) _) _) _) _) Try.underlying108 rfl (by kernel_rfl)) rfl ?_; exact ⟨rfl, Kp.drew (((((hk.out.setCell (Nat.le_refl _) _).setCell (Nat.le_refl _) _).setCell (Nat.le_refl _) _).setCell (Nat.le_refl _) _).setCell (Nat.le_refl _) _)⟩)
    · have e0 : wc.cell? ⟨b, 32, none⟩ = some (.int .i64 6) := hr.out 32 _ rfl
      have e1 : wc.cell? ⟨b, 33, none⟩ = some (.int .i64 1) := hr.out 33 _ rfl
      go_wp2
      go_region_held3 (fun w' => w'.cell? ⟨b, 32, none⟩ = some (.int .i64 6) ∧ w'.cell? ⟨b, 33, none⟩ = some (.int .i64 1)) (go_keep) (fail)
      all_goals
        go_wp2
        (refine bodyPost_ret (results_cell_row rfl _ _ w.heap.size _ _ _ _ rfl (Blk.set (Blk.set (Blk.set (Blk.set (Blk.set hz.out _) _) _) _) _) Try.underlying108 rfl (by kernel_rfl)) rfl ?_; exact ⟨rfl, Kp.drew (((((hk.out.setCell (Nat.le_refl _) _).setCell (Nat.le_refl _) _).setCell (Nat.le_refl _) _).setCell (Nat.le_refl _) _).setCell (Nat.le_refl _) _)⟩)
    · have e0 : wc.cell? ⟨b, 34, none⟩ = some (.int .i64 7) := hr.out 34 _ rfl
      have e1 : wc.cell? ⟨b, 35, none⟩ = some (.int .i64 1) := hr.out 35 _ rfl
      go_wp2
      go_region_held3 (fun w' => w'.cell? ⟨b, 34, none⟩ = some (.int .i64 7) ∧ w'.cell? ⟨b, 35, none⟩ = some (.int .i64 1)) (go_keep) (fail)
      all_goals
        go_wp2
        (refine bodyPost_ret (results_cell_row rfl _ _ w.heap.size _ _ _ _ rfl (Blk.set (Blk.set (Blk.set (Blk.set (Blk.set hz.out _) _) _) _) _) Try.underlying108 rfl (by kernel_rfl)) rfl ?_; exact ⟨rfl, Kp.drew (((((hk.out.setCell (Nat.le_refl _) _).setCell (Nat.le_refl _) _).setCell (Nat.le_refl _) _).setCell (Nat.le_refl _) _).setCell (Nat.le_refl _) _)⟩)
end Go.Proofs.Ytnbooljaodkedaa
