/- The fixed fact of layer 19 (live), walked. No condition. -/
import Derived.Test.YtkianddaccoeiaaLivO
import Derived.Test.YtkianddaccoeiaaLivQ
import Derived.Test.YtkianddaccoeiaaPlainAw
import Derived.Test.YtkianddaccoeiaaLivEq
namespace Go.Proofs.Ytkianddaccoeiaa
open Go.RowKit Go.Maps Go.Proofs.Ytkianddaccoeiaa.PL
set_option linter.unusedVariables false
set_option linter.unusedSimpArgs false
def awK (k c : Nat) : FunC := ⟨awF, none, 0, some ⟨k, 0, none⟩, 3, none, 0, some ⟨c, 0, none⟩, 4, bare awF.code⟩
def AwL (w : World) (e : Ending) (w' : World) : Prop := ∃ g A0 c0 A1 c1 A2 c2 A3 c3, e = .returned (.slice (some ⟨g, 0, none⟩) 4 4) ∧ Kp w w' ∧ Aside (w'.cell? ⟨g, 0, none⟩ = some (.slice A0 0 c0) ∧ w'.cell? ⟨g, 1, none⟩ = some (.slice A1 1 c1) ∧ w'.cell? ⟨g, 2, none⟩ = some (.slice A2 2 c2) ∧ w'.cell? ⟨g, 3, none⟩ = some (.slice A3 1 c3) ∧ g < w'.heap.size)
theorem aw_lives {w : World} {k c : Nat} (h : FunAt w (awK k c)) : Calls Try.prog 8 #[.agg (awK k c).cells] w (AwL w) := by
  refine (Live_calls (awK k c) w h awF_ok (by show (4 : Nat) ≤ 10000; decide) (by show (3 : Nat) ≤ 10000; decide) (fun i hi => ?_)).mono ?_
  · replace hi : i ∈ awF.code := hi
    simp only [awF, List.mem_cons, List.not_mem_nil, or_false] at hi
    rcases hi with rfl | rfl | rfl | rfl <;> exact Nat.zero_le _
  · rintro e w' ⟨g, H, rfl, hg, hR, hk⟩
    have hl : ∀ n, n < 4 → w'.cell? ⟨g, n, none⟩ = some (.slice (H n).1 (listI 3 (awS n)).length (H n).2) := fun n hn => by
      have := hR.row.cell n
      rw [this]
      have e : (awK k c).f = awF := rfl
      rw [e, rowsC_at (show n < awF.code.length from hn), if_pos (show n < awF.code.length from hn), aw_live]
      rfl
    exact ⟨g, _, _, _, _, _, _, _, _, rfl, hk, ⟨hl 0 (by decide), hl 1 (by decide), hl 2 (by decide), hl 3 (by decide), hR.row.lt⟩⟩
def AwC (w : World) (e : Ending) (w' : World) : Prop := ∃ g o c, e = .returned (.slice (some ⟨g, o, none⟩) 1 c) ∧ Kp w w' ∧ Aside (w'.cell? ⟨g, o, none⟩ = some (.int .i64 0) ∧ w'.cell? ⟨g, o + 1, none⟩ = some (.int .i64 1) ∧ g < w'.heap.size)
theorem aw_clashes {w : World} {k c : Nat} (h : FunAt w (awK k c)) : Calls Try.prog 11 #[.agg (awK k c).cells] w (AwC w) := by
  refine (Clashes_calls (awK k c) w h awF_ok (by show (4 : Nat) ≤ 10000; decide) (by show (3 : Nat) ≤ 10000; decide) (fun i hi => ?_) (by show (0 : Nat) ≤ 10000; decide)).mono ?_
  · replace hi : i ∈ awF.code := hi
    simp only [awF, List.mem_cons, List.not_mem_nil, or_false] at hi
    rcases hi with rfl | rfl | rfl | rfl <;> exact Nat.zero_le _
  · rintro e w' ⟨A, c', rfl, hR, hk⟩
    have e : listP (awK k c).f.kinds.length (clashB (awK k c).f) = [(0, 1)] := aw_list
    rw [e] at hR ⊢
    obtain ⟨g, o, rfl, hg, hc⟩ := hR (by simp)
    obtain ⟨h1, h2⟩ := hc 0 (0, 1) rfl
    exact ⟨g, o, c', rfl, hk, ⟨by simpa using h1, by simpa using h2, hg⟩⟩
set_option maxRecDepth 100000 in
set_option maxHeartbeats 4000000 in
theorem awake19_calls (w : World) : Calls Try.prog 6 #[] w fun e w' => e = .returned (.bool true) ∧ Kp w w' := by
  go_enter Try.func6, Try.ntmps6
  go_upto_region 2 with fail
  have hk := ((Blk.new w #[.int .i64 1, .int .i64 1, .int .i64 1] 3).alloc (.cells ((bare awF.code).flatMap InsC.cells).toArray 35)).alloc (.cells (awK w.heap.size (w.heap.size + 1)).cells 25)
  have hc := (Blk.new (w.alloc (.cells #[.int .i64 1, .int .i64 1, .int .i64 1] 3)) ((bare awF.code).flatMap InsC.cells).toArray 35).alloc (.cells (awK w.heap.size (w.heap.size + 1)).cells 25)
  have hb := Blk.new ((w.alloc (.cells #[.int .i64 1, .int .i64 1, .int .i64 1] 3)).alloc (.cells ((bare awF.code).flatMap InsC.cells).toArray 35)) (awK w.heap.size (w.heap.size + 1)).cells 25
  rw [World.size_alloc] at hc
  rw [World.size_alloc, World.size_alloc] at hb
  have kp := (((Kp.refl w).alloc (.cells #[.int .i64 1, .int .i64 1, .int .i64 1] 3)).alloc (.cells ((bare awF.code).flatMap InsC.cells).toArray 35)).alloc (.cells (awK w.heap.size (w.heap.size + 1)).cells 25)
  show Code.wp Try.prog _ _ _ (((w.alloc (.cells #[.int .i64 1, .int .i64 1, .int .i64 1] 3)).alloc (.cells ((bare awF.code).flatMap InsC.cells).toArray 35)).alloc (.cells (awK w.heap.size (w.heap.size + 1)).cells 25))
  generalize ((w.alloc (.cells #[.int .i64 1, .int .i64 1, .int .i64 1] 3)).alloc (.cells ((bare awF.code).flatMap InsC.cells).toArray 35)).alloc (.cells (awK w.heap.size (w.heap.size + 1)).cells 25) = W at *
  have hf : FunAt W (awK w.heap.size (w.heap.size + 1)) := mk_funAt (f := awF) (gk := w.heap.size) (gc := w.heap.size + 1) (tk := 3) (tc := 35) (fk := (0, 0)) (fc := (0, 0)) rfl rfl (fun i hi => by simp only [awF, List.mem_cons, List.not_mem_nil, or_false] at hi; rcases hi with rfl | rfl | rfl | rfl <;> rfl) hk hc 3 4 (Nat.le_refl _) (Nat.le_refl _)
  have hL := Aside.mk (fun (V : World) (kV : Kp W V) => aw_lives (hf.kp kV))
  have hC := Aside.mk (fun (V : World) (kV : Kp W V) => aw_clashes (hf.kp kV))
  have ten := Aside.mk (fun (V : World) (kV : Kp W V) => (hb.kp kV).six)
  clear hk hc hb hf
  replace kp := Aside.mk kp
  refine wp_hide (fun Q0 hQ0 => ?_)
  refine wp_region_held_drew (S := fun w' => w.heap.size + 1 + 1 < w'.heap.size ∧ w'.cell? ⟨w.heap.size + 1 + 1, 0, none⟩ = some (.string ⟨#[102]⟩) ∧ w'.cell? ⟨w.heap.size + 1 + 1, 1, none⟩ = some (.bool false) ∧ w'.cell? ⟨w.heap.size + 1 + 1, 2, none⟩ = some (.slice none 0 0) ∧ w'.cell? ⟨w.heap.size + 1 + 1, 3, none⟩ = some (.slice (some ⟨w.heap.size, 0, none⟩) 3 3) ∧ w'.cell? ⟨w.heap.size + 1 + 1, 4, none⟩ = some (.slice none 0 0) ∧ w'.cell? ⟨w.heap.size + 1 + 1, 5, none⟩ = some (.slice (some ⟨w.heap.size + 1, 0, none⟩) 4 4)) (by kernel_rfl) ?hS0a (fun hHeld => ?_)
  case hS0a => exact (ten.out _ (Kp.refl W).drew)
  refine wpAnyH_takeL (i := 0) (v := ?v0a) rfl (by kernel_rfl) (by kernel_rfl) (by kernel_rfl) (fun _ _ _ h => h) (Or.inl ⟨by kernel_rfl, ?hy0a⟩) (by assumption) ?rest0a
  case hy0a => (intro w hSw; (try dsimp only at hSw); go_simp; (try with_reducible rfl))
  try simp only [Act.put, List.setIfInBounds_toArray, List.set_cons_zero, List.set_cons_succ]
  refine wpAnyH_takeL (i := 2) (v := ?v2a) rfl (by kernel_rfl) (by kernel_rfl) (by kernel_rfl) (fun _ _ _ h => h) (Or.inl ⟨by kernel_rfl, ?hy2a⟩) (by assumption) ?rest2a
  case hy2a => (intro w hSw; (try dsimp only at hSw); go_simp; (try with_reducible rfl))
  try simp only [Act.put, List.setIfInBounds_toArray, List.set_cons_zero, List.set_cons_succ]
  refine wpAnyH_ready (rs := [1]) (by kernel_rfl) (by simp) ?_
  refine AllReadyH.consL rfl (fun Kx hKx => ?_) AllReadyH.nil
  go_simp
  refine Calls.mono (hL.out _ (by repeat (with_reducible first | exact Kp.refl _ | assumption | exact Dr.kp (by assumption) | refine Kp.drewN ?_ _ | refine Kp.drew ?_ | refine Kp.alloc ?_ _ | refine Kp.setCell ?_ (by first | exact Nat.le_refl _ | assumption | omega) _ | refine Kp.trans ?_ (by assumption) | refine Kp.trans ?_ (Dr.kp (by assumption))))) ?_
  rintro e wL ⟨gL, A0, cl0, A1, cl1, A2, cl2, A3, cl3, rfl, kL, hL4⟩
  refine hKx.out _ _ (ten.out _ (by repeat (with_reducible first | exact Kp.refl _ | assumption | exact Dr.kp (by assumption) | refine Kp.drewN ?_ _ | refine Kp.drew ?_ | refine Kp.alloc ?_ _ | refine Kp.setCell ?_ (by first | exact Nat.le_refl _ | assumption | omega) _ | refine Kp.trans ?_ (by assumption) | refine Kp.trans ?_ (Dr.kp (by assumption))))) (fun hHeld => ?_)
  clear hKx
  try simp only [Act.put, List.setIfInBounds_toArray, List.set_cons_zero, List.set_cons_succ]
  refine wpAnyH_ready (rs := [3]) (by kernel_rfl) (by simp) ?_
  refine AllReadyH.consL rfl (fun Kx hKx => ?_) AllReadyH.nil
  go_simp
  refine Calls.mono (hC.out _ (by repeat (with_reducible first | exact Kp.refl _ | assumption | exact Dr.kp (by assumption) | refine Kp.drewN ?_ _ | refine Kp.drew ?_ | refine Kp.alloc ?_ _ | refine Kp.setCell ?_ (by first | exact Nat.le_refl _ | assumption | omega) _ | refine Kp.trans ?_ (by assumption) | refine Kp.trans ?_ (Dr.kp (by assumption))))) ?_
  rintro e wC ⟨gC, oC, cC, rfl, kC, hC2⟩
  refine hKx.out _ _ (ten.out _ (by repeat (with_reducible first | exact Kp.refl _ | assumption | exact Dr.kp (by assumption) | refine Kp.drewN ?_ _ | refine Kp.drew ?_ | refine Kp.alloc ?_ _ | refine Kp.setCell ?_ (by first | exact Nat.le_refl _ | assumption | omega) _ | refine Kp.trans ?_ (by assumption) | refine Kp.trans ?_ (Dr.kp (by assumption))))) (fun hHeld => ?_)
  clear hKx
  try simp only [Act.put, List.setIfInBounds_toArray, List.set_cons_zero, List.set_cons_succ]
  refine wpAnyH_takeL (i := 4) (v := ?v4a) rfl (by kernel_rfl) (by kernel_rfl) (by kernel_rfl) (fun _ _ _ h => h) (Or.inl ⟨by kernel_rfl, ?hy4a⟩) (by assumption) ?rest4a
  case hy4a => (intro w hSw; (try dsimp only at hSw); go_simp; (try with_reducible rfl))
  try simp only [Act.put, List.setIfInBounds_toArray, List.set_cons_zero, List.set_cons_succ]
  refine wpAnyH_takeL (i := 5) (v := ?v5a) rfl (by kernel_rfl) (by kernel_rfl) (by kernel_rfl) (fun _ _ _ h => h) (Or.inl ⟨by kernel_rfl, ?hy5a⟩) (by assumption) ?rest5a
  case hy5a => (intro w hSw; (try dsimp only at hSw); go_simp; (try with_reducible rfl))
  try simp only [Act.put, List.setIfInBounds_toArray, List.set_cons_zero, List.set_cons_succ]
  refine wpAnyH_done (by kernel_rfl) (hQ0.out _ _ ?_) _
  obtain ⟨l0, l1, l2, l3, lg⟩ := hL4.out
  have m0 := (kC.cell (p := ⟨gL, 0, none⟩) lg).trans l0
  have m1 := (kC.cell (p := ⟨gL, 1, none⟩) lg).trans l1
  have m2 := (kC.cell (p := ⟨gL, 2, none⟩) lg).trans l2
  have m3 := (kC.cell (p := ⟨gL, 3, none⟩) lg).trans l3
  obtain ⟨d0, d1, dg⟩ := hC2.out
  have kz := Aside.mk (show Kp w wC from kp.out.trans (show Kp W wC from (by repeat (with_reducible first | exact Kp.refl _ | assumption | exact Dr.kp (by assumption) | refine Kp.drewN ?_ _ | refine Kp.drew ?_ | refine Kp.alloc ?_ _ | refine Kp.setCell ?_ (by first | exact Nat.le_refl _ | assumption | omega) _ | refine Kp.trans ?_ (by assumption) | refine Kp.trans ?_ (Dr.kp (by assumption))))))
  clear hL hC ten l0 l1 l2 l3 lg hL4 hC2 kL kC
  have eq2 := fun V => eq2_run V 0 1 0 1
  go_wp2_with fail
  go_ret
  exact ⟨rfl, kz.out⟩
end Go.Proofs.Ytkianddaccoeiaa
