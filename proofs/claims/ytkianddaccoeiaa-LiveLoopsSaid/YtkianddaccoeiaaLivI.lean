/- The comparison of pairs, walked. No condition. -/
import Derived.Test.YtkianddaccoeiaaLivH
import Derived.Test.YtkianddaccoeiaaReg
import Derived.Sort.Grow
namespace Go.Proofs.Ytkianddaccoeiaa
open Go.RowKit Go.Maps Go.Proofs.Ytkianddaccoeiaa.PL
set_option linter.unusedVariables false
set_option linter.unusedSimpArgs false
def cmpI (x y : Int) : Int := if x < y then -1 else if y < x then 1 else 0
theorem isNaN_calls (x : Int) (w : World) : Calls Try.prog 45 #[.int .i64 x] w fun e w' => e = .returned (.bool false) ∧ w = w' := by
  go_enter Try.func45, Try.ntmps45
  go_wp2
  go_ret
  exact ⟨by simp, rfl⟩
theorem Compare_calls (x y : Int) (w : World) : Calls Try.prog 29 #[.int .i64 x, .int .i64 y] w fun e w' => e = .returned (.int .i64 (cmpI x y)) ∧ w = w' := by
  by_cases h1 : x < y
  · have hq : cmpI x y = -1 := by simp [cmpI, h1]
    rw [hq]
    clear hq
    go_enter Try.func29, Try.ntmps29
    go_wp2_with ((go_at_call 45); (refine Calls.mono (isNaN_calls _ _) ?_); (rintro e w1 ⟨rfl, rfl⟩))
    go_ret
    exact ⟨rfl, rfl⟩
  · by_cases h2 : y < x
    · have hq : cmpI x y = 1 := by simp [cmpI, h1, h2]
      rw [hq]
      clear hq
      go_enter Try.func29, Try.ntmps29
      go_wp2_with ((go_at_call 45); (refine Calls.mono (isNaN_calls _ _) ?_); (rintro e w1 ⟨rfl, rfl⟩))
      go_ret
      exact ⟨rfl, rfl⟩
    · have hq : cmpI x y = 0 := by simp [cmpI, h1, h2]
      rw [hq]
      clear hq
      go_enter Try.func29, Try.ntmps29
      go_wp2_with ((go_at_call 45); (refine Calls.mono (isNaN_calls _ _) ?_); (rintro e w1 ⟨rfl, rfl⟩))
      go_ret
      exact ⟨rfl, rfl⟩
def orI (x y : Int) : Int := if x = 0 then y else x
theorem Or_calls (x y : Int) (g : Nat) (w : World) (h0 : w.cell? ⟨g, 0, none⟩ = some (.int .i64 x)) (h1 : w.cell? ⟨g, 1, none⟩ = some (.int .i64 y)) : Calls Try.prog 28 #[.slice (some ⟨g, 0, none⟩) 2 2] w fun e w' => e = .returned (.int .i64 (orI x y)) ∧ w = w' := by
  have ho := Aside.mk (show (x ≠ 0 → orI x y = x) ∧ (x = 0 → orI x y = y) from ⟨fun h => by simp [orI, h], fun h => by simp [orI, h]⟩)
  generalize orI x y = r at *
  go_enter Try.func28, Try.ntmps28
  go_wp2
  go_loop [8] (fun i => ∃ k : Nat, k ≤ 2 ∧ i = .int .i64 k ∧ Aside ((0 < k → x = 0) ∧ (1 < k → y = 0))) (fun i => 2 - (intOf i).toNat)
  case atStart => exact ⟨0, by omega, rfl, ⟨fun h => absurd h (by omega), fun h => absurd h (by omega)⟩⟩
  case round =>
    obtain ⟨k, hk, rfl, hz⟩ := hrel
    rcases (show k = 0 ∨ k = 1 ∨ k = 2 by omega) with rfl | rfl | rfl
    · by_cases e0 : x = 0
      · have g1 : (x != 0) = false := by simp [e0]
        replace e0 := Aside.mk e0
        go_wp2
        go_round
        case rel => exact ⟨1, by omega, by go_num, ⟨fun _ => e0.out, fun h => absurd h (by omega)⟩⟩
        case measure => simp [intOf]
      · have g1 : (x != 0) = true := by simp [e0]
        have hr := Aside.mk (ho.out.1 e0)
        go_wp2
        go_ret
        exact ⟨by rw [hr.out]; rfl, rfl⟩
    · by_cases e0 : y = 0
      · have g1 : (y != 0) = false := by simp [e0]
        replace e0 := Aside.mk e0
        go_wp2
        go_round
        case rel => exact ⟨2, by omega, by go_num, ⟨fun _ => hz.out.1 (by omega), fun _ => e0.out⟩⟩
        case measure => simp [intOf]
      · have g1 : (y != 0) = true := by simp [e0]
        have hr := Aside.mk (ho.out.2 (hz.out.1 (by omega)))
        go_wp2
        go_ret
        exact ⟨by rw [hr.out]; rfl, rfl⟩
    · have hr := Aside.mk ((ho.out.2 (hz.out.1 (by omega))).trans (hz.out.2 (by omega)))
      go_wp2
      go_ret
      exact ⟨by rw [hr.out]; rfl, rfl⟩
/-- The order of pairs. -/
def cmpP (p q : Int × Int) : Int := orI (cmpI p.1 q.1) (cmpI p.2 q.2)
set_option maxHeartbeats 2000000 in
theorem clash2_calls (p q : Int × Int) (w : World) : Calls Try.prog 27 #[.agg #[.int .i64 p.1, .int .i64 p.2], .agg #[.int .i64 q.1, .int .i64 q.2]] w fun e w' => e = .returned (.int .i64 (cmpP p q)) ∧ ∃ n os, w' = Go.Sort.grow (w.drewN n) os := by
  obtain ⟨a, b⟩ := p
  obtain ⟨c, d⟩ := q
  have hb1 := (Blk.new w #[.int .i64 a, .int .i64 b] 39).alloc (.cells #[.int .i64 c, .int .i64 d] 39)
  have hb2 := Blk.new (w.alloc (.cells #[.int .i64 a, .int .i64 b] 39)) #[.int .i64 c, .int .i64 d] 39
  have ten := Aside.mk (fun (V : World) (kV : Kp ((w.alloc (.cells #[.int .i64 a, .int .i64 b] 39)).alloc (.cells #[.int .i64 c, .int .i64 d] 39)) V) => show V.cell? ⟨w.heap.size, 0, none⟩ = some (.int .i64 a) ∧ V.cell? ⟨w.heap.size, 1, none⟩ = some (.int .i64 b) ∧ V.cell? ⟨w.heap.size + 1, 0, none⟩ = some (.int .i64 c) ∧ V.cell? ⟨w.heap.size + 1, 1, none⟩ = some (.int .i64 d) from ⟨(hb1.kp kV).cell 0, (hb1.kp kV).cell 1, by have := (hb2.kp kV).cell 0; rwa [World.size_alloc] at this, by have := (hb2.kp kV).cell 1; rwa [World.size_alloc] at this⟩)
  clear hb1 hb2
  have hW : Aside ((w.alloc (.cells #[.int .i64 a, .int .i64 b] 39)).alloc (.cells #[.int .i64 c, .int .i64 d] 39) = Go.Sort.grow w #[.cells #[.int .i64 a, .int .i64 b] 39, .cells #[.int .i64 c, .int .i64 d] 39]) := ⟨by rw [Go.Sort.alloc_eq_grow, Go.Sort.alloc_eq_grow, Go.Sort.grow_grow]; rfl⟩
  have hsz : Aside (((w.alloc (.cells #[.int .i64 a, .int .i64 b] 39)).alloc (.cells #[.int .i64 c, .int .i64 d] 39)).heap.size = w.heap.size + 1 + 1) := ⟨by simp⟩
  go_enter Try.func27, Try.ntmps27
  go_wp2_with fail
  generalize (w.alloc (.cells #[.int .i64 a, .int .i64 b] 39)).alloc (.cells #[.int .i64 c, .int .i64 d] 39) = W at *
  refine wp_hide (fun Q0 hQ0 => ?_)
  refine wp_region_held_drew (S := fun w' => w'.cell? ⟨w.heap.size, 0, none⟩ = some (.int .i64 a) ∧ w'.cell? ⟨w.heap.size, 1, none⟩ = some (.int .i64 b) ∧ w'.cell? ⟨w.heap.size + 1, 0, none⟩ = some (.int .i64 c) ∧ w'.cell? ⟨w.heap.size + 1, 1, none⟩ = some (.int .i64 d)) (by kernel_rfl) ?hS0a (fun hHeld => ?_)
  case hS0a => exact (ten.out _ (Kp.refl W).drew)
  refine wpAnyH_takeL (i := 0) (v := ?v0a) rfl (by kernel_rfl) (by kernel_rfl) (by kernel_rfl) (fun _ _ _ h => h) (Or.inl ⟨by kernel_rfl, ?hy0a⟩) (by assumption) ?rest0a
  case hy0a => (intro w hSw; (try dsimp only at hSw); go_simp; (try with_reducible rfl))
  try simp only [Act.put, List.setIfInBounds_toArray, List.set_cons_zero, List.set_cons_succ]
  refine wpAnyH_takeL (i := 1) (v := ?v1a) rfl (by kernel_rfl) (by kernel_rfl) (by kernel_rfl) (fun _ _ _ h => h) (Or.inl ⟨by kernel_rfl, ?hy1a⟩) (by assumption) ?rest1a
  case hy1a => (intro w hSw; (try dsimp only at hSw); go_simp; (try with_reducible rfl))
  try simp only [Act.put, List.setIfInBounds_toArray, List.set_cons_zero, List.set_cons_succ]
  refine wpAnyH_takeL (i := 2) (v := ?v2a) rfl (by kernel_rfl) (by kernel_rfl) (by kernel_rfl) (fun _ _ _ h => h) (Or.inl ⟨by kernel_rfl, ?hy2a⟩) (by assumption) ?rest2a
  case hy2a => (intro w hSw; (try dsimp only at hSw); go_simp; (try with_reducible rfl))
  try simp only [Act.put, List.setIfInBounds_toArray, List.set_cons_zero, List.set_cons_succ]
  refine wpAnyH_takeL (i := 3) (v := ?v3a) rfl (by kernel_rfl) (by kernel_rfl) (by kernel_rfl) (fun _ _ _ h => h) (Or.inl ⟨by kernel_rfl, ?hy3a⟩) (by assumption) ?rest3a
  case hy3a => (intro w hSw; (try dsimp only at hSw); go_simp; (try with_reducible rfl))
  try simp only [Act.put, List.setIfInBounds_toArray, List.set_cons_zero, List.set_cons_succ]
  refine wpAnyH_takeL (i := 5) (v := ?v5a) rfl (by kernel_rfl) (by kernel_rfl) (by kernel_rfl) (fun _ _ _ h => h) (Or.inl ⟨by kernel_rfl, ?hy5a⟩) (by assumption) ?rest5a
  case hy5a => (intro w hSw; (try dsimp only at hSw); go_simp; (try with_reducible rfl))
  try simp only [Act.put, List.setIfInBounds_toArray, List.set_cons_zero, List.set_cons_succ]
  refine wpAnyH_takeL (i := 6) (v := ?v6a) rfl (by kernel_rfl) (by kernel_rfl) (by kernel_rfl) (fun _ _ _ h => h) (Or.inl ⟨by kernel_rfl, ?hy6a⟩) (by assumption) ?rest6a
  case hy6a => (intro w hSw; (try dsimp only at hSw); go_simp; (try with_reducible rfl))
  try simp only [Act.put, List.setIfInBounds_toArray, List.set_cons_zero, List.set_cons_succ]
  refine wpAnyH_takeL (i := 7) (v := ?v7a) rfl (by kernel_rfl) (by kernel_rfl) (by kernel_rfl) (fun _ _ _ h => h) (Or.inl ⟨by kernel_rfl, ?hy7a⟩) (by assumption) ?rest7a
  case hy7a => (intro w hSw; (try dsimp only at hSw); go_simp; (try with_reducible rfl))
  try simp only [Act.put, List.setIfInBounds_toArray, List.set_cons_zero, List.set_cons_succ]
  refine wpAnyH_takeL (i := 8) (v := ?v8a) rfl (by kernel_rfl) (by kernel_rfl) (by kernel_rfl) (fun _ _ _ h => h) (Or.inl ⟨by kernel_rfl, ?hy8a⟩) (by assumption) ?rest8a
  case hy8a => (intro w hSw; (try dsimp only at hSw); go_simp; (try with_reducible rfl))
  try simp only [Act.put, List.setIfInBounds_toArray, List.set_cons_zero, List.set_cons_succ]
  refine wpAnyH_ready (rs := [4]) (by kernel_rfl) (by simp) ?_
  refine AllReadyH.consL rfl (fun Kx hKx => ?_) AllReadyH.nil
  go_simp
  refine Calls.mono (Compare_calls _ _ _) ?_
  rintro e w3 ⟨rfl, rfl⟩
  refine hKx.out _ _ (ten.out _ (Kp.refl W).drew) (fun hHeld => ?_)
  clear hKx
  try simp only [Act.put, List.setIfInBounds_toArray, List.set_cons_zero, List.set_cons_succ]
  refine wpAnyH_ready (rs := [9]) (by kernel_rfl) (by simp) ?_
  refine AllReadyH.consL rfl (fun Kx hKx => ?_) AllReadyH.nil
  go_simp
  refine Calls.mono (Compare_calls _ _ _) ?_
  rintro e w3 ⟨rfl, rfl⟩
  refine hKx.out _ _ (ten.out _ (Kp.refl W).drew) (fun hHeld => ?_)
  clear hKx
  try simp only [Act.put, List.setIfInBounds_toArray, List.set_cons_zero, List.set_cons_succ]
  refine wpAnyH_ready (rs := [10]) (by kernel_rfl) (by simp) ?_
  refine AllReadyH.consL rfl (fun Kx hKx => ?_) AllReadyH.nil
  go_simp
  refine hKx.out _ _ (ten.out _ ((Kp.refl W).alloc _).drew) (fun hHeld => ?_)
  clear hKx
  try simp only [Act.put, List.setIfInBounds_toArray, List.set_cons_zero, List.set_cons_succ]
  refine wpAnyH_ready (rs := [11]) (by kernel_rfl) (by simp) ?_
  refine AllReadyH.consL rfl (fun Kx hKx => ?_) AllReadyH.nil
  go_simp
  refine Calls.mono (Or_calls (cmpI a c) (cmpI b d) _ _ (cell_new' W _ _ _ 0 rfl) (cell_new' W _ _ _ 1 rfl)) ?_
  rintro e w3 ⟨rfl, rfl⟩
  refine hKx.out _ _ (ten.out _ ((Kp.refl W).alloc _).drew) (fun hHeld => ?_)
  clear hKx
  try simp only [Act.put, List.setIfInBounds_toArray, List.set_cons_zero, List.set_cons_succ]
  refine wpAnyH_takeL (i := 12) (v := ?v12a) rfl (by kernel_rfl) (by kernel_rfl) (by kernel_rfl) (fun _ _ _ h => h) (Or.inl ⟨by kernel_rfl, ?hy12a⟩) (by assumption) ?rest12a
  case hy12a => (intro w hSw; (try dsimp only at hSw); go_simp; (try with_reducible rfl))
  try simp only [Act.put, List.setIfInBounds_toArray, List.set_cons_zero, List.set_cons_succ]
  refine wpAnyH_done (by kernel_rfl) (hQ0.out _ _ ?_) _
  all_goals
    go_wp2
    go_ret
    refine ⟨by unfold cmpP; rfl, 1, #[.cells #[.int .i64 a, .int .i64 b] 39, .cells #[.int .i64 c, .int .i64 d] 39] ++ #[.cells #[.int .i64 (cmpI a c), .int .i64 (cmpI b d)] 3], ?_⟩
    rw [hW.out, Go.Sort.alloc_eq_grow, Go.Sort.grow_grow, Go.Sort.drew_grow]
    rfl
end Go.Proofs.Ytkianddaccoeiaa
