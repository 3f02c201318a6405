/- The closure that adds a pair, walked. Conditions stand at the theorem. -/
import Derived.Test.YtkianddaccoeiaaLivG
namespace Go.Proofs.Ytkianddaccoeiaa
open Go.RowKit Go.Maps Go.Proofs.Ytkianddaccoeiaa.PL
set_option linter.unusedVariables false
set_option linter.unusedSimpArgs false
theorem Blk.of {w w' : World} {b : Nat} {cs : Array Value} {ty : TypeId} (h : Blk w b cs ty) (e : w'.heap = w.heap) : Blk w' b cs ty := by
  unfold Blk
  rw [e]
  exact h
theorem PairsAt.drewN {w : World} {b K : Nat} {S : Int → Int → Bool} (h : PairsAt w b K S) (n : Nat) : PairsAt (w.drewN n) b K S := by
  obtain ⟨D, ⟨es, clock, hb, r'⟩, r⟩ := h
  exact ⟨D, ⟨es, clock, hb, r'⟩, r⟩
theorem grown_drewN (w : World) (n : Nat) (row : Option Nat) : w.grownBy (w.drewN n) row := ⟨rfl, rfl, rfl, Nat.le_refl _, fun _ _ _ => rfl⟩
set_option maxRecDepth 100000 in
set_option maxHeartbeats 2000000 in
theorem clash1_calls (x : FunC) {w : World} (h : FunAt w x) {Bf Bp bp : Nat} {S : Int → Int → Bool} (hb : Blk w Bf x.cells 25) (hp : Blk w Bp #[.map (some bp)] 57) (hS : PairsAt w bp x.f.kinds.length S) (hK : x.f.kinds.length ≤ 10000) (a b : Nat) (ha : a < x.f.kinds.length) (hbb : b < x.f.kinds.length) :
    Calls Try.prog 21 #[.int .i64 a, .int .i64 b, .pointer (some ⟨Bf, 0, none⟩), .pointer (some ⟨Bp, 0, none⟩)] w fun e w' => e = .returned (.tuple #[]) ∧ PairsAt w' bp x.f.kinds.length (addP x.f S a b) ∧ w.grownBy w' (some bp) := by
  obtain ⟨q, b0, b1, b2, b3, b4, b5⟩ := hb.six
  have hm := hp.cell 0
  obtain ⟨gk, ok, hke, hgk, hck⟩ := h.kinds (by intro e; rw [e] at ha; simp at ha)
  have ca := hck a ha
  have cb := hck b hbb
  have hsl := h.slK.1
  have hka : kdV x.f a = x.f.kinds.getD a 0 := by unfold kdV; simp
  have hkb : kdV x.f b = x.f.kinds.getD b 0 := by unfold kdV; simp
  obtain ⟨f, P, cp, Q, ck, R, cs, C, cc, L⟩ := x
  simp only [FunC.cells] at *
  obtain rfl := hke
  have hm0 : w.cell? ⟨Bp, 0, none⟩ = some (.map (some bp)) := hm
  clear hm h hb hp hck
  generalize f.kinds.getD a 0 = ka at *
  generalize f.kinds.getD b 0 = kb at *
  replace hS := Aside.mk hS
  by_cases e : a = b
  · subst e
    have hq : addP f S (a : Int) (a : Int) = S := by simp [addP]
    rw [hq]
    clear hq hka hkb
    go_enter Try.func21, Try.ntmps21
    go_wp2_with fail
    go_quiet (fail)
    go_wp2
    first | go_end0 | refine bodyPost_ret (results_none rfl _ _ _) rfl ?_
    exact ⟨rfl, hS.out.drewN _, grown_drewN _ _ _⟩
  · have hab : ((a : Int) != (b : Int)) = true := by simp; omega
    have hab2 : ((a : Int) == (b : Int)) = false := by simp; omega
    by_cases ek : ka = kb
    · have hek : (ka == kb) = true := by simp [ek]
      have hq : addP f S (a : Int) (b : Int) = putP S (min a b : Int) (max a b : Int) := by unfold addP; rw [if_pos ⟨by omega, by rw [hka, hkb, ek]⟩]
      rw [hq]
      clear hq hka hkb ek
      by_cases hlt : a < b
      · have e1 : (min a b : Int) = a := by omega
        have e2 : (max a b : Int) = b := by omega
        have hle : a ≤ b := by omega
        rw [e1, e2]
        clear e1 e2
        replace e := Aside.mk e
        go_enter Try.func21, Try.ntmps21
        go_wp2_with fail
        go_quiet (fail)
        have hS2 := Aside.mk (hS.out.drewN nq)
        go_wp2_with (first | (at_mapUpdate; refine wpList_putP _ rfl _ _ _ 57 rfl Try.underlying57 bp f.kinds.length S rfl hS2.out hK a b rfl rfl (by omega) (by omega) ?_; intro w5 hset5 hg5; go_frame) | fail)
        first | go_end0 | refine bodyPost_ret (results_none rfl _ _ _) rfl ?_
        exact ⟨rfl, hset5, (grown_drewN w nq (some bp)).andThen hg5 (fun j hj => Or.inr hj)⟩
      · have e1 : (min a b : Int) = b := by omega
        have e2 : (max a b : Int) = a := by omega
        have hlt2 : b < a := by omega
        have hle : b ≤ a := by omega
        rw [e1, e2]
        clear e1 e2
        replace e := Aside.mk e
        go_enter Try.func21, Try.ntmps21
        go_wp2_with fail
        go_quiet (fail)
        have hS2 := Aside.mk (hS.out.drewN nq)
        go_wp2_with (first | (at_mapUpdate; refine wpList_putP _ rfl _ _ _ 57 rfl Try.underlying57 bp f.kinds.length S rfl hS2.out hK b a rfl rfl (by omega) (by omega) ?_; intro w5 hset5 hg5; go_frame) | fail)
        first | go_end0 | refine bodyPost_ret (results_none rfl _ _ _) rfl ?_
        exact ⟨rfl, hset5, (grown_drewN w nq (some bp)).andThen hg5 (fun j hj => Or.inr hj)⟩
    · have hek : (ka == kb) = false := by simp [ek]
      have hq : addP f S (a : Int) (b : Int) = S := by unfold addP; rw [if_neg (fun h => ek (by rw [← hka, ← hkb]; exact h.2))]
      rw [hq]
      clear hq hka hkb ek e
      go_enter Try.func21, Try.ntmps21
      go_wp2_with fail
      go_quiet (fail)
      go_wp2
      first | go_end0 | refine bodyPost_ret (results_none rfl _ _ _) rfl ?_
      exact ⟨rfl, hS.out.drewN _, grown_drewN _ _ _⟩
end Go.Proofs.Ytkianddaccoeiaa
