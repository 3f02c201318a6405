/- An image loaded whose bytes may begin anywhere in a block, walked. Conditions stand at each. -/
import Derived.Test.YtgcihcgclmdolaaMachW
import Derived.Laws.CopyOwn
import Derived.Laws.MakeOwn
import Derived.Maps.Own
namespace Go.Proofs.Ytgcihcgclmdolaa
open Go.RowKit Go.Maps Go.Proofs.Ytgcihcgclmdolaa.PC Go.Proofs.Ytgcihcgclmdolaa.PW
set_option linter.unusedVariables false
set_option linter.unusedSimpArgs false
theorem step_loadO {ops : Array Oper} {o : Oper} {a : Act} {w : World} {K : Act → World → Prop} {Q : Exit → Act → World → Prop} {E : Prop} (hgd : o.guard = none) (d s : Operand)
    (ho : o.op = .call { callee := .builtin .copy, args := #[d, s], argTypes := #[35, 35] }) {A : Option Addr} {n c B top : Nat} {l : List Int} (hd : a.eval d = .slice (some ⟨B, 0, none⟩) top top) (hs : a.eval s = .slice A n c)
    (hg : Blk w B (memC (List.replicate top 0)) 5) (hn : n = l.length) (hA : 0 < n → ∃ g off, A = some ⟨g, off, none⟩ ∧ ∀ j x, (byV l)[j]? = some x → w.cell? ⟨g, off + j, none⟩ = some x) (ht : n ≤ top)
    (h : ∀ w', Blk w' B (memC (loadM l top)) 5 → Mod (fun k => k = B) w w' → K (a.put o.dst (goInt (byV l).length)) w') :
    if Region.wanted o (yielded ops a.tmps) = true then Oper.wp Try.prog o a w K Q else E := by
  have hl : (byV l).length = n := by simp [byV, hn]
  refine step_copy_mod hgd d s _ _ ho 5 Try.underlying35 (by kernel_rfl) _ A top top n c hd hs B 0 ((List.replicate top (0 : Int)).map (Value.int .u8)) 5 hg (byV l) ?_ ?_ ?_ ?_ ?_
  · rw [hl]; exact (Nat.min_eq_left ht).symm
  · intro hpos
    obtain ⟨g, off, rfl, e⟩ := hA (by omega)
    refine ⟨rfl, _, rfl, fun j v hj => ?_⟩
    rw [addr_add]
    exact e j v hj
  · simp; omega
  · intro v hv
    simp only [byV, List.mem_map] at hv
    obtain ⟨x, _, rfl⟩ := hv
    rfl
  · intro w' hg' hm
    rw [splice_load] at hg'
    exact h w' hg' hm
set_option maxRecDepth 100000 in
set_option maxHeartbeats 4000000 in
theorem LoadO_calls {w : World} {A : Option Addr} {n c : Nat} {l : List Int} (entry sv : Int) (stack : Nat) (hsv : sv = stack) (hn : n = l.length) (hA : 0 < n → ∃ g off, A = some ⟨g, off, none⟩ ∧ g < w.heap.size ∧ ∀ j x, (byV l)[j]? = some x → w.cell? ⟨g, off + j, none⟩ = some x) (hb : ∀ b ∈ l, Byte b) (he : U entry) (hs : stack ≤ 2097152) (ht : upV (upV l.length + stack) ≤ 2097152) (hl : l.length ≤ 2097152) :
    Calls Try.prog 10 #[.agg #[.int .i64 entry, .slice A n c], .int .i64 sv] w fun e w' => ∃ M B K, e = .returned (.tuple #[.pointer (some ⟨M, 0, none⟩), .int .i64 0]) ∧ (w.heap.size ≤ M ∧ w.heap.size ≤ B ∧ w.heap.size ≤ K) ∧ Kp w w' ∧ Mac w' M B K (loadS entry l (upV l.length) (upV (upV l.length + stack))) 0 := by
  subst hsv
  have hmm := @run_makeMap Try.prog
  have he' := U_shr he
  replace hb := Aside.mk hb
  replace hn := Aside.mk hn
  replace hA := Aside.mk hA
  have hnl : n ≤ 2097152 := by have := hn.out; omega
  replace ht : Aside (upV (upV n + stack) ≤ 2097152) := ⟨by rw [hn.out]; exact ht⟩
  clear hl
  have bI := Aside.mk (Blk.new w #[.int .i64 entry, .slice A n c] 38)
  have kI : Aside (Kp w (w.alloc (.cells #[.int .i64 entry, .slice A n c] 38))) := ⟨(Kp.refl w).alloc _⟩
  go_enter Try.func10, Try.ntmps10
  go_wp2_with fail
  refine Calls.mono (up_calls _ n rfl (by omega) _) ?_
  rintro e w1 ⟨⟨r1, rfl, hr1, b1, b2⟩, rfl⟩
  replace hr1 := Aside.mk hr1
  go_wp2_with fail
  refine Calls.mono (up_calls _ (r1 + stack) (by omega) (by omega) _) ?_
  rintro e w1 ⟨⟨r2, rfl, hr2, b3, b4⟩, rfl⟩
  have b5 : r2 ≤ 2097152 := by rw [hr2, hr1.out]; exact ht.out
  replace hr2 := Aside.mk hr2
  have hmk := made_u8 r2 b5
  go_upto_region 7 with fail
  go_cut [8] (fun m wx => ∃ M B K, m = .pointer (some ⟨M, 0, none⟩) ∧ Made w wx M B K entry r2 #[.int .i64 entry, .slice A n c])
  case first =>
    go_region
    · go_wp2_with fail
      go_meet
      first | exact ⟨_, _, _, rfl, made_1 w entry r2 _ _ (zero_cells entry r2 _ _)⟩ | exact ⟨_, _, _, rfl, made_2 w entry r2 _ _ (zero_cells entry r2 _ _)⟩
    · go_wp2_with fail
      go_meet
      first | exact ⟨_, _, _, rfl, made_1 w entry r2 _ _ (zero_cells entry r2 _ _)⟩ | exact ⟨_, _, _, rfl, made_2 w entry r2 _ _ (zero_cells entry r2 _ _)⟩
  case rest =>
    obtain ⟨M, B, K, rfl, hM⟩ := hcut
    have zk := zeroS_ok he b5
    have hlM := hM.m.lt
    have hlI := hM.im.lt
    have i1 := hM.im.cell 1
    have m0 := (hM.m.cell 0).trans cells_0
    have eh : (zeroS entry r2).head B = .slice (some ⟨B, 0, none⟩) r2 r2 := by simp [zeroS, MS.head]
    rw [eh] at m0
    simp at i1
    have hMm := Aside.mk hM
    have hA9 : ∀ W, Kp w W → 0 < n → ∃ g off, A = some ⟨g, off, none⟩ ∧ ∀ j x, (byV l)[j]? = some x → W.cell? ⟨g, off + j, none⟩ = some x := by
      intro W hk h0
      obtain ⟨g, off, e1, e2, e3⟩ := hA.out h0
      exact ⟨g, off, e1, fun j x hx => (hk.cell (p := ⟨g, off + j, none⟩) e2).trans (e3 j x hx)⟩
    clear hM hmk hmm hs eh
    replace zk := Aside.mk zk
    replace kI := Aside.mk kI
    go_upto_region 8 with fail
    go_cut [] (fun wx => Mod (fun k => k = B) wc wx ∧ Blk wx B (memC (loadM l r2)) 5)
    case first =>
      go_region_law ((refine step_loadO rfl (.tmp 46) (.tmp 48) rfl (top := r2) (l := l) rfl rfl (hMm.out.b.kp (by repeat (first | exact Kp.refl _ | assumption | exact Dr.kp (by assumption) | refine Kp.drewN ?_ _ | refine Kp.drew ?_ | refine Kp.alloc ?_ _ | refine Kp.setCell ?_ (by first | exact Nat.le_refl _ | assumption | omega) _ | refine Kp.trans ?_ (by assumption) | refine Kp.trans ?_ (Dr.kp (by assumption))))) hn.out (hA9 wc.drew (hMm.out.kp.drew)) (by omega) ?_); (intro w9 hg9 hm9))
      all_goals
        go_wp2_with fail
        go_meet
        exact ⟨((Mod.refl (fun k => k = B) _).drew).trans hm9, hg9⟩
    case rest =>
      obtain ⟨hm9, hb9⟩ := hcut
      have hbM := hm9.blk hMm.out.m (fun e => hMm.out.nMB e)
      have lM := hbM.lt
      have c3 := (hbM.cell 3).trans (cells_x zk.out (r := 2) (by decide))
      have c28 := (hbM.cell 28).trans (cells_x zk.out (r := 27) (by decide))
      have f3 := hbM.frozen 3
      have f28 := hbM.frozen 28
      replace hm9 := Aside.mk hm9
      replace hb9 := Aside.mk hb9
      replace hbM := Aside.mk hbM
      clear i1 m0 hlM hlI hA9
      go_wp2_with fail
      go_region
      go_wp2
      go_ret2
      have hd := load_done (floor := r1) hMm.out hm9.out hb9.out hbM.out he hb.out (by have := hn.out; omega) (by omega) b5
      have q1 := hr1.out
      have q2 := hr2.out
      rw [← hn.out, ← q1, ← q2]
      exact ⟨M, B, K, rfl, ⟨hMm.out.gm, hMm.out.gb, hMm.out.gk⟩, hd.1, hd.2⟩
end Go.Proofs.Ytgcihcgclmdolaa
