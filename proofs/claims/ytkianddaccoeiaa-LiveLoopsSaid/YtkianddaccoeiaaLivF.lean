/- What is live behind an instruction, walked. Conditions stand at each. -/
import Derived.Test.YtkianddaccoeiaaLivE
namespace Go.Proofs.Ytkianddaccoeiaa
open Go.RowKit Go.Maps Go.Proofs.Ytkianddaccoeiaa.PL
set_option linter.unusedVariables false
set_option linter.unusedSimpArgs false
theorem SetAt.eq {w : World} {b K : Nat} {S T : Int → Bool} (h : SetAt w b K S) (e : ∀ r, S r = T r) : SetAt w b K T := by
  rw [← show S = T from funext e]
  exact h
theorem SetAt.low {w : World} {b K : Nat} {S : Int → Bool} (h : SetAt w b K S) : ∀ x, S x = true → 0 ≤ x ∧ x < K := by
  obtain ⟨_, _, _, h⟩ := h
  exact h
set_option maxRecDepth 100000 in
set_option maxHeartbeats 2000000 in
theorem Copy_calls {w : World} {b1 b2 K : Nat} {S1 S2 : Int → Bool} (h1 : SetAt w b1 K S1) (h2 : SetAt w b2 K S2) (hne : b1 ≠ b2) (hK : K ≤ 10000) : Calls Try.prog 40 #[.map (some b1), .map (some b2)] w fun e w' => e = .returned (.tuple #[]) ∧ SetAt w' b1 K (fun r => S1 r || S2 r) ∧ w.grownBy w' (some b1) := by
  have hlow2 := Aside.mk h2.low
  have hw1 := Aside.mk h1.lt
  replace h1 := Aside.mk h1
  replace h2 := Aside.mk h2
  go_enter Try.func40, Try.ntmps40
  go_wp2_with (first | (at_range; refine wpList_rangeS _ rfl _ 53 rfl Try.underlying53 b2 K _ rfl h2.out ?_; intro w2 cnt hR hg2 hs2) | fail)
  go_frame
  have hS := Aside.mk (h1.out.grown hg2 (by simp))
  have hg := Aside.mk (hg2.but (some b1))
  replace hR := Aside.mk hR
  generalize hit : w.heap.size = it at *
  replace hit := Aside.mk hit
  clear hg2 hs2
  go_loopw [4] (fun _ wr => ∃ (U left : Int → Bool) (cnt : Nat), Aside (RgAt wr b2 it K S2 left cnt) ∧ Aside (SetAt wr b1 K U) ∧ Aside ((∀ r, S1 r = true → U r = true) ∧ (∀ r, U r = true → S1 r = true ∨ S2 r = true) ∧ ∀ r, S2 r = true → left r = false → U r = true) ∧ Aside (w.grownBy wr (some b1))) (fun _ wr => wr.rangeLeft b2 it)
  case atStart => exact ⟨S1, _, _, hR, hS, ⟨fun _ h => h, fun _ h => Or.inl h, fun r h1 h2 => absurd h1 (by rw [h2]; simp)⟩, hg⟩
  case round =>
    clear hR hS hg
    obtain ⟨U, left, cnt, hR, hU, hP, hg⟩ := hrel
    go_wp2_with (first | (at_next; refine wpList_nextS _ rfl _ rfl b2 it K cnt _ left rfl hR.out ?_ ?_) | fail)
    · intro hl0
      replace hl0 := Aside.mk hl0
      go_wp2
      first | go_end0 | refine bodyPost_ret (results_none rfl _ _ _) rfl ?_
      refine ⟨rfl, hU.out.eq (fun r => ?_), hg.out⟩
      rw [Bool.eq_iff_iff, Bool.or_eq_true]
      exact ⟨hP.out.2.1 r, fun h => by
        rcases h with h | h
        · exact hP.out.1 r h
        · exact hP.out.2.2 r h (hl0.out r)⟩
    · intro x w3 cnt3 hlx hSx hR3 hlt3 hg3 hs3 hen
      have hlq := Aside.mk hR.out.left_eq
      have hU3 := Aside.mk (hU.out.grown hg3 (fun e => hR.out.ne hU.out (Option.some.inj e).symm))
      have hg33 := Aside.mk (hg.out.andThen hg3 (fun j hj => by cases hj; exact Or.inl (by rw [hit.out]; exact Nat.le_refl _)))
      have hxk := hlow2.out x hSx
      replace hR3 := Aside.mk hR3
      replace hSx := Aside.mk hSx
      replace hlx := Aside.mk hlx
      replace hlt3 := Aside.mk hlt3
      clear hg3 hs3
      go_wp2_with (first | (at_mapUpdate; refine wpList_putS _ rfl _ _ _ 53 rfl Try.underlying53 b1 K U rfl hU3.out (by omega) x rfl rfl hxk ?_; intro w5 hset5 hg5; go_frame) | fail)
      have hR5 := hR3.out.kept hg5 (fun e => hne (Option.some.inj e).symm) (fun e => hR3.out.ne hU3.out (Option.some.inj e))
      go_roundw
      case rel =>
        refine ⟨putS U x, _, cnt3, ⟨hR5⟩, ⟨hset5⟩, ⟨fun r h => putS_old x (hP.out.1 r h), fun r h => ?_, fun r h1 h2 => ?_⟩, ⟨hg33.out.andThen hg5 (fun j hj => Or.inr hj)⟩⟩
        · rcases putS_iff.1 h with rfl | h
          · exact Or.inr hSx.out
          · exact hP.out.2.1 r h
        · simp only [Bool.and_eq_false_iff, Bool.not_eq_false', decide_eq_true_eq] at h2
          rcases h2 with h2 | rfl
          · exact putS_old x (hP.out.2.2 r h1 h2)
          · exact putS_iff.2 (Or.inl rfl)
      case measure => rw [hR5.left_eq, hlq.out]; exact hlt3.out
set_option maxRecDepth 100000 in
set_option maxHeartbeats 4000000 in
theorem behind_calls (x : FunC) {w : World} (h : FunAt w x) (hf : x.f.ok) (hl1 : x.f.code.length ≤ 10000) (hl2 : x.f.kinds.length ≤ 10000) {g : Nat} {bs : List Nat} (hS : Sets w g bs x.f.kinds.length (liveB x.f)) (hbl : bs.length = x.f.code.length + 1) {n : Nat} {y : InsV} (hy : x.f.code[n]? = some y) (m c : Nat) (hm : m = x.f.code.length + 1) :
    Calls Try.prog 23 #[.agg x.cells, .slice (some ⟨g, 0, none⟩) m c, .int .i64 n] w fun e w' => ∃ b, e = .returned (.map (some b)) ∧ w.heap.size ≤ b ∧ SetAt w' b x.f.kinds.length (behindB x.f n y) ∧ Kp w w' := by
  have hmm := @run_makeMap Try.prog
  have hk0 := Aside.mk ((Kp.refl w).alloc (.cells x.cells 25))
  have hb0 := Blk.new w x.cells 25
  have hs0 : Aside ((w.alloc (.cells x.cells 25)).heap.size = w.heap.size + 1) := ⟨by simp⟩
  have hnext := Aside.mk (fun (V : World) (kV : Kp (w.alloc (.cells x.cells 25)) V) => Next_calls x n V (h.kp (hk0.out.trans kV)) y hy (by omega))
  have hnr := Aside.mk (next_range hf hy)
  have hn : n < x.f.code.length := (List.getElem?_eq_some_iff.1 hy).1
  have hs1 := hS.kp hk0.out
  obtain ⟨f, P, cp, Q, ck, R, cs, C, cc, L⟩ := x
  simp only [FunC.cells] at *
  have hbox := Aside.mk (fun (V : World) (kV : Kp (w.alloc (.cells #[.string f.name, .bool f.static, .slice P f.params.length cp, .slice Q f.kinds.length ck, .slice R f.slots.length cs, .slice C f.code.length cc] 25)) V) => (hb0.kp kV).six)
  clear h hb0 hS
  replace hf := Aside.mk hf
  replace hbl := Aside.mk hbl
  replace hy := Aside.mk hy
  replace hs1 := Aside.mk hs1
  replace hm := Aside.mk hm
  generalize hW0 : w.alloc (.cells #[.string f.name, .bool f.static, .slice P f.params.length cp, .slice Q f.kinds.length ck, .slice R f.slots.length cs, .slice C f.code.length cc] 25) = W0 at *
  replace hW0 := Aside.mk hW0
  obtain ⟨q, b0, b1, b2, b3, b4, b5⟩ := hbox.out _ ((Kp.refl W0).alloc (.map #[] 0))
  have hset0 := Aside.mk (SetAt.made W0 f.kinds.length)
  have kp0 := Aside.mk ((Kp.refl W0).alloc (.map #[] 0))
  have hbv := Aside.mk (fun (b : Nat) (e : b = w.heap.size + 1) => show W0.heap.size = b by rw [e]; exact hs0.out)
  rw [← hW0.out] at b0 b1 b2 b3 b4 b5
  go_enter Try.func23, Try.ntmps23
  go_wp2_with fail
  rw [hW0.out]
  refine Calls.mono (hnext.out _ kp0.out) ?_
  clear b0 b1 b2 b3 b4 b5 q
  rintro e w1 ⟨A1, c1, rfl, hA1, k1⟩
  rw [hs0.out] at hset0
  have hset1 := Aside.mk (hset0.out.kp k1)
  have kp1 := Aside.mk (kp0.out.trans k1)
  obtain ⟨nl, hnl⟩ : ∃ nl, nextI f.code.length n y = nl := ⟨_, rfl⟩
  rw [hnl] at hnr hA1
  rw [hnl]
  have hnll : nl.length ≤ 2 := by rw [← hnl]; unfold nextI; (repeat' split) <;> simp
  replace hnl := Aside.mk hnl
  replace hA1 := Aside.mk hA1
  clear k1 hset0 hmm
  go_wp2_with fail
  go_loopw [15] (fun i wr => ∃ j : Nat, j ≤ nl.length ∧ i = .int .i64 j ∧ Aside (SetAt wr (w.heap.size + 1) f.kinds.length (fun r => (nl.take j).any (fun m => liveB f m.toNat r))) ∧ Aside (Kp W0 wr) ∧ Aside (IntsAt wr A1 nl)) (fun i _ => nl.length - (intOf i).toNat)
  case atStart => exact ⟨0, Nat.zero_le _, rfl, hset1, kp1, hA1⟩
  case round =>
    clear hset1 kp1 hA1
    obtain ⟨j, hj, rfl, hset, kp, hA⟩ := hrel
    by_cases hjl : j < nl.length
    · obtain ⟨z, hz⟩ : ∃ z, Aside (nl[j]? = some z) := ⟨_, ⟨List.getElem?_eq_getElem hjl⟩⟩
      have hzr := hnr.out z (List.mem_of_getElem? hz.out)
      obtain ⟨ga, oa, hAe, hga, hca⟩ := hA.out.one hjl
      rw [List.getD_eq_getElem?_getD, hz.out, Option.getD_some] at hca
      obtain ⟨mm, rfl⟩ : ∃ mm : Nat, z = mm := ⟨z.toNat, by omega⟩
      obtain ⟨bm, hbm⟩ : ∃ bm, Aside (bs[mm]? = some bm) := ⟨_, ⟨List.getElem?_eq_getElem (by have := hbl.out; omega)⟩⟩
      have hcm := (hs1.out.kp kp.out).cell hbm.out
      have hSm := Aside.mk ((hs1.out.kp kp.out).set mm bm hbm.out)
      have hmm1 : mm < m := by have := hm.out; omega
      have hneb : Aside (w.heap.size + 1 ≠ bm) := ⟨by have h1 := (hs1.out.set mm bm hbm.out).lt; have := hs0.out; omega⟩
      have hcp := Aside.mk (Copy_calls hset.out hSm.out hneb.out hl2)
      have hnoc := Aside.mk hset.out.noCells
      obtain rfl := hAe
      go_wp2_with fail
      refine Calls.mono hcp.out ?_
      clear hca hcm hga hcp
      rintro e w2 ⟨rfl, hset2, hg2⟩
      have kp2 := Aside.mk (kp.out.grownX hg2 (fun j e => by cases e; have := hs0.out; omega))
      have hA2 := Aside.mk (hA.out.grown hg2 hnoc.out)
      replace hset2 := Aside.mk hset2
      clear hg2
      go_wp2
      go_roundw
      case rel =>
        refine ⟨j + 1, by omega, by go_num, ⟨hset2.out.eq (fun r => ?_)⟩, kp2, hA2⟩
        rw [List.take_add_one, hz.out]
        simp
      case measure => simp [intOf]; omega
    · obtain rfl : j = nl.length := by omega
      go_wp2
      go_ret
      refine ⟨_, rfl, by omega, hset.out.eq (fun r => ?_), hk0.out.trans kp.out⟩
      rw [List.take_length]
      unfold behindB
      rw [hnl.out]
end Go.Proofs.Ytkianddaccoeiaa
