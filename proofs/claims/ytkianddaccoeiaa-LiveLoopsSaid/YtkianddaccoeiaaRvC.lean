/- The reference: at which instructions a register is live, walked. Conditions stand at the theorem. -/
import Derived.Test.YtkianddaccoeiaaRvB
namespace Go.Proofs.Ytkianddaccoeiaa
open Go.RowKit Go.Maps Go.Proofs.Ytkianddaccoeiaa.PL
set_option linter.unusedVariables false
set_option linter.unusedSimpArgs false
/-- A new row of truths. -/
def BoolsR (w : World) (N : Nat) (T : Nat → Bool) (e : Ending) (w' : World) : Prop := ∃ g, e = .returned (.slice (some ⟨g, 0, none⟩) N N) ∧ w.heap.size ≤ g ∧ Blk w' g (boolsC N T) 4 ∧ Kp w w'
set_option maxRecDepth 100000 in
set_option maxHeartbeats 8000000 in
theorem of_calls (x : FunC) (r : Nat) (w : World) (h : FunAt w x) (hf : x.f.ok) (hl1 : x.f.code.length ≤ 10000) (hl3 : ∀ i ∈ x.f.code, i.args.length ≤ 10000) : Calls Try.prog 39 #[.agg x.cells, .int .i64 r] w (BoolsR w x.f.code.length (fun n => liveB x.f n r)) := by
  have hk0 := Aside.mk ((Kp.refl w).alloc (.cells x.cells 25))
  have hb0 := Blk.new w x.cells 25
  have hmk := make_bools x.f.code.length (by omega) (x.f.code.length : Int) rfl
  have hs0 : Aside ((w.alloc (.cells x.cells 25)).heap.size = w.heap.size + 1) := ⟨by simp⟩
  have hone := Aside.mk (fun (n : Nat) (hn : n < x.f.code.length) => (h.kp hk0.out).one hn)
  have hfol := Aside.mk (fun (V : World) (kV : Kp (w.alloc (.cells x.cells 25)) V) (n : Nat) (y : InsV) (hy : x.f.code[n]? = some y) => follow_calls x n V (h.kp (hk0.out.trans kV)) hf y hy (by omega))
  have hscc := h.slC.1
  obtain ⟨f, P, cp, Q, ck, R, cs, C, cc, L⟩ := x
  simp only [FunC.cells] at *
  have hbox := Aside.mk (fun (V : World) (kV : Kp (w.alloc (.cells #[.string f.name, .bool f.static, .slice P f.params.length cp, .slice Q f.kinds.length ck, .slice R f.slots.length cs, .slice C f.code.length cc] 25)) V) => (hb0.kp kV).six)
  replace hf := Aside.mk hf
  replace hl3 := Aside.mk hl3
  clear h hb0
  generalize hW0 : w.alloc (.cells #[.string f.name, .bool f.static, .slice P f.params.length cp, .slice Q f.kinds.length ck, .slice R f.slots.length cs, .slice C f.code.length cc] 25) = W0 at *
  replace hW0 := Aside.mk hW0
  obtain ⟨q, b0, b1, b2, b3, b4, b5⟩ := hbox.out _ (Kp.refl W0)
  rw [← hW0.out] at b0 b1 b2 b3 b4 b5
  go_enter Try.func39, Try.ntmps39
  go_upto_region 2 with fail
  rw [hW0.out]
  clear b0 b1 b2 b3 b4 b5 q hmk
  have hrow := Blk.new W0 (Array.replicate f.code.length (Value.bool false)) 4
  have kp1 := (Kp.refl W0).alloc (.cells (Array.replicate f.code.length (Value.bool false)) 4)
  generalize W0.alloc (.cells (Array.replicate f.code.length (Value.bool false)) 4) = W1 at *
  rw [hs0.out, boolsC_start f.code.length] at hrow
  replace hrow := Aside.mk hrow
  replace kp1 := Aside.mk kp1
  go_wp2_with fail
  go_loopg [6] (countF (fun _ => false) f.code.length + 1) (fun k m wr => ∃ (b : Bool) (T : Nat → Bool), m = .bool b ∧ Aside (k = countF T f.code.length + (if b then 1 else 0)) ∧ Aside (Blk wr (w.heap.size + 1) (boolsC f.code.length T) 4) ∧ Aside ((∀ n, T n = true → LiveP f n r) ∧ (b = false → ∀ n, n < f.code.length → DoneR f r T T n)) ∧ Aside (Kp W0 wr))
  case atStart => exact ⟨true, fun _ => false, rfl, ⟨rfl⟩, hrow, ⟨(fun n h => by cases h), (fun h => by cases h)⟩, kp1⟩
  case round =>
    clear hrow kp1
    obtain ⟨b, T0, rfl, hgk, hT0, hsd, kp⟩ := hrel
    cases b with
    | false =>
      have hfin := Aside.mk (doneR_eq hsd.out.1 (hsd.out.2 rfl))
      go_wp2
      go_ret
      refine ⟨w.heap.size + 1, rfl, by omega, ?_, hk0.out.trans kp.out⟩
      rw [← show T0 = fun n => liveB f n r from funext hfin.out]
      exact hT0.out
    | true =>
      obtain ⟨q, b0, b1, b2, b3, b4, b5⟩ := hbox.out _ kp.out
      go_wp2
      clear b0 b1 b2 b3 b4 b5 q
      go_loopw [6, 19] (fun m i wr => ∃ (b : Bool) (n : Nat) (T : Nat → Bool), m = .bool b ∧ i = .int .i64 n ∧ n ≤ f.code.length ∧ Aside (Blk wr (w.heap.size + 1) (boolsC f.code.length T) 4) ∧ Aside ((∀ n, T n = true → LiveP f n r) ∧ (∀ j, T0 j = true → T j = true) ∧ (b = false → T = T0) ∧ (b = true → countF T f.code.length + 1 ≤ countF T0 f.code.length) ∧ ∀ j : Nat, j < n → DoneR f r T0 T j) ∧ Aside (Kp W0 wr)) (fun _ i _ => f.code.length - (intOf i).toNat)
      case atStart => exact ⟨false, 0, T0, rfl, rfl, Nat.zero_le _, hT0, ⟨hsd.out.1, fun _ h => h, fun _ => rfl, (fun h => by cases h), fun j h => absurd h (by omega)⟩, kp⟩
      case round =>
        clear hsd hT0 kp
        obtain ⟨b, n, T, rfl, rfl, hn1, hT, hP, kp⟩ := hrel
        by_cases hn : n < f.code.length
        · obtain ⟨y, gc, oc, hy1, hy2, hyat, rfl, hgc, h9⟩ := hone.out n hn
          have hyok := Aside.mk (hf.out.at hy2)
          obtain ⟨q, b0, b1, b2, b3, b4, b5⟩ := hbox.out _ kp.out
          replace h9 := Aside.mk (fun (V : World) (kV : Kp W0 V) => FunAt.nine (w := V) (y := y) (g := gc) (o := oc + n * 9) (fun j hj => (kV.cell (p := ⟨gc, _, none⟩) hgc).trans (h9 j hj)))
          obtain ⟨c0, c1, c2, c3, c4, c5, c6, c7, c8⟩ := h9.out _ kp.out
          have hargs := hl3.out y.i (List.mem_of_getElem? hy2)
          have hrd := Aside.mk (fun (V : World) (kV : Kp W0 V) => show Calls Try.prog 53 #[.agg #[.int .i64 y.i.op, .int .i64 y.i.dst, .int .i64 y.i.a, .int .i64 y.i.b, .int .u32 y.i.word, .int .u64 y.i.bits, .string y.i.name, .slice y.A y.i.args.length y.c, .int .i64 y.i.to], .int .i64 r] V (BoolR V (decide ((r : Int) ∈ y.i.reads))) from rreads_calls y r V (hyat.kp kV) hyok.out.op hargs)
          have hwrs := Aside.mk (fun (V : World) => show Calls Try.prog 47 #[.agg #[.int .i64 y.i.op, .int .i64 y.i.dst, .int .i64 y.i.a, .int .i64 y.i.b, .int .u32 y.i.word, .int .u64 y.i.bits, .string y.i.name, .slice y.A y.i.args.length y.c, .int .i64 y.i.to]] V fun e w' => e = .returned (.int .i64 y.i.writes) ∧ Kp V w' from rWrites_calls y V hyok.out.op)
          have hnr := Aside.mk (next_range hf.out hy2)
          replace hy1 := Aside.mk hy1
          replace hy2 := Aside.mk hy2
          replace hyat := Aside.mk hyat
          go_wp2_with fail
          refine Calls.mono (hrd.out _ kp.out) ?_
          clear b0 b1 b2 b3 b4 b5 q c0 c1 c2 c3 c4 c5 c6 c7 c8
          rintro e w1 ⟨rfl, k1⟩
          have kp1 := Aside.mk (kp.out.trans k1)
          have hT1 := Aside.mk (hT.out.kp k1)
          obtain ⟨d, hd⟩ : ∃ d, Aside (decide ((r : Int) ∈ y.i.reads) = d) := ⟨_, ⟨rfl⟩⟩
          rw [hd.out]
          obtain ⟨q, b0, b1, b2, b3, b4, b5⟩ := hbox.out _ kp1.out
          clear k1 hT kp
          go_wp2_with fail
          refine Calls.mono (hfol.out _ kp1.out n y.i hy2.out) ?_
          clear b0 b1 b2 b3 b4 b5 q
          rintro e w2 ⟨A1, c1, rfl, hA1, k2⟩
          have kp2 := Aside.mk (kp1.out.trans k2)
          have hT2 := Aside.mk (hT1.out.kp k2)
          obtain ⟨nl, hnl⟩ : ∃ nl, nextI f.code.length n y.i = nl := ⟨_, rfl⟩
          rw [hnl] at hnr hA1
          rw [hnl]
          have hnll : nl.length ≤ 2 := by rw [← hnl]; unfold nextI; (repeat' split) <;> simp
          replace hnl := Aside.mk hnl
          replace hA1 := Aside.mk hA1
          clear k2 kp1 hT1
          go_wp2_with fail
          go_loopw [8, 34] (fun m i wr => ∃ (d' : Bool) (j : Nat), m = .bool d' ∧ i = .int .i64 j ∧ j ≤ nl.length ∧ Aside (Blk wr (w.heap.size + 1) (boolsC f.code.length T) 4) ∧ Aside ((d' = true → LiveP f n r) ∧ (d = true → d' = true) ∧ ∀ (j' : Nat) (m : Int), j' < j → nl[j']? = some m → T m.toNat = true → (r : Int) ≠ y.i.writes → d' = true) ∧ Aside (Kp W0 wr) ∧ Aside (IntsAt wr A1 nl)) (fun _ i _ => nl.length - (intOf i).toNat)
          case atStart => exact ⟨d, 0, rfl, rfl, Nat.zero_le _, hT2, ⟨fun h => ((live_closed f) n y.i hy2.out).1 r (by rw [h] at hd; exact of_decide_eq_true hd.out), fun h => h, fun j' m h => absurd h (by omega)⟩, kp2, hA1⟩
          case round =>
            clear hT2 kp2 hA1
            obtain ⟨d', j, rfl, rfl, hj, hTT, hD, kp, hA⟩ := hrel
            by_cases hjl : j < nl.length
            · obtain ⟨m, hm⟩ : ∃ m, Aside (nl[j]? = some m) := ⟨_, ⟨List.getElem?_eq_getElem hjl⟩⟩
              cases d' with
              | true =>
                go_wp2_with fail
                go_roundw
                case rel => exact ⟨true, j + 1, rfl, by go_num, by omega, hTT, ⟨hD.out.1, fun _ => rfl, fun _ _ _ _ _ _ => rfl⟩, kp, hA⟩
                case measure => simp [intOf]; omega
              | false =>
                have hmr := hnr.out m (List.mem_of_getElem? hm.out)
                obtain ⟨ga, oa, hAe, hga, hca⟩ := hA.out.one hjl
                rw [List.getD_eq_getElem?_getD, hm.out, Option.getD_some] at hca
                obtain ⟨mm, rfl⟩ : ∃ mm : Nat, m = mm := ⟨m.toNat, by omega⟩
                obtain rfl := hAe
                have hmm1 : mm < f.code.length := by omega
                have hcT := (hTT.out.cell mm).trans (boolsC_at hmm1)
                by_cases hTm : T mm = true
                · rw [hTm] at hcT
                  obtain ⟨q, b0, b1, b2, b3, b4, b5⟩ := hbox.out _ kp.out
                  obtain ⟨c0, c1', c2, c3, c4, c5, c6, c7, c8⟩ := h9.out _ kp.out
                  replace hTm := Aside.mk hTm
                  go_wp2_with fail
                  refine Calls.mono (hwrs.out _) ?_
                  clear b0 b1 b2 b3 b4 b5 q c0 c1' c2 c3 c4 c5 c6 c7 c8
                  rintro e w3 ⟨rfl, k3⟩
                  have kp3 := Aside.mk (kp.out.trans k3)
                  have hT3 := Aside.mk (hTT.out.kp k3)
                  have hA3 := Aside.mk (hA.out.kp k3)
                  clear k3
                  by_cases e : y.i.writes = r
                  · have ge : (y.i.writes != (r : Int)) = false := by simp [e]
                    replace e := Aside.mk e
                    go_wp2_with fail
                    go_roundw
                    case rel =>
                      refine ⟨false, j + 1, rfl, by go_num, by omega, hT3, ⟨(fun h => by cases h), hD.out.2.1, fun j' m' hj' hm' ht hne => absurd e.out.symm hne⟩, kp3, hA3⟩
                    case measure => simp [intOf]; omega
                  · have ge : (y.i.writes != (r : Int)) = true := by simp [e]
                    replace e := Aside.mk e
                    go_wp2_with fail
                    go_roundw
                    case rel =>
                      refine ⟨true, j + 1, rfl, by go_num, by omega, hT3, ⟨fun _ => ((live_closed f) n y.i hy2.out).2 _ (by rw [hnl.out]; exact List.mem_of_getElem? hm.out) r (by rw [Int.toNat_natCast]; exact hP.out.1 _ hTm.out) (fun h => e.out h.symm), fun _ => rfl, fun _ _ _ _ _ _ => rfl⟩, kp3, hA3⟩
                    case measure => simp [intOf]; omega
                · have hTf : T mm = false := by simpa using hTm
                  rw [hTf] at hcT
                  replace hTm := Aside.mk hTm
                  replace hTf := Aside.mk hTf
                  go_wp2_with fail
                  go_roundw
                  case rel =>
                    refine ⟨false, j + 1, rfl, by go_num, by omega, hTT, ⟨(fun h => by cases h), hD.out.2.1, fun j' m' hj' hm' ht hne => ?_⟩, kp, hA⟩
                    by_cases e : j' = j
                    · subst e
                      obtain rfl := Option.some.inj (hm.out.symm.trans hm')
                      rw [Int.toNat_natCast] at ht
                      exact absurd ht hTm.out
                    · exact hD.out.2.2 j' m' (by omega) hm' ht hne
                  case measure => simp [intOf]; omega
            · obtain rfl : j = nl.length := by omega
              have hdn : Aside (∀ U : Nat → Bool, (∀ j, T j = true → U j = true) → (d' = true → U n = true) → DoneR f r T0 U n) := ⟨fun U hU hn i hi => by
                obtain rfl := Option.some.inj (hy2.out.symm.trans hi)
                refine ⟨fun hr => hn (hD.out.2.1 (by rw [← hd.out]; exact decide_eq_true hr)), fun m hm ht hne => hn ?_⟩
                rw [hnl.out] at hm
                obtain ⟨j', hj', rfl⟩ := List.mem_iff_getElem.1 hm
                exact hD.out.2.2 j' _ hj' (List.getElem?_eq_getElem hj') (hP.out.2.1 _ ht) hne⟩
              cases d' with
              | false =>
                go_wp2_with fail
                go_roundw
                case rel =>
                  refine ⟨b, n + 1, T, rfl, by go_num, by omega, hTT, ⟨hP.out.1, hP.out.2.1, hP.out.2.2.1, hP.out.2.2.2.1, fun j' hj' => ?_⟩, kp⟩
                  by_cases e : j' = n
                  · subst e
                    exact hdn.out T (fun _ h => h) (fun h => by cases h)
                  · exact hP.out.2.2.2.2 j' (by omega)
                case measure => simp [intOf]; omega
              | true =>
                have hcT := (hTT.out.cell n).trans (boolsC_at hn)
                have hfz := hTT.out.frozen n
                by_cases hTn : T n = true
                · rw [hTn] at hcT
                  replace hTn := Aside.mk hTn
                  go_wp2_with fail
                  go_roundw
                  case rel =>
                    refine ⟨b, n + 1, T, rfl, by go_num, by omega, hTT, ⟨hP.out.1, hP.out.2.1, hP.out.2.2.1, hP.out.2.2.2.1, fun j' hj' => ?_⟩, kp⟩
                    by_cases e : j' = n
                    · subst e
                      exact hdn.out T (fun _ h => h) (fun _ => hTn.out)
                    · exact hP.out.2.2.2.2 j' (by omega)
                  case measure => simp [intOf]; omega
                · have hTf : T n = false := by simpa using hTn
                  rw [hTf] at hcT
                  have hT4 := hTT.out.set (i := n) (.bool true)
                  rw [boolsC_set hn] at hT4
                  replace hT4 := Aside.mk hT4
                  have kp4 := Aside.mk (kp.out.setCell (p := ⟨w.heap.size + 1, n, none⟩) (by rw [hs0.out]; exact Nat.le_refl _) (.bool true))
                  have hlv := Aside.mk (hD.out.1 rfl)
                  have hcnt := Aside.mk (countF_less (T := T) (U := setT T n) (fun j h => setT_old n h) hTf (show setT T n n = true by simp [setT]) f.code.length hn)
                  replace hTn := Aside.mk hTn
                  replace hTf := Aside.mk hTf
                  go_wp2_with fail
                  go_roundw
                  case rel =>
                    refine ⟨true, n + 1, setT T n, rfl, by go_num, by omega, hT4, ⟨fun j h => ?_, fun j h => setT_old n (hP.out.2.1 j h), (fun h => by cases h), fun _ => ?_, fun j' hj' => ?_⟩, kp4⟩
                    · rcases setT_iff.1 h with rfl | h
                      · exact hlv.out
                      · exact hP.out.1 j h
                    · have h1 := hcnt.out
                      cases b with
                      | true => have := hP.out.2.2.2.1 rfl; omega
                      | false => have := hP.out.2.2.1 rfl; subst this; omega
                    · by_cases e : j' = n
                      · subst e
                        exact hdn.out _ (fun _ h => setT_old _ h) (fun _ => by simp [setT])
                      · intro i hi
                        obtain ⟨h1, h2⟩ := hP.out.2.2.2.2 j' (by omega) i hi
                        exact ⟨fun h => setT_old n (h1 h), fun m hm ht hne => setT_old n (h2 m hm ht hne)⟩
                  case measure => simp [intOf]; omega
        · obtain rfl : n = f.code.length := by omega
          go_wp2
          go_roundg (countF T f.code.length + (if b then 1 else 0))
          case measure =>
            rw [hgk.out]
            cases b with
            | true => have := hP.out.2.2.2.1 rfl; simp; omega
            | false => have := hP.out.2.2.1 rfl; rw [this]; simp
          case rel =>
            refine ⟨b, T, rfl, ⟨rfl⟩, hT, ⟨hP.out.1, fun hb j hj => ?_⟩, kp⟩
            have := hP.out.2.2.2.2 j hj
            rw [← hP.out.2.2.1 hb] at this
            exact this
end Go.Proofs.Ytkianddaccoeiaa
