/- LinkMore, walked. Condition: the arguments are of their types. -/
import Derived.Test.YtnbooljaodkedaaMorP
namespace Go.Proofs.Ytnbooljaodkedaa
open Go.RowKit Go.Maps Go.ChangeShapes Go.WideShapes Go.Proofs.Ytnbooljaodkedaa.PC Go.Proofs.Ytnbooljaodkedaa.PW
set_option linter.unusedVariables false
set_option linter.unusedSimpArgs false
set_option maxRecDepth 100000 in
theorem info_ins : ∃ i z, Try.prog.info? 40 = some i ∧ i.zero = some z ∧ i.size = 5 ∧ i.bytes = 40 ∧ z.cells.size = 5 := ⟨_, _, rfl, rfl, rfl, rfl, rfl⟩
theorem insC_snoc (l : List Ins) (i : Ins) : insC (l ++ [i]) = insC l ++ i.cs := by simp [insC]
theorem u32V_one (l : List Int) : ∀ u ∈ u32V l, u.oneCell' = true := by
  intro u hu
  obtain ⟨x, _, rfl⟩ := List.mem_map.1 hu
  rfl
theorem words_news {w : World} {A : Option Addr} {l : List Int} (h : WordsAt w A l) : ∀ ad, A = some ad → ∀ j u, (u32V l)[j]? = some u → w.cell? (ad.add j) = some u := by
  intro ad e j u hu
  have hj : j < l.length := by have := (List.getElem?_eq_some_iff.1 hu).1; simpa [u32V] using this
  obtain ⟨g, off, hA, hg, hc⟩ := h (by rintro rfl; simp at hj)
  rw [hA] at e
  obtain rfl := Option.some.inj e
  rw [addr_add, hc j hj, ← hu]
  simp [u32V, List.getD_eq_getElem?_getD, hj]
theorem sum_take {ns : List Int} {k : Nat} {x : Int} (h : ns[k]? = some x) : (ns.take (k + 1)).sum = (ns.take k).sum + x := by
  rw [List.take_add_one, h]
  simp
theorem sum_bound {ns : List Int} (h : ∀ n ∈ ns, Byte n) : 0 ≤ ns.sum ∧ ns.sum ≤ 255 * ns.length := by
  induction ns with
  | nil => simp
  | cons a l ih =>
    obtain ⟨i1, i2⟩ := ih (fun n hn => h n (List.mem_cons_of_mem _ hn))
    obtain ⟨b0, b1⟩ := h a (List.mem_cons_self ..)
    rw [List.sum_cons, List.length_cons]
    omega
/-- The three rows of objects, in memory. -/
def rowsW (W : World) (y1 y2 : ObjC) : World := (((W.alloc (.cells (([y1].flatMap ObjC.cells)).toArray 38)).alloc (.cells (([y1, y2].flatMap ObjC.cells)).toArray 38)).alloc (.cells (([y2, y1].flatMap ObjC.cells)).toArray 38)).alloc (.cells #[.slice (some ⟨W.heap.size, 0, none⟩) 1 1, .slice (some ⟨W.heap.size + 1, 0, none⟩) 2 2, .slice (some ⟨W.heap.size + 1 + 1, 0, none⟩) 2 2] 22)
theorem rows_three {W : World} {y1 y2 : ObjC} {ns ws : List Int} (h1 : ObjG W y1) (h2 : ObjG W y2) (e1 : y1.o = progO (progM ns)) (e2 : y2.o = moreO ws) :
    Kp W (rowsW W y1 y2) ∧ W.heap.size + 1 + 1 + 1 < (rowsW W y1 y2).heap.size ∧ ∀ k, k < 3 → ∃ Ob, (rowsW W y1 y2).cell? ⟨W.heap.size + 1 + 1 + 1, k, none⟩ = some (.slice (some ⟨Ob, 0, none⟩) (threeO ns ws k).length (threeO ns ws k).length) ∧ ObjsAt (rowsW W y1 y2) (some ⟨Ob, 0, none⟩) (threeO ns ws k) := by
  have k0 : Kp W (W.alloc (.cells (([y1].flatMap ObjC.cells)).toArray 38)) := (Kp.refl W).alloc _
  have b0 := Blk.new W (([y1].flatMap ObjC.cells)).toArray 38
  generalize hV0 : W.alloc (.cells (([y1].flatMap ObjC.cells)).toArray 38) = V0 at *
  have s0 : V0.heap.size = W.heap.size + 1 := by rw [← hV0, World.size_alloc]
  have k1 : Kp V0 (V0.alloc (.cells (([y1, y2].flatMap ObjC.cells)).toArray 38)) := (Kp.refl V0).alloc _
  have b1 := Blk.new V0 (([y1, y2].flatMap ObjC.cells)).toArray 38
  generalize hV1 : V0.alloc (.cells (([y1, y2].flatMap ObjC.cells)).toArray 38) = V1 at *
  have s1 : V1.heap.size = W.heap.size + 1 + 1 := by rw [← hV1, World.size_alloc, s0]
  have k2 : Kp V1 (V1.alloc (.cells (([y2, y1].flatMap ObjC.cells)).toArray 38)) := (Kp.refl V1).alloc _
  have b2 := Blk.new V1 (([y2, y1].flatMap ObjC.cells)).toArray 38
  generalize hV2 : V1.alloc (.cells (([y2, y1].flatMap ObjC.cells)).toArray 38) = V2 at *
  have s2 : V2.heap.size = W.heap.size + 1 + 1 + 1 := by rw [← hV2, World.size_alloc, s1]
  have k3 : Kp V2 (V2.alloc (.cells #[.slice (some ⟨W.heap.size, 0, none⟩) 1 1, .slice (some ⟨W.heap.size + 1, 0, none⟩) 2 2, .slice (some ⟨W.heap.size + 1 + 1, 0, none⟩) 2 2] 22)) := (Kp.refl V2).alloc _
  have b3 := Blk.new V2 #[.slice (some ⟨W.heap.size, 0, none⟩) 1 1, .slice (some ⟨W.heap.size + 1, 0, none⟩) 2 2, .slice (some ⟨W.heap.size + 1 + 1, 0, none⟩) 2 2] 22
  have hV3 : rowsW W y1 y2 = V2.alloc (.cells #[.slice (some ⟨W.heap.size, 0, none⟩) 1 1, .slice (some ⟨W.heap.size + 1, 0, none⟩) 2 2, .slice (some ⟨W.heap.size + 1 + 1, 0, none⟩) 2 2] 22) := by rw [← hV2, ← hV1, ← hV0]; rfl
  rw [hV3]
  generalize V2.alloc (.cells #[.slice (some ⟨W.heap.size, 0, none⟩) 1 1, .slice (some ⟨W.heap.size + 1, 0, none⟩) 2 2, .slice (some ⟨W.heap.size + 1 + 1, 0, none⟩) 2 2] 22) = V3 at *
  rw [s0] at b1
  rw [s1] at b2
  rw [s2] at b3
  have kk := k0.trans (k1.trans (k2.trans k3))
  refine ⟨kk, b3.lt, fun k hk => ?_⟩
  match k, hk with
  | 0, _ =>
    refine ⟨W.heap.size, b3.cell 0, ?_⟩
    have := ObjsAt.of_blk (b0.kp (k1.trans (k2.trans k3))) (fun y hy => by obtain rfl := List.mem_singleton.1 hy; exact h1.kp kk)
    show ObjsAt V3 _ [progO (progM ns)]
    rw [← e1]
    exact this
  | 1, _ =>
    refine ⟨W.heap.size + 1, b3.cell 1, ?_⟩
    have := ObjsAt.of_blk (b1.kp (k2.trans k3)) (fun y hy => by rcases List.mem_cons.1 hy with rfl | hy; exact h1.kp kk; obtain rfl := List.mem_singleton.1 hy; exact h2.kp kk)
    show ObjsAt V3 _ [progO (progM ns), moreO ws]
    rw [← e1, ← e2]
    exact this
  | 2, _ =>
    refine ⟨W.heap.size + 1 + 1, b3.cell 2, ?_⟩
    have := ObjsAt.of_blk (b2.kp k3) (fun y hy => by rcases List.mem_cons.1 hy with rfl | hy; exact h2.kp kk; obtain rfl := List.mem_singleton.1 hy; exact h1.kp kk)
    show ObjsAt V3 _ [moreO ws, progO (progM ns)]
    rw [← e1, ← e2]
    exact this
set_option maxRecDepth 100000 in
set_option maxHeartbeats 8000000 in
theorem more_any {w : World} {A : Option Addr} {ln cn : Nat} {B : Option Addr} {lw cw : Nat} {ns ws : List Int} (hN : BytesAt w A ns) (hn : ns.length = ln) (hb : ∀ x ∈ ns, Byte x) (hW : WordsAt w B ws) (hw : ws.length = lw) (hu : ∀ x ∈ ws, U x) (hB : B = none → lw = 0 ∧ cw = 0) (hl1 : ln ≤ 9223372036854775807) (hl2 : lw ≤ 9223372036854775807) :
    Calls Try.prog 7 #[.slice A ln cn, .slice B lw cw] w fun e w' => e = .returned (.bool true) ∧ Kp w w' := by
  replace hN := Aside.mk hN
  replace hW := Aside.mk hW
  replace hn := Aside.mk hn
  replace hw := Aside.mk hw
  replace hb := Aside.mk hb
  replace hu := Aside.mk hu
  replace hB := Aside.mk hB
  by_cases h20 : 20 < ln
  · have g1 : decide ((ln : Int) > 20) = true := decide_eq_true (by omega)
    go_enter Try.func7, Try.ntmps7
    go_wp2_with fail
    refine Calls.mono (awake09_calls _) ?_
    rintro e w1 ⟨rfl, k1⟩
    go_wp2_with fail
    refine Calls.mono (awake09_calls _) ?_
    rintro e w3 ⟨rfl, k3⟩
    go_wp2_with fail
    go_ret
    exact ⟨rfl, k1.trans k3⟩
  have g1 : decide ((ln : Int) > 20) = false := decide_eq_false (by omega)
  by_cases h100 : 100 < lw
  · have g2 : decide ((lw : Int) > 100) = true := decide_eq_true (by omega)
    go_enter Try.func7, Try.ntmps7
    go_wp2_with fail
    refine Calls.mono (awake09_calls _) ?_
    rintro e w1 ⟨rfl, k1⟩
    go_wp2_with fail
    refine Calls.mono (awake09_calls _) ?_
    rintro e w3 ⟨rfl, k3⟩
    go_wp2_with fail
    go_ret
    exact ⟨rfl, k1.trans k3⟩
  have g2 : decide ((lw : Int) > 100) = false := decide_eq_false (by omega)
  go_enter Try.func7, Try.ntmps7
  go_wp2_with fail
  refine Calls.mono (awake09_calls _) ?_
  rintro e w2 ⟨rfl, k2⟩
  have ow0 := Aside.mk (World.ownsRow_lit (base := w2.heap.size) (e := 40) (size := 5) w2 #[.int .i64 18, .int .i64 10, .int .i64 0, .int .i64 0, .int .i64 0] 1 (Nat.le_refl _) (by decide) rfl)
  replace k2 := Aside.mk k2
  go_wp2_with fail
  go_loopw [5, 6, 35] (fun l s i wr => ∃ (k : Nat), k ≤ ln ∧ i = .int .i64 k ∧ s = .int .i64 ((ns.take k).sum) ∧ Kp w2 wr ∧ wr.ownsRow w2.heap.size 40 5 l (k + 1) (insC (⟨18, 10, 0, 0, 0⟩ :: (ns.take k).map addI))) (fun _ _ i _ => ln - (intOf i).toNat)
  case atStart => exact ⟨0, Nat.zero_le _, rfl, rfl, (Kp.refl w2).alloc _, ow0.out⟩
  case round =>
    obtain ⟨k, hk, rfl, rfl, kp, hown⟩ := hrel
    clear ow0
    by_cases hlt : k < ln
    · obtain ⟨g, off, hA, hg, hc⟩ := hN.out (by intro e; have := hn.out; rw [e] at this; simp at this; omega)
      obtain ⟨x, hx⟩ : ∃ x, Aside (ns[k]? = some x) := ⟨_, ⟨List.getElem?_eq_getElem (by have := hn.out; omega)⟩⟩
      have hcx := hc k (by have := hn.out; omega)
      rw [List.getD_eq_getElem?_getD, hx.out] at hcx
      have hgw := Nat.lt_of_lt_of_le hg k2.out.size
      have hcr : _ := (kp.cell (p := ⟨g, off + k, none⟩) hgw).trans ((k2.out.cell (p := ⟨g, off + k, none⟩) hg).trans hcx)
      have hgr := Nat.lt_of_lt_of_le hgw kp.size
      simp only [Option.getD_some] at hcr
      obtain ⟨x0, x1⟩ := hb.out x (List.mem_of_getElem? hx.out)
      obtain ⟨s0, s1⟩ := sum_bound (ns := ns.take k) (fun n hn => hb.out n (List.mem_of_mem_take hn))
      rw [List.length_take] at s1
      have s2 : (ns.take k).sum ≤ 5100 := by omega
      have hsn := Aside.mk (sum_take hx.out)
      have hts : Aside ((ns.take (k + 1)).map addI = (ns.take k).map addI ++ [addI x]) := ⟨by rw [List.take_add_one, hx.out]; simp⟩
      clear hcx hc hg hgw
      subst hA
      generalize (ns.take k).sum = s at *
      have ksz := kp.size
      replace kp := Aside.mk kp
      go_wp2_with ((at_builtin); (refine wpList_pushm rfl (.tmp 39) (.tmp 43) 41 rfl w2.heap.size 40 5 40 1 Try.underlying41 info_ins (by decide) (by decide) u5 (k + 1) (insC (⟨18, 10, 0, 0, 0⟩ :: (ns.take k).map addI)) ?_ ?_ ?_ ?_ ?_ ?_ ?_ ?_ ?_ ?_ ?_ ?_ ?_); (rfl); (focus repeat (first | assumption | refine World.ownsRow.drew ?_ | refine World.ownsRow.alloc ?_ _)); (rotate_left 3); (rfl); (refine heap_new ?_); (rfl); (rfl); (simp [Value.oneCell']); (omega); (omega); (simp only [World.size_alloc]; omega); (intro gf capf wf hof hgf hgf' hltf); (have kpn := Aside.mk (show Kp w2 wf from Kp.grown (kp.out.alloc _) hgf (own_ge hown))))
      go_roundw
      case rel =>
        refine ⟨k + 1, by omega, by go_num, ?_, kpn.out, ?_⟩
        · rw [hsn.out]; (try go_num)
        · have e : insC (⟨18, 10, 0, 0, 0⟩ :: (ns.take (k + 1)).map addI) = insC (⟨18, 10, 0, 0, 0⟩ :: (ns.take k).map addI) ++ (addI x).cs := by rw [hts.out, ← List.cons_append, insC_snoc]
          rw [e]
          exact hof
      case measure => simp [intOf]; omega
    · obtain rfl : ln = k := by omega
      have htk : ns.take ln = ns := List.take_of_length_le (by rw [hn.out]; exact Nat.le_refl _)
      rw [htk] at hown ⊢
      obtain ⟨s0, s1⟩ := sum_bound hb.out
      rw [hn.out] at s1
      have s2 : ns.sum ≤ 5100 := by omega
      have hrun := Aside.mk (fun k => three_run (ns := ns) (ws := ws) (k := k) (by rw [hn.out]; omega) hb.out (by rw [hw.out]; omega))
      obtain ⟨S, hS⟩ : ∃ S, ns.sum = S := ⟨_, rfl⟩
      rw [hS] at s0 s2 hrun ⊢
      replace hS := trivial
      have ksz := kp.size
      replace kp := Aside.mk kp
      clear htk s1
      go_upto_region 11 with fail
      go_upto_region 12 with ((at_builtin); (refine wpList_pushm rfl (.tmp 50) (.tmp 52) 41 rfl w2.heap.size 40 5 40 1 Try.underlying41 info_ins (by decide) (by decide) u5 (ln + 1) (insC (⟨18, 10, 0, 0, 0⟩ :: ns.map addI)) ?_ ?_ ?_ ?_ ?_ ?_ ?_ ?_ ?_ ?_ ?_ ?_ ?_); (rfl); (focus repeat (first | assumption | refine World.ownsRow.drew ?_ | refine World.ownsRow.alloc ?_ _)); (rotate_left 3); (rfl); (refine heap_new ?_); (rfl); (rfl); (simp [Value.oneCell']); (omega); (omega); (simp only [World.size_alloc]; omega); (intro gf capf wf hof hgf hgf' hltf); (have kpn := Aside.mk (show Kp w2 wf from Kp.grown (kp.out.alloc _) hgf (own_ge hown))))
      have hcells : insC (⟨18, 10, 0, 0, 0⟩ :: ns.map addI) ++ (#[Value.int .i64 41, .int .i64 0, .int .i64 1, .int .i64 0, .int .i64 0] : Array Value).toList = insC (progM ns) := by simp [progM, insC, Ins.cs]
      rw [hcells] at hof
      have hpl : (progM ns).length = ln + 1 + 1 := by rw [progM_len, hn.out]
      have wc := Aside.mk (Words_rown (c := capf) (progM ns) hpl (by omega) (progM_ok hb.out) hltf (fun j x hx => (hof.cellAt j (by have := (List.getElem?_eq_some_iff.1 hx).1; have e := congrArg List.length hcells; rw [← hcells] at this; have h1 := hof.1; rw [hcells] at this; omega)).trans hx) (own_cap hof))
      clear hof hgf hgf' hltf hown kp
      go_wp2_with fail
      refine Calls.mono wc.out ?_
      rintro e w3 ⟨v3, rfl, k3, hr3⟩
      obtain ⟨A3, n3, c3, rfl⟩ := own_slice hr3
      obtain ⟨hn3, sl3, wa3⟩ := words_own (l := wordsL (progM ns)) (by rw [wordsL_len]; exact hr3)
      subst hn3
      have kp3 := Aside.mk (kpn.out.trans k3)
      clear k3 hr3 wc kpn
      have kS : Kp w3 (w3.alloc (.cells (([mainS].flatMap SymV.cs)).toArray 43)) := (Kp.refl w3).alloc _
      have bS := Blk.new w3 (([mainS].flatMap SymV.cs)).toArray 43
      have hG : ObjG (w3.alloc (.cells (([mainS].flatMap SymV.cs)).toArray 43)) ⟨A3, c3, none, 0, some ⟨w3.heap.size, 0, none⟩, 1, none, 0, progO (progM ns)⟩ := ⟨⟨rfl, rfl, rfl, rfl, wa3.kp kS, fun h => absurd rfl h, syms_blk bS, fun h => absurd rfl h⟩, sl3, ⟨Nat.le_refl _, fun _ => ⟨rfl, rfl⟩⟩⟩
      have kO : Kp (w3.alloc (.cells (([mainS].flatMap SymV.cs)).toArray 43)) ((w3.alloc (.cells (([mainS].flatMap SymV.cs)).toArray 43)).alloc (.cells ((⟨A3, c3, none, 0, some ⟨w3.heap.size, 0, none⟩, 1, none, 0, progO (progM ns)⟩ : ObjC).cells).toArray 38)) := (Kp.refl _).alloc _
      have bM := Blk.new (w3.alloc (.cells (([mainS].flatMap SymV.cs)).toArray 43)) ((⟨A3, c3, none, 0, some ⟨w3.heap.size, 0, none⟩, 1, none, 0, progO (progM ns)⟩ : ObjC).cells).toArray 38
      rw [World.size_alloc] at bM
      replace hG := Aside.mk (hG.kp kO)
      replace bM := Aside.mk bM
      have kp4 := Aside.mk (kp3.out.trans (kS.trans kO))
      have hs4 : Aside (w2.heap.size ≤ w3.heap.size) := ⟨kp3.out.size⟩
      clear kS bS kO kp3 sl3 wa3
      go_upto_region 13 with fail
      show Code.wp Try.prog _ _ _ ((w3.alloc (.cells (([mainS].flatMap SymV.cs)).toArray 43)).alloc (.cells ((⟨A3, c3, none, 0, some ⟨w3.heap.size, 0, none⟩, 1, none, 0, progO (progM ns)⟩ : ObjC).cells).toArray 38))
      generalize (w3.alloc (.cells (([mainS].flatMap SymV.cs)).toArray 43)).alloc (.cells ((⟨A3, c3, none, 0, some ⟨w3.heap.size, 0, none⟩, 1, none, 0, progO (progM ns)⟩ : ObjC).cells).toArray 38) = W13 at *
      obtain ⟨M1, hM1⟩ : ∃ M1, w3.heap.size + 1 = M1 := ⟨_, rfl⟩
      rw [hM1] at bM ⊢
      replace hM1 := trivial
      obtain ⟨y1, hy1⟩ : ∃ y : ObjC, y = (⟨A3, c3, none, 0, some ⟨w3.heap.size, 0, none⟩, 1, none, 0, progO (progM ns)⟩ : ObjC) := ⟨_, rfl⟩
      rw [← hy1] at bM hG
      have hyo : Aside (y1.o = progO (progM ns)) := ⟨by rw [hy1]⟩
      replace hy1 := Aside.mk hy1
      have owE := Aside.mk (World.ownsRow_lit (base := W13.heap.size) (e := 44) (size := 1) W13 #[] 0 (Nat.le_refl _) (by decide) rfl)
      have kE : Kp W13 (W13.alloc (.cells #[] 44)) := (Kp.refl W13).alloc _
      have hnw := Aside.mk (words_news (hW.out.kp (k2.out.trans (kp4.out.trans kE))))
      have hl4 : (u32V ws).length = lw * 1 := by simp [u32V, hw.out]
      have hE := kE.size
      replace kE := trivial
      go_upto_region 14 with ((at_builtin); (refine wpList_app rfl (.tmp 59) (.tmp 60) 34 rfl W13.heap.size 44 1 4 Try.underlying34 info_u32L (by decide) (.slice (some ⟨W13.heap.size, 0, none⟩) 0 0) 0 [] rfl owE.out B lw cw (u32V ws) rfl hB.out hl4 hnw.out (u32V_one ws) (by omega) (by omega) hE ?_); (intro v4 w4 ow4 hg4); (have k134 : Aside (Kp W13 w4) := ⟨((Kp.refl W13).alloc _).grown hg4 (fun k e => by cases e; exact Nat.le_refl _)⟩); (obtain ⟨A4, n4, c4, rfl⟩ := own_slice ow4))
      rw [List.nil_append, Nat.zero_add, ← hw.out] at ow4
      obtain ⟨hn4, sl4, wa4⟩ := words_own ow4
      subst hn4
      have kS2 : Kp w4 (w4.alloc (.cells (([noS].flatMap SymV.cs)).toArray 43)) := (Kp.refl w4).alloc _
      have bS2 := Blk.new w4 (([noS].flatMap SymV.cs)).toArray 43
      have hG2 : ObjG (w4.alloc (.cells (([noS].flatMap SymV.cs)).toArray 43)) ⟨A4, c4, none, 0, some ⟨w4.heap.size, 0, none⟩, 1, none, 0, moreO ws⟩ := ⟨⟨rfl, rfl, rfl, rfl, wa4.kp kS2, fun h => absurd rfl h, syms_blk bS2, fun h => absurd rfl h⟩, sl4, ⟨Nat.le_refl _, fun _ => ⟨rfl, rfl⟩⟩⟩
      have kO2 : Kp (w4.alloc (.cells (([noS].flatMap SymV.cs)).toArray 43)) ((w4.alloc (.cells (([noS].flatMap SymV.cs)).toArray 43)).alloc (.cells ((⟨A4, c4, none, 0, some ⟨w4.heap.size, 0, none⟩, 1, none, 0, moreO ws⟩ : ObjC).cells).toArray 38)) := (Kp.refl _).alloc _
      have bM2 := Blk.new (w4.alloc (.cells (([noS].flatMap SymV.cs)).toArray 43)) ((⟨A4, c4, none, 0, some ⟨w4.heap.size, 0, none⟩, 1, none, 0, moreO ws⟩ : ObjC).cells).toArray 38
      rw [World.size_alloc] at bM2
      replace hG2 := hG2.kp kO2
      have k1314 := k134.out.trans (kS2.trans kO2)
      have hG1 := hG.out.kp k1314
      have bM1 := bM.out.kp k1314
      rw [hy1.out] at hG1 bM1
      have kp14 := Aside.mk (kp4.out.trans k1314)
      clear kS2 bS2 kO2 sl4 wa4 ow4 hg4 k134 k1314 hG bM owE hnw hl4 hE kp4
      show Code.wp Try.prog _ _ _ ((w4.alloc (.cells (([noS].flatMap SymV.cs)).toArray 43)).alloc (.cells ((⟨A4, c4, none, 0, some ⟨w4.heap.size, 0, none⟩, 1, none, 0, moreO ws⟩ : ObjC).cells).toArray 38))
      generalize (w4.alloc (.cells (([noS].flatMap SymV.cs)).toArray 43)).alloc (.cells ((⟨A4, c4, none, 0, some ⟨w4.heap.size, 0, none⟩, 1, none, 0, moreO ws⟩ : ObjC).cells).toArray 38) = W14 at *
      have e10 : W14.cell? ⟨M1, 0, none⟩ = some (.slice A3 (wordsL (progM ns)).length c3) := bM1.cell 0
      have e11 : W14.cell? ⟨M1, 1, none⟩ = some (.slice none 0 0) := bM1.cell 1
      have e12 : W14.cell? ⟨M1, 2, none⟩ = some (.slice (some ⟨w3.heap.size, 0, none⟩) 1 1) := bM1.cell 2
      have e13 : W14.cell? ⟨M1, 3, none⟩ = some (.slice none 0 0) := bM1.cell 3
      have e20 : W14.cell? ⟨w4.heap.size + 1, 0, none⟩ = some (.slice A4 ws.length c4) := bM2.cell 0
      have e21 : W14.cell? ⟨w4.heap.size + 1, 1, none⟩ = some (.slice none 0 0) := bM2.cell 1
      have e22 : W14.cell? ⟨w4.heap.size + 1, 2, none⟩ = some (.slice (some ⟨w4.heap.size, 0, none⟩) 1 1) := bM2.cell 2
      have e23 : W14.cell? ⟨w4.heap.size + 1, 3, none⟩ = some (.slice none 0 0) := bM2.cell 3
      have l1 := bM1.lt
      have l2 := bM2.lt
      obtain ⟨kR, lR, hrows⟩ := rows_three (ns := ns) (ws := ws) hG1 hG2 rfl rfl
      replace hrows := Aside.mk hrows
      replace kR := Aside.mk kR
      replace lR := Aside.mk lR
      have kV : Kp W14 ((W14.alloc (.cells #[.slice A3 (wordsL (progM ns)).length c3, .slice none 0 0, .slice (some ⟨w3.heap.size, 0, none⟩) 1 1, .slice none 0 0] 38)).alloc (.cells #[.slice A3 (wordsL (progM ns)).length c3, .slice none 0 0, .slice (some ⟨w3.heap.size, 0, none⟩) 1 1, .slice none 0 0, .slice A4 ws.length c4, .slice none 0 0, .slice (some ⟨w4.heap.size, 0, none⟩) 1 1, .slice none 0 0] 38)) := ((Kp.refl W14).alloc _).alloc _
      have d10 := (kV.cell (p := ⟨M1, 0, none⟩) l1).trans e10
      have d11 := (kV.cell (p := ⟨M1, 1, none⟩) l1).trans e11
      have d12 := (kV.cell (p := ⟨M1, 2, none⟩) l1).trans e12
      have d13 := (kV.cell (p := ⟨M1, 3, none⟩) l1).trans e13
      have d20 := (kV.cell (p := ⟨w4.heap.size + 1, 0, none⟩) l2).trans e20
      have d21 := (kV.cell (p := ⟨w4.heap.size + 1, 1, none⟩) l2).trans e21
      have d22 := (kV.cell (p := ⟨w4.heap.size + 1, 2, none⟩) l2).trans e22
      have d23 := (kV.cell (p := ⟨w4.heap.size + 1, 3, none⟩) l2).trans e23
      clear bM1 bM2 hG1 hG2 kV
      go_wp2_with fail
      go_loopw [75] (fun i wr => ∃ k : Nat, k ≤ 3 ∧ i = .int .i64 k ∧ Kp (rowsW W14 ⟨A3, c3, none, 0, some ⟨w3.heap.size, 0, none⟩, 1, none, 0, progO (progM ns)⟩ ⟨A4, c4, none, 0, some ⟨w4.heap.size, 0, none⟩, 1, none, 0, moreO ws⟩) wr) (fun i _ => 3 - (intOf i).toNat)
      case atStart => exact ⟨0, by decide, rfl, Kp.refl _⟩
      case round =>
        obtain ⟨k, hk, rfl, kp⟩ := hrel
        clear e10 e11 e12 e13 e20 e21 e22 e23 d10 d11 d12 d13 d20 d21 d22 d23 l1 l2
        by_cases hlt : k < 3
        · obtain ⟨Ob, hcell, hos⟩ := hrows.out k hlt
          have hcr := (kp.cell (p := ⟨W14.heap.size + 1 + 1 + 1, k, none⟩) lR.out).trans hcell
          have hlr := Nat.lt_of_lt_of_le lR.out kp.size
          obtain ⟨hlen, hcount⟩ := three_len (ns := ns) (ws := ws) (k := k) (by rw [hn.out]; omega) (by rw [hw.out]; omega)
          obtain ⟨mE, mT, mem, hmem, hml, hby, hgo⟩ := hrun.out k
          have hwf3 : ∀ o ∈ threeO ns ws k, o.wf := fun o ho => by
            rcases three_mem ho with rfl | rfl
            · exact progO_wf (by rw [progM_len, hn.out]; omega)
            · exact moreO_wf (by rw [hw.out]; omega) hu.out
          obtain ⟨nk, hnk⟩ : ∃ nk, (threeO ns ws k).length = nk := ⟨_, rfl⟩
          have lc := Aside.mk (Link_calls (c := nk) (hos.kp kp) hwf3 hnk (by omega))
          rw [hnk] at hcr
          have hnk2 : nk ≤ 2 := by omega
          replace mE := Aside.mk mE
          replace mT := Aside.mk mT
          replace hmem := Aside.mk hmem
          replace hby := Aside.mk hby
          replace hnk := Aside.mk hnk
          replace hcount := trivial
          obtain ⟨m, hm⟩ : ∃ m, Aside (imgLen (threeO ns ws k) = m) := ⟨_, ⟨rfl⟩⟩
          rw [hm.out] at hml hlen
          replace hgo := Aside.mk hgo
          replace kp := Aside.mk kp
          replace hos := Aside.mk hos
          clear hwf3 hcell
          go_wp2_with fail
          refine Calls.mono lc.out ?_
          rintro e w5 hR
          obtain ⟨k5, g5, rfl, -, bm, -⟩ := link_gives (m := m) hR mE.out mT.out (by rw [hm.out]; omega) hmem.out hm.out
          have kA : Kp w5 (w5.alloc (.cells #[.int .i64 0, .slice (some ⟨g5, 0, none⟩) m m] 28)) := (Kp.refl w5).alloc _
          have bm3 := rowBy_blk (base := 0) (m := m) (Nat.zero_le _) (bm.kp kA) hml (by omega)
          have kp5 := Aside.mk (kp.out.trans (k5.trans kA))
          obtain ⟨fl, hfl⟩ : ∃ fl, upV mem.length = fl := ⟨_, rfl⟩
          obtain ⟨tp, htp⟩ : ∃ tp, upV (fl + 0) = tp := ⟨_, rfl⟩
          have hft : mem.length ≤ tp ∧ tp ≤ 2097152 := by unfold upV at hfl htp; omega
          have ld := Aside.mk (Load_at 0 0 0 fl tp rfl bm3 hby.out (by unfold U; decide) (by decide) (by omega) hfl htp hft.2)
          obtain ⟨r', hg, hst, hcd, hev0⟩ := hgo.out fl tp hft.1 hft.2
          replace hg := Aside.mk hg
          clear hR lc k5 kA bm bm3 hcr hlr
          go_wp2_with fail
          refine Calls.mono ld.out ?_
          rintro e w7 ⟨M, Bm, K, rfl, ⟨gM, gB, gK⟩, k7, hmac⟩
          have s7 := kp5.out.size
          have hout : Aside ((rowsW W14 ⟨A3, c3, none, 0, some ⟨w3.heap.size, 0, none⟩, 1, none, 0, progO (progM ns)⟩ ⟨A4, c4, none, 0, some ⟨w4.heap.size, 0, none⟩, 1, none, 0, moreO ws⟩).heap.size ≤ M ∧ (rowsW W14 ⟨A3, c3, none, 0, some ⟨w3.heap.size, 0, none⟩, 1, none, 0, progO (progM ns)⟩ ⟨A4, c4, none, 0, some ⟨w4.heap.size, 0, none⟩, 1, none, 0, moreO ws⟩).heap.size ≤ Bm ∧ (rowsW W14 ⟨A3, c3, none, 0, some ⟨w3.heap.size, 0, none⟩, 1, none, 0, progO (progM ns)⟩ ⟨A4, c4, none, 0, some ⟨w4.heap.size, 0, none⟩, 1, none, 0, moreO ws⟩).heap.size ≤ K) := ⟨by omega⟩
          have kp7 := Aside.mk (kp5.out.trans k7)
          have hnl := hn.out
          have rc := Run_goes hg.out ((ln : Int) + 5) (by omega) 100 (.slice none 0 0) hmac words_none rfl (by decide) (by omega) (Or.inr (by rw [hst]; decide)) (by omega)
          rw [hst, hcd] at rc
          replace rc := Aside.mk rc
          clear k7 gM gB gK s7 hmac ld kp5 hnl
          go_wp2_with fail
          refine Calls.mono rc.out ?_
          rintro e w8 ⟨ev, rfl, hmod, hm8, hev⟩
          obtain ⟨A8, n8, c8, rfl⟩ := own_slice hev
          clear hev
          have kk8 := Aside.mk ((kp7.out.mod.behind hmod (S := fun _ => False) (fun k e => Or.inr (by have := hout.out; rcases e with e | e | e <;> omega))).toKp (fun k e => e.elim))
          clear hmod hm8 rc kp7
          go_wp2_with fail
          exact ⟨⟨k + 1, by omega, by go_num, kk8.out.alloc _⟩, by simp [intOf]; omega⟩
        · obtain rfl : k = 3 := by omega
          go_wp2_with fail
          go_ret
          exact ⟨rfl, k2.out.trans (kp14.out.trans (kR.out.trans kp))⟩
section
variable {H : Type} {enc : TypeId × Value → H} {W : World} {base : Nat}
set_option maxRecDepth 100000 in
theorem more_law {v u : Value} {d d' : DataW H} {p p' : List MemPlace} (hv : Value.okWide Try.prog W .any base 26 v) (h : DataW.Trod enc Try.prog W 0 (fun _ => true) true 26 v d p) (hv' : Value.okWide Try.prog W .any base 34 u) (h' : DataW.Trod enc Try.prog W 0 (fun _ => true) true 34 u d' p') :
    Calls Try.prog 7 #[v, u] W fun e w' => e = .returned (.bool true) ∧ Below W.heap.size W w' := by
  obtain ⟨A, n, c, rfl⟩ := okWide_slice Try.underlying26 hv
  obtain ⟨B, m, c', rfl⟩ := okWide_slice Try.underlying34 hv'
  obtain ⟨f1, h1⟩ := h
  obtain ⟨f2, h2⟩ := h'
  obtain ⟨A', ct, l, e0, s0, a0, u0, z0⟩ := ints_open Try.underlying26 Try.underlying5 cellsU8 h1
  obtain ⟨B', ct', l', e0', s0', a0', u0', z0'⟩ := ints_open Try.underlying34 Try.underlying44 cellsU32 h2
  have e1 : Value.slice A n c = .slice A' l.length ct := by
    have : [Value.slice A n c] = [.slice A' l.length ct] := e0
    injection this
  have e2 : Value.slice B m c' = .slice B' l'.length ct' := by
    have : [Value.slice B m c'] = [.slice B' l'.length ct'] := e0'
    injection this
  rw [e1, e2]
  have hb : ∀ x ∈ l, Byte x := fun x hx => by
    have := bounds_u8 (u0 x hx)
    unfold Byte
    omega
  have hu : ∀ x ∈ l', U x := fun x hx => by
    have := bounds_u32 (u0' x hx)
    show 0 ≤ x ∧ x ≤ 4294967295
    omega
  exact (more_any a0 rfl hb a0' rfl hu s0'.2 z0 z0').mono fun _ _ ⟨he, hk⟩ => ⟨he, hk.out⟩
end
end Go.Proofs.Ytnbooljaodkedaa
