/- The linker: an object put into the memory: walked. Conditions stand at each. -/
import Derived.Test.YtnbooljaodkedaaLnkQ
import Derived.Deep.DeepCutAuto
namespace Go.Proofs.Ytnbooljaodkedaa
open Go.RowKit Go.Maps Go.Proofs.Ytnbooljaodkedaa.PC Go.Proofs.Ytnbooljaodkedaa.PW
set_option linter.unusedVariables false
set_option linter.unusedSimpArgs false
set_option maxRecDepth 100000 in
set_option maxHeartbeats 4000000 in
theorem object_calls {w0 w : World} {LK : Nat} {G : Option Addr} {n c OB PB : Nat} {os : List ObjV} (h : Lk w0 LK G n c OB PB os) (k0 : Kp w0 w) {i : Nat} {o : ObjV} (ho : os[i]? = some o) (hok : objOk o) (hwf : o.wf) {MB m : Nat} {mem : List Int} (hM : w0.heap.size ≤ MB) (hb : Blk w MB (byV mem).toArray 5) (hm : mem.length = m) (hl : m = imgLen os) (hm2 : m ≤ 2097152) :
    Calls Try.prog 23 #[.pointer (some ⟨LK, 0, none⟩), .int .i64 i, .slice (some ⟨MB, 0, none⟩) m m] w fun e w' => Kp w0 w' ∧ ((∃ mem', objMem os i o mem = some mem' ∧ mem'.length = m ∧ Blk w' MB (byV mem').toArray 5 ∧ e = .returned (.tuple #[])) ∨ (objMem os i o mem = none ∧ e = .panicked (thrownE 7))) := by
  have hi : i < n := by have := (List.getElem?_eq_some_iff.1 ho).1; have := h.len; omega
  have hfit := Aside.mk (txt_fit ho)
  obtain ⟨p0, p1⟩ := h.pl i hi
  obtain ⟨g, off, hG, hg, hc⟩ := h.objs (by rintro rfl; simp at ho)
  obtain ⟨A, ct, B, cd, C, cs, D, cr, q0, q1, q2, q3, hat, hsA, hsB⟩ := hc i o ho
  obtain ⟨vt, ht0, htr⟩ := h.tg i o ho
  have lL := h.blk.lt
  have lP := h.pb
  have lO := h.ob
  have ten : Aside (∀ V, Kp w0 V → (V.cell? ⟨LK, 0, none⟩ = some (.slice G n c) ∧ V.cell? ⟨LK, 2, none⟩ = some (.slice (some ⟨PB, 0, none⟩) n n) ∧ V.cell? ⟨PB, i * 2, none⟩ = some (.int .i64 (txtV os i)) ∧ V.cell? ⟨PB, i * 2 + 1, none⟩ = some (.int .i64 (datV os i)) ∧ V.cell? ⟨g, off + i * 4, none⟩ = some (.slice A o.text.length ct) ∧ V.cell? ⟨g, off + i * 4 + 1, none⟩ = some (.slice B o.data.length cd) ∧ V.cell? ⟨g, off + i * 4 + 2, none⟩ = some (.slice C o.syms.length cs) ∧ V.cell? ⟨g, off + i * 4 + 3, none⟩ = some (.slice D o.rels.length cr))) := ⟨fun V hV => ⟨(hV.cell (p := ⟨LK, 0, none⟩) lL).trans (h.blk.cell 0), (hV.cell (p := ⟨LK, 2, none⟩) lL).trans (h.blk.cell 2), (hV.cell (p := ⟨PB, i * 2, none⟩) lP).trans p0, (hV.cell (p := ⟨PB, i * 2 + 1, none⟩) lP).trans p1, (hV.cell (p := ⟨g, off + i * 4, none⟩) hg).trans q0, (hV.cell (p := ⟨g, off + i * 4 + 1, none⟩) hg).trans q1, (hV.cell (p := ⟨g, off + i * 4 + 2, none⟩) hg).trans q2, (hV.cell (p := ⟨g, off + i * 4 + 3, none⟩) hg).trans q3⟩⟩
  have ten2 : Aside (∀ V, Kp w0 V → (V.cell? ⟨LK, 1, none⟩ = some (.slice (some ⟨OB, 0, none⟩) n n) ∧ V.cell? ⟨OB, i, none⟩ = some vt)) := ⟨fun V hV => ⟨(hV.cell (p := ⟨LK, 1, none⟩) lL).trans (h.blk.cell 1), (hV.cell (p := ⟨OB, i, none⟩) lO).trans ht0⟩⟩
  subst hG
  clear p0 p1 q0 q1 q2 q3 hc ht0
  obtain ⟨i0, i1⟩ : (0 : Int) ≤ (i : Int) ∧ (i : Int) < (n : Int) := by omega
  have hW0 := Aside.mk (h)
  clear h
  replace hb := Aside.mk hb
  replace hok := Aside.mk hok
  replace hwf := Aside.mk hwf
  replace hat := Aside.mk hat
  replace hsA := Aside.mk hsA
  replace hsB := Aside.mk hsB
  replace htr := Aside.mk htr
  replace ho := Aside.mk ho
  replace hl := Aside.mk hl
  replace k0 := Aside.mk k0
  go_enter Try.func23, Try.ntmps23
  go_upto_region 0 with fail
  obtain ⟨e0, e1, e2, e3, e4, e5, e6, e7⟩ := ten.out w k0.out
  have zL : LK < w.heap.size := Nat.lt_of_lt_of_le lL k0.out.size
  have zP : PB < w.heap.size := Nat.lt_of_lt_of_le lP k0.out.size
  have zg : g < w.heap.size := Nat.lt_of_lt_of_le hg k0.out.size
  go_cut [6, 7] (fun p q wx => ∃ O Q : Nat, p = .pointer (some ⟨O, 0, none⟩) ∧ q = .pointer (some ⟨Q, 0, none⟩) ∧ Kp w wx ∧ w.heap.size ≤ O ∧ w.heap.size ≤ Q ∧ O ≠ Q ∧ Blk wx O #[.slice A o.text.length ct, .slice B o.data.length cd, .slice C o.syms.length cs, .slice D o.rels.length cr] 38 ∧ Blk wx Q #[.int .i64 (txtV os i), .int .i64 (datV os i)] 98)
  case first =>
    go_region
    · go_wp2_with fail
      go_meet
      exact ⟨w.heap.size, w.heap.size + 1, rfl, rfl, (((Kp.refl w).alloc _).alloc _).drew, Nat.le_refl _, by omega, by omega, ((Blk.new w _ _).alloc _).kp (Kp.refl _).drew, by have := Blk.new (w.alloc (.cells #[.slice A o.text.length ct, .slice B o.data.length cd, .slice C o.syms.length cs, .slice D o.rels.length cr] 38)) #[.int .i64 (txtV os i), .int .i64 (datV os i)] 98; rw [World.size_alloc] at this; exact this.kp (Kp.refl _).drew⟩
    · go_wp2_with fail
      go_meet
      exact ⟨w.heap.size + 1, w.heap.size, rfl, rfl, (((Kp.refl w).alloc _).alloc _).drew, by omega, Nat.le_refl _, by omega, by have := Blk.new (w.alloc (.cells #[.int .i64 (txtV os i), .int .i64 (datV os i)] 98)) #[.slice A o.text.length ct, .slice B o.data.length cd, .slice C o.syms.length cs, .slice D o.rels.length cr] 38; rw [World.size_alloc] at this; exact this.kp (Kp.refl _).drew, ((Blk.new w _ _).alloc _).kp (Kp.refl _).drew⟩
  case rest =>
    obtain ⟨O, Q, rfl, rfl, kc, lO', lQ', hOQ, bO, bQ⟩ := hcut
    clear e0 e1 e2 e3 e4 e5 e6 e7
    have kk := Aside.mk (k0.out.trans kc)
    have bM := Aside.mk (hb.out.kp kc)
    have bO' := Aside.mk bO
    have bQ' := Aside.mk bQ
    have lQc := bQ.lt
    have lMc := bM.out.lt
    have f0 := bO.cell 0
    have f1 := bO.cell 1
    replace kc := Aside.mk kc
    have clA := Aside.mk (fun (W : World) (hW : Kp w0 W) => cl_words (w := W) (A := A) (c := ct) o.text rfl (by have := hok.out.1; omega) (hat.out.text.kp hW) hsA.out.2)
    have clB := Aside.mk (fun (W : World) (hW : Kp w0 W) => cl_bytes (w := W) (A := B) (c := cd) o.data rfl (by have := hok.out.1; omega) (hat.out.data.kp hW) hsB.out.2)
    clear bO bQ
    go_upto_region 1 with fail
    refine wp_hide (fun Q0 hQ0 => ?_)
    refine wp_region_held_drew (S := fun w' => w'.cell? ⟨O, 0, none⟩ = some (.slice A o.text.length ct) ∧ w'.cell? ⟨O, 1, none⟩ = some (.slice B o.data.length cd)) (by kernel_rfl) ?hS0a (fun hHeld => ?_)
    case hS0a => exact (show _ from ⟨f0, f1⟩)
    refine wpAnyH_takeL (i := 0) (v := ?v0a) rfl (by kernel_rfl) (by kernel_rfl) (by kernel_rfl) (fun _ _ _ h => h) (Or.inl ⟨by kernel_rfl, ?hy0a⟩) (by assumption) ?rest0a
    case hy0a => (intro w hSw; (try dsimp only at hSw); go_simp; (try with_reducible rfl))
    try simp only [Act.put, List.setIfInBounds_toArray, List.set_cons_zero, List.set_cons_succ]
    refine wpAnyH_takeL (i := 1) (v := ?v1a) rfl (by kernel_rfl) (by kernel_rfl) (by kernel_rfl) (fun _ _ _ h => h) (Or.inl ⟨by kernel_rfl, ?hy1a⟩) (by assumption) ?rest1a
    case hy1a => (intro w hSw; (try dsimp only at hSw); go_simp; (try with_reducible rfl))
    try simp only [Act.put, List.setIfInBounds_toArray, List.set_cons_zero, List.set_cons_succ]
    refine wpAnyH_takeL (i := 3) (v := ?v3a) rfl (by kernel_rfl) (by kernel_rfl) (by kernel_rfl) (fun _ _ _ h => h) (Or.inl ⟨by kernel_rfl, ?hy3a⟩) (by assumption) ?rest3a
    case hy3a => (intro w hSw; (try dsimp only at hSw); go_simp; (try with_reducible rfl))
    try simp only [Act.put, List.setIfInBounds_toArray, List.set_cons_zero, List.set_cons_succ]
    refine wpAnyH_takeL (i := 4) (v := ?v4a) rfl (by kernel_rfl) (by kernel_rfl) (by kernel_rfl) (fun _ _ _ h => h) (Or.inl ⟨by kernel_rfl, ?hy4a⟩) (by assumption) ?rest4a
    case hy4a => (intro w hSw; (try dsimp only at hSw); go_simp; (try with_reducible rfl))
    try simp only [Act.put, List.setIfInBounds_toArray, List.set_cons_zero, List.set_cons_succ]
    refine wpAnyH_ready (rs := [2]) (by kernel_rfl) (by simp) ?_
    refine AllReadyH.consL rfl (fun Kx hKx => ?_) AllReadyH.nil
    go_simp
    refine Calls.mono (clA.out _ kk.out.drew) ?_
    rintro e w2 ⟨TA, tc, rfl, htc, k2, hrow1⟩
    refine hKx.out _ _ (show _ from ⟨((bO'.out.kp (Kp.refl _).drew).kp k2).cell 0, ((bO'.out.kp (Kp.refl _).drew).kp k2).cell 1⟩) (fun hHeld => ?_)
    clear hKx
    try simp only [Act.put, List.setIfInBounds_toArray, List.set_cons_zero, List.set_cons_succ]
    refine wpAnyH_ready (rs := [5]) (by kernel_rfl) (by simp) ?_
    refine AllReadyH.consL rfl (fun Kx hKx => ?_) AllReadyH.nil
    go_simp
    refine Calls.mono (clB.out _ (kk.out.drew.trans k2)) ?_
    rintro e w3 ⟨DA, dc, rfl, hdc, k3, hrow2⟩
    refine hKx.out _ _ (show _ from ⟨(((bO'.out.kp (Kp.refl _).drew).kp k2).kp k3).cell 0, (((bO'.out.kp (Kp.refl _).drew).kp k2).kp k3).cell 1⟩) (fun hHeld => ?_)
    clear hKx
    try simp only [Act.put, List.setIfInBounds_toArray, List.set_cons_zero, List.set_cons_succ]
    refine wpAnyH_takeL (i := 6) (v := ?v6a) rfl (by kernel_rfl) (by kernel_rfl) (by kernel_rfl) (fun _ _ _ h => h) (Or.inl ⟨by kernel_rfl, ?hy6a⟩) (by assumption) ?rest6a
    case hy6a => (intro w hSw; (try dsimp only at hSw); go_simp; (try with_reducible rfl))
    try simp only [Act.put, List.setIfInBounds_toArray, List.set_cons_zero, List.set_cons_succ]
    refine wpAnyH_takeL (i := 7) (v := ?v7a) rfl (by kernel_rfl) (by kernel_rfl) (by kernel_rfl) (fun _ _ _ h => h) (Or.inl ⟨by kernel_rfl, ?hy7a⟩) (by assumption) ?rest7a
    case hy7a => (intro w hSw; (try dsimp only at hSw); go_simp; (try with_reducible rfl))
    try simp only [Act.put, List.setIfInBounds_toArray, List.set_cons_zero, List.set_cons_succ]
    refine wpAnyH_done (by kernel_rfl) (hQ0.out _ _ ?_) _
    obtain ⟨TG, DG, lT, lD, hTD, hT, hD⟩ := two_rows k2 k3 hrow1 hrow2
    rw [World.size_drew] at lT lD
    have hOb : Ob w0 w3 MB TG DG mem o.text o.data := ⟨(kk.out.drew.trans k2).trans k3, ((bM.out.kp (Kp.refl _).drew).kp k2).kp k3, fun e => (hT (by simpa using e)).2, fun e => (hD (by simpa [byV] using e)).2⟩
    have bQ3 := ((bQ'.out.kp (Kp.refl _).drew).kp k2).kp k3
    have f3 := (((bO'.out.kp (Kp.refl _).drew).kp k2).kp k3).cell 3
    simp at f3
    have hTA : Aside (o.text ≠ [] → TA = some ⟨TG, 0, none⟩) := ⟨fun e => (hT (by simpa using e)).1⟩
    have hDA : Aside (o.data ≠ [] → DA = some ⟨DG, 0, none⟩) := ⟨fun e => (hD (by simpa [byV] using e)).1⟩
    have hds : Aside (TG ≠ MB ∧ DG ≠ MB ∧ TG ≠ Q ∧ DG ≠ Q ∧ MB ≠ Q ∧ w0.heap.size ≤ TG ∧ w0.heap.size ≤ DG) := ⟨by have a1 := hb.out.lt; have a2 := kk.out.size; exact ⟨by omega, by omega, by omega, by omega, by omega, by omega, by omega⟩⟩
    have rs0 := Aside.mk (rs_zero (os := os) (i := i) hwf.out)
    clear hT hD hrow1 hrow2 k2 k3 hHeld f0 f1 lQc lMc lT lD kc bO' bQ' clA clB bM zL zP zg htr hsA hsB hb
    generalize hnr : o.rels.length = nr at *
    have hnb : nr ≤ 65536 := by have := hok.out.1; omega
    replace hnr := Aside.mk hnr
    go_wp2_with fail
    go_loopw [38] (fun v wr => ∃ (j : Nat) (T1 D1 : List Int), j ≤ nr ∧ v = .int .i64 j ∧ Ob w0 wr MB TG DG mem T1 D1 ∧ Blk wr Q #[.int .i64 (txtV os i), .int .i64 (datV os i)] 98 ∧ Aside (RelSt os i o j T1 D1)) (fun v _ => nr - (intOf v).toNat)
    case atStart => exact ⟨0, _, _, Nat.zero_le _, rfl, hOb, bQ3, rs0⟩
    case round =>
      obtain ⟨j, T1, D1, hj, rfl, ob, bq, rs⟩ := hrel
      clear hOb bQ3 f3 rs0
      by_cases hlt : j < nr
      · obtain ⟨r, hr⟩ : ∃ r, Aside (o.rels[j]? = some r) := ⟨_, ⟨List.getElem?_eq_getElem (by have := hnr.out; omega)⟩⟩
        obtain ⟨g2, off2, hDr, hg2, hc⟩ := hat.out.rels (by intro e; have := hnr.out; rw [e] at this; simp at this; omega)
        obtain ⟨q0, q1, q2, q3, q4⟩ := hc j r hr.out
        have hro := Aside.mk (hok.out.2.2.2.2 r (List.mem_of_getElem? hr.out))
        obtain ⟨sy, hsy⟩ : ∃ sy : Nat, r.sym = sy := ⟨r.sym.toNat, by have := hro.out.1; omega⟩
        obtain ⟨ra, hra⟩ : ∃ a : Nat, r.at_ = a := ⟨r.at_.toNat, by have := hro.out.2; omega⟩
        have hsl : sy < o.syms.length := by have := hro.out.1; omega
        obtain ⟨g3, c3, t, s', v0, lg3, v1, v2, hs', hrv⟩ := rel_tgt hW0.out ho.out hsy hsl
        have hval := Aside.mk (fun (W : World) (hW : Kp w0 W) => value_calls (hW0.out.kp hW) hs')
        obtain ⟨t0, t1⟩ := t
        have hu := adr_U os (t0, t1)
        generalize adrV os (t0, t1) = adr at *
        dsimp only at v1 v2 hval
        replace hrv := Aside.mk hrv
        clear hc hs'
        have wq0 := (ob.kp.cell (p := ⟨g2, off2 + j * 5, none⟩) hg2).trans q0
        have wq1 := (ob.kp.cell (p := ⟨g2, off2 + j * 5 + 1, none⟩) hg2).trans q1
        have wq2 := (ob.kp.cell (p := ⟨g2, off2 + j * 5 + 2, none⟩) hg2).trans q2
        have wq3 := (ob.kp.cell (p := ⟨g2, off2 + j * 5 + 3, none⟩) hg2).trans q3
        have wq4 := (ob.kp.cell (p := ⟨g2, off2 + j * 5 + 4, none⟩) hg2).trans q4
        rw [hsy] at wq3
        rw [hra] at wq1
        generalize hrs : r.sect = rs at *
        generalize hrk : r.kind = rk at *
        generalize hrd : r.add = rd at *
        subst hDr
        clear q0 q1 q2 q3 q4
        have zg2 : g2 < wr.heap.size := Nat.lt_of_lt_of_le hg2 ob.kp.size
        have zO : OB < wr.heap.size := Nat.lt_of_lt_of_le lO ob.kp.size
        have zL : LK < wr.heap.size := Nat.lt_of_lt_of_le lL ob.kp.size
        have zg3 : g3 < wr.heap.size := Nat.lt_of_lt_of_le lg3 ob.kp.size
        have ob2 := Aside.mk (ob.go ((Kp.refl wr).alloc (.cells #[.int .i64 rs, .int .i64 ra, .int .i64 rk, .int .i64 sy, .int .i64 rd] 46)))
        have bq2 := Aside.mk (bq.kp ((Kp.refl wr).alloc (.cells #[.int .i64 rs, .int .i64 ra, .int .i64 rk, .int .i64 sy, .int .i64 rd] 46)))
        have br := Aside.mk (Blk.new wr #[.int .i64 rs, .int .i64 ra, .int .i64 rk, .int .i64 sy, .int .i64 rd] 46)
        have hRB : Aside (MB < wr.heap.size ∧ Q < wr.heap.size ∧ (T1 ≠ [] → TG < wr.heap.size) ∧ (D1 ≠ [] → DG < wr.heap.size)) := ⟨⟨ob.mem.lt, bq.lt, fun e => (ob.txt e).lt, fun e => (ob.dat e).lt⟩⟩
        replace hsy := Aside.mk hsy
        replace hra := Aside.mk hra
        replace hrs := Aside.mk hrs
        replace hrk := Aside.mk hrk
        replace hrd := Aside.mk hrd
        replace bq := Aside.mk bq
        replace ob := Aside.mk ob
        go_upto_region 5 with fail
        generalize hRe : wr.heap.size = RB at *
        generalize wr.alloc (.cells #[.int .i64 rs, .int .i64 ra, .int .i64 rk, .int .i64 sy, .int .i64 rd] 46) = W at *
        clear wq0 wq1 wq2 wq3 wq4 zg2 zO zL zg3 ob bq
        have ten3 : Aside (∀ V, Kp W V → (V.cell? ⟨LK, 1, none⟩ = some (.slice (some ⟨OB, 0, none⟩) n n) ∧ V.cell? ⟨OB, i, none⟩ = some (.slice (some ⟨g3, 0, none⟩) o.syms.length c3) ∧ V.cell? ⟨g3, sy * 2, none⟩ = some (.int .i64 t0) ∧ V.cell? ⟨g3, sy * 2 + 1, none⟩ = some (.int .i64 t1) ∧ V.cell? ⟨RB, 0, none⟩ = some (.int .i64 rs) ∧ V.cell? ⟨RB, 1, none⟩ = some (.int .i64 ra) ∧ V.cell? ⟨RB, 2, none⟩ = some (.int .i64 rk) ∧ V.cell? ⟨RB, 3, none⟩ = some (.int .i64 sy) ∧ V.cell? ⟨RB, 4, none⟩ = some (.int .i64 rd))) := ⟨fun V hV => by
          have hV0 := ob2.out.kp.trans hV
          have hb := br.out.kp hV
          exact ⟨(ten2.out V hV0).1, (hV0.cell (p := ⟨OB, i, none⟩) lO).trans v0, (hV0.cell (p := ⟨g3, sy * 2, none⟩) lg3).trans v1, (hV0.cell (p := ⟨g3, sy * 2 + 1, none⟩) lg3).trans v2, hb.cell 0, hb.cell 1, hb.cell 2, hb.cell 3, hb.cell 4⟩⟩
        have y0 : (0 : Int) ≤ (sy : Int) := by omega
        have y1 : (sy : Int) < (o.syms.length : Int) := by omega
        clear v0 v1 v2
        refine wp_hide (fun Q0 hQ0 => ?_)
        refine wp_region_held_drew (S := fun V => V.cell? ⟨LK, 1, none⟩ = some (.slice (some ⟨OB, 0, none⟩) n n) ∧ V.cell? ⟨OB, i, none⟩ = some (.slice (some ⟨g3, 0, none⟩) o.syms.length c3) ∧ V.cell? ⟨g3, sy * 2, none⟩ = some (.int .i64 t0) ∧ V.cell? ⟨g3, sy * 2 + 1, none⟩ = some (.int .i64 t1) ∧ V.cell? ⟨RB, 0, none⟩ = some (.int .i64 rs) ∧ V.cell? ⟨RB, 1, none⟩ = some (.int .i64 ra) ∧ V.cell? ⟨RB, 2, none⟩ = some (.int .i64 rk) ∧ V.cell? ⟨RB, 3, none⟩ = some (.int .i64 sy) ∧ V.cell? ⟨RB, 4, none⟩ = some (.int .i64 rd)) (by kernel_rfl) ?hS0b (fun hHeld => ?_)
        case hS0b => exact (ten3.out W (Kp.refl W))
        refine wpAnyH_takeL (i := 0) (v := ?v0b) rfl (by kernel_rfl) (by kernel_rfl) (by kernel_rfl) (fun _ _ _ h => h) (Or.inl ⟨by kernel_rfl, ?hy0b⟩) (by assumption) ?rest0b
        case hy0b => (intro w hSw; (try dsimp only at hSw); go_simp; (try with_reducible rfl))
        try simp only [Act.put, List.setIfInBounds_toArray, List.set_cons_zero, List.set_cons_succ]
        refine wpAnyH_takeL (i := 1) (v := ?v1b) rfl (by kernel_rfl) (by kernel_rfl) (by kernel_rfl) (fun _ _ _ h => h) (Or.inl ⟨by kernel_rfl, ?hy1b⟩) (by assumption) ?rest1b
        case hy1b => (intro w hSw; (try dsimp only at hSw); go_simp; (try with_reducible rfl))
        try simp only [Act.put, List.setIfInBounds_toArray, List.set_cons_zero, List.set_cons_succ]
        refine wpAnyH_takeL (i := 2) (v := ?v2b) rfl (by kernel_rfl) (by kernel_rfl) (by kernel_rfl) (fun _ _ _ h => h) (Or.inl ⟨by kernel_rfl, ?hy2b⟩) (by assumption) ?rest2b
        case hy2b => (intro w hSw; (try dsimp only at hSw); go_simp; (try with_reducible rfl))
        try simp only [Act.put, List.setIfInBounds_toArray, List.set_cons_zero, List.set_cons_succ]
        refine wpAnyH_takeL (i := 3) (v := ?v3b) rfl (by kernel_rfl) (by kernel_rfl) (by kernel_rfl) (fun _ _ _ h => h) (Or.inl ⟨by kernel_rfl, ?hy3b⟩) (by assumption) ?rest3b
        case hy3b => (intro w hSw; (try dsimp only at hSw); go_simp; (try with_reducible rfl))
        try simp only [Act.put, List.setIfInBounds_toArray, List.set_cons_zero, List.set_cons_succ]
        refine wpAnyH_takeL (i := 4) (v := ?v4b) rfl (by kernel_rfl) (by kernel_rfl) (by kernel_rfl) (fun _ _ _ h => h) (Or.inl ⟨by kernel_rfl, ?hy4b⟩) (by assumption) ?rest4b
        case hy4b => (intro w hSw; (try dsimp only at hSw); go_simp; (try with_reducible rfl))
        try simp only [Act.put, List.setIfInBounds_toArray, List.set_cons_zero, List.set_cons_succ]
        refine wpAnyH_takeL (i := 5) (v := ?v5b) rfl (by kernel_rfl) (by kernel_rfl) (by kernel_rfl) (fun _ _ _ h => h) (Or.inl ⟨by kernel_rfl, ?hy5b⟩) (by assumption) ?rest5b
        case hy5b => (intro w hSw; (try dsimp only at hSw); go_simp; (try with_reducible rfl))
        try simp only [Act.put, List.setIfInBounds_toArray, List.set_cons_zero, List.set_cons_succ]
        refine wpAnyH_takeL (i := 6) (v := ?v6b) rfl (by kernel_rfl) (by kernel_rfl) (by kernel_rfl) (fun _ _ _ h => h) (Or.inl ⟨by kernel_rfl, ?hy6b⟩) (by assumption) ?rest6b
        case hy6b => (intro w hSw; (try dsimp only at hSw); go_simp; (try with_reducible rfl))
        try simp only [Act.put, List.setIfInBounds_toArray, List.set_cons_zero, List.set_cons_succ]
        refine wpAnyH_takeL (i := 7) (v := ?v7b) rfl (by kernel_rfl) (by kernel_rfl) (by kernel_rfl) (fun _ _ _ h => h) (Or.inl ⟨by kernel_rfl, ?hy7b⟩) (by assumption) ?rest7b
        case hy7b => (intro w hSw; (try dsimp only at hSw); go_simp; (try with_reducible rfl))
        try simp only [Act.put, List.setIfInBounds_toArray, List.set_cons_zero, List.set_cons_succ]
        refine wpAnyH_takeL (i := 8) (v := ?v8b) rfl (by kernel_rfl) (by kernel_rfl) (by kernel_rfl) (fun _ _ _ h => h) (Or.inl ⟨by kernel_rfl, ?hy8b⟩) (by assumption) ?rest8b
        case hy8b => (intro w hSw; (try dsimp only at hSw); go_simp; (try with_reducible rfl))
        try simp only [Act.put, List.setIfInBounds_toArray, List.set_cons_zero, List.set_cons_succ]
        refine wpAnyH_takeL (i := 9) (v := ?v9b) rfl (by kernel_rfl) (by kernel_rfl) (by kernel_rfl) (fun _ _ _ h => h) (Or.inl ⟨by kernel_rfl, ?hy9b⟩) (by assumption) ?rest9b
        case hy9b => (intro w hSw; (try dsimp only at hSw); go_simp; (try with_reducible rfl))
        try simp only [Act.put, List.setIfInBounds_toArray, List.set_cons_zero, List.set_cons_succ]
        refine wpAnyH_takeL (i := 10) (v := ?v10b) rfl (by kernel_rfl) (by kernel_rfl) (by kernel_rfl) (fun _ _ _ h => h) (Or.inl ⟨by kernel_rfl, ?hy10b⟩) (by assumption) ?rest10b
        case hy10b => (intro w hSw; (try dsimp only at hSw); go_simp; (try with_reducible rfl))
        try simp only [Act.put, List.setIfInBounds_toArray, List.set_cons_zero, List.set_cons_succ]
        refine wpAnyH_takeL (i := 11) (v := ?v11b) rfl (by kernel_rfl) (by kernel_rfl) (by kernel_rfl) (fun _ _ _ h => h) (Or.inl ⟨by kernel_rfl, ?hy11b⟩) (by assumption) ?rest11b
        case hy11b => (intro w hSw; (try dsimp only at hSw); go_simp; (try with_reducible rfl))
        try simp only [Act.put, List.setIfInBounds_toArray, List.set_cons_zero, List.set_cons_succ]
        refine wpAnyH_takeL (i := 13) (v := ?v13b) rfl (by kernel_rfl) (by kernel_rfl) (by kernel_rfl) (fun _ _ _ h => h) (Or.inl ⟨by kernel_rfl, ?hy13b⟩) (by assumption) ?rest13b
        case hy13b => (intro w hSw; (try dsimp only at hSw); go_simp; (try with_reducible rfl))
        try simp only [Act.put, List.setIfInBounds_toArray, List.set_cons_zero, List.set_cons_succ]
        refine wpAnyH_takeL (i := 14) (v := ?v14b) rfl (by kernel_rfl) (by kernel_rfl) (by kernel_rfl) (fun _ _ _ h => h) (Or.inl ⟨by kernel_rfl, ?hy14b⟩) (by assumption) ?rest14b
        case hy14b => (intro w hSw; (try dsimp only at hSw); go_simp; (try with_reducible rfl))
        try simp only [Act.put, List.setIfInBounds_toArray, List.set_cons_zero, List.set_cons_succ]
        refine wpAnyH_takeL (i := 15) (v := ?v15b) rfl (by kernel_rfl) (by kernel_rfl) (by kernel_rfl) (fun _ _ _ h => h) (Or.inl ⟨by kernel_rfl, ?hy15b⟩) (by assumption) ?rest15b
        case hy15b => (intro w hSw; (try dsimp only at hSw); go_simp; (try with_reducible rfl))
        try simp only [Act.put, List.setIfInBounds_toArray, List.set_cons_zero, List.set_cons_succ]
        refine wpAnyH_ready (rs := [12]) (by kernel_rfl) (by simp) ?_
        refine AllReadyH.consL rfl (fun Kx hKx => ?_) AllReadyH.nil
        go_simp
        refine Calls.mono (hval.out _ ob2.out.kp.drew) ?_
        rintro e w4 ⟨rfl, k4⟩
        have kW4 := ((Kp.refl W).drew).trans k4
        refine hKx.out _ _ (ten3.out _ kW4) (fun hHeld => ?_)
        clear hKx
        try simp only [Act.put, List.setIfInBounds_toArray, List.set_cons_zero, List.set_cons_succ]
        refine wpAnyH_takeL (i := 16) (v := ?v16b) rfl (by kernel_rfl) (by kernel_rfl) (by kernel_rfl) (fun _ _ _ h => h) (Or.inl ⟨by kernel_rfl, ?hy16b⟩) (by assumption) ?rest16b
        case hy16b => (intro w hSw; (try dsimp only at hSw); go_simp; (try with_reducible rfl))
        try simp only [Act.put, List.setIfInBounds_toArray, List.set_cons_zero, List.set_cons_succ]
        refine wpAnyH_takeL (i := 17) (v := ?v17b) rfl (by kernel_rfl) (by kernel_rfl) (by kernel_rfl) (fun _ _ _ h => h) (Or.inl ⟨by kernel_rfl, ?hy17b⟩) (by assumption) ?rest17b
        case hy17b => (intro w hSw; (try dsimp only at hSw); go_simp; (try with_reducible rfl))
        try simp only [Act.put, List.setIfInBounds_toArray, List.set_cons_zero, List.set_cons_succ]
        refine wpAnyH_done (by kernel_rfl) (hQ0.out _ _ ?_) _
        have hX : Aside (IntKind.u32.wrap (adr + IntKind.u32.wrap rd) = relVal os i o r ∧ U (IntKind.u32.wrap (adr + IntKind.u32.wrap rd))) := ⟨by
          rw [hrv.out, IntKind.wrap_u32, IntKind.wrap_u32]
          have := hrd.out
          constructor
          · omega
          · constructor <;> omega⟩
        generalize IntKind.u32.wrap (adr + IntKind.u32.wrap rd) = X at *
        replace hcut := trivial
        have ob4 := Aside.mk (ob2.out.go kW4)
        have bq4 := Aside.mk (bq2.out.kp kW4)
        replace ten3 := Aside.mk (fun V (hV : Kp w4 V) => ten3.out V (kW4.trans hV))
        have hsz4 := kW4.size
        have br4 := Aside.mk (br.out.kp kW4)
        clear ob2 bq2 hval k4 hHeld y0 y1 br lg3 hu
        obtain ⟨x1, x2, x3, x4, xs0, xs1, xs2, xs3, xs4⟩ := ten3.out w4 (Kp.refl w4)
        clear x1 x2 x3 x4
        by_cases hs2 : rs = 2
        · subst hs2
          have hlo : ra + 4 ≤ o.data.length := by
            rcases hro.out.2 with ⟨_, _, _, _, h5⟩ | ⟨h1, _⟩
            · have := hra.out; omega
            · have := hrs.out; omega
          have hDl := rs.out.dl
          have hne : D1 ≠ [] := by rintro rfl; simp at hDl; omega
          obtain rfl := hDA.out (by intro e; rw [e] at hlo; simp at hlo)
          have z0 : (0 : Int) ≤ (ra : Int) := by omega
          have z1 : (ra : Int) ≤ (o.data.length : Int) := by omega
          go_upto_region 7 with fail
          refine wp_hide (fun Q0 hQ0 => ?_)
          refine wp_region_held_drew (S := fun V => V.cell? ⟨RB, 1, none⟩ = some (.int .i64 ra)) (by kernel_rfl) ?hS0c (fun hHeld => ?_)
          case hS0c => exact (show _ from xs1)
          refine wpAnyH_takeL (i := 0) (v := ?v0c) rfl (by kernel_rfl) (by kernel_rfl) (by kernel_rfl) (fun _ _ _ h => h) (Or.inl ⟨by kernel_rfl, ?hy0c⟩) (by assumption) ?rest0c
          case hy0c => (intro w hSw; (try dsimp only at hSw); go_simp; (try with_reducible rfl))
          try simp only [Act.put, List.setIfInBounds_toArray, List.set_cons_zero, List.set_cons_succ]
          refine wpAnyH_takeL (i := 1) (v := ?v1c) rfl (by kernel_rfl) (by kernel_rfl) (by kernel_rfl) (fun _ _ _ h => h) (Or.inl ⟨by kernel_rfl, ?hy1c⟩) (by assumption) ?rest1c
          case hy1c => (intro w hSw; (try dsimp only at hSw); go_simp; (try with_reducible rfl))
          try simp only [Act.put, List.setIfInBounds_toArray, List.set_cons_zero, List.set_cons_succ]
          refine wpAnyH_takeL (i := 2) (v := ?v2c) rfl (by kernel_rfl) (by kernel_rfl) (by kernel_rfl) (fun _ _ _ h => h) (Or.inl ⟨by kernel_rfl, ?hy2c⟩) (by assumption) ?rest2c
          case hy2c => (intro w hSw; (try dsimp only at hSw); go_simp; (try with_reducible rfl))
          try simp only [Act.put, List.setIfInBounds_toArray, List.set_cons_zero, List.set_cons_succ]
          refine wpAnyH_takeL (i := 3) (v := ?v3c) rfl (by kernel_rfl) (by kernel_rfl) (by kernel_rfl) (fun _ _ _ h => h) (Or.inl ⟨by kernel_rfl, ?hy3c⟩) (by assumption) ?rest3c
          case hy3c => (intro w hSw; (try dsimp only at hSw); go_simp; (try with_reducible rfl))
          try simp only [Act.put, List.setIfInBounds_toArray, List.set_cons_zero, List.set_cons_succ]
          refine wpAnyH_takeL (i := 4) (v := ?v4c) rfl (by kernel_rfl) (by kernel_rfl) (by kernel_rfl) (fun _ _ _ h => h) (Or.inl ⟨by kernel_rfl, ?hy4c⟩) (by assumption) ?rest4c
          case hy4c => (intro w hSw; (try dsimp only at hSw); go_simp; (try with_reducible rfl))
          try simp only [Act.put, List.setIfInBounds_toArray, List.set_cons_zero, List.set_cons_succ]
          refine wpAnyH_ready (rs := [5]) (by kernel_rfl) (by simp) ?_
          refine AllReadyH.consL rfl (fun Kx hKx => ?_) AllReadyH.nil
          go_simp
          refine Calls.mono (lbytes_calls X hX.out.2 _) ?_
          rintro e w5 ⟨rfl, k5, bb⟩
          obtain ⟨tail, hrow⟩ := ((ob4.out.go (Kp.refl _).drew).go k5).dat hne
          refine hKx.out _ _ (show _ from (ten3.out _ ((Kp.refl w4).drew.trans k5)).2.2.2.2.2.1) (fun hHeld => ?_)
          clear hKx
          try simp only [Act.put, List.setIfInBounds_toArray, List.set_cons_zero, List.set_cons_succ]
          refine wpAnyH_ready (rs := [6]) (by kernel_rfl) (by simp) ?_
          refine AllReadyH.consL rfl (fun Kx hKx => ?_) AllReadyH.nil
          refine step_put rfl (.tmp 65) (.tmp 67) rfl _ _ _ _ 4 4 rfl rfl DG ra D1 (bytesL [X]) tail hrow rfl (by omega) (by omega) (fun _ => if_neg (by omega)) (fun _ => ⟨_, rfl, [], by rw [List.append_nil]; exact bb⟩) ?_
          intro w6 hg6 hm6
          have hRl : RB < w5.heap.size := Nat.lt_of_lt_of_le br4.out.lt (Nat.le_trans (Kp.refl w4).drew.size k5.size)
          have hRn : RB ≠ DG := by have := hRB.out.2.2.2 hne; omega
          refine hKx.out _ _ (show _ from (World.cell?_of_block (hm6.block RB hRl hRn)).trans hHeld) (fun hHeld => ?_)
          clear hKx
          try simp only [Act.put, List.setIfInBounds_toArray, List.set_cons_zero, List.set_cons_succ]
          refine wpAnyH_done (by kernel_rfl) (hQ0.out _ _ ?_) _
          have hQl : Q < w5.heap.size := Nat.lt_of_lt_of_le bq4.out.lt (Nat.le_trans (Kp.refl w4).drew.size k5.size)
          have ob6 := ((ob4.out.go (Kp.refl _).drew).go k5).onDat hds.out.2.2.2.2.2.2 hTD hds.out.2.1 hm6 ⟨tail, hg6⟩
          have bq6 : Blk w6 Q #[.int .i64 (txtV os i), .int .i64 (datV os i)] 98 := (hm6.block Q hQl hds.out.2.2.2.1.symm).trans ((bq4.out.kp (Kp.refl _).drew).kp k5)
          have rs6 := rs_data rs.out hr.out hrs.out (by rw [hra.out, Int.toNat_natCast]; omega)
          rw [hra.out, Int.toNat_natCast, ← hX.out.1] at rs6
          clear hm6 hg6 hHeld hrow bb k5
          replace ob6 := Aside.mk ob6
          replace bq6 := Aside.mk bq6
          replace rs6 := Aside.mk rs6
          go_wp2_with fail
          go_roundw
          case rel => exact ⟨j + 1, _, _, by omega, by go_num, ob6.out, bq6.out, rs6⟩
          case measure => simp [intOf]; omega
        · have hro2 : rs = 1 ∧ ra < o.text.length ∧ ofW rk (o.text.getD ra 0) := by
            rcases hro.out.2 with ⟨h1, _⟩ | ⟨h1, h2, h3, h4⟩
            · exact absurd (hrs.out.symm.trans h1) hs2
            · have e := hra.out
              rw [e, hrk.out] at h4
              exact ⟨hrs.out.symm.trans h1, by omega, by simpa using h4⟩
          obtain ⟨rfl, hlo, hof⟩ := hro2
          have hTl := rs.out.tl
          have hne : T1 ≠ [] := by rintro rfl; simp at hTl; omega
          obtain rfl := hTA.out (by intro e; rw [e] at hlo; simp at hlo)
          have hsm : T1.getD ra 0 = o.text.getD ra 0 := by
            have := rs.out.sm j r (Nat.le_refl _) hr.out hrs.out
            rw [hra.out] at this
            simpa using this
          have hgx : T1[ra]? = some (o.text.getD ra 0) := by
            rw [← hsm, List.getD_eq_getElem?_getD, List.getElem?_eq_getElem (by omega)]
            rfl
          have hUx := hwf.out.text ra
          have hUp : U (addrV (txtV os i) (datV os i) 1 ra) := adr_p _ _ _ _
          have hpt := Aside.mk (fun W (h : patO rk (o.text.getD ra 0) X (addrV (txtV os i) (datV os i) 1 ra) = some W) (hW : U W) => rs_text hok.out rs.out hr.out hrs.out (W := W) (by rw [hra.out, hrs.out, hrk.out, ← hX.out.1]; simpa using h) hW (by rw [hra.out]; omega))
          have hpf := Aside.mk (fun (h : patO rk (o.text.getD ra 0) X (addrV (txtV os i) (datV os i) 1 ra) = none) => rs_fail rs.out hr.out hrs.out (by rw [hra.out, hrs.out, hrk.out, ← hX.out.1]; simpa using h))
          have hRn : RB ≠ TG := by have := hRB.out.2.2.1 hne; omega
          have hz : (0 : Int) ≤ (ra : Int) ∧ (ra : Int) < (o.text.length : Int) := by omega
          obtain ⟨z0, z1⟩ := hz
          generalize o.text.getD ra 0 = x at *
          generalize hap : addrV (txtV os i) (datV os i) 1 ra = pp at *
          have tx : Aside (∀ V, Kp w4 V → V.cell? ⟨TG, ra, none⟩ = some (.int .u32 x) ∧ V.frozen? ⟨TG, ra, none⟩ = false) := ⟨fun V hV => by
            have hb := (ob4.out.go hV).txt hne
            refine ⟨hb.cell (by rw [List.getElem?_map, hgx]; rfl), ?_⟩
            obtain ⟨tl, ht⟩ := hb
            exact Blk.frozen ht _⟩
          have mkS : Aside (∀ V, Blk V RB #[.int .i64 1, .int .i64 ra, .int .i64 rk, .int .i64 sy, .int .i64 rd] 46 → Blk V Q #[.int .i64 (txtV os i), .int .i64 (datV os i)] 98 → (V.cell? ⟨RB, 0, none⟩ = some (.int .i64 1) ∧ V.cell? ⟨RB, 1, none⟩ = some (.int .i64 ra) ∧ V.cell? ⟨RB, 2, none⟩ = some (.int .i64 rk) ∧ V.cell? ⟨RB, 3, none⟩ = some (.int .i64 sy) ∧ V.cell? ⟨RB, 4, none⟩ = some (.int .i64 rd) ∧ V.cell? ⟨Q, 0, none⟩ = some (.int .i64 (txtV os i)) ∧ V.cell? ⟨Q, 1, none⟩ = some (.int .i64 (datV os i)))) := ⟨fun V h1 h2 => ⟨h1.cell 0, h1.cell 1, h1.cell 2, h1.cell 3, h1.cell 4, h2.cell 0, h2.cell 1⟩⟩
          replace hap := Aside.mk hap
          replace hgx := Aside.mk hgx
          replace hsm := trivial
          replace hof := Aside.mk hof
          go_upto_region 8 with fail
          cases hpo : patO rk x X pp with
          | some Wn =>
            replace hpo := Aside.mk hpo
            have hQn : Q ≠ TG := hds.out.2.2.1.symm
            refine wp_hide (fun Q0 hQ0 => ?_)
            refine wp_region_held_drew (S := fun V => V.cell? ⟨RB, 0, none⟩ = some (.int .i64 1) ∧ V.cell? ⟨RB, 1, none⟩ = some (.int .i64 ra) ∧ V.cell? ⟨RB, 2, none⟩ = some (.int .i64 rk) ∧ V.cell? ⟨RB, 3, none⟩ = some (.int .i64 sy) ∧ V.cell? ⟨RB, 4, none⟩ = some (.int .i64 rd) ∧ V.cell? ⟨Q, 0, none⟩ = some (.int .i64 (txtV os i)) ∧ V.cell? ⟨Q, 1, none⟩ = some (.int .i64 (datV os i))) (by kernel_rfl) ?hS0d (fun hHeld => ?_)
            case hS0d => exact (show _ from mkS.out w4 br4.out bq4.out)
            refine wpAnyH_takeL (i := 0) (v := ?v0d) rfl (by kernel_rfl) (by kernel_rfl) (by kernel_rfl) (fun _ _ _ h => h) (Or.inl ⟨by kernel_rfl, ?hy0d⟩) (by assumption) ?rest0d
            case hy0d => (intro w hSw; (try dsimp only at hSw); go_simp; (try with_reducible rfl))
            try simp only [Act.put, List.setIfInBounds_toArray, List.set_cons_zero, List.set_cons_succ]
            refine wpAnyH_takeL (i := 1) (v := ?v1d) rfl (by kernel_rfl) (by kernel_rfl) (by kernel_rfl) (fun _ _ _ h => h) (Or.inl ⟨by kernel_rfl, ?hy1d⟩) (by assumption) ?rest1d
            case hy1d => (intro w hSw; (try dsimp only at hSw); go_simp; (try with_reducible rfl))
            try simp only [Act.put, List.setIfInBounds_toArray, List.set_cons_zero, List.set_cons_succ]
            refine wpAnyH_takeL (i := 2) (v := ?v2d) rfl (by kernel_rfl) (by kernel_rfl) (by kernel_rfl) (fun _ _ _ h => h) (Or.inl ⟨by kernel_rfl, ?hy2d⟩) (by assumption) ?rest2d
            case hy2d => (intro w hSw; (try dsimp only at hSw); go_simp; (try with_reducible rfl))
            try simp only [Act.put, List.setIfInBounds_toArray, List.set_cons_zero, List.set_cons_succ]
            refine wpAnyH_takeL (i := 3) (v := ?v3d) rfl (by kernel_rfl) (by kernel_rfl) (by kernel_rfl) (fun _ _ _ h => h) (Or.inl ⟨by kernel_rfl, ?hy3d⟩) (by assumption) ?rest3d
            case hy3d => (intro w hSw; (try dsimp only at hSw); go_simp; (try with_reducible rfl))
            try simp only [Act.put, List.setIfInBounds_toArray, List.set_cons_zero, List.set_cons_succ]
            refine wpAnyH_takeL (i := 4) (v := ?v4d) rfl (by kernel_rfl) (by kernel_rfl) (by kernel_rfl) (fun _ _ _ h => h) (Or.inl ⟨by kernel_rfl, ?hy4d⟩) (by assumption) ?rest4d
            case hy4d => (intro w hSw; (try dsimp only at hSw); go_simp; (try with_reducible rfl))
            try simp only [Act.put, List.setIfInBounds_toArray, List.set_cons_zero, List.set_cons_succ]
            refine wpAnyH_takeL (i := 5) (v := ?v5d) rfl (by kernel_rfl) (by kernel_rfl) (by kernel_rfl) (fun _ _ _ h => h) (Or.inl ⟨by kernel_rfl, ?hy5d⟩) (by assumption) ?rest5d
            case hy5d => (intro w hSw; (try dsimp only at hSw); go_simp; (try with_reducible rfl))
            try simp only [Act.put, List.setIfInBounds_toArray, List.set_cons_zero, List.set_cons_succ]
            refine wpAnyH_takeL (i := 6) (v := ?v6d) rfl (by kernel_rfl) (by kernel_rfl) (by kernel_rfl) (fun _ _ _ h => h) (Or.inl ⟨by kernel_rfl, ?hy6d⟩) (by assumption) ?rest6d
            case hy6d => (intro w hSw; (try dsimp only at hSw); go_simp; (try with_reducible rfl))
            try simp only [Act.put, List.setIfInBounds_toArray, List.set_cons_zero, List.set_cons_succ]
            refine wpAnyH_takeL (i := 7) (v := ?v7d) rfl (by kernel_rfl) (by kernel_rfl) (by kernel_rfl) (fun _ _ _ h => h) (Or.inl ⟨by kernel_rfl, ?hy7d⟩) (by assumption) ?rest7d
            case hy7d => (intro w hSw; (try dsimp only at hSw); go_simp; (try with_reducible rfl))
            try simp only [Act.put, List.setIfInBounds_toArray, List.set_cons_zero, List.set_cons_succ]
            refine wpAnyH_takeL (i := 8) (v := ?v8d) rfl (by kernel_rfl) (by kernel_rfl) (by kernel_rfl) (fun _ _ _ h => h) (Or.inl ⟨by kernel_rfl, ?hy8d⟩) (by assumption) ?rest8d
            case hy8d => (intro w hSw; (try dsimp only at hSw); go_simp; (try with_reducible rfl))
            try simp only [Act.put, List.setIfInBounds_toArray, List.set_cons_zero, List.set_cons_succ]
            refine wpAnyH_takeL (i := 10) (v := ?v10d) rfl (by kernel_rfl) (by kernel_rfl) (by kernel_rfl) (fun _ _ _ h => h) (Or.inl ⟨by kernel_rfl, ?hy10d⟩) (by assumption) ?rest10d
            case hy10d => (intro w hSw; (try dsimp only at hSw); go_simp; (try with_reducible rfl))
            try simp only [Act.put, List.setIfInBounds_toArray, List.set_cons_zero, List.set_cons_succ]
            refine wpAnyH_takeL (i := 11) (v := ?v11d) rfl (by kernel_rfl) (by kernel_rfl) (by kernel_rfl) (fun _ _ _ h => h) (Or.inl ⟨by kernel_rfl, ?hy11d⟩) (by assumption) ?rest11d
            case hy11d => (intro w hSw; (try dsimp only at hSw); go_simp; (try with_reducible rfl))
            try simp only [Act.put, List.setIfInBounds_toArray, List.set_cons_zero, List.set_cons_succ]
            refine wpAnyH_takeL (i := 12) (v := ?v12d) rfl (by kernel_rfl) (by kernel_rfl) (by kernel_rfl) (fun _ _ _ h => h) (Or.inl ⟨by kernel_rfl, ?hy12d⟩) (by assumption) ?rest12d
            case hy12d => (intro w hSw; (try dsimp only at hSw); go_simp; (try with_reducible rfl))
            try simp only [Act.put, List.setIfInBounds_toArray, List.set_cons_zero, List.set_cons_succ]
            refine wpAnyH_ready (rs := [9, 13]) (by kernel_rfl) (by simp) ?_
            refine AllReadyH.consL rfl (fun Kx hKx => ?_) (AllReadyH.consL rfl (fun Kx hKx => ?_) AllReadyH.nil)
            first | have c9 := (tx.out w5 kp5).1 | have c9 := (tx.out w4.drew (Kp.refl w4).drew).1
            go_simp
            refine hKx.out _ _ (by first | exact hHeld | assumption) (fun hHeld => ?_)
            clear hKx
            try simp only [Act.put, List.setIfInBounds_toArray, List.set_cons_zero, List.set_cons_succ]
            refine wpAnyH_ready (rs := [13]) (by kernel_rfl) (by simp) ?_
            refine AllReadyH.consL rfl (fun Kx hKx => ?_) AllReadyH.nil
            go_simp
            refine Calls.mono (Where_calls (txtV os i) (datV os i) 1 ra rk sy rd _) ?_
            rintro e w5 ⟨he, k5⟩
            rw [hap.out] at he
            subst he
            have kp5 : Kp w4 w5 := (Kp.refl w4).drew.trans k5
            refine hKx.out _ _ (mkS.out _ (br4.out.kp kp5) (bq4.out.kp kp5)) (fun hHeld => ?_)
            clear hKx
            try simp only [Act.put, List.setIfInBounds_toArray, List.set_cons_zero, List.set_cons_succ]
            refine wpAnyH_ready (rs := [14]) (by kernel_rfl) (by simp) ?_
            refine AllReadyH.consL rfl (fun Kx hKx => ?_) AllReadyH.nil
            go_simp
            refine Calls.mono (Patch_calls rk x X pp hUx hX.out.2 hUp _) ?_
            rintro e w6 ⟨W6, E6, rfl, hp, k6⟩
            have kp6 := kp5.trans k6
            have hE6 : E6 = 0 := (pat_far hof.out hp).elim (fun h => h) (fun h => absurd (patO_none hp (by omega)) (by rw [hpo.out]; simp))
            subst hE6
            have hW6 : Wn = W6 := Option.some.inj (hpo.out.symm.trans (patO_some hp))
            subst hW6
            refine hKx.out _ _ (mkS.out _ (br4.out.kp kp6) (bq4.out.kp kp6)) (fun hHeld => ?_)
            clear hKx
            try simp only [Act.put, List.setIfInBounds_toArray, List.set_cons_zero, List.set_cons_succ]
            refine wpAnyH_takeL (i := 15) (v := ?v15dp) rfl (by kernel_rfl) (by kernel_rfl) (by kernel_rfl) (fun _ _ _ h => h) (Or.inl ⟨by kernel_rfl, ?hy15dp⟩) (by assumption) ?rest15dp
            case hy15dp => (intro w hSw; (try dsimp only at hSw); go_simp; (try with_reducible rfl))
            try simp only [Act.put, List.setIfInBounds_toArray, List.set_cons_zero, List.set_cons_succ]
            refine wpAnyH_takeL (i := 16) (v := ?v16dp) rfl (by kernel_rfl) (by kernel_rfl) (by kernel_rfl) (fun _ _ _ h => h) (Or.inl ⟨by kernel_rfl, ?hy16dp⟩) (by assumption) ?rest16dp
            case hy16dp => (intro w hSw; (try dsimp only at hSw); go_simp; (try with_reducible rfl))
            try simp only [Act.put, List.setIfInBounds_toArray, List.set_cons_zero, List.set_cons_succ]
            refine wpAnyH_ready (rs := [17]) (by kernel_rfl) (by simp) ?_
            refine AllReadyH.consL rfl (fun Kx hKx => ?_) AllReadyH.nil
            go_simp
            refine Calls.mono (must_ok Wn _) ?_
            rintro e w7 ⟨rfl, rfl⟩
            refine hKx.out _ _ (mkS.out _ (br4.out.kp kp6) (bq4.out.kp kp6)) (fun hHeld => ?_)
            clear hKx
            try simp only [Act.put, List.setIfInBounds_toArray, List.set_cons_zero, List.set_cons_succ]
            refine wpAnyH_takeL (i := 18) (v := ?v18dp) rfl (by kernel_rfl) (by kernel_rfl) (by kernel_rfl) (fun _ _ _ h => h) (Or.inl ⟨by kernel_rfl, ?hy18dp⟩) (by assumption) ?rest18dp
            case hy18dp => (intro w hSw; (try dsimp only at hSw); go_simp; (try with_reducible rfl))
            try simp only [Act.put, List.setIfInBounds_toArray, List.set_cons_zero, List.set_cons_succ]
            refine wpAnyH_ready (rs := [19]) (by kernel_rfl) (by simp) ?_
            refine AllReadyH.consL rfl (fun Kx hKx => ?_) AllReadyH.nil
            obtain ⟨c6, f6⟩ := tx.out w6 kp6
            go_simp
            refine hKx.out _ _ (mkS.out _ ((br4.out.kp kp6).far hRn _) ((bq4.out.kp kp6).far hQn _)) (fun hHeld => ?_)
            clear hKx
            try simp only [Act.put, List.setIfInBounds_toArray, List.set_cons_zero, List.set_cons_succ]
            refine wpAnyH_done (by kernel_rfl) (hQ0.out _ _ ?_) _
            rotate_left 1
            go_simp
            refine Calls.mono (Where_calls (txtV os i) (datV os i) 1 ra rk sy rd _) ?_
            rintro e w5 ⟨he, k5⟩
            rw [hap.out] at he
            subst he
            have kp5 : Kp w4 w5 := (Kp.refl w4).drew.trans k5
            refine hKx.out _ _ (mkS.out _ (br4.out.kp kp5) (bq4.out.kp kp5)) (fun hHeld => ?_)
            clear hKx
            try simp only [Act.put, List.setIfInBounds_toArray, List.set_cons_zero, List.set_cons_succ]
            refine wpAnyH_ready (rs := [9]) (by kernel_rfl) (by simp) ?_
            refine AllReadyH.consL rfl (fun Kx hKx => ?_) AllReadyH.nil
            first | have c9 := (tx.out w5 kp5).1 | have c9 := (tx.out w4.drew (Kp.refl w4).drew).1
            go_simp
            refine hKx.out _ _ (by first | exact hHeld | assumption) (fun hHeld => ?_)
            clear hKx
            try simp only [Act.put, List.setIfInBounds_toArray, List.set_cons_zero, List.set_cons_succ]
            refine wpAnyH_ready (rs := [14]) (by kernel_rfl) (by simp) ?_
            refine AllReadyH.consL rfl (fun Kx hKx => ?_) AllReadyH.nil
            go_simp
            refine Calls.mono (Patch_calls rk x X pp hUx hX.out.2 hUp _) ?_
            rintro e w6 ⟨W6, E6, rfl, hp, k6⟩
            have kp6 := kp5.trans k6
            have hE6 : E6 = 0 := (pat_far hof.out hp).elim (fun h => h) (fun h => absurd (patO_none hp (by omega)) (by rw [hpo.out]; simp))
            subst hE6
            have hW6 : Wn = W6 := Option.some.inj (hpo.out.symm.trans (patO_some hp))
            subst hW6
            refine hKx.out _ _ (mkS.out _ (br4.out.kp kp6) (bq4.out.kp kp6)) (fun hHeld => ?_)
            clear hKx
            try simp only [Act.put, List.setIfInBounds_toArray, List.set_cons_zero, List.set_cons_succ]
            refine wpAnyH_takeL (i := 15) (v := ?v15dq) rfl (by kernel_rfl) (by kernel_rfl) (by kernel_rfl) (fun _ _ _ h => h) (Or.inl ⟨by kernel_rfl, ?hy15dq⟩) (by assumption) ?rest15dq
            case hy15dq => (intro w hSw; (try dsimp only at hSw); go_simp; (try with_reducible rfl))
            try simp only [Act.put, List.setIfInBounds_toArray, List.set_cons_zero, List.set_cons_succ]
            refine wpAnyH_takeL (i := 16) (v := ?v16dq) rfl (by kernel_rfl) (by kernel_rfl) (by kernel_rfl) (fun _ _ _ h => h) (Or.inl ⟨by kernel_rfl, ?hy16dq⟩) (by assumption) ?rest16dq
            case hy16dq => (intro w hSw; (try dsimp only at hSw); go_simp; (try with_reducible rfl))
            try simp only [Act.put, List.setIfInBounds_toArray, List.set_cons_zero, List.set_cons_succ]
            refine wpAnyH_ready (rs := [17]) (by kernel_rfl) (by simp) ?_
            refine AllReadyH.consL rfl (fun Kx hKx => ?_) AllReadyH.nil
            go_simp
            refine Calls.mono (must_ok Wn _) ?_
            rintro e w7 ⟨rfl, rfl⟩
            refine hKx.out _ _ (mkS.out _ (br4.out.kp kp6) (bq4.out.kp kp6)) (fun hHeld => ?_)
            clear hKx
            try simp only [Act.put, List.setIfInBounds_toArray, List.set_cons_zero, List.set_cons_succ]
            refine wpAnyH_takeL (i := 18) (v := ?v18dq) rfl (by kernel_rfl) (by kernel_rfl) (by kernel_rfl) (fun _ _ _ h => h) (Or.inl ⟨by kernel_rfl, ?hy18dq⟩) (by assumption) ?rest18dq
            case hy18dq => (intro w hSw; (try dsimp only at hSw); go_simp; (try with_reducible rfl))
            try simp only [Act.put, List.setIfInBounds_toArray, List.set_cons_zero, List.set_cons_succ]
            refine wpAnyH_ready (rs := [19]) (by kernel_rfl) (by simp) ?_
            refine AllReadyH.consL rfl (fun Kx hKx => ?_) AllReadyH.nil
            obtain ⟨c6, f6⟩ := tx.out w6 kp6
            go_simp
            refine hKx.out _ _ (mkS.out _ ((br4.out.kp kp6).far hRn _) ((bq4.out.kp kp6).far hQn _)) (fun hHeld => ?_)
            clear hKx
            try simp only [Act.put, List.setIfInBounds_toArray, List.set_cons_zero, List.set_cons_succ]
            refine wpAnyH_done (by kernel_rfl) (hQ0.out _ _ ?_) _
            rotate_left 1
            all_goals
              have ob6 := Aside.mk ((ob4.out.go kp6).onTxt hds.out.2.2.2.2.2.1 hTD hds.out.1 (j := ra) (by omega) Wn)
              have bq6 := Aside.mk ((bq4.out.kp kp6).far (i := ra) hQn (.int .u32 Wn))
              have rs6 := Aside.mk (hpt.out _ hpo.out (pat_range hX.out.2 hp))
              rw [hra.out, Int.toNat_natCast] at rs6
              clear hHeld hp
              go_wp2_with fail
              go_roundw
              case rel => exact ⟨j + 1, _, _, by omega, by go_num, ob6.out, bq6.out, rs6⟩
              case measure => simp [intOf]; omega
          | none =>
            replace hpo := Aside.mk hpo
            refine wp_region_held_drew (S := fun V => V.cell? ⟨RB, 0, none⟩ = some (.int .i64 1) ∧ V.cell? ⟨RB, 1, none⟩ = some (.int .i64 ra) ∧ V.cell? ⟨RB, 2, none⟩ = some (.int .i64 rk) ∧ V.cell? ⟨RB, 3, none⟩ = some (.int .i64 sy) ∧ V.cell? ⟨RB, 4, none⟩ = some (.int .i64 rd) ∧ V.cell? ⟨Q, 0, none⟩ = some (.int .i64 (txtV os i)) ∧ V.cell? ⟨Q, 1, none⟩ = some (.int .i64 (datV os i))) (by kernel_rfl) ?hS0e (fun hHeld => ?_)
            case hS0e => exact (show _ from mkS.out w4 br4.out bq4.out)
            refine wpAnyH_takeL (i := 0) (v := ?v0e) rfl (by kernel_rfl) (by kernel_rfl) (by kernel_rfl) (fun _ _ _ h => h) (Or.inl ⟨by kernel_rfl, ?hy0e⟩) (by assumption) ?rest0e
            case hy0e => (intro w hSw; (try dsimp only at hSw); go_simp; (try with_reducible rfl))
            try simp only [Act.put, List.setIfInBounds_toArray, List.set_cons_zero, List.set_cons_succ]
            refine wpAnyH_takeL (i := 1) (v := ?v1e) rfl (by kernel_rfl) (by kernel_rfl) (by kernel_rfl) (fun _ _ _ h => h) (Or.inl ⟨by kernel_rfl, ?hy1e⟩) (by assumption) ?rest1e
            case hy1e => (intro w hSw; (try dsimp only at hSw); go_simp; (try with_reducible rfl))
            try simp only [Act.put, List.setIfInBounds_toArray, List.set_cons_zero, List.set_cons_succ]
            refine wpAnyH_takeL (i := 2) (v := ?v2e) rfl (by kernel_rfl) (by kernel_rfl) (by kernel_rfl) (fun _ _ _ h => h) (Or.inl ⟨by kernel_rfl, ?hy2e⟩) (by assumption) ?rest2e
            case hy2e => (intro w hSw; (try dsimp only at hSw); go_simp; (try with_reducible rfl))
            try simp only [Act.put, List.setIfInBounds_toArray, List.set_cons_zero, List.set_cons_succ]
            refine wpAnyH_takeL (i := 3) (v := ?v3e) rfl (by kernel_rfl) (by kernel_rfl) (by kernel_rfl) (fun _ _ _ h => h) (Or.inl ⟨by kernel_rfl, ?hy3e⟩) (by assumption) ?rest3e
            case hy3e => (intro w hSw; (try dsimp only at hSw); go_simp; (try with_reducible rfl))
            try simp only [Act.put, List.setIfInBounds_toArray, List.set_cons_zero, List.set_cons_succ]
            refine wpAnyH_takeL (i := 4) (v := ?v4e) rfl (by kernel_rfl) (by kernel_rfl) (by kernel_rfl) (fun _ _ _ h => h) (Or.inl ⟨by kernel_rfl, ?hy4e⟩) (by assumption) ?rest4e
            case hy4e => (intro w hSw; (try dsimp only at hSw); go_simp; (try with_reducible rfl))
            try simp only [Act.put, List.setIfInBounds_toArray, List.set_cons_zero, List.set_cons_succ]
            refine wpAnyH_takeL (i := 5) (v := ?v5e) rfl (by kernel_rfl) (by kernel_rfl) (by kernel_rfl) (fun _ _ _ h => h) (Or.inl ⟨by kernel_rfl, ?hy5e⟩) (by assumption) ?rest5e
            case hy5e => (intro w hSw; (try dsimp only at hSw); go_simp; (try with_reducible rfl))
            try simp only [Act.put, List.setIfInBounds_toArray, List.set_cons_zero, List.set_cons_succ]
            refine wpAnyH_takeL (i := 6) (v := ?v6e) rfl (by kernel_rfl) (by kernel_rfl) (by kernel_rfl) (fun _ _ _ h => h) (Or.inl ⟨by kernel_rfl, ?hy6e⟩) (by assumption) ?rest6e
            case hy6e => (intro w hSw; (try dsimp only at hSw); go_simp; (try with_reducible rfl))
            try simp only [Act.put, List.setIfInBounds_toArray, List.set_cons_zero, List.set_cons_succ]
            refine wpAnyH_takeL (i := 7) (v := ?v7e) rfl (by kernel_rfl) (by kernel_rfl) (by kernel_rfl) (fun _ _ _ h => h) (Or.inl ⟨by kernel_rfl, ?hy7e⟩) (by assumption) ?rest7e
            case hy7e => (intro w hSw; (try dsimp only at hSw); go_simp; (try with_reducible rfl))
            try simp only [Act.put, List.setIfInBounds_toArray, List.set_cons_zero, List.set_cons_succ]
            refine wpAnyH_takeL (i := 8) (v := ?v8e) rfl (by kernel_rfl) (by kernel_rfl) (by kernel_rfl) (fun _ _ _ h => h) (Or.inl ⟨by kernel_rfl, ?hy8e⟩) (by assumption) ?rest8e
            case hy8e => (intro w hSw; (try dsimp only at hSw); go_simp; (try with_reducible rfl))
            try simp only [Act.put, List.setIfInBounds_toArray, List.set_cons_zero, List.set_cons_succ]
            refine wpAnyH_takeL (i := 10) (v := ?v10e) rfl (by kernel_rfl) (by kernel_rfl) (by kernel_rfl) (fun _ _ _ h => h) (Or.inl ⟨by kernel_rfl, ?hy10e⟩) (by assumption) ?rest10e
            case hy10e => (intro w hSw; (try dsimp only at hSw); go_simp; (try with_reducible rfl))
            try simp only [Act.put, List.setIfInBounds_toArray, List.set_cons_zero, List.set_cons_succ]
            refine wpAnyH_takeL (i := 11) (v := ?v11e) rfl (by kernel_rfl) (by kernel_rfl) (by kernel_rfl) (fun _ _ _ h => h) (Or.inl ⟨by kernel_rfl, ?hy11e⟩) (by assumption) ?rest11e
            case hy11e => (intro w hSw; (try dsimp only at hSw); go_simp; (try with_reducible rfl))
            try simp only [Act.put, List.setIfInBounds_toArray, List.set_cons_zero, List.set_cons_succ]
            refine wpAnyH_takeL (i := 12) (v := ?v12e) rfl (by kernel_rfl) (by kernel_rfl) (by kernel_rfl) (fun _ _ _ h => h) (Or.inl ⟨by kernel_rfl, ?hy12e⟩) (by assumption) ?rest12e
            case hy12e => (intro w hSw; (try dsimp only at hSw); go_simp; (try with_reducible rfl))
            try simp only [Act.put, List.setIfInBounds_toArray, List.set_cons_zero, List.set_cons_succ]
            refine wpAnyH_ready (rs := [9, 13]) (by kernel_rfl) (by simp) ?_
            refine AllReadyH.consL rfl (fun Kx hKx => ?_) (AllReadyH.consL rfl (fun Kx hKx => ?_) AllReadyH.nil)
            first | have c9 := (tx.out w5 kp5).1 | have c9 := (tx.out w4.drew (Kp.refl w4).drew).1
            go_simp
            refine hKx.out _ _ (by first | exact hHeld | assumption) (fun hHeld => ?_)
            clear hKx
            try simp only [Act.put, List.setIfInBounds_toArray, List.set_cons_zero, List.set_cons_succ]
            refine wpAnyH_ready (rs := [13]) (by kernel_rfl) (by simp) ?_
            refine AllReadyH.consL rfl (fun Kx hKx => ?_) AllReadyH.nil
            go_simp
            refine Calls.mono (Where_calls (txtV os i) (datV os i) 1 ra rk sy rd _) ?_
            rintro e w5 ⟨he, k5⟩
            rw [hap.out] at he
            subst he
            have kp5 : Kp w4 w5 := (Kp.refl w4).drew.trans k5
            refine hKx.out _ _ (mkS.out _ (br4.out.kp kp5) (bq4.out.kp kp5)) (fun hHeld => ?_)
            clear hKx
            try simp only [Act.put, List.setIfInBounds_toArray, List.set_cons_zero, List.set_cons_succ]
            refine wpAnyH_ready (rs := [14]) (by kernel_rfl) (by simp) ?_
            refine AllReadyH.consL rfl (fun Kx hKx => ?_) AllReadyH.nil
            go_simp
            refine Calls.mono (Patch_calls rk x X pp hUx hX.out.2 hUp _) ?_
            rintro e w6 ⟨W6, E6, rfl, hp, k6⟩
            have kp6 := kp5.trans k6
            have hE6 : E6 = 7 := (pat_far hof.out hp).elim (fun h => absurd (patO_some (h ▸ hp)) (by rw [hpo.out]; simp)) (fun h => h)
            subst hE6
            refine hKx.out _ _ (mkS.out _ (br4.out.kp kp6) (bq4.out.kp kp6)) (fun hHeld => ?_)
            clear hKx
            try simp only [Act.put, List.setIfInBounds_toArray, List.set_cons_zero, List.set_cons_succ]
            refine wpAnyH_takeL (i := 15) (v := ?v15ep) rfl (by kernel_rfl) (by kernel_rfl) (by kernel_rfl) (fun _ _ _ h => h) (Or.inl ⟨by kernel_rfl, ?hy15ep⟩) (by assumption) ?rest15ep
            case hy15ep => (intro w hSw; (try dsimp only at hSw); go_simp; (try with_reducible rfl))
            try simp only [Act.put, List.setIfInBounds_toArray, List.set_cons_zero, List.set_cons_succ]
            refine wpAnyH_takeL (i := 16) (v := ?v16ep) rfl (by kernel_rfl) (by kernel_rfl) (by kernel_rfl) (fun _ _ _ h => h) (Or.inl ⟨by kernel_rfl, ?hy16ep⟩) (by assumption) ?rest16ep
            case hy16ep => (intro w hSw; (try dsimp only at hSw); go_simp; (try with_reducible rfl))
            try simp only [Act.put, List.setIfInBounds_toArray, List.set_cons_zero, List.set_cons_succ]
            refine wpAnyH_ready (rs := [17]) (by kernel_rfl) (by simp) ?_
            refine AllReadyH.consL rfl (fun Kx hKx => ?_) AllReadyH.nil
            go_simp
            refine Calls.mono (must_no W6 7 (by decide) _) ?_
            rintro e w7 ⟨rfl, rfl⟩
            exact ⟨rfl, ob4.out.kp.trans kp6, Or.inr ⟨by unfold objMem; rw [hpf.out hpo.out]; rfl, rfl⟩⟩
            rotate_left 1
            go_simp
            refine Calls.mono (Where_calls (txtV os i) (datV os i) 1 ra rk sy rd _) ?_
            rintro e w5 ⟨he, k5⟩
            rw [hap.out] at he
            subst he
            have kp5 : Kp w4 w5 := (Kp.refl w4).drew.trans k5
            refine hKx.out _ _ (mkS.out _ (br4.out.kp kp5) (bq4.out.kp kp5)) (fun hHeld => ?_)
            clear hKx
            try simp only [Act.put, List.setIfInBounds_toArray, List.set_cons_zero, List.set_cons_succ]
            refine wpAnyH_ready (rs := [9]) (by kernel_rfl) (by simp) ?_
            refine AllReadyH.consL rfl (fun Kx hKx => ?_) AllReadyH.nil
            first | have c9 := (tx.out w5 kp5).1 | have c9 := (tx.out w4.drew (Kp.refl w4).drew).1
            go_simp
            refine hKx.out _ _ (by first | exact hHeld | assumption) (fun hHeld => ?_)
            clear hKx
            try simp only [Act.put, List.setIfInBounds_toArray, List.set_cons_zero, List.set_cons_succ]
            refine wpAnyH_ready (rs := [14]) (by kernel_rfl) (by simp) ?_
            refine AllReadyH.consL rfl (fun Kx hKx => ?_) AllReadyH.nil
            go_simp
            refine Calls.mono (Patch_calls rk x X pp hUx hX.out.2 hUp _) ?_
            rintro e w6 ⟨W6, E6, rfl, hp, k6⟩
            have kp6 := kp5.trans k6
            have hE6 : E6 = 7 := (pat_far hof.out hp).elim (fun h => absurd (patO_some (h ▸ hp)) (by rw [hpo.out]; simp)) (fun h => h)
            subst hE6
            refine hKx.out _ _ (mkS.out _ (br4.out.kp kp6) (bq4.out.kp kp6)) (fun hHeld => ?_)
            clear hKx
            try simp only [Act.put, List.setIfInBounds_toArray, List.set_cons_zero, List.set_cons_succ]
            refine wpAnyH_takeL (i := 15) (v := ?v15eq) rfl (by kernel_rfl) (by kernel_rfl) (by kernel_rfl) (fun _ _ _ h => h) (Or.inl ⟨by kernel_rfl, ?hy15eq⟩) (by assumption) ?rest15eq
            case hy15eq => (intro w hSw; (try dsimp only at hSw); go_simp; (try with_reducible rfl))
            try simp only [Act.put, List.setIfInBounds_toArray, List.set_cons_zero, List.set_cons_succ]
            refine wpAnyH_takeL (i := 16) (v := ?v16eq) rfl (by kernel_rfl) (by kernel_rfl) (by kernel_rfl) (fun _ _ _ h => h) (Or.inl ⟨by kernel_rfl, ?hy16eq⟩) (by assumption) ?rest16eq
            case hy16eq => (intro w hSw; (try dsimp only at hSw); go_simp; (try with_reducible rfl))
            try simp only [Act.put, List.setIfInBounds_toArray, List.set_cons_zero, List.set_cons_succ]
            refine wpAnyH_ready (rs := [17]) (by kernel_rfl) (by simp) ?_
            refine AllReadyH.consL rfl (fun Kx hKx => ?_) AllReadyH.nil
            go_simp
            refine Calls.mono (must_no W6 7 (by decide) _) ?_
            rintro e w7 ⟨rfl, rfl⟩
            exact ⟨rfl, ob4.out.kp.trans kp6, Or.inr ⟨by unfold objMem; rw [hpf.out hpo.out]; rfl, rfl⟩⟩
            rotate_left 1
      · have hjn : nr = j := by omega
        subst hjn
        have hend := Aside.mk (rs_end rs.out hnr.out)
        have hTl := rs.out.tl
        have hDl := rs.out.dl
        have hTu := Aside.mk rs.out.tu
        clear rs hj
        have hf := hfit.out
        rw [← hl.out] at hf
        have hom : Aside (objMem os i o mem = some (splice (splice mem (txtV os i) (bytesL T1)) (datV os i) D1)) := ⟨by unfold objMem; rw [hend.out]; rfl⟩
        generalize txtV os i = pt at *
        generalize datV os i = pd at *
        generalize hnt : o.text.length = nt at *
        generalize hnd : o.data.length = nd at *
        obtain ⟨hf1, hf2⟩ := hf
        have htext : o.text ≠ [] ↔ 0 < nt := by rw [← hnt]; exact List.length_pos_iff.symm
        replace htext := Aside.mk htext
        have hdata : o.data ≠ [] ↔ 0 < nd := by rw [← hnd]; exact List.length_pos_iff.symm
        replace hdata := Aside.mk hdata
        replace hnt := Aside.mk hnt
        replace hnd := Aside.mk hnd
        go_wp2_with fail
        go_loopw [91] (fun v wr => ∃ k : Nat, k ≤ nt ∧ v = .int .i64 k ∧ Ob w0 wr MB TG DG (splice mem pt (bytesL (T1.take k))) T1 D1 ∧ Blk wr Q #[.int .i64 pt, .int .i64 pd] 98) (fun v _ => nt - (intOf v).toNat)
        case atStart => exact ⟨0, Nat.zero_le _, rfl, by simpa [splice, bytesL] using ob, bq⟩
        case round =>
          obtain ⟨k, hk, rfl, ob', bq'⟩ := hrel
          clear ob bq
          by_cases hlt2 : k < nt
          · obtain rfl := hTA.out (htext.out.2 (by omega))
            have hne : T1 ≠ [] := by rintro rfl; simp at hTl; omega
            have hgk : T1[k]? = some (T1.getD k 0) := by
              rw [List.getD_eq_getElem?_getD, List.getElem?_eq_getElem (by omega)]
              rfl
            have hUk := hTu.out k
            generalize T1.getD k 0 = x at *
            replace hend := trivial
            have ck : wr.cell? ⟨TG, k, none⟩ = some (.int .u32 x) := (ob'.txt hne).cell (by rw [List.getElem?_map, hgk]; rfl)
            have q0 := bq'.cell 0
            have hzT := (ob'.txt hne).lt
            have hzk : (0 : Int) ≤ 4 * (k : Int) ∧ (k : Int) * 4 ≤ 2097152 := by omega
            have hwz : IntKind.i64.wrap (↑pt + IntKind.i64.wrap (4 * ↑k)) = ((pt + 4 * k : Nat) : Int) := wz (by omega) hm2
            have hsl : (splice mem pt (bytesL (T1.take k))).length = m := by rw [splice_len _ _ _ (by rw [bytesL_length, List.length_take]; omega), hm]
            have hfit2 : pt + 4 * T1.length ≤ mem.length := by omega
            have hk4 : pt + 4 * k + 4 ≤ m := by omega
            have hz1 : 0 ≤ IntKind.i64.wrap (↑pt + IntKind.i64.wrap (4 * ↑k)) := by rw [hwz]; omega
            have hz2 : IntKind.i64.wrap (↑pt + IntKind.i64.wrap (4 * ↑k)) ≤ (m : Int) := by rw [hwz]; omega
            replace hwz := Aside.mk hwz
            replace ob' := Aside.mk ob'
            replace bq' := Aside.mk bq'
            go_upto_region 13 with fail
            refine wp_hide (fun Q0 hQ0 => ?_)
            refine wp_region_held_drew (S := fun V => V.cell? ⟨Q, 0, none⟩ = some (.int .i64 pt)) (by kernel_rfl) ?hS0f (fun hHeld => ?_)
            case hS0f => exact (show _ from q0)
            refine wpAnyH_takeL (i := 0) (v := ?v0f) rfl (by kernel_rfl) (by kernel_rfl) (by kernel_rfl) (fun _ _ _ h => h) (Or.inl ⟨by kernel_rfl, ?hy0f⟩) (by assumption) ?rest0f
            case hy0f => (intro w hSw; (try dsimp only at hSw); go_simp; (try with_reducible rfl))
            try simp only [Act.put, List.setIfInBounds_toArray, List.set_cons_zero, List.set_cons_succ]
            refine wpAnyH_takeL (i := 1) (v := ?v1f) rfl (by kernel_rfl) (by kernel_rfl) (by kernel_rfl) (fun _ _ _ h => h) (Or.inl ⟨by kernel_rfl, ?hy1f⟩) (by assumption) ?rest1f
            case hy1f => (intro w hSw; (try dsimp only at hSw); go_simp; (try with_reducible rfl))
            try simp only [Act.put, List.setIfInBounds_toArray, List.set_cons_zero, List.set_cons_succ]
            refine wpAnyH_takeL (i := 2) (v := ?v2f) rfl (by kernel_rfl) (by kernel_rfl) (by kernel_rfl) (fun _ _ _ h => h) (Or.inl ⟨by kernel_rfl, ?hy2f⟩) (by assumption) ?rest2f
            case hy2f => (intro w hSw; (try dsimp only at hSw); go_simp; (try with_reducible rfl))
            try simp only [Act.put, List.setIfInBounds_toArray, List.set_cons_zero, List.set_cons_succ]
            refine wpAnyH_takeL (i := 3) (v := ?v3f) rfl (by kernel_rfl) (by kernel_rfl) (by kernel_rfl) (fun _ _ _ h => h) (Or.inl ⟨by kernel_rfl, ?hy3f⟩) (by assumption) ?rest3f
            case hy3f => (intro w hSw; (try dsimp only at hSw); go_simp; (try with_reducible rfl))
            try simp only [Act.put, List.setIfInBounds_toArray, List.set_cons_zero, List.set_cons_succ]
            refine wpAnyH_takeL (i := 4) (v := ?v4f) rfl (by kernel_rfl) (by kernel_rfl) (by kernel_rfl) (fun _ _ _ h => h) (Or.inl ⟨by kernel_rfl, ?hy4f⟩) (by assumption) ?rest4f
            case hy4f => (intro w hSw; (try dsimp only at hSw); go_simp; (try with_reducible rfl))
            try simp only [Act.put, List.setIfInBounds_toArray, List.set_cons_zero, List.set_cons_succ]
            refine wpAnyH_takeL (i := 5) (v := ?v5f) rfl (by kernel_rfl) (by kernel_rfl) (by kernel_rfl) (fun _ _ _ h => h) (Or.inl ⟨by kernel_rfl, ?hy5f⟩) (by assumption) ?rest5f
            case hy5f => (intro w hSw; (try dsimp only at hSw); go_simp; (try with_reducible rfl))
            try simp only [Act.put, List.setIfInBounds_toArray, List.set_cons_zero, List.set_cons_succ]
            refine wpAnyH_takeL (i := 6) (v := ?v6f) rfl (by kernel_rfl) (by kernel_rfl) (by kernel_rfl) (fun _ _ _ h => h) (Or.inl ⟨by kernel_rfl, ?hy6f⟩) (by assumption) ?rest6f
            case hy6f => (intro w hSw; (try dsimp only at hSw); go_simp; (try with_reducible rfl))
            try simp only [Act.put, List.setIfInBounds_toArray, List.set_cons_zero, List.set_cons_succ]
            refine wpAnyH_takeL (i := 7) (v := ?v7f) rfl (by kernel_rfl) (by kernel_rfl) (by kernel_rfl) (fun _ _ _ h => h) (Or.inl ⟨by kernel_rfl, ?hy7f⟩) (by assumption) ?rest7f
            case hy7f => (intro w hSw; (try dsimp only at hSw); go_simp; (try with_reducible rfl))
            try simp only [Act.put, List.setIfInBounds_toArray, List.set_cons_zero, List.set_cons_succ]
            refine wpAnyH_ready (rs := [8]) (by kernel_rfl) (by simp) ?_
            refine AllReadyH.consL rfl (fun Kx hKx => ?_) AllReadyH.nil
            go_simp
            refine Calls.mono (lbytes_calls x hUk _) ?_
            rintro e w5 ⟨rfl, k5, bb⟩
            have hrow := ((ob'.out.go (Kp.refl _).drew).go k5).mem
            refine hKx.out _ _ (show _ from ((bq'.out.kp (Kp.refl _).drew).kp k5).cell 0) (fun hHeld => ?_)
            clear hKx
            try simp only [Act.put, List.setIfInBounds_toArray, List.set_cons_zero, List.set_cons_succ]
            refine wpAnyH_ready (rs := [9]) (by kernel_rfl) (by simp) ?_
            refine AllReadyH.consL rfl (fun Kx hKx => ?_) AllReadyH.nil
            refine step_put rfl (.tmp 102) (.tmp 104) rfl _ _ _ _ 4 4 rfl rfl MB (pt + 4 * k) (splice mem pt (bytesL (T1.take k))) (bytesL [x]) [] (by rw [List.append_nil]; exact hrow) rfl (by rw [hwz.out, Int.toNat_natCast]; omega) (by rw [hsl]; exact hk4) (fun _ => by rw [hwz.out, Int.toNat_natCast, if_neg (by omega)]) (fun _ => ⟨_, rfl, [], by rw [List.append_nil]; exact bb⟩) ?_
            intro w6 hg6 hm6
            rw [List.append_nil, lwords_snoc mem T1 pt k hgk hfit2] at hg6
            have hQl : Q < w5.heap.size := Nat.lt_of_lt_of_le bq'.out.lt (Nat.le_trans (Kp.refl wr).drew.size k5.size)
            refine hKx.out _ _ (show _ from (World.cell?_of_block (hm6.block Q hQl hds.out.2.2.2.2.1.symm)).trans hHeld) (fun hHeld => ?_)
            clear hKx
            try simp only [Act.put, List.setIfInBounds_toArray, List.set_cons_zero, List.set_cons_succ]
            refine wpAnyH_done (by kernel_rfl) (hQ0.out _ _ ?_) _
            have ob6 := Aside.mk (((ob'.out.go (Kp.refl _).drew).go k5).onMem hM hds.out.1 hds.out.2.1 hm6 hg6)
            have bq6 : Aside (Blk w6 Q #[.int .i64 pt, .int .i64 pd] 98) := ⟨(hm6.block Q hQl hds.out.2.2.2.2.1.symm).trans ((bq'.out.kp (Kp.refl _).drew).kp k5)⟩
            clear hm6 hg6 hHeld hrow bb k5
            go_wp2_with fail
            go_roundw
            case rel => exact ⟨k + 1, by omega, by go_num, ob6.out, bq6.out⟩
            case measure => simp [intOf]; omega
          · have hkn : nt = k := by omega
            subst hkn
            rw [List.take_of_length_le (by omega)] at ob'
            have q1 := bq'.cell 1
            have zd0 : (0 : Int) ≤ (pd : Int) := by omega
            have zd1 : (pd : Int) ≤ (m : Int) := by omega
            have hsl : (splice mem pt (bytesL T1)).length = m := by rw [splice_len _ _ _ (by rw [bytesL_length]; omega), hm]
            have hmb := ob'.mem
            have hdat := Aside.mk ob'.dat
            have okp := Aside.mk ob'.kp
            clear bq' ob'
            replace hmb := Aside.mk hmb
            have hmem : pd + nd ≤ (splice mem pt (bytesL T1)).length := by rw [hsl]; exact hf2
            have hlen := Aside.mk (show (splice (splice mem pt (bytesL T1)) pd D1).length = m by rw [splice_len _ _ _ (by rw [hDl]; exact hmem), hsl])
            replace hsl := trivial
            have hput := Aside.mk (fun (dp : Option Addr) (n2 c2 : Nat) (h1 : nd ≤ n2) (h2 : 0 < nd → dp = some ⟨MB, pd, none⟩) => run_put wr 3 dp DA n2 c2 nd dc MB pd (splice mem pt (bytesL T1)) D1 hmb.out hDl h1 hmem h2 (fun h => ⟨DG, hDA.out (hdata.out.2 h), hdat.out (by rintro rfl; simp at hDl; omega)⟩))
            replace hmem := Aside.mk hmem
            go_wp2_with fail
            · obtain ⟨w6, hrun, hg6, hm6⟩ := hput.out (some ⟨MB, 0, none⟩) 0 0 (by omega) (fun h => by exfalso; omega)
              rw [hrun]
              go_wp2_with fail
              go_end0
              exact ⟨Mod.kp0 okp.out hM hm6, Or.inl ⟨_, hom.out, hlen.out, hg6, rfl⟩⟩
            · obtain ⟨w6, hrun, hg6, hm6⟩ := hput.out (some ⟨MB, pd, none⟩) (m - pd) (m - pd) (by omega) (fun _ => rfl)
              rw [hrun]
              go_wp2_with fail
              go_end0
              exact ⟨Mod.kp0 okp.out hM hm6, Or.inl ⟨_, hom.out, hlen.out, hg6, rfl⟩⟩
end Go.Proofs.Ytnbooljaodkedaa
