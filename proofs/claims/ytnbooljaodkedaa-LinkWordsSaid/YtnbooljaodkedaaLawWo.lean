/- LinkWords, walked. Condition: the argument is of its type. -/
import Derived.Test.YtnbooljaodkedaaWrdP
namespace Go.Proofs.Ytnbooljaodkedaa
open Go.RowKit Go.Maps Go.ChangeShapes Go.WideShapes Go.Proofs.Ytnbooljaodkedaa.PC Go.Proofs.Ytnbooljaodkedaa.PW
set_option linter.unusedVariables false
set_option linter.unusedSimpArgs false
def lnkO (A : Option Addr) (n c : Nat) (E : Int) : Ending := .returned (.tuple #[.agg #[.int .i64 0, .slice A n c], .int .i64 E])
theorem link_ways {w w' : World} {os : List ObjV} {e : Ending} (h : LinkR w os e w') : Kp w w' ∧ ((∃ E, E ≠ 0 ∧ e = lnkO none 0 0 E) ∨
    ∃ mem g t, e = lnkO (some ⟨g, 0, none⟩) (imgLen os) (imgLen os) 0 ∧ Blk w' g (byV mem).toArray 5 ∧ mem.length = imgLen os ∧ ImgAt os t mem ∧ (∀ o ∈ os, objOk o) ∧ imgLen os ≤ 2097152) := by
  obtain ⟨k, v, E, rfl, g⟩ := h
  refine ⟨k, ?_⟩
  rcases g with ⟨a, rfl, rfl⟩ | ⟨_, _, rfl, rfl⟩ | ⟨a, b, t, -, ⟨-, rfl, rfl⟩ | ⟨mem, g, h1, h2, rfl, rfl, -, h3⟩⟩
  · exact Or.inl ⟨_, a, rfl⟩
  · exact Or.inl ⟨_, by decide, rfl⟩
  · exact Or.inl ⟨_, by decide, rfl⟩
  · have hok := (resE_cases (mainE_zero a).1).1
    exact Or.inr ⟨mem, g, t, rfl, h3, h2, img_at hok h1, hok, b⟩
theorem bytes_own {w : World} {base : Nat} {A : Option Addr} {n c : Nat} {l : List Int} (h : rowBy w base (.slice A n c) l) : n = l.length ∧ BytesAt w A l := by
  rcases h.2 with ⟨h1, h2⟩ | ⟨g, cap, cur, h1, _, h3, h4, _, _, h7⟩
  · injection h1 with e1 e2 e3
    subst e1 e2 e3
    exact ⟨h2.symm, fun hne => absurd (List.eq_nil_of_length_eq_zero h2) hne⟩
  · injection h1 with e1 e2 e3
    subst e1 e2 e3
    refine ⟨rfl, fun _ => ⟨g, 0, rfl, (Array.getElem?_eq_some_iff.1 h3).1, fun i hi => ?_⟩⟩
    have e : cur[i]? = some (.int .u8 (l.getD i 0)) := by
      have : (cur.toList.take (l.length * 1))[i]? = (byV l)[i]? := by rw [h7]
      rw [List.getElem?_take, if_pos (by omega)] at this
      simp [byV, hi] at this
      rw [List.getD_eq_getElem?_getD, List.getElem?_eq_getElem hi]
      simpa using this
    rw [Nat.zero_add]
    simp [World.cell?, h3, e]
set_option maxRecDepth 100000 in
theorem make_bools (T : Nat) (hT : T ≤ 100000) (x : Int) (hx : x = T) (W : World) : (Instr.makeSlice 58 (.int .i64 x) (.int .i64 x)).run Try.prog W = .ok (.slice (some ⟨W.heap.size, 0, none⟩) T T) (W.alloc (.cells (List.replicate T (.bool false)).toArray 4)) := by
  subst hx
  obtain ⟨i, hi, hz, h1, h2⟩ : ∃ i, Try.prog.info? 4 = some i ∧ i.zero = some (.bool false) ∧ i.size = 1 ∧ i.bytes = 1 := ⟨_, rfl, rfl, rfl, rfl⟩
  have hr := run_make (P := Try.prog) W 58 4 i _ Try.underlying58 hi hz .i64 .i64 T T (by omega) (by omega) (by rw [h2]; omega) (by omega)
  rw [hr]
  have e : madeCells (Value.bool false).cells ((T : Int).toNat * i.size) = (List.replicate T (.bool false)).toArray := by
    rw [h1]
    apply Array.ext
    · simp [madeCells]
    · intro j a b
      simp [madeCells, Value.cells, Nat.mod_one]
  rw [e]
  simp
/-- Where a part begins. -/
def atP (os : List ObjV) (q : Nat) : Nat := if q = 1 then 12 else if q = 2 then base (tlen os) os.length else imgLen os
theorem atP_zero {os : List ObjV} {q : Nat} (h : q = 1 ∨ q = 2) : atP os q = placeO q os 0 := by
  rcases h with rfl | rfl
  · rfl
  · show base (tlen os) os.length = base (tlen os) os.length + 0
    rfl
theorem atP_next {os : List ObjV} {q : Nat} (h : q = 1 ∨ q = 2) (h8 : imgLen os % 8 = 0) : (placeO q os os.length + 7) / 8 * 8 = atP os (q + 1) := by
  rcases h with rfl | rfl
  · rfl
  · have e : placeO 2 os os.length = imgLen os := rfl
    show _ = imgLen os
    rw [e]
    omega
theorem place_end {os : List ObjV} {q : Nat} (h : q = 1 ∨ q = 2) : placeO q os os.length ≤ imgLen os := by
  rcases h with rfl | rfl
  · have h1 := txt_end os (i := os.length) (j := os.length) (Nat.le_refl _)
    have h2 := dat_end os (i := os.length) (Nat.le_refl _)
    exact Nat.le_trans h1 h2
  · exact dat_end os (Nat.le_refl _)
theorem bytesO_len {o : ObjV} (hf : fewO o) {q : Nat} : (bytesO q o).length ≤ 1200 := by
  unfold bytesO
  obtain ⟨f1, f2, -⟩ := hf
  split
  · rw [bytesL_length]; omega
  · omega
set_option maxRecDepth 100000 in
set_option maxHeartbeats 8000000 in
theorem words_any {w : World} {G : Option Addr} {n c : Nat} {os : List ObjV} (h : ObjsAt w G os) (hty : ∀ o ∈ os, o.ty) (hn : os.length = n) (hl : n ≤ 9223372036854775807) :
    Calls Try.prog 6 #[.slice G n c] w fun e w' => e = .returned (.bool true) ∧ Kp w w' := by
  replace h := Aside.mk h
  replace hty := Aside.mk hty
  replace hn := Aside.mk hn
  go_enter Try.func6, Try.ntmps6
  go_wp2_with fail
  refine Calls.mono (awake09_calls _) ?_
  rintro e w1 ⟨rfl, k1⟩
  go_wp2_with fail
  refine Calls.mono (Few_calls (h.out.kp k1) hty.out hn.out hl) ?_
  rintro e w2 ⟨b, rfl, hb, k2⟩
  have k02 := Aside.mk (k1.trans k2)
  clear k1 k2
  cases b with
  | false =>
    clear hb
    go_wp2_with fail
    refine Calls.mono (awake09_calls _) ?_
    rintro e w3 ⟨rfl, k3⟩
    go_wp2_with fail
    go_ret
    exact ⟨rfl, k02.out.trans k3⟩
  | true =>
  obtain ⟨h12, hf⟩ := hb.1 rfl
  replace hfew := Aside.mk hf
  replace hf : Aside (∀ o ∈ os, o.wf) := ⟨fun o ho => (hty.out o ho).wf (hf o ho)⟩
  clear hb
  have lc := Aside.mk (Link_calls (c := c) (h.out.kp k02.out) hf.out hn.out (show n ≤ 1000 by omega))
  go_wp2_with fail
  refine Calls.mono lc.out ?_
  rintro e w3 hR
  obtain ⟨k3, ⟨E, hE, rfl⟩ | ⟨mem, g, t, rfl, bm, hml, hI, hok, hm2⟩⟩ := link_ways hR
  · have k03 := Aside.mk (k02.out.trans k3)
    have gE : (E != 0) = true := bne_iff_ne.2 hE
    clear hR lc k3 k02 hE
    unfold lnkO
    go_wp2_with fail
    all_goals go_ret
    all_goals exact ⟨rfl, k03.out.alloc _⟩
  have k03 := Aside.mk (k02.out.trans (k3.alloc (.cells #[.int .i64 0, .slice (some ⟨g, 0, none⟩) (imgLen os) (imgLen os)] 28)))
  have b4 := Aside.mk (bm.kp ((Kp.refl w3).alloc (.cells #[.int .i64 0, .slice (some ⟨g, 0, none⟩) (imgLen os) (imgLen os)] 28)))
  have bI := Aside.mk (Blk.new w3 #[.int .i64 0, .slice (some ⟨g, 0, none⟩) (imgLen os) (imgLen os)] 28)
  have h8 := Aside.mk (img_eight hok)
  replace hI := Aside.mk hI
  replace hok := Aside.mk hok
  have hnx := Aside.mk (fun (q : Nat) (hq : q = 1 ∨ q = 2) => atP_next (os := os) hq h8.out)
  have hfit := Aside.mk (fun (i : Nat) (o : ObjV) (ho : os[i]? = some o) (q : Nat) (hq : q = 1 ∨ q = 2) => place_fit ho hq)
  have e3 : Aside (atP os 3 = imgLen os) := ⟨rfl⟩
  clear hR lc k3 k02 bm
  unfold lnkO
  generalize hm : imgLen os = m at *
  replace hm := Aside.mk hm
  generalize hIB : w3.heap.size = IB at *
  go_upto_region 6 with fail
  generalize w3.alloc (.cells #[.int .i64 0, .slice (some ⟨g, 0, none⟩) m m] 28) = w4 at *
  go_wp2_with fail
  go_loopw [5, 6] (fun a p wr => ∃ q : Nat, 1 ≤ q ∧ q ≤ 3 ∧ p = .int .i64 q ∧ a = .int .i64 (atP os q) ∧ Kp w4 wr) (fun _ p _ => 4 - (intOf p).toNat)
  case atStart => exact ⟨1, by decide, by decide, rfl, rfl, Kp.refl _⟩
  case round =>
    obtain ⟨q, hq1, hq3, rfl, rfl, kp⟩ := hrel
    by_cases hq : q ≤ 2
    · have hq12 : Aside (q = 1 ∨ q = 2) := ⟨by omega⟩
      have ha := atP_zero (os := os) hq12.out
      rw [ha]
      replace ha := trivial
      have gq : ((q : Int) == 2) = decide (q = 2) := by
        by_cases e : q = 2
        · rw [e]; rfl
        · rw [decide_eq_false e]; simp; omega
      have gq1 : ((q : Int) == 1) = decide (q = 1) := by
        by_cases e : q = 1
        · rw [e]; rfl
        · rw [decide_eq_false e]; simp; omega
      have gle : decide ((q : Int) ≤ 2) = true := decide_eq_true (by omega)
      replace gq := Aside.mk gq
      replace gq1 := Aside.mk gq1
      replace kp := Aside.mk kp
      go_wp2_with fail
      go_loopw [5, 41] (fun a i wr => ∃ k : Nat, k ≤ n ∧ i = .int .i64 k ∧ a = .int .i64 (placeO q os k) ∧ Kp w4 wr) (fun _ i _ => n - (intOf i).toNat)
      case atStart => exact ⟨0, Nat.zero_le _, rfl, rfl, kp.out⟩
      case round =>
        obtain ⟨k, hk, rfl, rfl, kp2⟩ := hrel
        clear kp
        by_cases hlt : k < n
        · obtain ⟨o, ho⟩ : ∃ o, Aside (os[k]? = some o) := ⟨_, ⟨List.getElem?_eq_getElem (by have := hn.out; omega)⟩⟩
          have hom := Aside.mk (List.mem_of_getElem? ho.out)
          obtain ⟨go, off, hG, hg0, hc⟩ := (h.out.kp (k03.out.trans kp2)) (by intro e; have := hn.out; rw [e] at this; simp at this; omega)
          obtain ⟨A, ct, B, cd, C, cs, D, cr, q0, q1, q2, q3, hat, slA, slB⟩ := hc k o ho.out
          have hnb := bytesO_len (q := q) (hfew.out o hom.out)
          have hpf := hfit.out k o ho.out q hq12.out
          have hpn := Aside.mk (place_next (os := os) ho.out hq12.out)
          have hlaw : Aside (∀ x, x < (bytesO q o).length → hitB q o.rels x = false → mem[placeO q os k + x]? = (bytesO q o)[x]?) := ⟨fun x hx hh => by
            obtain ⟨T, Dd, hp1, hp2⟩ := hI.out.obj k o ho.out
            exact words_law hp1 hp2 hq12.out hx hh⟩
          have hfo := hfew.out o hom.out
          have hrl : o.rels.length ≤ 100 := hfo.2.2.2.1
          have htl : o.text.length ≤ 300 := hfo.1
          replace hfo := Aside.mk hfo
          have kA : Kp wr (wr.alloc (.cells #[.slice A o.text.length ct, .slice B o.data.length cd, .slice C o.syms.length cs, .slice D o.rels.length cr] 38)) := (Kp.refl wr).alloc _
          have bOB := Blk.new wr #[.slice A o.text.length ct, .slice B o.data.length cd, .slice C o.syms.length cs, .slice D o.rels.length cr] 38
          have bc := Aside.mk (Bytes_calls (w := wr.alloc (.cells #[.slice A o.text.length ct, .slice B o.data.length cd, .slice C o.syms.length cs, .slice D o.rels.length cr] 38)) A ct o.text (by omega) (hf.out o hom.out).text slA.1 ((hat.kp kA).text))
          subst hG
          replace hat := Aside.mk (hat.kp kA)
          replace kp2 := Aside.mk (kp2.trans kA)
          replace bOB := Aside.mk bOB
          clear hc kA slA
          replace slB := trivial
          go_upto_region 13 with fail
          generalize hOB : wr.heap.size = OB at *
          generalize wr.alloc (.cells #[.slice A o.text.length ct, .slice B o.data.length cd, .slice C o.syms.length cs, .slice D o.rels.length cr] 38) = w5 at *
          clear q0 q1 q2 q3 hg0
          have o0 : w5.cell? ⟨OB, 0, none⟩ = some (.slice A o.text.length ct) := bOB.out.cell 0
          have lO := bOB.out.lt
          generalize placeO q os k = P at *
          generalize hnn : (bytesO q o).length = nb at *
          replace hnn := Aside.mk hnn
          go_wp2_with fail
          refine Calls.mono bc.out ?_
          rintro e w6 ⟨v9, rfl, k6, hr9⟩
          obtain ⟨A9, n9, c9, rfl⟩ := own_slice hr9
          obtain ⟨hn9, hb9⟩ := bytes_own hr9
          have bO6 := bOB.out.kp k6
          have o1 : w6.cell? ⟨OB, 1, none⟩ = some (.slice B o.data.length cd) := bO6.cell 1
          have lO6 := bO6.lt
          have hd6 := Aside.mk ((hat.out.kp k6).data)
          have hat6 := Aside.mk (hat.out.kp k6)
          have kp6 := Aside.mk (kp2.out.trans k6)
          replace hb9 := Aside.mk hb9
          replace hn9 := Aside.mk hn9
          replace bO6 := Aside.mk bO6
          clear hr9 k6 o0 lO bOB hat kp2 bc
          go_upto_if 49 with fail
          go_cut [9] (fun s wx => ∃ A' c', s = .slice A' nb c' ∧ Kp w6 wx ∧ BytesAt wx A' (bytesO q o))
          case first =>
            by_cases e2 : q = 2
            · have g2 : ((q : Int) == 2) = true := by rw [gq.out]; exact decide_eq_true e2
              have e : bytesO q o = o.data := by rw [e2]; rfl
              have hlen : o.data.length = nb := by rw [← hnn.out, e]
              rw [hlen] at o1
              replace e := Aside.mk e
              replace hlen := trivial
              replace e2 := trivial
              go_wp2_with fail
              go_meet
              exact ⟨B, cd, rfl, Kp.refl _, by rw [e.out]; exact hd6.out⟩
            · have g2 : ((q : Int) == 2) = false := by rw [gq.out]; exact decide_eq_false e2
              have e : bytesO q o = bytesL o.text := by rw [show q = 1 by omega]; rfl
              have hlen : n9 = nb := by rw [hn9.out, ← hnn.out, e]
              replace e := Aside.mk e
              replace e2 := trivial
              go_wp2_with fail
              go_meet
              exact ⟨A9, c9, by rw [hlen], Kp.refl _, by rw [e.out]; exact hb9.out⟩
          case rest =>
            obtain ⟨Ab, cb, rfl, kc, hbb⟩ := hcut
            obtain ⟨w7, hw7⟩ : ∃ w7, w7 = wc := ⟨_, rfl⟩
            subst hw7
            have bO7 := bO6.out.kp kc
            have kp7 := Aside.mk (kp6.out.trans kc)
            have hat7 := Aside.mk (hat6.out.kp kc)
            have lO7 := bO7.lt
            have kT : Kp w7 (w7.alloc (.cells (List.replicate (nb + 4) (.bool false)).toArray 4)) := (Kp.refl w7).alloc _
            have bT := Blk.new w7 (List.replicate (nb + 4) (.bool false)).toArray 4
            rw [← mark_nil q (nb + 4)] at bT
            have o3 := (kT.cell (p := ⟨OB, 3, none⟩) lO7).trans (bO7.cell 3)
            have hmk := make_bools (nb + 4) (by omega) ((nb : Int) + 4) (by omega)
            have lO8 := Nat.lt_of_lt_of_le lO7 kT.size
            replace o3 : (w7.alloc (.cells (List.replicate (nb + 4) (.bool false)).toArray 4)).cell? ⟨OB, 3, none⟩ = some (.slice D o.rels.length cr) := o3
            rw [← mark_nil q (nb + 4)] at o3 lO8 kT
            rw [← mark_nil q (nb + 4)] at hmk
            replace bO7 := Aside.mk bO7
            replace hbb := Aside.mk hbb
            replace bT := Aside.mk bT
            replace kT := Aside.mk kT
            clear kc o1 lO6 hd6 hat6 kp6 hb9 hn9 bO6
            go_upto_region 17 with fail
            generalize hTB : w7.heap.size = TB at *
            generalize w7.alloc (.cells (markV q [] 0 0 (nb + 4)).toArray 4) = w8 at *
            obtain ⟨nr, hnr⟩ : ∃ nr, o.rels.length = nr := ⟨_, rfl⟩
            rw [hnr] at o3 hrl
            replace hnr := Aside.mk hnr
            replace hTB := Aside.mk hTB
            go_wp2_with fail
            go_loopw [59] (fun i wr => ∃ j : Nat, j ≤ nr ∧ i = .int .i64 j ∧ Kp w7 wr ∧ Blk wr TB (markV q (o.rels.take j) 0 0 (nb + 4)).toArray 4) (fun i _ => nr - (intOf i).toNat)
            case atStart => exact ⟨0, Nat.zero_le _, rfl, kT.out, by simpa using bT.out⟩
            case round =>
              obtain ⟨j, hj, rfl, kp9, bT9⟩ := hrel
              clear o3 lO8 kT bT
              by_cases hlt3 : j < nr
              · obtain ⟨r, hr⟩ : ∃ r, Aside (o.rels[j]? = some r) := ⟨_, ⟨List.getElem?_eq_getElem (by have := hnr.out; omega)⟩⟩
                have hrm := Aside.mk (List.mem_of_getElem? hr.out)
                obtain ⟨gD, oD, hD, hgD, hcD⟩ := (hat7.out.rels.kp kp9) (by intro e; have := hnr.out; rw [e] at this; simp at this; omega)
                obtain ⟨r0, r1, r2, r3, r4⟩ := hcD j r hr.out
                have hab : 0 ≤ r.at_ ∧ r.at_ ≤ 65536 := by
                  have h5 := (hok.out o hom.out).2.2.2.2 r hrm.out
                  have h6 := hfew.out o hom.out
                  rcases h5.2 with ⟨_, _, a0, _, a1⟩ | ⟨_, a0, a1, _⟩
                  · have := h6.2.1; omega
                  · have := h6.1; omega
                have kR : Kp wr (wr.alloc (.cells #[.int .i64 r.sect, .int .i64 r.at_, .int .i64 r.kind, .int .i64 r.sym, .int .i64 r.add] 46)) := (Kp.refl wr).alloc _
                have bR := Blk.new wr #[.int .i64 r.sect, .int .i64 r.at_, .int .i64 r.kind, .int .i64 r.sym, .int .i64 r.add] 46
                have hTR : Aside (TB < wr.heap.size) := ⟨bT9.lt⟩
                replace bT9 := Aside.mk (bT9.kp kR)
                replace kp9 := Aside.mk (kp9.trans kR)
                subst hD
                clear hcD kR
                go_upto_region 20 with fail
                generalize hRB : wr.heap.size = RB at *
                generalize wr.alloc (.cells #[.int .i64 r.sect, .int .i64 r.at_, .int .i64 r.kind, .int .i64 r.sym, .int .i64 r.add] 46) = W2 at *
                clear r0 r1 r2 r3 r4 hgD
                have c1 : W2.cell? ⟨RB, 1, none⟩ = some (.int .i64 r.at_) := bR.cell 1
                have lR := bR.lt
                replace bR := Aside.mk bR
                go_upto_if 66 with fail
                go_cut [13] (fun s wx => s = .int .i64 (fromV q r) ∧ Kp W2 wx)
                case first =>
                  by_cases e1 : q = 1
                  · have g2 : ((q : Int) == 1) = true := by rw [gq1.out]; exact decide_eq_true e1
                    have e : fromV q r = 4 * r.at_ := by rw [e1]; rfl
                    replace e := Aside.mk e
                    replace e1 := trivial
                    go_wp2_with fail
                    go_meet
                    exact ⟨by rw [e.out], Kp.refl _⟩
                  · have g2 : ((q : Int) == 1) = false := by rw [gq1.out]; exact decide_eq_false e1
                    have e : fromV q r = r.at_ := by unfold fromV; rw [if_neg e1]
                    replace e := Aside.mk e
                    replace e1 := trivial
                    go_wp2_with fail
                    go_meet
                    exact ⟨by rw [e.out], Kp.refl _⟩
                case rest =>
                  obtain ⟨rfl, kc2⟩ := hcut
                  obtain ⟨w10, hw10⟩ : ∃ w10, w10 = wc := ⟨_, rfl⟩
                  subst hw10
                  have bR10 := bR.out.kp kc2
                  have bT10 := bT9.out.kp kc2
                  have kp10 := Aside.mk (kp9.out.trans kc2)
                  have hne : Aside (RB ≠ TB) := ⟨by have := hTR.out; omega⟩
                  clear c1 lR bR bT9 kp9 kc2
                  by_cases hs : r.sect = (q : Int)
                  · obtain ⟨ff0, ff1, -⟩ := from_fit (hok.out o hom.out) hrm.out hq12.out hs
                    rw [hnn.out] at ff1
                    have hdone := Aside.mk (mark_done (n := nb + 4) hr.out hs)
                    have gs : (r.sect == (q : Int)) = true := by rw [hs]; exact beq_self_eq_true _
                    generalize fromV q r = f at *
                    obtain ⟨fN, rfl⟩ := Int.eq_ofNat_of_zero_le ff0
                    rw [← mark_zero q _ (fN : Int)] at bT10
                    replace hs := trivial
                    replace bR10 := Aside.mk bR10
                    replace bT10 := Aside.mk bT10
                    go_wp2_with fail
                    go_loopw [14] (fun i wr => ∃ kk : Nat, kk ≤ 4 ∧ i = .int .i64 kk ∧ Kp w7 wr ∧ Blk wr RB #[.int .i64 r.sect, .int .i64 r.at_, .int .i64 r.kind, .int .i64 r.sym, .int .i64 r.add] 46 ∧ Blk wr TB (markV q (o.rels.take j) (fN : Int) kk (nb + 4)).toArray 4) (fun i _ => 4 - (intOf i).toNat)
                    case atStart => exact ⟨0, by decide, rfl, kp10.out, bR10.out, bT10.out⟩
                    case round =>
                      obtain ⟨kk, hkk, rfl, kp11, bR11, bT11⟩ := hrel
                      clear kp10 bR10 bT10
                      have c0 : wr.cell? ⟨RB, 0, none⟩ = some (.int .i64 r.sect) := bR11.cell 0
                      have lR := bR11.lt
                      by_cases hk4 : kk < 4
                      · have g4 : decide ((kk : Int) < 4) = true := decide_eq_true (by omega)
                        have cT := bT11.cell (fN + kk)
                        rw [List.getElem?_toArray, mark_get (show fN + kk < nb + 4 by omega)] at cT
                        generalize (hitB q (o.rels.take j) (fN + kk) || decide ((fN : Int) ≤ ((fN + kk : Nat) : Int) ∧ ((fN + kk : Nat) : Int) < (fN : Int) + (kk : Nat))) = bb at cT
                        have fT := bT11.frozen (fN + kk)
                        have lT := bT11.lt
                        replace kp11 := Aside.mk kp11
                        replace bR11 := Aside.mk bR11
                        replace bT11 := Aside.mk bT11
                        go_wp2_with fail
                        refine ⟨⟨kk + 1, by omega, by go_num, kp11.out.setCell (p := ⟨TB, fN + kk, none⟩) (show w7.heap.size ≤ TB by have := hTB.out; omega) _, bR11.out.far hne.out _, ?_⟩, by simp [intOf]; omega⟩
                        have e := bT11.out.set (i := fN + kk) (.bool true)
                        rw [List.setIfInBounds_toArray, mark_set (show fN + kk < nb + 4 by omega)] at e
                        exact e
                      · obtain rfl : kk = 4 := by omega
                        have g4 : decide (((4 : Nat) : Int) < 4) = false := decide_eq_false (by omega)
                        rw [hdone.out] at bT11
                        replace kp11 := Aside.mk kp11
                        replace bR11 := Aside.mk bR11
                        replace bT11 := Aside.mk bT11
                        go_wp2_with fail
                        exact ⟨⟨j + 1, by omega, by go_num, kp11.out, bT11.out⟩, by simp [intOf]; omega⟩
                  · have gs : (r.sect == (q : Int)) = false := beq_eq_false_iff_ne.2 hs
                    rw [mark_skip hr.out hs] at bT10
                    replace hs := trivial
                    have c0 : w10.cell? ⟨RB, 0, none⟩ = some (.int .i64 r.sect) := bR10.cell 0
                    have lR := bR10.lt
                    replace bR10 := Aside.mk bR10
                    replace bT10 := Aside.mk bT10
                    go_wp2_with fail
                    go_loopw [14] (fun i wr => i = .int .i64 0 ∧ wr = w10) (fun i _ => 0)
                    case atStart => exact ⟨rfl, rfl⟩
                    case round =>
                      obtain ⟨rfl, rfl⟩ := hrel
                      go_wp2_with fail
                      exact ⟨⟨j + 1, by omega, by go_num, kp10.out, bT10.out⟩, by simp [intOf]; omega⟩
              · obtain rfl : j = nr := by omega
                rw [List.take_of_length_le (by rw [hnr.out]; exact Nat.le_refl _)] at bT9
                obtain ⟨w11, hw11⟩ : ∃ w11, w11 = wr := ⟨_, rfl⟩
                subst hw11
                have k411 := Aside.mk (kp7.out.trans kp9)
                have bI9 := bI.out.kp k411.out
                have i1 : w11.cell? ⟨IB, 1, none⟩ = some (.slice (some ⟨g, 0, none⟩) m m) := bI9.cell 1
                have lI := bI9.lt
                have lT := bT9.lt
                have hbd : Aside (∀ V, Kp w11 V → ∀ x, x < nb → V.cell? ⟨TB, x, none⟩ = some (.bool (hitB q o.rels x))) := ⟨fun V hV x hx => by
                  have := (bT9.kp hV).cell x
                  rw [List.getElem?_toArray, mark_get (show x < nb + 4 by omega)] at this
                  rw [this]
                  have e2 : decide ((0 : Int) ≤ (x : Int) ∧ (x : Int) < 0 + (0 : Nat)) = false := decide_eq_false (by omega)
                  rw [e2, Bool.or_false]⟩
                have hbb9 := Aside.mk (hbb.out.kp kp9)
                have hmb := Aside.mk (b4.out.kp k411.out)
                have bI9' := Aside.mk bI9
                replace kp9 := trivial
                replace bT9 := trivial
                clear bI9
                go_wp2_with fail
                go_loopw [96] (fun i wr => ∃ x : Nat, x ≤ nb ∧ i = .int .i64 x ∧ Kp w11 wr) (fun i _ => nb - (intOf i).toNat)
                case atStart => exact ⟨0, Nat.zero_le _, rfl, Kp.refl _⟩
                case round =>
                  obtain ⟨x, hx, rfl, kpx⟩ := hrel
                  clear i1 lI lT
                  by_cases hlt5 : x < nb
                  · have cM := hbd.out wr kpx x hlt5
                    have i1 : wr.cell? ⟨IB, 1, none⟩ = some (.slice (some ⟨g, 0, none⟩) m m) := (bI9'.out.kp kpx).cell 1
                    have lI := (bI9'.out.kp kpx).lt
                    obtain ⟨gb, ob, hAb, hgb, hcb⟩ := (hbb9.out.kp kpx) (by intro e; have := hnn.out; rw [e] at this; simp at this; omega)
                    have cB := hcb x (by rw [hnn.out]; exact hlt5)
                    have cG := (hmb.out.kp kpx).cell (P + x)
                    have lG := (hmb.out.kp kpx).lt
                    have lM : TB < wr.heap.size := by
                      obtain ⟨b', o', e, hl'⟩ := cell_some cM
                      injection e with e1 e2
                      omega
                    subst hAb
                    have hPx : P + x < m := by omega
                    by_cases hh : hitB q o.rels x = true
                    · rw [hh] at cM
                      replace hh := trivial
                      replace kpx := Aside.mk kpx
                      go_upto_region 33 with fail
                      go_quiet (fail)
                      go_wp2_with fail
                      exact ⟨⟨x + 1, by omega, by go_num, kpx.out.drewN _⟩, by simp [intOf]; omega⟩
                    · have hh' : hitB q o.rels x = false := by simpa using hh
                      have hl := hlaw.out x hlt5 hh'
                      rw [hh'] at cM
                      have hy : (bytesO q o)[x]? = some ((bytesO q o).getD x 0) := by
                        rw [List.getD_eq_getElem?_getD, List.getElem?_eq_getElem (by rw [hnn.out]; exact hlt5)]
                        rfl
                      rw [hy] at hl
                      rw [List.getElem?_toArray] at cG
                      unfold byV at cG
                      rw [List.getElem?_map, hl] at cG
                      generalize (bytesO q o).getD x 0 = y at *
                      replace cG : wr.cell? ⟨g, P + x, none⟩ = some (.int .u8 y) := cG
                      replace hh := trivial
                      replace hh' := trivial
                      replace hl := trivial
                      replace hy := trivial
                      replace kpx := Aside.mk kpx
                      go_upto_region 33 with fail
                      go_quiet (fail)
                      go_wp2_with fail
                      exact ⟨⟨x + 1, by omega, by go_num, kpx.out.drewN _⟩, by simp [intOf]; omega⟩
                  · obtain rfl : x = nb := by omega
                    replace kpx := Aside.mk kpx
                    go_wp2_with fail
                    go_roundw
                    case rel => exact ⟨k + 1, by omega, by go_num, by rw [hpn.out]; (try go_num), k411.out.trans kpx.out⟩
                    case measure => simp [intOf]; omega
        · obtain rfl : k = n := by omega
          have hpe := place_end (os := os) hq12.out
          rw [hn.out, hm.out] at hpe
          have hnx2 := hnx.out q hq12.out
          rw [hn.out] at hnx2
          have ha : Go.bits .andNot .i64 ((placeO q os k : Int) + 7) 7 = ((atP os (q + 1) : Nat) : Int) := by
            rw [← hnx2]
            have h7 := andnot7 (placeO q os k + 7) (by omega)
            rw [← h7]
            congr 1
          replace hnx2 := trivial
          replace kp2 := Aside.mk kp2
          go_wp2_with fail
          exact ⟨⟨q + 1, by omega, by omega, by go_num, rfl, kp2.out⟩, by simp [intOf]; omega⟩
    · obtain rfl : q = 3 := by omega
      rw [e3.out]
      have bI9 := bI.out.kp kp
      have i1 : wr.cell? ⟨IB, 1, none⟩ = some (.slice (some ⟨g, 0, none⟩) m m) := bI9.cell 1
      have lI := bI9.lt
      replace kp := Aside.mk kp
      clear bI9
      go_wp2_with fail
      all_goals go_ret
      all_goals exact ⟨rfl, k03.out.trans kp.out⟩
section
variable {H : Type} {enc : TypeId × Value → H} {W : World} {base : Nat}
set_option maxRecDepth 100000 in
theorem words_row {v : Value} {d : DataW H} {p : List MemPlace} (hv : Value.okWide Try.prog W .any base 22 v) (h : DataW.Trod enc Try.prog W 0 (fun _ => true) true 22 v d p) :
    Calls Try.prog 6 #[v] W fun e w' => e = .returned (.bool true) ∧ Below W.heap.size W w' := by
  obtain ⟨G, c, os, rfl, hs, ho, hty, hl⟩ := objs_open hv h
  exact (words_any ho hty rfl hl).mono fun _ _ ⟨he, hk⟩ => ⟨he, hk.out⟩
end
end Go.Proofs.Ytnbooljaodkedaa
