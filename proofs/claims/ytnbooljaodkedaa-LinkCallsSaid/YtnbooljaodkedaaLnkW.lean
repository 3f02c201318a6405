/- The linker: what Link defers; Link itself. Conditions stand at each. · The linker: where objects lie; Link where it is too long. Conditions stand at each. · Link where the image is too long: walked. Conditions stand at each. · The image by its places: what stands where. By value; no condition. · Link where the image is made: walked. Conditions stand at each. · Link, walked whole. Condition: the objects lie in memory. -/
import Derived.Test.YtnbooljaodkedaaLnkR
namespace Go.Proofs.Ytnbooljaodkedaa
open Go.RowKit Go.Maps Go.Proofs.Ytnbooljaodkedaa.PC Go.Proofs.Ytnbooljaodkedaa.PW
set_option linter.unusedVariables false
set_option linter.unusedSimpArgs false
theorem frame10 (p q : Value) : (#[p, q] ++ Array.replicate 10 undef : Array Value) = #[p, q, undef, undef, undef, undef, undef, undef, undef, undef, undef, undef] := rfl
set_option maxRecDepth 100000 in
theorem link_idle (p q : Addr) (w : World) : CallsD Try.prog 20 #[.pointer (some p), .pointer (some q)] .returning w fun e u' w' => e = .returned (.tuple #[]) ∧ u' = .returning ∧ w' = w := by
  refine callsD_of_wpS Try.func20 rfl fun c₀ cs hu => ?_
  apply wpS_seq
  apply wpS_region
  simp [wpOpsS, go_sem, recoverD, hu, Try.ntmps20, Exit.thenS, frame10, taE_nil]
  apply wpS_seq
  apply wpS_region
  simp [wpOpsS, go_sem, Exit.thenS]
  refine wpS_cond (t := false) (by simp [Act.eval]) ?_
  simp only [Bool.false_eq_true, if_false]
  refine wpS_of_wp (wp_skip ?_)
  cases c₀
  simp_all [bodyPostS, results, Try.results20]
/-- The image, none. -/
def noImg : Array Value := #[.int .i64 0, .slice none 0 0]
theorem two_set {α : Type} {a : Array α} (h : a.size = 2) (x y : α) : (a.setIfInBounds 0 x).setIfInBounds 1 y = #[x, y] := by
  obtain ⟨l⟩ := a
  match l, h with
  | [p, q], _ => rfl
set_option maxRecDepth 100000 in
theorem link_caught {w : World} {b d : Nat} (n : Int) (older : List PanicEntry) {cs0 : Array Value} {y : Int} (hc : cs0.size = 2) (hd : Blk w b cs0 28) (hb : Blk w d #[.int .i64 y] 29) (hne : b ≠ d) :
    CallsD Try.prog 20 #[.pointer (some ⟨b, 0, none⟩), .pointer (some ⟨d, 0, none⟩)] (.panicking ({ v := .iface 29 (.int .i64 n), recovered := false } :: older)) w fun e u' w' =>
      e = .returned (.tuple #[]) ∧ u' = .panicking ({ v := .iface 29 (.int .i64 n), recovered := true } :: older) ∧ Blk w' b noImg 28 ∧ Blk w' d #[.int .i64 n] 29 ∧ (∀ w0 : World, Kp w0 w → w0.heap.size ≤ b → w0.heap.size ≤ d → Kp w0 w') := by
  have g0 := hd.cell 0
  have g1 := hd.cell 1
  have f0 := hd.frozen 0
  have f1 := hd.frozen 1
  have h0 : w.cell? ⟨d, 0, none⟩ = some (.int .i64 y) := hb.cell 0
  have h1 := hb.frozen 0
  rw [Array.getElem?_eq_getElem (by omega)] at g0 g1
  generalize hx0 : cs0[0] = x0 at *
  generalize hx1 : cs0[1] = x1 at *
  replace hd := Aside.mk hd
  replace hb := Aside.mk hb
  refine callsD_of_wpS Try.func20 rfl fun c₀ cs hu => ?_
  apply wpS_seq
  apply wpS_region
  simp [wpOpsS, go_sem, recoverD, hu, Try.ntmps20, Exit.thenS, frame10, taE_err]
  apply wpS_seq
  apply wpS_region
  simp [wpOpsS, go_sem, Exit.thenS]
  refine wpS_cond (t := true) (by simp [Act.eval]) ?_
  simp only [if_true]
  refine wpS_of_wp ?_
  go_wp2_with fail
  have e2 : (cs0.setIfInBounds 0 (.int .i64 0)).setIfInBounds 1 (.slice none 0 0) = noImg := two_set hc _ _
  have B1 := ((hd.out.set (i := 0) (.int .i64 0)).set (i := 1) (.slice none 0 0)).far (i := 0) hne (.int .i64 n)
  rw [e2] at B1
  have B2 := ((hb.out.far (i := 0) hne.symm (.int .i64 0)).far (i := 1) hne.symm (.slice none 0 0)).set (i := 0) (.int .i64 n)
  have K : ∀ w0 : World, Kp w0 w → w0.heap.size ≤ b → w0.heap.size ≤ d → Kp w0 (((w.setCell ⟨b, 0, none⟩ (.int .i64 0)).setCell ⟨b, 1, none⟩ (.slice none 0 0)).setCell ⟨d, 0, none⟩ (.int .i64 n)) := fun w0 hk h1 h2 => ((hk.setCell (p := ⟨b, 0, none⟩) h1 _).setCell (p := ⟨b, 1, none⟩) h1 _).setCell (p := ⟨d, 0, none⟩) h2 _
  clear hd hb e2
  generalize ((w.setCell ⟨b, 0, none⟩ (.int .i64 0)).setCell ⟨b, 1, none⟩ (.slice none 0 0)).setCell ⟨d, 0, none⟩ (.int .i64 n) = W at *
  replace B2 : Blk W d #[.int .i64 n] 29 := B2
  clear g0 g1 f0 f1 h0 h1 hx0 hx1
  cases c₀
  simp_all [bodyPostS, results, Try.results20]
/-- What Link gives. -/
def LinkR (w : World) (os : List ObjV) (e : Ending) (w' : World) : Prop := Kp w w' ∧ ∃ (v : Value) (E : Int), e = .returned (.tuple #[.agg #[.int .i64 0, v], .int .i64 E]) ∧
  ((mainE os ≠ 0 ∧ E = mainE os ∧ v = .slice none 0 0) ∨ (mainE os = 0 ∧ 2097152 < imgLen os ∧ E = 6 ∧ v = .slice none 0 0) ∨
    (mainE os = 0 ∧ imgLen os ≤ 2097152 ∧ ∃ t, mainT os = some t ∧ ((imageV os t = none ∧ E = 7 ∧ v = .slice none 0 0) ∨
      ∃ mem g, imageV os t = some mem ∧ mem.length = imgLen os ∧ E = 0 ∧ v = .slice (some ⟨g, 0, none⟩) (imgLen os) (imgLen os) ∧ w.heap.size ≤ g ∧ Blk w' g (byV mem).toArray 5)))
theorem mem_step {os : List ObjV} {i : Nat} {o : ObjV} {mem : List Int} (ho : os[i]? = some o) : memFrom os i (os.drop i) mem = (objMem os i o mem).bind (memFrom os (i + 1) (os.drop (i + 1))) := by
  have hi := (List.getElem?_eq_some_iff.1 ho).1
  have e : os.drop i = o :: os.drop (i + 1) := by
    rw [List.drop_eq_getElem_cons hi]
    congr 1
    exact (List.getElem?_eq_some_iff.1 ho).2
  rw [e]
  rfl
theorem mem_end {os : List ObjV} {n : Nat} {mem : List Int} (hn : os.length = n) : memFrom os n (os.drop n) mem = some mem := by
  rw [List.drop_of_length_le (by omega)]
  rfl
theorem link_results {w : World} {b d : Nat} {x y : Value} {E : Int} (tmps : Array Value) (h2 : tmps.getD 2 undef = .pointer (some ⟨b, 0, none⟩)) (h3 : tmps.getD 3 undef = .pointer (some ⟨d, 0, none⟩)) (hb : Blk w b #[x, y] 28) (hd : Blk w d #[.int .i64 E] 29) :
    (results Try.f10 tmps).run Try.prog w = .ok (.tuple #[.agg #[x, y], .int .i64 E]) w := by
  have h2' : tmps[2]?.getD undef = .pointer (some ⟨b, 0, none⟩) := by simpa using h2
  have h3' : tmps[3]?.getD undef = .pointer (some ⟨d, 0, none⟩) := by simpa using h3
  have g0 : w.cell? ⟨b, 0, none⟩ = some x := hb.cell 0
  have g1 : w.cell? ⟨b, 1, none⟩ = some y := hb.cell 1
  have hc : w.cell? ⟨d, 0, none⟩ = some (.int .i64 E) := hd.cell 0
  simp [results, Try.results10, h2', h3', asAddr, g0, g1, go_sem, hc]
set_option maxRecDepth 100000 in
set_option maxHeartbeats 4000000 in
theorem link_main {w : World} {G : Option Addr} {n c : Nat} {os : List ObjV} (h : ObjsAt w G os) (hwf : ∀ o ∈ os, o.wf) (hn : os.length = n) (hl : n ≤ 1000) (he : mainE os ≠ 0) :
    Calls Try.prog 10 #[.slice G n c] w (LinkR w os) := by
  have kA : Kp w ((w.alloc (.cells noImg 28)).alloc (.cells #[.int .i64 0] 29)) := ((Kp.refl w).alloc _).alloc _
  have hmain := Aside.mk (Main_calls (c := c) (h.kp kA) hwf hn hl)
  have b2 := Aside.mk ((Blk.new w noImg 28).alloc (.cells #[.int .i64 0] 29))
  have b3 : Aside (Blk ((w.alloc (.cells noImg 28)).alloc (.cells #[.int .i64 0] 29)) (w.heap.size + 1) #[.int .i64 0] 29) := ⟨blk_e w noImg _⟩
  have gE : (mainE os != 0) = true := bne_iff_ne.2 he
  replace kA := Aside.mk kA
  replace he := Aside.mk he
  clear h hwf hn hl
  go_enter Try.func10, Try.ntmps10
  go_wp2_with fail
  refine Calls.mono hmain.out ?_
  rintro e w1 ⟨k1, a, b, rfl, -⟩
  have c2 := b2.out.kp k1
  have c3 := b3.out.kp k1
  have kk := Aside.mk (kA.out.trans k1)
  have e0 : w1.cell? ⟨w.heap.size, 0, none⟩ = some (.int .i64 0) := c2.cell 0
  have e1 : w1.cell? ⟨w.heap.size, 1, none⟩ = some (.slice none 0 0) := c2.cell 1
  have e2 : w1.cell? ⟨w.heap.size + 1, 0, none⟩ = some (.int .i64 0) := c3.cell 0
  have f0 := c2.frozen 0
  have f1 := c2.frozen 1
  have f2 := c3.frozen 0
  have l2 := c2.lt
  have l3 := c3.lt
  clear b2 b3 kA hmain
  replace k1 := Aside.mk k1
  replace c2 := Aside.mk c2
  replace c3 := Aside.mk c3
  go_upto_region 3 with fail
  go_region
  all_goals (go_wp2_with fail)
  have d2 := (((c2.out.far (b' := w.heap.size + 1) (i := 0) (by omega) (.int .i64 (mainE os))).set (i := 0) (.int .i64 0)).set (i := 1) (.slice none 0 0)).far (b' := w.heap.size + 1) (i := 0) (by omega) (.int .i64 (mainE os))
  have d3 := (((c3.out.set (i := 0) (.int .i64 (mainE os))).far (b' := w.heap.size) (i := 0) (by omega) (.int .i64 0)).far (b' := w.heap.size) (i := 1) (by omega) (.slice none 0 0)).set (i := 0) (.int .i64 (mainE os))
  have kz := (((kk.out.setCell (p := ⟨w.heap.size + 1, 0, none⟩) (Nat.le_succ _) (.int .i64 (mainE os))).setCell (p := ⟨w.heap.size, 0, none⟩) (Nat.le_refl _) (.int .i64 0)).setCell (p := ⟨w.heap.size, 1, none⟩) (Nat.le_refl _) (.slice none 0 0)).setCell (p := ⟨w.heap.size + 1, 0, none⟩) (Nat.le_succ _) (.int .i64 (mainE os))
  generalize (((w1.setCell ⟨w.heap.size + 1, 0, none⟩ (.int .i64 (mainE os))).setCell ⟨w.heap.size, 0, none⟩ (.int .i64 0)).setCell ⟨w.heap.size, 1, none⟩ (.slice none 0 0)).setCell ⟨w.heap.size + 1, 0, none⟩ (.int .i64 (mainE os)) = W at *
  have d2' : Blk W w.heap.size #[.int .i64 0, .slice none 0 0] 28 := d2
  have d3' : Blk W (w.heap.size + 1) #[.int .i64 (mainE os)] 29 := d3
  refine bodyPost_ret (link_results _ rfl rfl ((d2'.alloc _).kp (Kp.refl _).drew) ((d3'.alloc _).kp (Kp.refl _).drew)) rfl ?_
  exact ⟨(kz.alloc _).drew, _, _, rfl, Or.inl ⟨he.out, rfl, rfl⟩⟩
end Go.Proofs.Ytnbooljaodkedaa
namespace Go.Proofs.Ytnbooljaodkedaa
open Go.RowKit Go.Maps Go.Proofs.Ytnbooljaodkedaa.PC Go.Proofs.Ytnbooljaodkedaa.PW
set_option linter.unusedVariables false
set_option linter.unusedSimpArgs false
theorem sumTo_leB (f : Nat → Nat) (b : Nat) (h : ∀ i, f i ≤ b) : ∀ n, sumTo f n ≤ n * b
  | 0 => by simp [sumTo]
  | n + 1 => by
    have := sumTo_leB f b h n
    have := h n
    simp only [sumTo, Nat.succ_mul]
    omega
theorem lay_objs {w : World} {G : Option Addr} {n c : Nat} {os : List ObjV} (h : ObjsAt w G os) (hn : os.length = n) (hl : n ≤ 1000) (hok : ∀ o ∈ os, objOk o) :
    Calls Try.prog 19 #[.slice G n c] w (LayR w n (tlen os) (dlen os)) := by
  have ht : ∀ i, tlen os i ≤ 65536 := by
    intro i
    unfold tlen
    cases e : os[i]? with
    | none => simp
    | some o => have := (hok o (List.mem_of_getElem? e)).1; simpa using this.1
  have hd : ∀ i, dlen os i ≤ 65536 := by
    intro i
    unfold dlen
    cases e : os[i]? with
    | none => simp
    | some o => have := (hok o (List.mem_of_getElem? e)).1; simpa using this.2.1
  have st := sumTo_leB (tlen os) 65536 ht n
  have sd := sumTo_leB (dlen os) 65536 hd n
  by_cases h0 : os = []
  · subst h0
    simp at hn
    subst hn
    exact layo_calls G 0 0 0 c (fun h => absurd h (by omega)) _ _ w (by omega) (fun h => absurd h (by omega)) (fun h => absurd h (by omega)) (by omega) (by omega)
  · obtain ⟨g, off, rfl, hg, hc⟩ := h h0
    refine layo_calls (some ⟨g, off, none⟩) g off n c (fun _ => rfl) _ _ w hl (fun _ => hg) (fun _ i hi => ?_) (by omega) (by omega)
    have ho := List.getElem?_eq_getElem (show i < os.length by omega)
    obtain ⟨A, ct, B, cd, C, cs, D, cr, q0, q1, q2, q3, -⟩ := hc i _ ho
    exact ⟨A, ct, B, cd, C, _, cs, D, _, cr, by rw [tlen_at ho]; exact q0, by rw [dlen_at ho]; exact q1, q2, q3⟩
/-- The places, read. -/
theorem places_at {w : World} {PB n : Nat} {os : List ObjV} (h : w.rowIs PB 98 (n * 2) (lay2 (tlen os) (dlen os) n n)) (hn : os.length = n) : ∀ i, i < n → w.cell? ⟨PB, i * 2, none⟩ = some (.int .i64 (txtV os i)) ∧ w.cell? ⟨PB, i * 2 + 1, none⟩ = some (.int .i64 (datV os i)) := by
  intro i hi
  have c0 := h.cell (show i * 2 < n * 2 by omega)
  have c1 := h.cell (show i * 2 + 1 < n * 2 by omega)
  rw [c0, c1]
  have e0 : ¬(i * 2 % 2 = 1 ∧ i * 2 / 2 < n) := by omega
  have e1 : (i * 2 + 1) % 2 = 1 ∧ (i * 2 + 1) / 2 < n := by omega
  have e2 : (i * 2 + 1) / 2 = i := by omega
  have e3 : i * 2 % 2 = 0 := by omega
  have e4 : i * 2 / 2 = i := by omega
  constructor
  · unfold lay2 lay1 txtV
    rw [if_neg e0]
    simp [e3, e4]
    omega
  · unfold lay2 datV
    rw [if_pos e1, e2, hn]
end Go.Proofs.Ytnbooljaodkedaa
namespace Go.Proofs.Ytnbooljaodkedaa
open Go.RowKit Go.Maps Go.Proofs.Ytnbooljaodkedaa.PC Go.Proofs.Ytnbooljaodkedaa.PW
set_option linter.unusedVariables false
set_option linter.unusedSimpArgs false
theorem mainE_zero {os : List ObjV} (h : mainE os = 0) : resE os = 0 ∧ ∃ t, mainT os = some t := by
  by_cases hr : resE os = 0
  · refine ⟨hr, ?_⟩
    cases hm : mainT os with
    | some t => exact ⟨t, rfl⟩
    | none => rw [mainE_none hr hm] at h; exact absurd h (by decide)
  · rw [mainE_res hr] at h
    exact absurd h hr
set_option maxRecDepth 100000 in
set_option maxHeartbeats 4000000 in
theorem link_long {w : World} {G : Option Addr} {n c : Nat} {os : List ObjV} (h : ObjsAt w G os) (hwf : ∀ o ∈ os, o.wf) (hn : os.length = n) (hl : n ≤ 1000) (he : mainE os = 0) (hlong : 2097152 < imgLen os) :
    Calls Try.prog 10 #[.slice G n c] w (LinkR w os) := by
  have kA : Kp w ((w.alloc (.cells noImg 28)).alloc (.cells #[.int .i64 0] 29)) := ((Kp.refl w).alloc _).alloc _
  have hmain := Aside.mk (Main_calls (c := c) (h.kp kA) hwf hn hl)
  obtain ⟨hr0, t, hmt⟩ := mainE_zero he
  have hres := Aside.mk (fun (W : World) (hW : Kp w W) => Resolve_calls (c := c) (h.kp hW) hwf hn hl)
  have hlay := Aside.mk (fun (W : World) (hW : Kp w W) => lay_objs (c := c) (h.kp hW) hn hl (resE_cases hr0).1)
  have hbase : Aside (base (tlen os) n + sumTo (dlen os) n = imgLen os) := ⟨by unfold imgLen; rw [hn]⟩
  have b2 := Aside.mk ((Blk.new w noImg 28).alloc (.cells #[.int .i64 0] 29))
  have b3 : Aside (Blk ((w.alloc (.cells noImg 28)).alloc (.cells #[.int .i64 0] 29)) (w.heap.size + 1) #[.int .i64 0] 29) := ⟨blk_e w noImg _⟩
  replace kA := Aside.mk kA
  replace hr0 := Aside.mk hr0
  replace hmt := Aside.mk hmt
  replace hlong := Aside.mk hlong
  clear h hwf hn hl
  go_enter Try.func10, Try.ntmps10
  go_wp2_with fail
  refine Calls.mono hmain.out ?_
  rintro e w1 ⟨k1, a, b, rfl, -⟩
  rw [he]
  replace he := Aside.mk he
  have c2 := b2.out.kp k1
  have c3 := b3.out.kp k1
  have kk := Aside.mk (kA.out.trans k1)
  have e2 : w1.cell? ⟨w.heap.size + 1, 0, none⟩ = some (.int .i64 0) := c3.cell 0
  have f2 := c3.frozen 0
  have l2 := c2.lt
  have l3 := c3.lt
  clear b2 b3 kA hmain
  replace k1 := Aside.mk k1
  replace c2 := Aside.mk c2
  replace c3 := Aside.mk c3
  go_wp2_with fail
  have hx := (kk.out.setCell (p := ⟨w.heap.size + 1, 0, none⟩) (Nat.le_succ _) (.int .i64 0))
  have kW := Aside.mk ((hx.alloc (.cells #[.int .i64 a, .int .i64 b] 63)).alloc (.cells #[.slice G n c, .slice none 0 0, .slice none 0 0] 70))
  have d2 := Aside.mk (((c2.out.far (b' := w.heap.size + 1) (i := 0) (by omega) (.int .i64 0)).alloc (.cells #[.int .i64 a, .int .i64 b] 63)).alloc (.cells #[.slice G n c, .slice none 0 0, .slice none 0 0] 70))
  have d3 := Aside.mk (((c3.out.set (i := 0) (.int .i64 0)).alloc (.cells #[.int .i64 a, .int .i64 b] 63)).alloc (.cells #[.slice G n c, .slice none 0 0, .slice none 0 0] 70))
  have d4 := Blk.new ((w1.setCell ⟨w.heap.size + 1, 0, none⟩ (.int .i64 0)).alloc (.cells #[.int .i64 a, .int .i64 b] 63)) #[.slice G n c, .slice none 0 0, .slice none 0 0] 70
  rw [World.size_alloc, World.size_setCell] at d4
  replace d4 := Aside.mk d4
  clear hx
  generalize hLK : w1.heap.size + 1 = LK at *
  generalize ((w1.setCell ⟨w.heap.size + 1, 0, none⟩ (.int .i64 0)).alloc (.cells #[.int .i64 a, .int .i64 b] 63)).alloc (.cells #[.slice G n c, .slice none 0 0, .slice none 0 0] 70) = W at *
  clear e2 f2 c2 c3
  refine Calls.mono (hres.out W kW.out) ?_
  rintro e w2 ⟨k2, v, a', b', rfl, hv⟩
  obtain ⟨OB, rfl, -, -⟩ := hv hr0.out
  rw [hr0.out]
  have g2 := d2.out.kp k2
  have g3 := d3.out.kp k2
  have g4 := d4.out.kp k2
  have kk2 := Aside.mk (kW.out.trans k2)
  have e1 : w2.cell? ⟨LK, 1, none⟩ = some (.slice none 0 0) := g4.cell 1
  have e2 : w2.cell? ⟨LK, 2, none⟩ = some (.slice none 0 0) := g4.cell 2
  have e3 : w2.cell? ⟨w.heap.size + 1, 0, none⟩ = some (.int .i64 0) := g3.cell 0
  have f1 := g4.frozen 1
  have f2 := g4.frozen 2
  have f3 := g3.frozen 0
  have m2 := g2.lt
  have m3 := g3.lt
  have m4 := g4.lt
  have n4 : w.heap.size + 1 < LK := by omega
  replace g2 := Aside.mk g2
  replace g3 := Aside.mk g3
  replace g4 := Aside.mk g4
  replace k2 := Aside.mk k2
  clear d2 d3 d4
  go_wp2_with fail
  have kW3 := Aside.mk (kk2.out.setCell (p := ⟨LK, 1, none⟩) (show w.heap.size ≤ LK by omega) (.slice (some ⟨OB, 0, none⟩) n n))
  have d2 := Aside.mk (g2.out.far (b' := LK) (i := 1) (by omega) (.slice (some ⟨OB, 0, none⟩) n n))
  have d3 := Aside.mk (g3.out.far (b' := LK) (i := 1) (by omega) (.slice (some ⟨OB, 0, none⟩) n n))
  have d4 := Aside.mk (g4.out.set (i := 1) (.slice (some ⟨OB, 0, none⟩) n n))
  clear e1 e2 e3 f1 f2 f3 g2 g3 g4 m2 m3 m4
  generalize w2.setCell ⟨LK, 1, none⟩ (.slice (some ⟨OB, 0, none⟩) n n) = W3 at *
  refine Calls.mono (hlay.out W3 kW3.out) ?_
  rintro e w4 ⟨k4, ⟨-, rfl⟩ | ⟨hle, -⟩⟩
  rotate_left 1
  · exfalso
    have := hbase.out
    have := hlong.out
    omega
  have g2 := d2.out.kp k4
  have g3 := d3.out.kp k4
  have g4 := d4.out.kp k4
  have kk4 := Aside.mk (kW3.out.trans k4)
  have e0 : w4.cell? ⟨w.heap.size, 0, none⟩ = some (.int .i64 0) := g2.cell 0
  have e1 : w4.cell? ⟨w.heap.size, 1, none⟩ = some (.slice none 0 0) := g2.cell 1
  have e2 : w4.cell? ⟨LK, 2, none⟩ = some (.slice none 0 0) := g4.cell 2
  have e3 : w4.cell? ⟨w.heap.size + 1, 0, none⟩ = some (.int .i64 0) := g3.cell 0
  have f0 := g2.frozen 0
  have f1 := g2.frozen 1
  have f2 := g4.frozen 2
  have f3 := g3.frozen 0
  have m2 := g2.lt
  have m3 := g3.lt
  have m4 := g4.lt
  replace g2 := Aside.mk g2
  replace g3 := Aside.mk g3
  replace g4 := Aside.mk g4
  replace k4 := Aside.mk k4
  clear d2 d3 d4
  go_upto_region 9 with fail
  go_region
  all_goals (go_wp2_with fail)
  have z2 := ((((g2.out.far (b' := LK) (i := 2) (by omega) (.slice none 0 0)).far (b' := w.heap.size + 1) (i := 0) (by omega) (.int .i64 6)).set (i := 0) (.int .i64 0)).set (i := 1) (.slice none 0 0)).far (b' := w.heap.size + 1) (i := 0) (by omega) (.int .i64 6)
  have z3 := ((((g3.out.far (b' := LK) (i := 2) (by omega) (.slice none 0 0)).set (i := 0) (.int .i64 6)).far (b' := w.heap.size) (i := 0) (by omega) (.int .i64 0)).far (b' := w.heap.size) (i := 1) (by omega) (.slice none 0 0)).set (i := 0) (.int .i64 6)
  have kz := ((((kk4.out.setCell (p := ⟨LK, 2, none⟩) (show w.heap.size ≤ LK by omega) (.slice none 0 0)).setCell (p := ⟨w.heap.size + 1, 0, none⟩) (Nat.le_succ _) (.int .i64 6)).setCell (p := ⟨w.heap.size, 0, none⟩) (Nat.le_refl _) (.int .i64 0)).setCell (p := ⟨w.heap.size, 1, none⟩) (Nat.le_refl _) (.slice none 0 0)).setCell (p := ⟨w.heap.size + 1, 0, none⟩) (Nat.le_succ _) (.int .i64 6)
  generalize ((((w4.setCell ⟨LK, 2, none⟩ (.slice none 0 0)).setCell ⟨w.heap.size + 1, 0, none⟩ (.int .i64 6)).setCell ⟨w.heap.size, 0, none⟩ (.int .i64 0)).setCell ⟨w.heap.size, 1, none⟩ (.slice none 0 0)).setCell ⟨w.heap.size + 1, 0, none⟩ (.int .i64 6) = V at *
  have y2 : Blk V w.heap.size #[.int .i64 0, .slice none 0 0] 28 := z2
  have y3 : Blk V (w.heap.size + 1) #[.int .i64 6] 29 := z3
  refine bodyPost_ret (link_results _ rfl rfl (y2.kp (Kp.refl _).drew) (y3.kp (Kp.refl _).drew)) rfl ?_
  exact ⟨kz.drew, _, _, rfl, Or.inr (Or.inl ⟨he.out, hlong.out, rfl, rfl⟩)⟩
end Go.Proofs.Ytnbooljaodkedaa
namespace Go.Proofs.Ytnbooljaodkedaa
open Go.RowKit Go.Proofs.Ytnbooljaodkedaa.PC Go.Proofs.Ytnbooljaodkedaa.PW
set_option linter.unusedVariables false
set_option linter.unusedSimpArgs false
theorem splice_get {α : Type} (L : List α) (off : Nat) (cs : List α) (h : off + cs.length ≤ L.length) (p : Nat) : (splice L off cs)[p]? = if off ≤ p ∧ p < off + cs.length then cs[p - off]? else L[p]? := by
  unfold splice
  by_cases h1 : p < off
  · rw [if_neg (by omega), List.getElem?_append_left (by rw [List.length_take]; omega), List.getElem?_take, if_pos h1]
  · rw [List.getElem?_append_right (by rw [List.length_take]; omega), List.length_take, Nat.min_eq_left (by omega)]
    by_cases h2 : p < off + cs.length
    · rw [if_pos (by omega), List.getElem?_append_left (by omega)]
    · rw [if_neg (by omega), List.getElem?_append_right (by omega), List.getElem?_drop]
      congr 1
      omega
theorem txt_next (os : List ObjV) (i : Nat) : txtV os (i + 1) = txtV os i + 4 * tlen os i := by
  unfold txtV
  simp only [sumTo]
  omega
theorem dat_next (os : List ObjV) (i : Nat) : datV os (i + 1) = datV os i + dlen os i := by
  unfold datV
  simp only [sumTo]
  omega
theorem txt_mono (os : List ObjV) {i j : Nat} (h : i ≤ j) : txtV os i ≤ txtV os j := by
  unfold txtV
  have := sumTo_mono (tlen os) h
  omega
theorem dat_mono (os : List ObjV) {i j : Nat} (h : i ≤ j) : datV os i ≤ datV os j := by
  unfold datV
  have := sumTo_mono (dlen os) h
  omega
theorem txt_end (os : List ObjV) {i j : Nat} (h : i ≤ os.length) : txtV os i ≤ datV os j := by
  have h1 := sumTo_mono (tlen os) h
  unfold txtV datV base
  omega
theorem dat_end (os : List ObjV) {i : Nat} (h : i ≤ os.length) : datV os i ≤ imgLen os := by
  have h1 := sumTo_mono (dlen os) h
  unfold datV imgLen
  omega
theorem fold_inv {α β : Type} {f : β → α → Option β} {P : β → Prop} : ∀ (l : List α), (∀ r ∈ l, ∀ s s', P s → f s r = some s' → P s') → ∀ s s', P s → l.foldlM f s = some s' → P s'
  | [], _, s, s', h, e => by
    simp only [List.foldlM_nil] at e
    obtain rfl := Option.some.inj e
    exact h
  | r :: l, hf, s, s', h, e => by
    rw [List.foldlM_cons] at e
    obtain ⟨s1, e1, e2⟩ := Option.bind_eq_some_iff.1 e
    exact fold_inv l (fun r' hr' => hf r' (List.mem_cons_of_mem _ hr')) s1 s' (hf r (List.mem_cons_self ..) s s1 h e1) e2
/-- No relocation is of this word, of this byte. -/
def freeT (o : ObjV) (k : Nat) : Prop := ∀ r ∈ o.rels, r.sect = 1 → r.at_ ≠ k
def freeD (o : ObjV) (k : Nat) : Prop := ∀ r ∈ o.rels, r.sect = 2 → ¬(r.at_ ≤ k ∧ (k : Int) < r.at_ + 4)
/-- What is kept of an object. -/
def ObjKept (o : ObjV) (TD : List Int × List Int) : Prop := TD.1.length = o.text.length ∧ TD.2.length = o.data.length ∧ (∀ k, freeT o k → TD.1[k]? = o.text[k]?) ∧ ∀ k, freeD o k → TD.2[k]? = o.data[k]?
theorem objR_kept {os : List ObjV} {i : Nat} {o : ObjV} (hok : objOk o) {TD : List Int × List Int} (h : objR os i o = some TD) : ObjKept o TD := by
  unfold objR at h
  refine fold_inv (P := ObjKept o) o.rels (fun r hr TD TD' hP he => ?_) _ _ ⟨rfl, rfl, fun _ _ => rfl, fun _ _ => rfl⟩ h
  obtain ⟨p1, p2, p3, p4⟩ := hP
  have hro := hok.2.2.2.2 r hr
  unfold stepR at he
  by_cases h2 : r.sect = 2
  · rw [if_pos h2] at he
    obtain rfl := Option.some.inj he
    rcases hro.2 with ⟨-, -, a0, -, a1⟩ | ⟨e, -⟩
    · have hfit : r.at_.toNat + (bytesL [relVal os i o r]).length ≤ TD.2.length := by
        rw [bytesL_length, p2]
        simp only [List.length_cons, List.length_nil]
        omega
      refine ⟨p1, by rw [splice_len _ _ _ hfit]; exact p2, p3, fun k hk => ?_⟩
      have hf := hk r hr h2
      rw [splice_get _ _ _ hfit, if_neg (by rw [bytesL_length]; simp only [List.length_cons, List.length_nil]; omega)]
      exact p4 k hk
    · omega
  · rw [if_neg h2] at he
    obtain ⟨W, -, rfl⟩ := Option.map_eq_some_iff.1 he
    refine ⟨by rw [List.length_set]; exact p1, p2, fun k hk => ?_, p4⟩
    rcases hro.2 with ⟨e, -⟩ | ⟨e, a0, -⟩
    · exact absurd e h2
    · have hf := hk r hr e
      rw [List.getElem?_set_ne (by omega)]
      exact p3 k hk
/-- An object's place in the image. -/
def inObj (os : List ObjV) (j p : Nat) : Prop := (txtV os j ≤ p ∧ p < txtV os (j + 1)) ∨ (datV os j ≤ p ∧ p < datV os (j + 1))
theorem inObj_apart {os : List ObjV} {i j p : Nat} (h : inObj os i p) (h' : inObj os j p) (hi : i < os.length) (hj : j < os.length) : i = j := by
  have t1 : ∀ {a b : Nat}, a + 1 ≤ b → txtV os (a + 1) ≤ txtV os b := fun h => txt_mono os h
  have d1 : ∀ {a b : Nat}, a + 1 ≤ b → datV os (a + 1) ≤ datV os b := fun h => dat_mono os h
  rcases Nat.lt_trichotomy i j with e | e | e
  · exfalso
    have a1 := t1 e
    have a2 := d1 e
    have a3 := txt_end os (i := i + 1) (j := j) hi
    have a4 := txt_end os (i := j + 1) (j := i) hj
    unfold inObj at h h'
    omega
  · exact e
  · exfalso
    have a1 := t1 e
    have a2 := d1 e
    have a3 := txt_end os (i := i + 1) (j := j) hi
    have a4 := txt_end os (i := j + 1) (j := i) hj
    unfold inObj at h h'
    omega
/-- What an object puts there. -/
structure PutAt (os : List ObjV) (i : Nat) (o : ObjV) (T D mem : List Int) : Prop where
  made : objR os i o = some (T, D)
  tl : T.length = o.text.length
  dl : D.length = o.data.length
  txt : ∀ b, b < 4 * T.length → mem[txtV os i + b]? = (bytesL T)[b]?
  dat : ∀ b, b < D.length → mem[datV os i + b]? = D[b]?
theorem put_one {os : List ObjV} {i : Nat} {o : ObjV} (ho : os[i]? = some o) (hok : objOk o) {mem mem' : List Int} (hm : mem.length = imgLen os) (h : objMem os i o mem = some mem') :
    mem'.length = imgLen os ∧ (∀ p, ¬inObj os i p → mem'[p]? = mem[p]?) ∧ ∃ T D, PutAt os i o T D mem' := by
  unfold objMem at h
  obtain ⟨⟨T, D⟩, h1, rfl⟩ := Option.map_eq_some_iff.1 h
  obtain ⟨k1, k2, -, -⟩ := objR_kept hok h1
  dsimp only at k1 k2 ⊢
  obtain ⟨f1, f2⟩ := txt_fit ho
  have hi := (List.getElem?_eq_some_iff.1 ho).1
  have a1 : txtV os i + (bytesL T).length ≤ mem.length := by rw [bytesL_length, k1, hm]; omega
  have l1 := splice_len mem (txtV os i) (bytesL T) a1
  have a2 : datV os i + D.length ≤ (splice mem (txtV os i) (bytesL T)).length := by rw [l1, k2, hm]; omega
  have l2 := splice_len _ (datV os i) D a2
  have n1 := txt_next os i
  have n2 := dat_next os i
  rw [tlen_at ho] at n1
  rw [dlen_at ho] at n2
  have b1 := bytesL_length T
  refine ⟨by rw [l2, l1, hm], fun p hp => ?_, T, D, h1, k1, k2, fun b hb => ?_, fun b hb => ?_⟩
  · unfold inObj at hp
    rw [splice_get _ _ _ a2, if_neg (by omega), splice_get _ _ _ a1, if_neg (by omega)]
  · rw [splice_get _ _ _ a2, if_neg (by omega), splice_get _ _ _ a1, if_pos (by omega)]
    congr 1
    omega
  · rw [splice_get _ _ _ a2, if_pos (by omega)]
    congr 1
    omega
theorem put_all {os : List ObjV} (hok : ∀ o ∈ os, objOk o) : ∀ (n i : Nat) (mem mem' : List Int), i + n = os.length → mem.length = imgLen os → memFrom os i (os.drop i) mem = some mem' →
    mem'.length = imgLen os ∧ (∀ p, (∀ j, i ≤ j → j < os.length → ¬inObj os j p) → mem'[p]? = mem[p]?) ∧ ∀ j o, i ≤ j → os[j]? = some o → ∃ T D, PutAt os j o T D mem'
  | 0, i, mem, mem', hn, hm, h => by
    rw [mem_end (show os.length = i by omega)] at h
    obtain rfl := Option.some.inj h
    refine ⟨hm, fun _ _ => rfl, fun j o hj ho => ?_⟩
    have := (List.getElem?_eq_some_iff.1 ho).1
    omega
  | n + 1, i, mem, mem', hn, hm, h => by
    have ho := List.getElem?_eq_getElem (show i < os.length by omega)
    rw [mem_step ho] at h
    obtain ⟨m1, h1, h2⟩ := Option.bind_eq_some_iff.1 h
    obtain ⟨l1, q1, T, D, p1⟩ := put_one ho (hok _ (List.getElem_mem _)) hm h1
    obtain ⟨l2, q2, p2⟩ := put_all hok n (i + 1) m1 mem' (by omega) l1 h2
    refine ⟨l2, fun p hp => ?_, fun j o hj hoj => ?_⟩
    · rw [q2 p (fun j hj => hp j (by omega)), q1 p (hp i (Nat.le_refl _) (by omega))]
    · by_cases e : i = j
      · subst e
        obtain rfl := Option.some.inj (ho.symm.trans hoj)
        have n1 := txt_next os i
        have n2 := dat_next os i
        rw [tlen_at ho, ← p1.tl] at n1
        rw [dlen_at ho, ← p1.dl] at n2
        have far : ∀ p, inObj os i p → mem'[p]? = m1[p]? := fun p hp => q2 p (fun j hj hjn hpj => by have := inObj_apart hp hpj (by omega) hjn; omega)
        exact ⟨T, D, p1.made, p1.tl, p1.dl, fun b hb => (far _ (Or.inl (by omega))).trans (p1.txt b hb), fun b hb => (far _ (Or.inr (by omega))).trans (p1.dat b hb)⟩
      · exact p2 j o (by omega) hoj
/-- The image, by its places. -/
structure ImgAt (os : List ObjV) (t : Nat × Nat) (mem : List Int) : Prop where
  len : mem.length = imgLen os
  start : ∃ j, patO 4 (insW 40 1 0 0 0) (adrV os t) 0 = some j ∧ ∀ b, b < 12 → mem[b]? = (bytesL [j, insW 18 17 0 0 3, insW 42 0 0 0 0])[b]?
  obj : ∀ i o, os[i]? = some o → ∃ T D, PutAt os i o T D mem ∧ ObjKept o (T, D)
theorem img_ge (os : List ObjV) : 12 ≤ imgLen os := by
  unfold imgLen base
  omega
theorem img_at {os : List ObjV} {t : Nat × Nat} {mem : List Int} (hok : ∀ o ∈ os, objOk o) (h : imageV os t = some mem) : ImgAt os t mem := by
  unfold imageV at h
  obtain ⟨s, h1, h2⟩ := Option.bind_eq_some_iff.1 h
  unfold startW at h1
  obtain ⟨j, hj, rfl⟩ := Option.map_eq_some_iff.1 h1
  have hl : 0 + (bytesL [j, insW 18 17 0 0 3, insW 42 0 0 0 0]).length ≤ (List.replicate (imgLen os) (0 : Int)).length := by
    rw [bytesL_length, List.length_replicate]
    have := img_ge os
    simp only [List.length_cons, List.length_nil]
    omega
  obtain ⟨l1, q1, p1⟩ := put_all hok os.length 0 _ mem (by omega) (by rw [splice_len _ _ _ hl, List.length_replicate]) h2
  refine ⟨l1, ⟨j, hj, fun b hb => ?_⟩, fun i o ho => ?_⟩
  · rw [q1 b (fun k _ hk hp => ?_), splice_get _ _ _ hl, if_pos (by rw [bytesL_length]; simp only [List.length_cons, List.length_nil]; omega), Nat.sub_zero]
    have a1 : 12 ≤ txtV os k := by unfold txtV; omega
    have a2 : txtV os 0 ≤ datV os k := txt_end os (Nat.zero_le _)
    have a3 : txtV os 0 = 12 := rfl
    unfold inObj at hp
    omega
  · obtain ⟨T, D, hp⟩ := p1 i o (Nat.zero_le _) ho
    exact ⟨T, D, hp, objR_kept (hok o (List.mem_of_getElem? ho)) hp.made⟩
theorem splice_all {α : Type} {P : α → Prop} {L cs : List α} {off : Nat} (h1 : ∀ x ∈ L, P x) (h2 : ∀ x ∈ cs, P x) : ∀ x ∈ splice L off cs, P x := by
  intro x hx
  unfold splice at hx
  simp only [List.mem_append] at hx
  rcases hx with hx | hx | hx
  · exact h1 x (List.mem_of_mem_take hx)
  · exact h2 x hx
  · exact h1 x (List.mem_of_mem_drop hx)
theorem objR_byte {os : List ObjV} {i : Nat} {o : ObjV} (hd : ∀ x ∈ o.data, Byte x) {TD : List Int × List Int} (h : objR os i o = some TD) : ∀ x ∈ TD.2, Byte x := by
  unfold objR at h
  refine fold_inv (P := fun TD => ∀ x ∈ TD.2, Byte x) o.rels (fun r hr TD TD' hP he => ?_) _ _ hd h
  unfold stepR at he
  split at he
  · obtain rfl := Option.some.inj he
    exact splice_all hP (bytesL_byte _)
  · obtain ⟨W, -, rfl⟩ := Option.map_eq_some_iff.1 he
    exact hP
theorem mem_byte {os : List ObjV} : ∀ (l : List ObjV) (i : Nat) (mem mem' : List Int), (∀ o ∈ l, ∀ x ∈ o.data, Byte x) → (∀ x ∈ mem, Byte x) → memFrom os i l mem = some mem' → ∀ x ∈ mem', Byte x
  | [], _, mem, mem', _, hm, h => by
    obtain rfl := Option.some.inj h
    exact hm
  | o :: l, i, mem, mem', hd, hm, h => by
    obtain ⟨m1, h1, h2⟩ := Option.bind_eq_some_iff.1 h
    unfold objMem at h1
    obtain ⟨TD, h3, rfl⟩ := Option.map_eq_some_iff.1 h1
    exact mem_byte l (i + 1) _ mem' (fun o' ho' => hd o' (List.mem_cons_of_mem _ ho')) (splice_all (splice_all hm (bytesL_byte _)) (objR_byte (hd o (List.mem_cons_self ..)) h3)) h2
theorem img_byte {os : List ObjV} {t : Nat × Nat} {mem : List Int} (hd : ∀ o ∈ os, ∀ x ∈ o.data, Byte x) (h : imageV os t = some mem) : ∀ x ∈ mem, Byte x := by
  unfold imageV at h
  obtain ⟨s, -, h2⟩ := Option.bind_eq_some_iff.1 h
  refine mem_byte os 0 _ mem hd (splice_all (fun x hx => ?_) (bytesL_byte _)) h2
  obtain ⟨-, rfl⟩ := List.mem_replicate.1 hx
  unfold Byte
  omega
end Go.Proofs.Ytnbooljaodkedaa
namespace Go.Proofs.Ytnbooljaodkedaa
open Go.RowKit Go.Maps Go.Proofs.Ytnbooljaodkedaa.PC Go.Proofs.Ytnbooljaodkedaa.PW
set_option linter.unusedVariables false
set_option linter.unusedSimpArgs false
theorem main_at {os : List ObjV} {t : Nat × Nat} (h : mainT os = some t) : ∃ s, symAt os t = some s ∧ s.sect = 1 := by
  unfold mainT at h
  obtain ⟨t', h1, h2⟩ := Option.bind_eq_some_iff.1 h
  obtain ⟨s, h3, h4⟩ := Option.bind_eq_some_iff.1 h2
  by_cases hc : s.sect = 1
  · rw [if_pos hc] at h4
    obtain rfl := Option.some.inj h4
    exact ⟨s, h3, hc⟩
  · rw [if_neg hc] at h4
    cases h4
theorem main_sym {os : List ObjV} {t : Nat × Nat} (h : mainT os = some t) : ∃ s, symAt os t = some s := by
  obtain ⟨s, h, _⟩ := main_at h
  exact ⟨s, h⟩
theorem main_pos {os : List ObjV} {t : Nat × Nat} {n : Nat} (h : mainT os = some t) (hn : os.length = n) : 0 < n := by
  obtain ⟨s, hs⟩ := main_sym h
  unfold symAt at hs
  obtain ⟨o, ho, _⟩ := Option.bind_eq_some_iff.1 hs
  have := (List.getElem?_eq_some_iff.1 ho).1
  omega
theorem objs_old {w : World} {G : Option Addr} {os : List ObjV} (h : ObjsAt w G os) (hne : os ≠ []) : ∀ g off, G = some ⟨g, off, none⟩ → g < w.heap.size := by
  obtain ⟨g, off, rfl, hg, _⟩ := h hne
  intro g' off' e
  injection e with e
  injection e with e
  omega
theorem tgts_other {w : World} {X OB i : Nat} {os : List ObjV} {v : Value} (h : TgtsAt w OB os) (h1 : OB ≠ X) (h2 : ∀ (g : Nat) (a b : Int), w.cell? ⟨g, 0, none⟩ = some (.int .i64 a) → w.cell? ⟨g, 1, none⟩ = some (.int .i64 b) → g ≠ X) : TgtsAt (w.setCell ⟨X, i, none⟩ v) OB os := by
  intro i' o ho
  obtain ⟨v', hv, A, c', rfl, hr⟩ := h i' o ho
  refine ⟨_, (World.cell?_of_block (heap_setCell_other w ⟨X, i, none⟩ OB v h1)).trans hv, A, c', rfl, fun hl => ?_⟩
  obtain ⟨g, hA, hlt, hgs, hc⟩ := hr hl
  have hg : g ≠ X := by
    obtain ⟨s, hs⟩ : ∃ s, o.syms[0]? = some s := ⟨_, List.getElem?_eq_getElem (List.length_pos_iff.2 hl)⟩
    obtain ⟨t, _, q0, q1⟩ := hc 0 s hs
    rw [Nat.zero_mul] at q0
    rw [Nat.zero_mul, Nat.zero_add] at q1
    exact h2 g _ _ q0 q1
  refine ⟨g, hA, hlt, by rw [World.size_setCell]; exact hgs, fun k s hs => ?_⟩
  obtain ⟨t, q, q0, q1⟩ := hc k s hs
  exact ⟨t, q, (World.cell?_of_block (heap_setCell_other w ⟨X, i, none⟩ g v hg)).trans q0, (World.cell?_of_block (heap_setCell_other w ⟨X, i, none⟩ g v hg)).trans q1⟩
theorem tgts_linker {w : World} {LK OB i n c : Nat} {G : Option Addr} {os : List ObjV} {x y v : Value} {ty : TypeId} (hb : Blk w LK #[.slice G n c, x, y] ty) (h : TgtsAt w OB os) (hG : ∀ g off, G = some ⟨g, off, none⟩ → g < LK) (hn : os.length = n) (h0 : 0 < n) : OB ≠ LK ∧ TgtsAt (w.setCell ⟨LK, i, none⟩ v) OB os := by
  have c0 : w.cell? ⟨LK, 0, none⟩ = some (.slice G n c) := hb.cell 0
  have hne : OB ≠ LK := by
    rintro rfl
    obtain ⟨o, ho⟩ : ∃ o, os[0]? = some o := ⟨_, List.getElem?_eq_getElem (show 0 < os.length by omega)⟩
    obtain ⟨v, hv, A, c', rfl, hr⟩ := h 0 o ho
    rw [c0] at hv
    injection hv with hv
    injection hv with e1 e2 e3
    obtain ⟨g, hA, hlt, _⟩ := hr (by intro e; rw [e] at e2; simp at e2; omega)
    have := hG g 0 (e1.trans hA)
    omega
  refine ⟨hne, tgts_other h hne (fun g a b q0 _ e => ?_)⟩
  subst e
  rw [c0] at q0
  cases q0
theorem tgts_err {w : World} {X OB i n : Nat} {os : List ObjV} {x : Int} {v : Value} {ty : TypeId} (hb : Blk w X #[.int .i64 x] ty) (h : TgtsAt w OB os) (hn : os.length = n) (h0 : 0 < n) : TgtsAt (w.setCell ⟨X, i, none⟩ v) OB os := by
  have c0 : w.cell? ⟨X, 0, none⟩ = some (.int .i64 x) := hb.cell 0
  have c1 : w.cell? ⟨X, 1, none⟩ = none := hb.cell 1
  refine tgts_other h ?_ (fun g a b _ q1 e => ?_)
  · rintro rfl
    obtain ⟨o, ho⟩ : ∃ o, os[0]? = some o := ⟨_, List.getElem?_eq_getElem (show 0 < os.length by omega)⟩
    obtain ⟨v, hv, A, c', rfl, hr⟩ := h 0 o ho
    rw [c0] at hv
    cases hv
  · subst e
    rw [c1] at q1
    cases q1
theorem TgtsAt.kp {w w' : World} {OB : Nat} {os : List ObjV} (h : TgtsAt w OB os) (hl : OB < w.heap.size) (k : Kp w w') : TgtsAt w' OB os := fun i o ho => by
  obtain ⟨v, h1, h2⟩ := h i o ho
  exact ⟨v, (k.cell (p := ⟨OB, i, none⟩) hl).trans h1, h2.kp k⟩
theorem patO_U {k x v p j : Int} (hv : U v) (h : patO k x v p = some j) : U j := by
  unfold patO at h
  split at h
  · rename_i hx
    obtain rfl := Option.some.inj h
    exact pat_range hv hx.choose_spec
  · cases h
/-- What Link defers, pending. -/
def linkDf (b d : Nat) : List Deferred := [{ target := .fn (.func 20) #[.pointer (some ⟨b, 0, none⟩), .pointer (some ⟨d, 0, none⟩)], args := #[] }]
set_option maxRecDepth 100000 in
theorem link_dies {w W : World} {os : List ObjV} {tm : Array Value} {b d : Nat} {cs0 : Array Value} {y : Int} (h2 : tm.getD 2 undef = .pointer (some ⟨b, 0, none⟩)) (h3 : tm.getD 3 undef = .pointer (some ⟨d, 0, none⟩)) (hk : Kp w W) (hw : w.heap.size ≤ b ∧ w.heap.size ≤ d ∧ b ≠ d) (hc : cs0.size = 2) (hb : Blk W b cs0 28) (hd : Blk W d #[.int .i64 y] 29) (hR : ∀ w', Kp w w' → LinkR w os (.returned (.tuple #[.agg #[.int .i64 0, .slice none 0 0], .int .i64 7])) w') :
    bodyPostD Try.prog Try.f10 (LinkR w os) (Exit.panic (thrownE 7)) { tmps := tm, defers := linkDf b d } W := by
  show Leaves _ _ _ _ _ (.panicking (thrownE 7)) _
  refine leaves_cons (f := 20) (args := #[.pointer (some ⟨b, 0, none⟩), .pointer (some ⟨d, 0, none⟩)]) (by simp [linkDf]) (by simp [linkDf, go_sem]) ?_
  refine (link_caught (w := W) 7 [] hc hb hd hw.2.2).mono ?_
  rintro e u' w'' ⟨rfl, rfl, b1, d1, k1⟩
  have hres := link_results (w := w'') tm h2 h3 b1 d1
  simp [Leaves, settle, linkDf, hres]
  exact hR w'' (k1 w hk hw.1 hw.2.1)
set_option maxRecDepth 100000 in
theorem link_ends {w W : World} {os : List ObjV} {tm : Array Value} {b d : Nat} {v : Value} (h2 : tm.getD 2 undef = .pointer (some ⟨b, 0, none⟩)) (h3 : tm.getD 3 undef = .pointer (some ⟨d, 0, none⟩)) (hb : Blk W b #[.int .i64 0, v] 28) (hd : Blk W d #[.int .i64 0] 29) (hR : LinkR w os (.returned (.tuple #[.agg #[.int .i64 0, v], .int .i64 0])) W) :
    bodyPostD Try.prog Try.f10 (LinkR w os) Exit.ret { tmps := tm, defers := linkDf b d } W := by
  show Leaves _ _ _ _ _ .returning _
  refine leaves_cons (f := 20) (args := #[.pointer (some ⟨b, 0, none⟩), .pointer (some ⟨d, 0, none⟩)]) (by simp [linkDf]) (by simp [linkDf, go_sem]) ?_
  refine (link_idle _ _ _).mono ?_
  rintro e u' w'' ⟨rfl, rfl, rfl⟩
  have hres := link_results (w := w'') tm h2 h3 hb hd
  simp [Leaves, settle, linkDf, hres]
  exact hR
set_option maxRecDepth 100000 in
set_option maxHeartbeats 8000000 in
theorem link_good {w : World} {G : Option Addr} {n c : Nat} {os : List ObjV} (h : ObjsAt w G os) (hwf : ∀ o ∈ os, o.wf) (hn : os.length = n) (hl : n ≤ 1000) (he : mainE os = 0) (hfit : imgLen os ≤ 2097152) :
    Calls Try.prog 10 #[.slice G n c] w (LinkR w os) := by
  have kA : Kp w ((w.alloc (.cells noImg 28)).alloc (.cells #[.int .i64 0] 29)) := ((Kp.refl w).alloc _).alloc _
  have hmain := Aside.mk (Main_calls (c := c) (h.kp kA) hwf hn hl)
  obtain ⟨hr0, t, hmt⟩ := mainE_zero he
  have hres := Aside.mk (fun (W : World) (hW : Kp w W) => Resolve_calls (c := c) (h.kp hW) hwf hn hl)
  have hlay := Aside.mk (fun (W : World) (hW : Kp w W) => lay_objs (c := c) (h.kp hW) hn hl (resE_cases hr0).1)
  have hbase : Aside (base (tlen os) n + sumTo (dlen os) n = imgLen os) := ⟨by unfold imgLen; rw [hn]⟩
  have b2 := Aside.mk ((Blk.new w noImg 28).alloc (.cells #[.int .i64 0] 29))
  have b3 : Aside (Blk ((w.alloc (.cells noImg 28)).alloc (.cells #[.int .i64 0] 29)) (w.heap.size + 1) #[.int .i64 0] 29) := ⟨blk_e w noImg _⟩
  replace kA := Aside.mk kA
  replace hr0 := Aside.mk hr0
  have hmts := Aside.mk (main_sym hmt)
  have h0n := Aside.mk (main_pos hmt hn)
  have hGl := Aside.mk (objs_old h (by rintro rfl; have := main_pos hmt hn; simp at hn; omega))
  replace hmt := Aside.mk hmt
  replace hfit := Aside.mk hfit
  replace h := Aside.mk h
  replace hwf := Aside.mk hwf
  replace hn := Aside.mk hn
  replace hl := Aside.mk hl
  replace he := Aside.mk he
  go_enter_defers Try.func10, Try.ntmps10
  go_wp2_with fail
  refine Calls.mono hmain.out ?_
  rintro e w1 ⟨k1, a, b, rfl, hmt1⟩
  obtain ⟨t', hmt2, rfl, rfl⟩ := hmt1 he.out
  obtain rfl : t = t' := Option.some.inj (hmt.out.symm.trans hmt2)
  clear hmt1 hmt2
  rw [he.out]
  have c2 := b2.out.kp k1
  have c3 := b3.out.kp k1
  have kk := Aside.mk (kA.out.trans k1)
  have e2 : w1.cell? ⟨w.heap.size + 1, 0, none⟩ = some (.int .i64 0) := c3.cell 0
  have f2 := c3.frozen 0
  have l2 := c2.lt
  have l3 := c3.lt
  clear b2 b3 kA hmain
  replace k1 := Aside.mk k1
  replace c2 := Aside.mk c2
  replace c3 := Aside.mk c3
  go_wp2_with fail
  have hx := (kk.out.setCell (p := ⟨w.heap.size + 1, 0, none⟩) (Nat.le_succ _) (.int .i64 0))
  have kW := Aside.mk ((hx.alloc (.cells #[.int .i64 t.1, .int .i64 t.2] 63)).alloc (.cells #[.slice G n c, .slice none 0 0, .slice none 0 0] 70))
  have d2 := Aside.mk (((c2.out.far (b' := w.heap.size + 1) (i := 0) (by omega) (.int .i64 0)).alloc (.cells #[.int .i64 t.1, .int .i64 t.2] 63)).alloc (.cells #[.slice G n c, .slice none 0 0, .slice none 0 0] 70))
  have d3 := Aside.mk (((c3.out.set (i := 0) (.int .i64 0)).alloc (.cells #[.int .i64 t.1, .int .i64 t.2] 63)).alloc (.cells #[.slice G n c, .slice none 0 0, .slice none 0 0] 70))
  have d4 := Blk.new ((w1.setCell ⟨w.heap.size + 1, 0, none⟩ (.int .i64 0)).alloc (.cells #[.int .i64 t.1, .int .i64 t.2] 63)) #[.slice G n c, .slice none 0 0, .slice none 0 0] 70
  rw [World.size_alloc, World.size_setCell] at d4
  replace d4 := Aside.mk d4
  have d5 := (Blk.new (w1.setCell ⟨w.heap.size + 1, 0, none⟩ (.int .i64 0)) #[.int .i64 t.1, .int .i64 t.2] 63).alloc (.cells #[.slice G n c, .slice none 0 0, .slice none 0 0] 70)
  rw [World.size_setCell] at d5
  replace d5 := Aside.mk d5
  clear hx
  generalize hLK : w1.heap.size + 1 = LK at *
  generalize ((w1.setCell ⟨w.heap.size + 1, 0, none⟩ (.int .i64 0)).alloc (.cells #[.int .i64 t.1, .int .i64 t.2] 63)).alloc (.cells #[.slice G n c, .slice none 0 0, .slice none 0 0] 70) = W at *
  clear e2 f2 c2 c3
  refine Calls.mono (hres.out W kW.out) ?_
  rintro e w2 ⟨k2, v, a', b', rfl, hv⟩
  obtain ⟨OB, rfl, hOB, htg⟩ := hv hr0.out
  rw [hr0.out]
  have g2 := d2.out.kp k2
  have g3 := d3.out.kp k2
  have g4 := d4.out.kp k2
  have g5 := d5.out.kp k2
  have kk2 := Aside.mk (kW.out.trans k2)
  have e1 : w2.cell? ⟨LK, 1, none⟩ = some (.slice none 0 0) := g4.cell 1
  have e2 : w2.cell? ⟨LK, 2, none⟩ = some (.slice none 0 0) := g4.cell 2
  have e3 : w2.cell? ⟨w.heap.size + 1, 0, none⟩ = some (.int .i64 0) := g3.cell 0
  have f1 := g4.frozen 1
  have f2 := g4.frozen 2
  have f3 := g3.frozen 0
  have m2 := g2.lt
  have m3 := g3.lt
  have m4 := g4.lt
  have n4 : w.heap.size + 1 < LK := by omega
  replace g2 := Aside.mk g2
  replace g3 := Aside.mk g3
  obtain ⟨hOL, htg3⟩ := tgts_linker (i := 1) (v := .slice (some ⟨OB, 0, none⟩) n n) g4 htg (fun g off e => Nat.lt_trans (hGl.out g off e) (by omega)) hn.out h0n.out
  replace g4 := Aside.mk g4
  replace g5 := Aside.mk g5
  replace k2 := Aside.mk k2
  replace htg := Aside.mk htg
  replace htg3 := Aside.mk htg3
  replace hOL := Aside.mk hOL
  replace hOB := Aside.mk (show OB < (w2.setCell ⟨LK, 1, none⟩ (.slice (some ⟨OB, 0, none⟩) n n)).heap.size by rw [World.size_setCell]; exact hOB)
  clear d2 d3 d4 d5
  go_wp2_with fail
  have kW3 := Aside.mk (kk2.out.setCell (p := ⟨LK, 1, none⟩) (show w.heap.size ≤ LK by omega) (.slice (some ⟨OB, 0, none⟩) n n))
  have d2 := Aside.mk (g2.out.far (b' := LK) (i := 1) (by omega) (.slice (some ⟨OB, 0, none⟩) n n))
  have d3 := Aside.mk (g3.out.far (b' := LK) (i := 1) (by omega) (.slice (some ⟨OB, 0, none⟩) n n))
  have d4 := Aside.mk (g4.out.set (i := 1) (.slice (some ⟨OB, 0, none⟩) n n))
  have d5 := Aside.mk (g5.out.far (b' := LK) (i := 1) (by omega) (.slice (some ⟨OB, 0, none⟩) n n))
  clear e1 e2 e3 f1 f2 f3 g2 g3 g4 g5 m2 m3 m4 htg
  generalize w2.setCell ⟨LK, 1, none⟩ (.slice (some ⟨OB, 0, none⟩) n n) = W3 at *
  refine Calls.mono (hlay.out W3 kW3.out) ?_
  rintro e w4 ⟨k4, ⟨hbad, -⟩ | ⟨hle, rfl, hrow⟩⟩
  · exfalso
    have := hbase.out
    have := hfit.out
    omega
  rw [hbase.out]
  have hpl := Aside.mk (places_at hrow hn.out)
  have htg4 := htg3.out.kp hOB.out k4
  have g2 := d2.out.kp k4
  have g3 := d3.out.kp k4
  have g4 := d4.out.kp k4
  have g5 := d5.out.kp k4
  have kk4 := Aside.mk (kW3.out.trans k4)
  have hPB : Aside (W3.heap.size < w4.heap.size) := ⟨hrow.lt⟩
  have hLP : Aside (LK < W3.heap.size) := ⟨d4.out.lt⟩
  have hOB4 : Aside (OB < w4.heap.size) := ⟨Nat.lt_of_lt_of_le hOB.out k4.size⟩
  generalize hPBe : W3.heap.size = PB at *
  have m3 := g3.lt
  have m4 := g4.lt
  have e2 : w4.cell? ⟨LK, 2, none⟩ = some (.slice none 0 0) := g4.cell 2
  have e3 : w4.cell? ⟨w.heap.size + 1, 0, none⟩ = some (.int .i64 0) := g3.cell 0
  have f2 := g4.frozen 2
  have f3 := g3.frozen 0
  have hT := (tgts_linker (i := 2) (v := .slice (some ⟨PB, 0, none⟩) n n) g4 htg4 (fun g off e => Nat.lt_trans (hGl.out g off e) (by omega)) hn.out h0n.out).2
  have x3 := g3.far (b' := LK) (i := 2) (by omega) (.slice (some ⟨PB, 0, none⟩) n n)
  have hT2 := Aside.mk (tgts_err (i := 0) (v := .int .i64 0) x3 hT hn.out h0n.out)
  have z2 := Aside.mk ((g2.far (b' := LK) (i := 2) (by omega) (.slice (some ⟨PB, 0, none⟩) n n)).far (b' := w.heap.size + 1) (i := 0) (by omega) (.int .i64 0))
  have z3 := Aside.mk (x3.set (i := 0) (.int .i64 0))
  have z4 := Aside.mk ((g4.set (i := 2) (.slice (some ⟨PB, 0, none⟩) n n)).far (b' := w.heap.size + 1) (i := 0) (by omega) (.int .i64 0))
  have z5 := Aside.mk ((g5.far (b' := LK) (i := 2) (by omega) (.slice (some ⟨PB, 0, none⟩) n n)).far (b' := w.heap.size + 1) (i := 0) (by omega) (.int .i64 0))
  have kz := Aside.mk ((kk4.out.setCell (p := ⟨LK, 2, none⟩) (show w.heap.size ≤ LK by omega) (.slice (some ⟨PB, 0, none⟩) n n)).setCell (p := ⟨w.heap.size + 1, 0, none⟩) (Nat.le_succ _) (.int .i64 0))
  have hp2 : Aside (∀ i, i < n → ((w4.setCell ⟨LK, 2, none⟩ (.slice (some ⟨PB, 0, none⟩) n n)).setCell ⟨w.heap.size + 1, 0, none⟩ (.int .i64 0)).cell? ⟨PB, i * 2, none⟩ = some (.int .i64 (txtV os i)) ∧ ((w4.setCell ⟨LK, 2, none⟩ (.slice (some ⟨PB, 0, none⟩) n n)).setCell ⟨w.heap.size + 1, 0, none⟩ (.int .i64 0)).cell? ⟨PB, i * 2 + 1, none⟩ = some (.int .i64 (datV os i))) := ⟨fun i hi => by
    obtain ⟨q0, q1⟩ := hpl.out i hi
    have a1 := hLP.out
    have hb := (heap_setCell_other (w4.setCell ⟨LK, 2, none⟩ (.slice (some ⟨PB, 0, none⟩) n n)) ⟨w.heap.size + 1, 0, none⟩ PB (.int .i64 0) (show PB ≠ w.heap.size + 1 by omega)).trans (heap_setCell_other w4 ⟨LK, 2, none⟩ PB (.slice (some ⟨PB, 0, none⟩) n n) (show PB ≠ LK by omega))
    exact ⟨(World.cell?_of_block hb).trans q0, (World.cell?_of_block hb).trans q1⟩⟩
  have hs2 : Aside (((w4.setCell ⟨LK, 2, none⟩ (.slice (some ⟨PB, 0, none⟩) n n)).setCell ⟨w.heap.size + 1, 0, none⟩ (.int .i64 0)).heap.size = w4.heap.size) := ⟨by rw [World.size_setCell, World.size_setCell]⟩
  have hm2 := hfit.out
  have hbase' := hbase.out
  replace hfit := trivial
  generalize hmi : imgLen os = m at *
  replace hmi := Aside.mk hmi
  replace hbase := trivial
  replace hbase' := Aside.mk hbase'
  have hmk := made_u8 m hm2
  replace g2 := Aside.mk g2
  replace g3 := Aside.mk g3
  replace g4 := Aside.mk g4
  replace g5 := Aside.mk g5
  replace k4 := Aside.mk k4
  replace hrow := trivial
  replace hle := trivial
  replace htg4 := trivial
  replace hT := trivial
  replace x3 := trivial
  clear d2 d3 d4 d5
  go_upto_region 11 with fail
  have hLk : Lk ((w4.setCell ⟨LK, 2, none⟩ (.slice (some ⟨PB, 0, none⟩) n n)).setCell ⟨w.heap.size + 1, 0, none⟩ (.int .i64 0)) LK G n c OB PB os := ⟨z4.out, h.out.kp kz.out, hn.out, by rw [hs2.out]; exact hOB4.out, hT2.out, by rw [hs2.out]; exact hPB.out, hp2.out⟩
  have hx2 : Aside (w.heap.size ≠ w.heap.size + 1) := ⟨by omega⟩
  have hT5 := z5.out.lt
  clear e2 e3 f2 f3 g2 g3 g4 g5 hp2 hT2 hs2 z4 hpl
  generalize (w4.setCell ⟨LK, 2, none⟩ (.slice (some ⟨PB, 0, none⟩) n n)).setCell ⟨w.heap.size + 1, 0, none⟩ (.int .i64 0) = w5 at *
  generalize hTB : w1.heap.size = TB at *
  replace hTB := trivial
  have c0 : w5.cell? ⟨TB, 0, none⟩ = some (.int .i64 t.1) := z5.out.cell 0
  have c1 : w5.cell? ⟨TB, 1, none⟩ = some (.int .i64 t.2) := z5.out.cell 1
  have k6 : Aside (Kp w5 (w5.alloc (.cells (memC (List.replicate m 0)) 5))) := ⟨(Kp.refl w5).alloc _⟩
  have b6 : Aside (Blk (w5.alloc (.cells (memC (List.replicate m 0)) 5)) w5.heap.size (byV (List.replicate m 0)).toArray 5) := ⟨Blk.new _ _ _⟩
  have d0 := (k6.out.cell (p := ⟨TB, 0, none⟩) hT5).trans c0
  have d1 := (k6.out.cell (p := ⟨TB, 1, none⟩) hT5).trans c1
  obtain ⟨s, hs⟩ := hmts.out
  have hst := Aside.mk (start_calls (hLk.kp k6.out) hs)
  replace hLk := Aside.mk hLk
  clear hs hmts
  obtain ⟨t0, t1⟩ := t
  dsimp only at d0 d1 hst
  clear c0 c1
  go_upto_region 12 with fail
  generalize w5.alloc (.cells (memC (List.replicate m 0)) 5) = w6 at *
  go_wp2_with fail
  refine Calls.mono hst.out ?_
  rintro e w7 ⟨k7, ⟨j, hj, g, rfl, hg, bg⟩ | ⟨hnone, rfl⟩⟩
  rotate_left 1
  · have k57 := k6.out.trans k7
    have q2 := z2.out.kp k57
    have q3 := z3.out.kp k57
    have hno : imageV os (t0, t1) = none := by unfold imageV startW; rw [hnone]; rfl
    clear hst d0 d1 b6
    go_wp2_with fail
    exact link_dies rfl rfl (kz.out.trans k57) ⟨Nat.le_refl _, Nat.le_succ _, hx2.out⟩ rfl q2 q3 (fun w' hk => ⟨hk, _, _, rfl, Or.inr (Or.inr ⟨he.out, by rw [hmi.out]; exact hm2, _, hmt.out, Or.inl ⟨hno, rfl, rfl⟩⟩)⟩)
  have k57 := Aside.mk (k6.out.trans k7)
  have b7 := b6.out.kp k7
  have hMg : w5.heap.size ≠ g := by have := b6.out.lt; omega
  have hgl := bg.lt
  generalize hMB : w5.heap.size = MB at *
  replace hMB := Aside.mk hMB
  have hMl := b7.lt
  have hm12 : 12 ≤ m := by rw [← hmi.out]; exact img_ge os
  have hS : Aside (startW os (t0, t1) = some [j, insW 18 17 0 0 3, insW 42 0 0 0 0]) := ⟨by unfold startW; rw [hj]; rfl⟩
  have hSl : Aside ((bytesL [j, insW 18 17 0 0 3, insW 42 0 0 0 0]).length = 12) := ⟨by rw [bytesL_length]; rfl⟩
  have hSU : Aside (∀ k x, [j, insW 18 17 0 0 3, insW 42 0 0 0 0][k]? = some x → U x) := ⟨fun k x hx => by
    rcases List.mem_of_getElem? hx with _ | ⟨_, _ | ⟨_, _ | ⟨_, h⟩⟩⟩
    · exact patO_U (adr_U _ _) hj
    · exact insW_U _ _ _ _ _
    · exact insW_U _ _ _ _ _
    · cases h⟩
  obtain ⟨S, hSe⟩ : ∃ S, [j, insW 18 17 0 0 3, insW 42 0 0 0 0] = S := ⟨_, rfl⟩
  have bS : Blk w7 g ((S.map (Value.int .u32)).toArray) 44 := by rw [← hSe]; exact bg
  have hS3 : Aside (S.length = 3) := ⟨by rw [← hSe]; rfl⟩
  rw [hSe] at hS hSl hSU
  replace hSe := trivial
  clear hj bg hst d0 d1 b6 k6
  replace k7 := trivial
  replace b7 := Aside.mk b7
  replace bS := Aside.mk bS
  go_wp2_with fail
  go_loopw [52] (fun v wr => ∃ k : Nat, k ≤ 3 ∧ v = .int .i64 k ∧ Kp w5 wr ∧ Blk wr MB (byV (splice (List.replicate m 0) 0 (bytesL (S.take k)))).toArray 5 ∧ Blk wr g ((S.map (Value.int .u32)).toArray) 44) (fun v _ => 3 - (intOf v).toNat)
  case atStart => exact ⟨0, Nat.zero_le _, rfl, k57.out, by simpa [splice, bytesL] using b7.out, bS.out⟩
  case round =>
    obtain ⟨k, hk, rfl, kp, bm, bs⟩ := hrel
    by_cases hlt : k < 3
    · obtain ⟨x, hx⟩ : ∃ x, Aside (S[k]? = some x) := ⟨_, ⟨List.getElem?_eq_getElem (by have := hS3.out; omega)⟩⟩
      have hUx := hSU.out k x hx.out
      have ck : wr.cell? ⟨g, k, none⟩ = some (.int .u32 x) := (bs.cell k).trans (by rw [List.getElem?_toArray, List.getElem?_map, hx.out]; rfl)
      have hgl2 := bs.lt
      have hwz : IntKind.i64.wrap (4 * (k : Int)) = ((4 * k : Nat) : Int) := by rw [IntKind.wrap_i64]; omega
      have hz1 : 0 ≤ IntKind.i64.wrap (4 * (k : Int)) := by rw [hwz]; omega
      have hz2 : IntKind.i64.wrap (4 * (k : Int)) ≤ (m : Int) := by rw [hwz]; omega
      have hsl : (splice (List.replicate m (0 : Int)) 0 (bytesL (S.take k))).length = m := by rw [splice_len _ _ _ (by rw [bytesL_length, List.length_take, List.length_replicate]; omega), List.length_replicate]
      have hfit2 : 0 + 4 * S.length ≤ (List.replicate m (0 : Int)).length := by rw [hS3.out, List.length_replicate]; omega
      have hk4 : 4 * k + 4 ≤ m := by omega
      replace hwz := Aside.mk hwz
      replace kp := Aside.mk kp
      replace bm := Aside.mk bm
      replace bs := Aside.mk bs
      clear hMl hgl
      go_upto_region 15 with fail
      refine wp_hide (fun Q0 hQ0 => ?_)
      refine wp_region_held_drew (S := fun V => True) (by kernel_rfl) ?hS0a (fun hHeld => ?_)
      case hS0a => exact trivial
      refine wpAnyH_takeL (i := 0) (v := ?v0a) rfl (by kernel_rfl) (by kernel_rfl) (by kernel_rfl) (fun _ _ _ h => h) (Or.inl ⟨by kernel_rfl, ?hy0a⟩) (by assumption) ?rest0a
      case hy0a => (intro w hSw; (try dsimp only at hSw); go_simp; (try with_reducible rfl))
      try simp only [Act.put, List.setIfInBounds_toArray, List.set_cons_zero, List.set_cons_succ]
      refine wpAnyH_takeL (i := 1) (v := ?v1a) rfl (by kernel_rfl) (by kernel_rfl) (by kernel_rfl) (fun _ _ _ h => h) (Or.inl ⟨by kernel_rfl, ?hy1a⟩) (by assumption) ?rest1a
      case hy1a => (intro w hSw; (try dsimp only at hSw); go_simp; (try with_reducible rfl))
      try simp only [Act.put, List.setIfInBounds_toArray, List.set_cons_zero, List.set_cons_succ]
      refine wpAnyH_takeL (i := 2) (v := ?v2a) rfl (by kernel_rfl) (by kernel_rfl) (by kernel_rfl) (fun _ _ _ h => h) (Or.inl ⟨by kernel_rfl, ?hy2a⟩) (by assumption) ?rest2a
      case hy2a => (intro w hSw; (try dsimp only at hSw); go_simp; (try with_reducible rfl))
      try simp only [Act.put, List.setIfInBounds_toArray, List.set_cons_zero, List.set_cons_succ]
      refine wpAnyH_takeL (i := 3) (v := ?v3a) rfl (by kernel_rfl) (by kernel_rfl) (by kernel_rfl) (fun _ _ _ h => h) (Or.inl ⟨by kernel_rfl, ?hy3a⟩) (by assumption) ?rest3a
      case hy3a => (intro w hSw; (try dsimp only at hSw); go_simp; (try with_reducible rfl))
      try simp only [Act.put, List.setIfInBounds_toArray, List.set_cons_zero, List.set_cons_succ]
      refine wpAnyH_takeL (i := 4) (v := ?v4a) rfl (by kernel_rfl) (by kernel_rfl) (by kernel_rfl) (fun _ _ _ h => h) (Or.inl ⟨by kernel_rfl, ?hy4a⟩) (by assumption) ?rest4a
      case hy4a => (intro w hSw; (try dsimp only at hSw); go_simp; (try with_reducible rfl))
      try simp only [Act.put, List.setIfInBounds_toArray, List.set_cons_zero, List.set_cons_succ]
      refine wpAnyH_ready (rs := [5]) (by kernel_rfl) (by simp) ?_
      refine AllReadyH.consL rfl (fun Kx hKx => ?_) AllReadyH.nil
      go_simp
      refine Calls.mono (lbytes_calls x hUx _) ?_
      rintro e w8 ⟨rfl, k8, bb⟩
      have hrow := (bm.out.kp (Kp.refl _).drew).kp k8
      refine hKx.out _ _ trivial (fun hHeld => ?_)
      clear hKx
      try simp only [Act.put, List.setIfInBounds_toArray, List.set_cons_zero, List.set_cons_succ]
      refine wpAnyH_ready (rs := [6]) (by kernel_rfl) (by simp) ?_
      refine AllReadyH.consL rfl (fun Kx hKx => ?_) AllReadyH.nil
      refine step_put rfl (.tmp 60) (.tmp 62) rfl _ _ _ _ 4 4 rfl rfl MB (4 * k) (splice (List.replicate m 0) 0 (bytesL (S.take k))) (bytesL [x]) [] (by rw [List.append_nil]; exact hrow) rfl (by rw [hwz.out, Int.toNat_natCast]; omega) (by rw [hsl]; exact hk4) (fun _ => by rw [hwz.out, Int.toNat_natCast, if_neg (by omega)]) (fun _ => ⟨_, rfl, [], by rw [List.append_nil]; exact bb⟩) ?_
      intro w9 hg9 hm9
      rw [List.append_nil] at hg9
      have hg9' := hg9
      rw [show 4 * k = 0 + 4 * k by omega, lwords_snoc (List.replicate m 0) S 0 k hx.out hfit2] at hg9'
      refine hKx.out _ _ trivial (fun hHeld => ?_)
      clear hKx
      try simp only [Act.put, List.setIfInBounds_toArray, List.set_cons_zero, List.set_cons_succ]
      refine wpAnyH_done (by kernel_rfl) (hQ0.out _ _ ?_) _
      have kp9 := Aside.mk (Mod.kp0 ((kp.out.drew).trans k8) (Nat.le_of_eq hMB.out) hm9)
      have bs9 : Aside (Blk w9 g ((S.map (Value.int .u32)).toArray) 44) := ⟨hm9.blk ((bs.out.kp (Kp.refl _).drew).kp k8) hMg.symm⟩
      replace hg9' := Aside.mk hg9'
      clear hm9 hg9 hrow bb k8
      go_wp2_with fail
      go_roundw
      case rel => exact ⟨k + 1, by omega, by go_num, kp9.out, hg9'.out, bs9.out⟩
      case measure => simp [intOf]; omega
    · obtain rfl : k = 3 := by omega
      rw [List.take_of_length_le (by rw [hS3.out]; omega)] at bm
      clear bs
      have hml : Aside ((splice (List.replicate m (0 : Int)) 0 (bytesL S)).length = m) := ⟨by rw [splice_len _ _ _ (by rw [hSl.out, List.length_replicate]; omega), List.length_replicate]⟩
      have him : Aside (imageV os (t0, t1) = memFrom os 0 (os.drop 0) (splice (List.replicate m 0) 0 (bytesL S))) := ⟨by unfold imageV; rw [hS.out, hmi.out]; rfl⟩
      generalize splice (List.replicate m (0 : Int)) 0 (bytesL S) = mem0 at *
      replace kp := Aside.mk kp
      replace bm := Aside.mk bm
      clear hMl hgl b7 bS
      go_wp2_with fail
      go_loopw [67] (fun v wr => ∃ (k : Nat) (mem : List Int), k ≤ n ∧ v = .int .i64 k ∧ Kp w5 wr ∧ Blk wr MB (byV mem).toArray 5 ∧ Aside (mem.length = m ∧ imageV os (t0, t1) = memFrom os k (os.drop k) mem)) (fun v _ => n - (intOf v).toNat)
      case atStart => exact ⟨0, mem0, Nat.zero_le _, rfl, kp.out, bm.out, ⟨hml.out, him.out⟩⟩
      case round =>
        obtain ⟨k, mem, hk, rfl, kp', bm', hmm⟩ := hrel
        clear kp bm hml him
        have hl1 := hl.out
        by_cases hlt : k < n
        · obtain ⟨o, ho⟩ : ∃ o, Aside (os[k]? = some o) := ⟨_, ⟨List.getElem?_eq_getElem (by have := hn.out; omega)⟩⟩
          have hobj := Aside.mk (object_calls hLk.out kp' ho.out ((resE_cases hr0.out).1 o (List.mem_of_getElem? ho.out)) (hwf.out o (List.mem_of_getElem? ho.out)) (Nat.le_of_eq hMB.out) bm' hmm.out.1 hmi.out.symm hm2)
          have hstep := Aside.mk (hmm.out.2.trans (mem_step ho.out))
          clear bm'
          replace kp' := trivial
          go_wp2_with fail
          refine Calls.mono hobj.out ?_
          rintro e w8 ⟨k8, ⟨mem', h1, h2, h3, rfl⟩ | ⟨h1, rfl⟩⟩
          · have hnext : Aside (mem'.length = m ∧ imageV os (t0, t1) = memFrom os (k + 1) (os.drop (k + 1)) mem') := ⟨h2, hstep.out.trans (by rw [h1]; rfl)⟩
            replace k8 := Aside.mk k8
            replace h3 := Aside.mk h3
            clear h1 h2 hstep hobj
            go_wp2_with fail
            go_roundw
            case rel => ((repeat apply Exists.intro); exact ⟨⟨k + 1, mem', by omega, by go_num, k8.out, h3.out, hnext⟩, rfl⟩)
            case measure => simp [intOf]; omega
          · have hno : Aside (imageV os (t0, t1) = none) := ⟨hstep.out.trans (by rw [h1]; rfl)⟩
            have q2 := Aside.mk (z2.out.kp k8)
            have q3 := Aside.mk (z3.out.kp k8)
            replace k8 := Aside.mk k8
            clear h1 hstep hobj
            go_wp2_with fail
            exact link_dies rfl rfl (kz.out.trans k8.out) ⟨Nat.le_refl _, Nat.le_succ _, hx2.out⟩ rfl q2.out q3.out (fun w' hk => ⟨hk, _, _, rfl, Or.inr (Or.inr ⟨he.out, by rw [hmi.out]; exact hm2, _, hmt.out, Or.inl ⟨hno.out, rfl, rfl⟩⟩)⟩)
        · obtain rfl : k = n := by omega
          have hfin : Aside (imageV os (t0, t1) = some mem) := ⟨hmm.out.2.trans (mem_end hn.out)⟩
          have q2 := z2.out.kp kp'
          have q3 := z3.out.kp kp'
          have e0 : wr.cell? ⟨w.heap.size, 0, none⟩ = some (.int .i64 0) := q2.cell 0
          have e1 : wr.cell? ⟨w.heap.size, 1, none⟩ = some (.slice none 0 0) := q2.cell 1
          have e3 : wr.cell? ⟨w.heap.size + 1, 0, none⟩ = some (.int .i64 0) := q3.cell 0
          have f0 := q2.frozen 0
          have f1 := q2.frozen 1
          have f3 := q3.frozen 0
          have kk5 := Aside.mk (kz.out.trans kp')
          have m2' := q2.lt
          have m3' := q3.lt
          have hMw : Aside (w.heap.size ≤ MB ∧ MB ≠ w.heap.size ∧ MB ≠ w.heap.size + 1) := ⟨by have := z2.out.lt; have := z3.out.lt; have := hMB.out; omega⟩
          replace q2 := Aside.mk q2
          replace q3 := Aside.mk q3
          replace kp' := trivial
          replace bm' := Aside.mk bm'
          go_wp2_with fail
          have y2 := ((q2.out.set (i := 0) (.int .i64 0)).set (i := 1) (.slice (some ⟨MB, 0, none⟩) m m)).far (b' := w.heap.size + 1) (i := 0) hx2.out (.int .i64 0)
          have y3 := ((q3.out.far (b' := w.heap.size) (i := 0) hx2.out.symm (.int .i64 0)).far (b' := w.heap.size) (i := 1) hx2.out.symm (.slice (some ⟨MB, 0, none⟩) m m)).set (i := 0) (.int .i64 0)
          have ym := ((bm'.out.far (b' := w.heap.size) (i := 0) hMw.out.2.1 (.int .i64 0)).far (b' := w.heap.size) (i := 1) hMw.out.2.1 (.slice (some ⟨MB, 0, none⟩) m m)).far (b' := w.heap.size + 1) (i := 0) hMw.out.2.2 (.int .i64 0)
          have ky := ((kk5.out.setCell (p := ⟨w.heap.size, 0, none⟩) (Nat.le_refl _) (.int .i64 0)).setCell (p := ⟨w.heap.size, 1, none⟩) (Nat.le_refl _) (.slice (some ⟨MB, 0, none⟩) m m)).setCell (p := ⟨w.heap.size + 1, 0, none⟩) (Nat.le_succ _) (.int .i64 0)
          exact link_ends rfl rfl y2 y3 ⟨ky, _, _, rfl, Or.inr (Or.inr ⟨he.out, by rw [hmi.out]; exact hm2, _, hmt.out, Or.inr ⟨mem, MB, hfin.out, by rw [hmi.out]; exact hmm.out.1, rfl, by rw [hmi.out], hMw.out.1, ym⟩⟩)⟩
end Go.Proofs.Ytnbooljaodkedaa
namespace Go.Proofs.Ytnbooljaodkedaa
open Go.RowKit Go.Maps Go.Proofs.Ytnbooljaodkedaa.PC Go.Proofs.Ytnbooljaodkedaa.PW
theorem Link_calls {w : World} {G : Option Addr} {n c : Nat} {os : List ObjV} (h : ObjsAt w G os) (hwf : ∀ o ∈ os, o.wf) (hn : os.length = n) (hl : n ≤ 1000) :
    Calls Try.prog 10 #[.slice G n c] w (LinkR w os) := by
  by_cases he : mainE os = 0
  · by_cases hf : imgLen os ≤ 2097152
    · exact link_good h hwf hn hl he hf
    · exact link_long h hwf hn hl he (by omega)
  · exact link_main h hwf hn hl he
end Go.Proofs.Ytnbooljaodkedaa
