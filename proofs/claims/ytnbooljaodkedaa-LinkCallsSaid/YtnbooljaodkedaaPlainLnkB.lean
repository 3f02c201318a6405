/- Reading a word back: the map's round, and blocks. · Reading a word back, walked. · Objects by value: which are objects, what their symbols mean. No condition. · What objects' symbols mean; the image: by value. No condition. -/
import Derived.Test.YtnbooljaodkedaaPlainPatch
import Derived.Test.YtnbooljaodkedaaCodeN
import Derived.Deep.DeepCutAuto
import Derived.Deep.RegionHeld3
namespace Go.Proofs.Ytnbooljaodkedaa
open Go.RowKit Go.Maps Go.Proofs.Ytnbooljaodkedaa.PC
set_option linter.unusedVariables false
set_option linter.unusedSimpArgs false
theorem results_cell_tmp_row {fn : Func} {p u : Tmp} {ty : TypeId} {P : Program} (h : fn.results = #[.cell p ty, .tmp u]) (tmps : Array Value) (w : World) (g : Nat) (t : TypeId) (cs : Array Value) (fr : Nat × Nat) {fs : Array Field}
    (hp : tmps.getD p undef = .pointer (some ⟨g, 0, none⟩)) (hg : w.heap[g]? = some (.cells cs t fr))
    (hu : P.underlying ty = some (.struct fs)) (hi : (P.info? ty).map (·.size) = some cs.size) :
    (results fn tmps).run P w = .ok (.tuple #[.agg cs, tmps.getD u undef]) w := by
  have hp' : tmps[p]?.getD undef = .pointer (some ⟨g, 0, none⟩) := by simpa using hp
  simp only [results, h]
  simp [hp', asAddr, run_loadVar_row w g t ty cs fr _ hg hu rfl hi, Sem.run_bind, Result.andThen]
theorem form_of_at {x : Int} {v : Value} {z : DataW Value × List MemPlace} (hv : RF v = some z) (hat : ∀ zd, tableD.atKey (.int .i64 x) zd = z.1) : ∃ f, formOf x = some f ∧ v = .agg #[.int .u8 f.kind, .int .u32 f.op, .int .u32 f.f3, .int .u32 f.f7, .int .i64 f.rs2] := by
  cases hv
  cases hf : formOf x with
  | none =>
    have := hat .nil
    rw [table_at, hf] at this
    cases this
  | some f =>
    have := hat .nil
    rw [table_at, hf] at this
    injection this with this
    exact ⟨f, rfl, this.symm⟩
section
variable (w : World) {ops : Array Oper} {rest : List Oper} {o : Oper} {a : Act} {Q : Exit → Act → World → Prop}
/-- The step of the range over the table. -/
theorem wpList_next_F (hg : o.guard = none) (it : Operand) (hop : o.op = Op.next it false) (b r n : Nat) (left : Lit → Bool) (cnt : Nat) (hit : a.eval it = .pointer (some ⟨r, 0, none⟩)) (h : w.ranges Try.prog 3 RF b r n tableD left cnt)
    (hDone : (∀ kl, left kl = false) → wpList Try.prog ops Q rest (a.put o.dst (.tuple #[.bool false])) w)
    (hMore : ∀ (x : Int) (f : Fm) (w' : World) (cnt' : Nat), formOf x = some f → w'.ranges Try.prog 3 RF b r n tableD (fun z => left z && !z.sameKey (.int .i64 x)) cnt' → cnt' < cnt → w.grownBy w' (some r) →
      (Instr.entry (.pointer (some ⟨r, 0, none⟩))).run Try.prog w' = .ok (.tuple #[.int .i64 x, .agg #[.int .u8 f.kind, .int .u32 f.op, .int .u32 f.f3, .int .u32 f.f7, .int .i64 f.rs2]]) w' →
      wpList Try.prog ops Q rest (a.put o.dst (.tuple #[.bool true, .int .i64 x, .agg #[.int .u8 f.kind, .int .u32 f.op, .int .u32 f.f3, .int .u32 f.f7, .int .i64 f.rs2]])) w') :
    wpList Try.prog ops Q (o :: rest) a w := by
  refine wpList_next_ranges w hg it hop 3 lawK RF (Value.int .i64) (fun v : Value => v) (fun key kl hk => by obtain ⟨x, rfl, _⟩ := Maps.keyOf_int_inv Try.underlying3 hk; exact ⟨x, rfl⟩) (fun v y _ => ⟨v, rfl⟩) b r n tableD left cnt hit h (fun _ hl => hDone hl) ?_
  intro x v kl y w' cnt' hkey hlk hv hat hrg hlt hgr hsz hen
  obtain ⟨x', ex, rfl, _⟩ := Maps.keyOf_int_inv Try.underlying3 hkey
  cases ex
  obtain ⟨f, hf, rfl⟩ := form_of_at hv hat
  exact hMore x f w' cnt' hf hrg hlt hgr hen
end
theorem World.ranges.kp {w w' : World} {b r n cnt : Nat} {D : DataW Value} {left : Lit → Bool} (h : w.ranges Try.prog 3 RF b r n D left cnt) (k : Kp w w') : w'.ranges Try.prog 3 RF b r n D left cnt := by
  have h1 := h.owns.lt
  have h2 := h.lt
  obtain ⟨es, clock, since, seen, c0, hb, F, hs, hD, hr, rest⟩ := h
  exact ⟨es, clock, since, seen, c0, (k.block h1).trans hb, F, hs, hD, (k.block h2).trans hr, rest⟩
/-- The rounds so far have found none. -/
def NoHit (x : Int) (left : Lit → Bool) : Prop := ∀ op f, formOf op = some f → left (.int .i64 op) = false → ¬Hit op x
theorem noHit_start (x : Int) : NoHit x (Maps.has tableD) := by
  intro op f hf hl
  rw [table_has, hf] at hl
  cases hl
theorem noHit_step {x op : Int} {left : Lit → Bool} (h : NoHit x left) (hop : ¬Hit op x) : NoHit x (fun z => left z && !z.sameKey (.int .i64 op)) := by
  intro o f hf hl
  by_cases e : left (.int .i64 o) = false
  · exact h o f hf e
  · have e1 : left (.int .i64 o) = true := by simpa using e
    change (left (.int .i64 o) && !(Lit.int .i64 o).sameKey (.int .i64 op)) = false at hl
    rw [e1] at hl
    have e2 : (Lit.int .i64 o).sameKey (.int .i64 op) = true := by simpa using hl
    have e3 := WideAt.sameKey_eq e2
    cases e3
    exact hop
/-- A block of cells that may be written. -/
def Blk (w : World) (b : Nat) (cs : Array Value) (ty : TypeId) : Prop := w.heap[b]? = some (.cells cs ty (0, 0))
theorem Blk.lt {w : World} {b : Nat} {cs : Array Value} {ty : TypeId} (h : Blk w b cs ty) : b < w.heap.size := (Array.getElem?_eq_some_iff.1 h).1
theorem Blk.kp {w w' : World} {b : Nat} {cs : Array Value} {ty : TypeId} (h : Blk w b cs ty) (k : Kp w w') : Blk w' b cs ty := (k.block h.lt).trans h
theorem Blk.cell {w : World} {b : Nat} {cs : Array Value} {ty : TypeId} (h : Blk w b cs ty) (i : Nat) : w.cell? ⟨b, i, none⟩ = cs[i]? := by
  unfold Blk at h
  simp [World.cell?, h]
theorem Blk.frozen {w : World} {b : Nat} {cs : Array Value} {ty : TypeId} (h : Blk w b cs ty) (i : Nat) : w.frozen? ⟨b, i, none⟩ = false := by
  unfold Blk at h
  simp [World.frozen?, h]
theorem Blk.set {w : World} {b i : Nat} {cs : Array Value} {ty : TypeId} (h : Blk w b cs ty) (v : Value) : Blk (w.setCell ⟨b, i, none⟩ v) b (cs.setIfInBounds i v) ty := heap_setCell_same w b i cs ty v h
theorem Blk.far {w : World} {b b' i : Nat} {cs : Array Value} {ty : TypeId} (h : Blk w b cs ty) (hne : b ≠ b') (v : Value) : Blk (w.setCell ⟨b', i, none⟩ v) b cs ty := (heap_setCell_other w ⟨b', i, none⟩ b v hne).trans h
theorem Blk.new (w : World) (cs : Array Value) (ty : TypeId) : Blk (w.alloc (.cells cs ty)) w.heap.size cs ty := heap_new rfl
theorem Blk.alloc {w : World} {b : Nat} {cs : Array Value} {ty : TypeId} (h : Blk w b cs ty) (o : Obj) : Blk (w.alloc o) b cs ty := h.kp ((Kp.refl w).alloc o)
theorem Blk.five {w : World} {b : Nat} {a0 a1 a2 a3 a4 : Value} {ty : TypeId} (h : Blk w b #[a0, a1, a2, a3, a4] ty) : b < w.heap.size ∧ w.cell? ⟨b, 0, none⟩ = some a0 ∧ w.cell? ⟨b, 1, none⟩ = some a1 ∧ w.cell? ⟨b, 2, none⟩ = some a2 ∧ w.cell? ⟨b, 3, none⟩ = some a3 ∧ w.cell? ⟨b, 4, none⟩ = some a4 ∧
    w.frozen? ⟨b, 0, none⟩ = false ∧ w.frozen? ⟨b, 1, none⟩ = false ∧ w.frozen? ⟨b, 2, none⟩ = false ∧ w.frozen? ⟨b, 3, none⟩ = false ∧ w.frozen? ⟨b, 4, none⟩ = false :=
  ⟨h.lt, h.cell 0, h.cell 1, h.cell 2, h.cell 3, h.cell 4, h.frozen 0, h.frozen 1, h.frozen 2, h.frozen 3, h.frozen 4⟩
theorem Blk.four {w : World} {b : Nat} {a0 a1 a2 a3 : Value} {ty : TypeId} (h : Blk w b #[a0, a1, a2, a3] ty) : b < w.heap.size ∧ w.cell? ⟨b, 0, none⟩ = some a0 ∧ w.cell? ⟨b, 1, none⟩ = some a1 ∧ w.cell? ⟨b, 2, none⟩ = some a2 ∧ w.cell? ⟨b, 3, none⟩ = some a3 :=
  ⟨h.lt, h.cell 0, h.cell 1, h.cell 2, h.cell 3⟩
end Go.Proofs.Ytnbooljaodkedaa
namespace Go.Proofs.Ytnbooljaodkedaa
open Go.RowKit Go.Maps Go.Proofs.Ytnbooljaodkedaa.PC
set_option linter.unusedVariables false
set_option linter.unusedSimpArgs false
set_option maxRecDepth 100000 in
set_option maxHeartbeats 2000000 in
theorem Decode_calls (x : Int) (hx : 0 ≤ x ∧ x ≤ 4294967295) (w : World) :
    Calls Try.prog 49 #[.int .u32 x] w fun e w' => ∃ op rd rs1 rs2 n er : Int, e = .returned (.tuple #[.agg #[.int .i64 op, .int .i64 rd, .int .i64 rs1, .int .i64 rs2, .int .i64 n], .int .i64 er]) ∧ Kp w w' ∧ DecR x op rd rs1 rs2 n er := by
  have h127 : bits .and .u32 x 127 = x % 128 := u32_and127 hx.1 (by omega)
  replace h127 := Aside.mk h127
  go_enter Try.func49, Try.ntmps49
  go_wp2_with (first | ((go_at_call 45); (refine Calls.mono (forms_calls _) ?_); (rintro e w1 ⟨rfl, kp1, hown⟩); (simp only [World.size_alloc] at hown); (have hres := Aside.mk (Blk.kp (Blk.new _ _ _) kp1)); (have kp1' : Aside (Kp w w1) := ⟨((Kp.refl w).alloc _).trans kp1⟩); clear kp1) | (at_range; (refine wpList_range_own _ rfl _ 120 rfl 3 118 lawK Try.underlying120 RF _ 55 tableD rfl hown ?_; intro w0 hrg0 hg0 hs0)))
  go_frame
  have kp0 : Aside (Kp w w0) := ⟨kp1'.out.trans ⟨(Below.refl _ _).grown hg0 (Nat.le_refl _) (fun k hk => by cases hk)⟩⟩
  have hres0 := Aside.mk (hres.out.kp ⟨(Below.refl _ _).grown hg0 (Nat.le_refl _) (fun k hk => by cases hk)⟩)
  have hR : Aside (w.heap.size < w1.heap.size) := ⟨hres.out.lt⟩
  clear hg0 hs0 hres kp1'
  go_loopw [14] (fun _ wr => ∃ left cnt, wr.ranges Try.prog 3 RF (w.heap.size + 1) w1.heap.size 55 tableD left cnt ∧ NoHit x left ∧ Kp w wr ∧ Blk wr w.heap.size #[.int .i64 0, .int .i64 0, .int .i64 0, .int .i64 0, .int .i64 0] 40) (fun _ wr => wr.rangeLeft (w.heap.size + 1) w1.heap.size)
  case atStart => exact ⟨_, _, hrg0, noHit_start x, kp0.out, hres0.out⟩
  case round =>
    obtain ⟨left, cnt, hrg, hno, kpr, hbr⟩ := hrel
    replace hno := Aside.mk hno
    replace kpr := Aside.mk kpr
    replace hbr := Aside.mk hbr
    clear hrg0 hown
    go_wp2_with (at_next; refine wpList_next_F _ rfl _ rfl _ _ _ _ _ rfl hrg ?_ ?_)
    · intro hl
      obtain ⟨q0, q1, q2, q3, q4, q5, q6, q7, q8, q9, q10⟩ := hbr.out.five
      go_wp2
      refine bodyPost_ret (results_cell_tmp_row rfl _ _ w.heap.size _ _ _ rfl (Blk.set (Blk.set (Blk.set (Blk.set (Blk.set hbr.out _) _) _) _) _) Try.underlying40 (by kernel_rfl)) rfl ?_
      exact ⟨0, 0, 0, 0, 0, 2, rfl, (((((kpr.out.setCell (Nat.le_refl _) _).setCell (Nat.le_refl _) _).setCell (Nat.le_refl _) _).setCell (Nat.le_refl _) _).setCell (Nat.le_refl _) _), decR_none (fun op f hf => hno.out op f hf (hl _))⟩
    · intro o f w2 cnt2 hf hrg2 hlt hg2 hen
      have hg := (formOf_good hf).1
      have hor := (formOf_good hf).2
      have kp2 : Aside (Kp w w2) := ⟨Kp.grown kpr.out hg2 (fun k hk => by have := hR.out; cases hk; omega)⟩
      have hb2 : Aside (Blk w2 w.heap.size #[.int .i64 0, .int .i64 0, .int .i64 0, .int .i64 0, .int .i64 0] 40) := ⟨(hg2.block _ hbr.out.lt (by have := hR.out; simp; omega)).trans hbr.out⟩
      replace hf := Aside.mk hf
      replace hor := Aside.mk hor
      have hm : Aside (∀ wq, Kp w2 wq → wq.rangeLeft (w.heap.size + 1) w1.heap.size < wr.rangeLeft (w.heap.size + 1) w1.heap.size) := ⟨fun wq k => by rw [(World.ranges.kp hrg2 k).left_eq, hrg.left_eq]; exact hlt⟩
      have hend : Aside (∀ wq, Kp w2 wq → ¬Hit o x → ∃ left cnt, wq.ranges Try.prog 3 RF (w.heap.size + 1) w1.heap.size 55 tableD left cnt ∧ NoHit x left ∧ Kp w wq ∧ Blk wq w.heap.size #[.int .i64 0, .int .i64 0, .int .i64 0, .int .i64 0, .int .i64 0] 40) :=
        ⟨fun wq k hh => ⟨_, _, World.ranges.kp hrg2 k, noHit_step hno.out hh, kp2.out.trans k, hb2.out.kp k⟩⟩
      clear hrg2 hrg hlt hg2 hno kpr hbr
      have h127' := h127.out
      have uc := uses_calls f hg
      simp only [usesV] at uc
      replace uc := Aside.mk uc
      by_cases hs : x % 128 = f.op
      · go_wp2_with ((go_at_call 46); (refine Calls.mono (uc.out _) ?_); (rintro e w3 ⟨rfl, kp3⟩); (have hbf := Aside.mk (Blk.kp (Blk.new _ _ _) kp3)); (have kp3' : Aside (Kp w2 w3) := ⟨((Kp.refl w2).alloc _).trans kp3⟩); clear kp3)
        obtain ⟨w4, hw4⟩ : ∃ w4, w4 = (w3.alloc (Obj.cells #[Value.bool (decide f.uRd), Value.bool (decide f.uRs1), Value.bool (decide f.uRs2), Value.bool (decide f.uImm)] 122)).alloc (Obj.cells #[Value.int IntKind.i64 o, Value.int IntKind.i64 0, Value.int IntKind.i64 0, Value.int IntKind.i64 0, Value.int IntKind.i64 0] 40) := ⟨_, rfl⟩
        rw [← hw4]
        have kp4 : Aside (Kp w2 w4) := ⟨by rw [hw4]; exact (kp3'.out.alloc _).alloc _⟩
        have hbf4 : Aside (Blk w4 w2.heap.size #[.int .u8 f.kind, .int .u32 f.op, .int .u32 f.f3, .int .u32 f.f7, .int .i64 f.rs2] 118) := ⟨by rw [hw4]; exact (hbf.out.alloc _).alloc _⟩
        have hbu4 : Aside (Blk w4 w3.heap.size #[.bool (decide f.uRd), .bool (decide f.uRs1), .bool (decide f.uRs2), .bool (decide f.uImm)] 122) := ⟨by rw [hw4]; exact (Blk.new _ _ _).alloc _⟩
        have hbi4 : Aside (Blk w4 (w3.heap.size + 1) #[.int .i64 o, .int .i64 0, .int .i64 0, .int .i64 0, .int .i64 0] 40) := ⟨by rw [hw4]; exact heap_new (by rw [World.size_alloc])⟩
        have hsz : Aside (w2.heap.size < w3.heap.size) := ⟨hbf.out.lt⟩
        clear hw4 kp3' hbf
        go_loopw [32] (fun i wq => Kp w2 wq ∧ Blk wq w2.heap.size #[.int .u8 f.kind, .int .u32 f.op, .int .u32 f.f3, .int .u32 f.f7, .int .i64 f.rs2] 118 ∧ Blk wq w3.heap.size #[.bool (decide f.uRd), .bool (decide f.uRs1), .bool (decide f.uRs2), .bool (decide f.uImm)] 122 ∧ ((i = .int .i64 0 ∧ Blk wq (w3.heap.size + 1) #[.int .i64 o, .int .i64 0, .int .i64 0, .int .i64 0, .int .i64 0] 40) ∨ (i = .int .i64 1 ∧ Blk wq (w3.heap.size + 1) #[.int .i64 o, .int .i64 (cRd f x), .int .i64 0, .int .i64 0, .int .i64 0] 40) ∨ (i = .int .i64 2 ∧ Blk wq (w3.heap.size + 1) #[.int .i64 o, .int .i64 (cRd f x), .int .i64 (cRs1 f x), .int .i64 0, .int .i64 0] 40) ∨ (i = .int .i64 3 ∧ Blk wq (w3.heap.size + 1) #[.int .i64 o, .int .i64 (cRd f x), .int .i64 (cRs1 f x), .int .i64 (cRs2 f x), .int .i64 0] 40))) (fun i _ => 3 - (intOf i).toNat)
        case atStart => exact ⟨kp4.out, hbf4.out, hbu4.out, Or.inl ⟨rfl, hbi4.out⟩⟩
        case round =>
          obtain ⟨kq, hqf, hqu, hq⟩ := hrel
          clear kp4 hbf4 hbu4 hbi4
          replace kq := Aside.mk kq
          replace hqf := Aside.mk hqf
          obtain ⟨ul, v0, v1, v2, v3⟩ := hqu.four
          replace hqu := Aside.mk hqu
          rcases hq with ⟨rfl, hq⟩ | ⟨rfl, hq⟩ | ⟨rfl, hq⟩ | ⟨rfl, hq⟩
          · obtain ⟨il, i0, i1, i2, i3, i4, g0, g1, g2, g3, g4⟩ := hq.five
            replace hq := Aside.mk hq
            have hi1 : ∀ (p0 p1 p2 : Value) (wz : World), (Instr.index 154 (.agg #[p0, p1, p2]) (.int .i64 0)).run Try.prog wz = .ok p0 wz := fun _ _ _ _ => rfl
            have hi2 : ∀ wz : World, (Instr.index 155 (.agg #[.int .u64 7, .int .u64 15, .int .u64 20]) (.int .i64 0)).run Try.prog wz = .ok (.int .u64 7) wz := fun _ => rfl
            have h31 : bits .and .u32 (x / 128) 31 = x / 128 % 32 := u32_and31 (by omega) (by omega)
            by_cases hu : f.uRd
            · have hc : x / 128 % 32 = cRd f x := by rw [cRd, if_pos hu]
              replace hc := Aside.mk hc
              go_wp2
              go_roundw
              case rel =>
                rw [hc.out]
                exact ⟨kq.out.setCell (show w2.heap.size ≤ w3.heap.size + 1 by have := hsz.out; omega) _, hqf.out.far (by have := hsz.out; omega) _, hqu.out.far (by omega) _, Or.inr (Or.inl ⟨rfl, hq.out.set _⟩)⟩
              case measure => simp [intOf]
            · have hc : cRd f x = 0 := by rw [cRd, if_neg hu]
              replace hc := Aside.mk hc
              go_wp2
              go_roundw
              case rel => exact ⟨kq.out, hqf.out, hqu.out, Or.inr (Or.inl ⟨rfl, by rw [hc.out]; exact hq.out⟩)⟩
              case measure => simp [intOf]
          · obtain ⟨il, i0, i1, i2, i3, i4, g0, g1, g2, g3, g4⟩ := hq.five
            replace hq := Aside.mk hq
            have hi1 : ∀ (p0 p1 p2 : Value) (wz : World), (Instr.index 154 (.agg #[p0, p1, p2]) (.int .i64 1)).run Try.prog wz = .ok p1 wz := fun _ _ _ _ => rfl
            have hi2 : ∀ wz : World, (Instr.index 155 (.agg #[.int .u64 7, .int .u64 15, .int .u64 20]) (.int .i64 1)).run Try.prog wz = .ok (.int .u64 15) wz := fun _ => rfl
            have h31 : bits .and .u32 (x / 32768) 31 = x / 32768 % 32 := u32_and31 (by omega) (by omega)
            by_cases hu : f.uRs1
            · have hc : x / 32768 % 32 = cRs1 f x := by rw [cRs1, if_pos hu]
              replace hc := Aside.mk hc
              go_wp2
              go_roundw
              case rel =>
                rw [hc.out]
                exact ⟨kq.out.setCell (show w2.heap.size ≤ w3.heap.size + 1 by have := hsz.out; omega) _, hqf.out.far (by have := hsz.out; omega) _, hqu.out.far (by omega) _, Or.inr (Or.inr (Or.inl ⟨rfl, hq.out.set _⟩))⟩
              case measure => simp [intOf]
            · have hc : cRs1 f x = 0 := by rw [cRs1, if_neg hu]
              replace hc := Aside.mk hc
              go_wp2
              go_roundw
              case rel => exact ⟨kq.out, hqf.out, hqu.out, Or.inr (Or.inr (Or.inl ⟨rfl, by rw [hc.out]; exact hq.out⟩))⟩
              case measure => simp [intOf]
          · obtain ⟨il, i0, i1, i2, i3, i4, g0, g1, g2, g3, g4⟩ := hq.five
            replace hq := Aside.mk hq
            have hi1 : ∀ (p0 p1 p2 : Value) (wz : World), (Instr.index 154 (.agg #[p0, p1, p2]) (.int .i64 2)).run Try.prog wz = .ok p2 wz := fun _ _ _ _ => rfl
            have hi2 : ∀ wz : World, (Instr.index 155 (.agg #[.int .u64 7, .int .u64 15, .int .u64 20]) (.int .i64 2)).run Try.prog wz = .ok (.int .u64 20) wz := fun _ => rfl
            have h31 : bits .and .u32 (x / 1048576) 31 = x / 1048576 % 32 := u32_and31 (by omega) (by omega)
            by_cases hu : f.uRs2
            · have hc : x / 1048576 % 32 = cRs2 f x := by rw [cRs2, if_pos hu]
              replace hc := Aside.mk hc
              go_wp2
              go_roundw
              case rel =>
                rw [hc.out]
                exact ⟨kq.out.setCell (show w2.heap.size ≤ w3.heap.size + 1 by have := hsz.out; omega) _, hqf.out.far (by have := hsz.out; omega) _, hqu.out.far (by omega) _, Or.inr (Or.inr (Or.inr (⟨rfl, hq.out.set _⟩)))⟩
              case measure => simp [intOf]
            · have hc : cRs2 f x = 0 := by rw [cRs2, if_neg hu]
              replace hc := Aside.mk hc
              go_wp2
              go_roundw
              case rel => exact ⟨kq.out, hqf.out, hqu.out, Or.inr (Or.inr (Or.inr (⟨rfl, by rw [hc.out]; exact hq.out⟩)))⟩
              case measure => simp [intOf]
          · obtain ⟨il, i0, i1, i2, i3, i4, g0, g1, g2, g3, g4⟩ := hq.five
            replace hq := Aside.mk hq
            go_upto_if 50 with fail
            go_cut [] (fun wx => Kp w2 wx ∧ Blk wx (w3.heap.size + 1) #[.int .i64 o, .int .i64 (cRd f x), .int .i64 (cRs1 f x), .int .i64 (cRs2 f x), .int .i64 (cImm f x)] 40)
            case first =>
              obtain ⟨fl, b0, b1, b2, b3, b4, -⟩ := hqf.out.five
              by_cases hu : f.uImm
              · go_wp2_with ((go_at_call 74); (refine Calls.mono (signed_calls f hg x hx _) ?_); (rintro e w5 ⟨rfl, kp5⟩); (have hq5 := Aside.mk (hq.out.kp kp5)); (have k5 := Aside.mk (kq.out.trans kp5)); (obtain ⟨il5, i05, i15, i25, i35, i45, g05, g15, g25, g35, g45⟩ := hq5.out.five); clear kp5)
                go_meet
                exact ⟨k5.out.setCell (show w2.heap.size ≤ w3.heap.size + 1 by have := hsz.out; omega) _, hq5.out.set _⟩
              · have hc := cImm_none hg hu x
                replace hc := Aside.mk hc
                go_wp2
                go_meet
                exact ⟨kq.out, by rw [hc.out]; exact hq.out⟩
            case rest =>
              obtain ⟨kx, hx5⟩ := hcut
              obtain ⟨jl, j0, j1, j2, j3, j4, m0, m1, m2, m3, m4⟩ := hx5.five
              replace kx := Aside.mk kx
              replace hx5 := Aside.mk hx5
              clear il i0 i1 i2 i3 i4 g0 g1 g2 g3 g4 hq kq hqf hqu ul v0 v1 v2 v3
              by_cases hE : insE o (cRd f x) (cRs1 f x) (cRs2 f x) (cImm f x) = 0
              · by_cases hW : insW o (cRd f x) (cRs1 f x) (cRs2 f x) (cImm f x) = x
                · have hEE := Aside.mk hE
                  have hWW := Aside.mk hW
                  go_wp2_with ((go_at_call 29); (refine Calls.mono (Encode_calls o (cRd f x) (cRs1 f x) (cRs2 f x) (cImm f x) ?_ ?_ _) ?_); (have := hor.out; omega); (exact immOf_range hx); (rintro e w6 ⟨rfl, kp6⟩); (have k6 := Aside.mk (kx.out.trans kp6)); (have q6 := Aside.mk (hx5.out.kp kp6)); (have r6 := Aside.mk (hb2.out.kp k6.out)); (obtain ⟨jl6, j06, j16, j26, j36, j46, -⟩ := q6.out.five); (obtain ⟨rl6, r06, r16, r26, r36, r46, s06, s16, s26, s36, s46⟩ := r6.out.five); clear kp6)
                  refine bodyPost_ret (results_cell_tmp_row rfl _ _ w.heap.size _ _ _ rfl (Blk.set (Blk.set (Blk.set (Blk.set (Blk.set r6.out _) _) _) _) _) Try.underlying40 (by kernel_rfl)) rfl ?_
                  exact ⟨_, _, _, _, _, 0, rfl, (((((kp2.out.trans k6.out).setCell (Nat.le_refl _) _).setCell (Nat.le_refl _) _).setCell (Nat.le_refl _) _).setCell (Nat.le_refl _) _).setCell (Nat.le_refl _) _, Or.inl ⟨rfl, hEE.out, hWW.out⟩⟩
                · have hno := Aside.mk (no_hit hf.out (fun h => hW h.2))
                  go_wp2_with ((go_at_call 29); (refine Calls.mono (Encode_calls o (cRd f x) (cRs1 f x) (cRs2 f x) (cImm f x) ?_ ?_ _) ?_); (have := hor.out; omega); (exact immOf_range hx); (rintro e w6 ⟨rfl, kp6⟩); (have k6 := Aside.mk (kx.out.trans kp6)); (have q6 := Aside.mk (hx5.out.kp kp6)); (have r6 := Aside.mk (hb2.out.kp k6.out)); (obtain ⟨jl6, j06, j16, j26, j36, j46, -⟩ := q6.out.five); (obtain ⟨rl6, r06, r16, r26, r36, r46, s06, s16, s26, s36, s46⟩ := r6.out.five); clear kp6)
                  go_roundw
                  case rel => exact hend.out _ k6.out hno.out
                  case measure => exact hm.out _ k6.out
              · have hno := Aside.mk (no_hit hf.out (fun h => hE h.1))
                go_wp2_with ((go_at_call 29); (refine Calls.mono (Encode_calls o (cRd f x) (cRs1 f x) (cRs2 f x) (cImm f x) ?_ ?_ _) ?_); (have := hor.out; omega); (exact immOf_range hx); (rintro e w6 ⟨rfl, kp6⟩); (have k6 := Aside.mk (kx.out.trans kp6)); (have q6 := Aside.mk (hx5.out.kp kp6)); (have r6 := Aside.mk (hb2.out.kp k6.out)); (obtain ⟨jl6, j06, j16, j26, j36, j46, -⟩ := q6.out.five); (obtain ⟨rl6, r06, r16, r26, r36, r46, s06, s16, s26, s36, s46⟩ := r6.out.five); clear kp6)
                go_roundw
                case rel => exact hend.out _ k6.out hno.out
                case measure => exact hm.out _ k6.out
      · go_wp2_with fail
        go_roundw
        case rel => exact hend.out _ ((Kp.refl _).alloc _) (no_hit_op hf.out (fun e => hs e.symm))
        case measure => exact hm.out _ ((Kp.refl _).alloc _)
end Go.Proofs.Ytnbooljaodkedaa
namespace Go.Proofs.Ytnbooljaodkedaa
open Go.RowKit Go.Proofs.Ytnbooljaodkedaa.PC Go.Proofs.Ytnbooljaodkedaa.PW
structure SymV where
  name : ByteArray
  sect : Int
  val : Int
  frame : Int
  glob : Bool
structure RelV where
  sect : Int
  at_ : Int
  kind : Int
  sym : Int
  add : Int
structure ObjV where
  text : List Int
  data : List Int
  syms : List SymV
  rels : List RelV
def SymV.cs (s : SymV) : List Value := [.string s.name, .int .i64 s.sect, .int .i64 s.val, .int .i64 s.frame, .bool s.glob]
def RelV.cs (r : RelV) : List Value := [.int .i64 r.sect, .int .i64 r.at_, .int .i64 r.kind, .int .i64 r.sym, .int .i64 r.add]
/-- A byte of a name. -/
def okC (c : Int) : Bool := decide (97 ≤ c ∧ c ≤ 122) || decide (65 ≤ c ∧ c ≤ 90) || decide (48 ≤ c ∧ c ≤ 57) || decide (c = 95) || decide (c = 46)
def bytesOf (s : ByteArray) : List Int := s.data.toList.map fun c => (c.toNat : Int)
/-- A name. -/
def nameV (s : ByteArray) : Bool := decide (1 ≤ s.size ∧ s.size ≤ 40) && !decide (48 ≤ (bytesOf s).getD 0 0 ∧ (bytesOf s).getD 0 0 ≤ 57) && (bytesOf s).all okC
/-- A symbol of an object of so many words and bytes. -/
def symOk (nt nd : Nat) (s : SymV) : Bool :=
  if s.sect = 0 then decide (s.val = 0 ∧ s.frame = 0) && s.glob
  else if s.sect = 1 then decide (0 ≤ s.val ∧ s.val ≤ nt ∧ 0 ≤ s.frame ∧ s.frame ≤ 1048576 ∧ s.frame % 16 = 0)
  else if s.sect = 2 then decide (0 ≤ s.val ∧ s.val ≤ nd ∧ s.frame = 0)
  else false
/-- A relocation of a kind may be of a word. -/
def ofW (k x : Int) : Prop := ∃ op rd rs1 rs2 : Int, insE op rd rs1 rs2 0 = 0 ∧ insW op rd rs1 rs2 0 = x ∧ ofK k op
/-- A relocation of an object, but for its order. -/
def relOk (o : ObjV) (r : RelV) : Prop :=
  (0 ≤ r.sym ∧ r.sym < o.syms.length ∧ -2147483648 ≤ r.add ∧ r.add < 2147483648) ∧
    (r.sect = 2 ∧ r.kind = 6 ∧ 0 ≤ r.at_ ∧ r.at_ % 4 = 0 ∧ r.at_ ≤ (o.data.length : Int) - 4 ∨ r.sect = 1 ∧ 0 ≤ r.at_ ∧ r.at_ < o.text.length ∧ ofW r.kind (o.text.getD r.at_.toNat 0))
def relLt (a b : Int × Int) : Prop := a.1 < b.1 ∨ a.1 = b.1 ∧ a.2 < b.2
/-- The place of a relocation; that ahead of it. -/
def pairAt (l : List RelV) (j : Nat) : Int × Int := ((l[j]?).map fun r => (r.sect, r.at_)).getD (0, -1)
def prevP (l : List RelV) : Nat → Int × Int
  | 0 => (0, -1)
  | j + 1 => pairAt l j
/-- Relocations rise. -/
def rising (l : List RelV) : Prop := ∀ j, j < l.length → relLt (prevP l j) (pairAt l j)
/-- Names that are apart. -/
def apart (l : List SymV) : Prop := l.Pairwise fun s t => s.name ≠ t.name
/-- An object. -/
def objOk (o : ObjV) : Prop :=
  (o.text.length ≤ 65536 ∧ o.data.length ≤ 65536 ∧ o.data.length % 8 = 0 ∧ o.syms.length ≤ 600 ∧ o.rels.length ≤ 65536) ∧
    (∀ s ∈ o.syms, nameV s.name = true ∧ symOk o.text.length o.data.length s = true) ∧ apart o.syms ∧ rising o.rels ∧ ∀ r ∈ o.rels, relOk o r
end Go.Proofs.Ytnbooljaodkedaa
namespace Go.Proofs.Ytnbooljaodkedaa
open Go.RowKit Go.Proofs.Ytnbooljaodkedaa.PC Go.Proofs.Ytnbooljaodkedaa.PW
/-- A symbol that defines its name. -/
def SymV.defs (s : SymV) : Bool := s.glob && decide (s.sect ≠ 0)
/-- The symbols that define names, in order: the name, its object, its place. -/
def defsO (i : Nat) : Nat → List SymV → List (ByteArray × Nat × Nat)
  | _, [] => []
  | k, s :: ss => if s.defs then (s.name, i, k) :: defsO i (k + 1) ss else defsO i (k + 1) ss
def defsA : Nat → List ObjV → List (ByteArray × Nat × Nat)
  | _, [] => []
  | i, o :: os => defsO i 0 o.syms ++ defsA (i + 1) os
def lookV (l : List (ByteArray × Nat × Nat)) (n : ByteArray) : Option (Nat × Nat) := (l.find? fun d => decide (d.1 = n)).map (·.2)
/-- What defines a name. -/
def findV (os : List ObjV) (n : ByteArray) : Option (Nat × Nat) := lookV (defsA 0 os) n
/-- No name is defined twice. -/
def once (l : List (ByteArray × Nat × Nat)) : Prop := l.Pairwise fun a b => a.1 ≠ b.1
/-- The target of a symbol. -/
def tgtV (os : List ObjV) (i k : Nat) (s : SymV) : Option (Nat × Nat) := if s.sect = 0 then findV os s.name else some (i, k)
/-- All symbols have targets. -/
def allT (os : List ObjV) : Prop := ∀ o ∈ os, ∀ s ∈ o.syms, s.sect = 0 → (findV os s.name).isSome
def mainB : ByteArray := ⟨#[109, 97, 105, 110]⟩
open Classical in
noncomputable def resE (os : List ObjV) : Int := if ¬(∀ o ∈ os, objOk o) then 2 else if ¬once (defsA 0 os) then 4 else if ¬allT os then 3 else 0
def symAt (os : List ObjV) (t : Nat × Nat) : Option SymV := (os[t.1]?).bind fun o => o.syms[t.2]?
/-- What defines main. -/
def mainT (os : List ObjV) : Option (Nat × Nat) := (findV os mainB).bind fun t => (symAt os t).bind fun s => if s.sect = 1 then some t else none
open Classical in
noncomputable def mainE (os : List ObjV) : Int := if resE os ≠ 0 then resE os else if (mainT os).isSome then 0 else 16
end Go.Proofs.Ytnbooljaodkedaa
