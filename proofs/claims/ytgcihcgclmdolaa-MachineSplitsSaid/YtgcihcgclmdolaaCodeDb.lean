/- Reading a word back: the map's round, and blocks. -/
import Derived.Test.YtgcihcgclmdolaaCodeE
import Derived.Test.YtgcihcgclmdolaaCodeDp
namespace Go.Proofs.Ytgcihcgclmdolaa
open Go.RowKit Go.Maps Go.Proofs.Ytgcihcgclmdolaa.PC
set_option linter.unusedVariables false
set_option linter.unusedSimpArgs false
theorem results_cell_tmp_row {fn : Func} {p u : Tmp} {ty : TypeId} {P : Program} (h : fn.results = #[.cell p ty, .tmp u]) (tmps : Array Value) (w : World) (g : Nat) (t : TypeId) (cs : Array Value) (fr : Nat × Nat) {fs : Array Field}
    (hp : tmps.getD p undef = .pointer (some ⟨g, 0, none⟩)) (hg : w.heap[g]? = some (.cells cs t fr))
    (hu : P.underlying ty = some (.struct fs)) (hi : (P.info? ty).map (·.size) = some cs.size) :
    (results fn tmps).run P w = .ok (.tuple #[.agg cs, tmps.getD u undef]) w := by
  have hp' : tmps[p]?.getD undef = .pointer (some ⟨g, 0, none⟩) := by simpa using hp
  simp only [results, h]
  simp [hp', asAddr, run_loadVar_row w g t ty cs fr _ hg hu rfl hi, Sem.run_bind, Result.andThen]
theorem form_of_at {x : Int} {v : Value} {z : DataW Value × List MemPlace} (hv : RF v = some z) (hat : ∀ zd, tableD.atKey (.int .i64 x) zd = z.1) : ∃ f, formOf x = some f ∧ v = .agg #[.int .u8 f.kind, .int .u32 f.op, .int .u32 f.f3, .int .u32 f.f7, .int .i64 f.rs2] := by
  cases hv
  cases hf : formOf x with
  | none =>
    have := hat .nil
    rw [table_at, hf] at this
    cases this
  | some f =>
    have := hat .nil
    rw [table_at, hf] at this
    injection this with this
    exact ⟨f, rfl, this.symm⟩
section
variable (w : World) {ops : Array Oper} {rest : List Oper} {o : Oper} {a : Act} {Q : Exit → Act → World → Prop}
/-- The step of the range over the table. -/
theorem wpList_next_F (hg : o.guard = none) (it : Operand) (hop : o.op = Op.next it false) (b r n : Nat) (left : Lit → Bool) (cnt : Nat) (hit : a.eval it = .pointer (some ⟨r, 0, none⟩)) (h : w.ranges Try.prog 3 RF b r n tableD left cnt)
    (hDone : (∀ kl, left kl = false) → wpList Try.prog ops Q rest (a.put o.dst (.tuple #[.bool false])) w)
    (hMore : ∀ (x : Int) (f : Fm) (w' : World) (cnt' : Nat), formOf x = some f → w'.ranges Try.prog 3 RF b r n tableD (fun z => left z && !z.sameKey (.int .i64 x)) cnt' → cnt' < cnt → w.grownBy w' (some r) →
      (Instr.entry (.pointer (some ⟨r, 0, none⟩))).run Try.prog w' = .ok (.tuple #[.int .i64 x, .agg #[.int .u8 f.kind, .int .u32 f.op, .int .u32 f.f3, .int .u32 f.f7, .int .i64 f.rs2]]) w' →
      wpList Try.prog ops Q rest (a.put o.dst (.tuple #[.bool true, .int .i64 x, .agg #[.int .u8 f.kind, .int .u32 f.op, .int .u32 f.f3, .int .u32 f.f7, .int .i64 f.rs2]])) w') :
    wpList Try.prog ops Q (o :: rest) a w := by
  refine wpList_next_ranges w hg it hop 3 lawK RF (Value.int .i64) (fun v : Value => v) (fun key kl hk => by obtain ⟨x, rfl, _⟩ := Maps.keyOf_int_inv Try.underlying3 hk; exact ⟨x, rfl⟩) (fun v y _ => ⟨v, rfl⟩) b r n tableD left cnt hit h (fun _ hl => hDone hl) ?_
  intro x v kl y w' cnt' hkey hlk hv hat hrg hlt hgr hsz hen
  obtain ⟨x', ex, rfl, _⟩ := Maps.keyOf_int_inv Try.underlying3 hkey
  cases ex
  obtain ⟨f, hf, rfl⟩ := form_of_at hv hat
  exact hMore x f w' cnt' hf hrg hlt hgr hen
end
theorem World.ranges.kp {w w' : World} {b r n cnt : Nat} {D : DataW Value} {left : Lit → Bool} (h : w.ranges Try.prog 3 RF b r n D left cnt) (k : Kp w w') : w'.ranges Try.prog 3 RF b r n D left cnt := by
  have h1 := h.owns.lt
  have h2 := h.lt
  obtain ⟨es, clock, since, seen, c0, hb, F, hs, hD, hr, rest⟩ := h
  exact ⟨es, clock, since, seen, c0, (k.block h1).trans hb, F, hs, hD, (k.block h2).trans hr, rest⟩
/-- The rounds so far have found none. -/
def NoHit (x : Int) (left : Lit → Bool) : Prop := ∀ op f, formOf op = some f → left (.int .i64 op) = false → ¬Hit op x
theorem noHit_start (x : Int) : NoHit x (Maps.has tableD) := by
  intro op f hf hl
  rw [table_has, hf] at hl
  cases hl
theorem noHit_step {x op : Int} {left : Lit → Bool} (h : NoHit x left) (hop : ¬Hit op x) : NoHit x (fun z => left z && !z.sameKey (.int .i64 op)) := by
  intro o f hf hl
  by_cases e : left (.int .i64 o) = false
  · exact h o f hf e
  · have e1 : left (.int .i64 o) = true := by simpa using e
    change (left (.int .i64 o) && !(Lit.int .i64 o).sameKey (.int .i64 op)) = false at hl
    rw [e1] at hl
    have e2 : (Lit.int .i64 o).sameKey (.int .i64 op) = true := by simpa using hl
    have e3 := WideAt.sameKey_eq e2
    cases e3
    exact hop
/-- A block of cells that may be written. -/
def Blk (w : World) (b : Nat) (cs : Array Value) (ty : TypeId) : Prop := w.heap[b]? = some (.cells cs ty (0, 0))
theorem Blk.lt {w : World} {b : Nat} {cs : Array Value} {ty : TypeId} (h : Blk w b cs ty) : b < w.heap.size := (Array.getElem?_eq_some_iff.1 h).1
theorem Blk.kp {w w' : World} {b : Nat} {cs : Array Value} {ty : TypeId} (h : Blk w b cs ty) (k : Kp w w') : Blk w' b cs ty := (k.block h.lt).trans h
theorem Blk.cell {w : World} {b : Nat} {cs : Array Value} {ty : TypeId} (h : Blk w b cs ty) (i : Nat) : w.cell? ⟨b, i, none⟩ = cs[i]? := by
  unfold Blk at h
  simp [World.cell?, h]
theorem Blk.frozen {w : World} {b : Nat} {cs : Array Value} {ty : TypeId} (h : Blk w b cs ty) (i : Nat) : w.frozen? ⟨b, i, none⟩ = false := by
  unfold Blk at h
  simp [World.frozen?, h]
theorem Blk.set {w : World} {b i : Nat} {cs : Array Value} {ty : TypeId} (h : Blk w b cs ty) (v : Value) : Blk (w.setCell ⟨b, i, none⟩ v) b (cs.setIfInBounds i v) ty := heap_setCell_same w b i cs ty v h
theorem Blk.far {w : World} {b b' i : Nat} {cs : Array Value} {ty : TypeId} (h : Blk w b cs ty) (hne : b ≠ b') (v : Value) : Blk (w.setCell ⟨b', i, none⟩ v) b cs ty := (heap_setCell_other w ⟨b', i, none⟩ b v hne).trans h
theorem Blk.new (w : World) (cs : Array Value) (ty : TypeId) : Blk (w.alloc (.cells cs ty)) w.heap.size cs ty := heap_new rfl
theorem Blk.alloc {w : World} {b : Nat} {cs : Array Value} {ty : TypeId} (h : Blk w b cs ty) (o : Obj) : Blk (w.alloc o) b cs ty := h.kp ((Kp.refl w).alloc o)
theorem Blk.five {w : World} {b : Nat} {a0 a1 a2 a3 a4 : Value} {ty : TypeId} (h : Blk w b #[a0, a1, a2, a3, a4] ty) : b < w.heap.size ∧ w.cell? ⟨b, 0, none⟩ = some a0 ∧ w.cell? ⟨b, 1, none⟩ = some a1 ∧ w.cell? ⟨b, 2, none⟩ = some a2 ∧ w.cell? ⟨b, 3, none⟩ = some a3 ∧ w.cell? ⟨b, 4, none⟩ = some a4 ∧
    w.frozen? ⟨b, 0, none⟩ = false ∧ w.frozen? ⟨b, 1, none⟩ = false ∧ w.frozen? ⟨b, 2, none⟩ = false ∧ w.frozen? ⟨b, 3, none⟩ = false ∧ w.frozen? ⟨b, 4, none⟩ = false :=
  ⟨h.lt, h.cell 0, h.cell 1, h.cell 2, h.cell 3, h.cell 4, h.frozen 0, h.frozen 1, h.frozen 2, h.frozen 3, h.frozen 4⟩
theorem Blk.four {w : World} {b : Nat} {a0 a1 a2 a3 : Value} {ty : TypeId} (h : Blk w b #[a0, a1, a2, a3] ty) : b < w.heap.size ∧ w.cell? ⟨b, 0, none⟩ = some a0 ∧ w.cell? ⟨b, 1, none⟩ = some a1 ∧ w.cell? ⟨b, 2, none⟩ = some a2 ∧ w.cell? ⟨b, 3, none⟩ = some a3 :=
  ⟨h.lt, h.cell 0, h.cell 1, h.cell 2, h.cell 3⟩
end Go.Proofs.Ytgcihcgclmdolaa
