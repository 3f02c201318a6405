/- Functions of the middle language in memory; sets of registers as maps. No condition. -/
import Derived.Test.YtkianddaccoeiaaProg
import Derived.Test.YtkianddaccoeiaaBase
import Derived.Test.YtkianddaccoeiaaPush
import Derived.Test.YtkianddaccoeiaaPlainLive
import Derived.Maps.OwnSet
import Derived.Maps.RangeWalk
import Derived.Maps.OwnOps
namespace Go.Proofs.Ytkianddaccoeiaa
open Go.RowKit Go.Maps Go.WideShapes Go.Proofs.Ytkianddaccoeiaa.PL
set_option linter.unusedVariables false
set_option linter.unusedSimpArgs false
def SlOk (A : Option Addr) (n c : Nat) : Prop := n ≤ c ∧ (A = none → n = 0 ∧ c = 0)
/-- Numbers in a row, readable. -/
def IntsAt (w : World) (A : Option Addr) (xs : List Int) : Prop := xs ≠ [] → ∃ g off, A = some ⟨g, off, none⟩ ∧ g < w.heap.size ∧ ∀ i, i < xs.length → w.cell? ⟨g, off + i, none⟩ = some (.int .i64 (xs.getD i 0))
theorem IntsAt.kp {w w' : World} {A : Option Addr} {xs : List Int} (h : IntsAt w A xs) (k : Kp w w') : IntsAt w' A xs := fun hne => by
  obtain ⟨g, off, e, hg, hc⟩ := h hne
  exact ⟨g, off, e, Nat.lt_of_lt_of_le hg k.size, fun i hi => (k.cell (p := ⟨g, _, none⟩) hg).trans (hc i hi)⟩
theorem IntsAt.one {w : World} {A : Option Addr} {xs : List Int} (h : IntsAt w A xs) {k : Nat} (hk : k < xs.length) : ∃ g off, A = some ⟨g, off, none⟩ ∧ g < w.heap.size ∧ w.cell? ⟨g, off + k, none⟩ = some (.int .i64 (xs.getD k 0)) := by
  obtain ⟨g, off, e, hg, hc⟩ := h (by intro e; rw [e] at hk; simp at hk)
  exact ⟨g, off, e, hg, hc k hk⟩
/-- An instruction, and where its Args lie. -/
structure InsC where
  i : InsV
  A : Option Addr
  c : Nat
def InsC.cells (x : InsC) : List Value := [.int .i64 x.i.op, .int .i64 x.i.dst, .int .i64 x.i.a, .int .i64 x.i.b, .int .u32 x.i.word, .int .u64 x.i.bits, .string x.i.name, .slice x.A x.i.args.length x.c, .int .i64 x.i.to]
structure InsC.at (w : World) (x : InsC) : Prop where
  args : IntsAt w x.A x.i.args
  sl : SlOk x.A x.i.args.length x.c
theorem InsC.at.kp {w w' : World} {x : InsC} (h : x.at w) (k : Kp w w') : x.at w' := ⟨h.args.kp k, h.sl⟩
/-- A function, and where its parts lie. -/
structure FunC where
  f : FunV
  P : Option Addr
  cp : Nat
  K : Option Addr
  ck : Nat
  S : Option Addr
  cs : Nat
  C : Option Addr
  cc : Nat
  L : List InsC
def FunC.cells (x : FunC) : Array Value := #[.string x.f.name, .bool x.f.static, .slice x.P x.f.params.length x.cp, .slice x.K x.f.kinds.length x.ck, .slice x.S x.f.slots.length x.cs, .slice x.C x.f.code.length x.cc]
structure FunAt (w : World) (x : FunC) : Prop where
  params : IntsAt w x.P x.f.params
  kinds : IntsAt w x.K x.f.kinds
  slots : IntsAt w x.S x.f.slots
  code : x.f.code ≠ [] → ∃ g off, x.C = some ⟨g, off, none⟩ ∧ g < w.heap.size ∧ ∀ n y, x.L[n]? = some y → ∀ j, j < 9 → w.cell? ⟨g, off + n * 9 + j, none⟩ = y.cells[j]?
  list : x.L.map (·.i) = x.f.code
  ins : ∀ y ∈ x.L, y.at w
  slP : SlOk x.P x.f.params.length x.cp
  slK : SlOk x.K x.f.kinds.length x.ck
  slS : SlOk x.S x.f.slots.length x.cs
  slC : SlOk x.C x.f.code.length x.cc
theorem FunAt.kp {w w' : World} {x : FunC} (h : FunAt w x) (k : Kp w w') : FunAt w' x := by
  refine ⟨h.params.kp k, h.kinds.kp k, h.slots.kp k, fun hne => ?_, h.list, fun y hy => (h.ins y hy).kp k, h.slP, h.slK, h.slS, h.slC⟩
  obtain ⟨g, off, e, hg, hc⟩ := h.code hne
  exact ⟨g, off, e, Nat.lt_of_lt_of_le hg k.size, fun n y hy j hj => (k.cell (p := ⟨g, _, none⟩) hg).trans (hc n y hy j hj)⟩
theorem FunAt.len {w : World} {x : FunC} (h : FunAt w x) : x.L.length = x.f.code.length := by rw [← h.list, List.length_map]
/-- One instruction of a function. -/
theorem FunAt.one {w : World} {x : FunC} (h : FunAt w x) {n : Nat} (hn : n < x.f.code.length) : ∃ y g off, x.L[n]? = some y ∧ x.f.code[n]? = some y.i ∧ y.at w ∧ x.C = some ⟨g, off, none⟩ ∧ g < w.heap.size ∧ ∀ j, j < 9 → w.cell? ⟨g, off + n * 9 + j, none⟩ = y.cells[j]? := by
  obtain ⟨g, off, e, hg, hc⟩ := h.code (by intro e; rw [e] at hn; simp at hn)
  obtain ⟨y, hy⟩ : ∃ y, x.L[n]? = some y := ⟨_, List.getElem?_eq_getElem (by rw [h.len]; exact hn)⟩
  refine ⟨y, g, off, hy, ?_, h.ins _ (List.mem_of_getElem? hy), e, hg, hc n _ hy⟩
  rw [← h.list, List.getElem?_map, hy]
  rfl
theorem FunAt.nine {w : World} {y : InsC} {g o : Nat} (h : ∀ j, j < 9 → w.cell? ⟨g, o + j, none⟩ = y.cells[j]?) : w.cell? ⟨g, o, none⟩ = some (.int .i64 y.i.op) ∧ w.cell? ⟨g, o + 1, none⟩ = some (.int .i64 y.i.dst) ∧ w.cell? ⟨g, o + 2, none⟩ = some (.int .i64 y.i.a) ∧ w.cell? ⟨g, o + 3, none⟩ = some (.int .i64 y.i.b) ∧
    w.cell? ⟨g, o + 4, none⟩ = some (.int .u32 y.i.word) ∧ w.cell? ⟨g, o + 5, none⟩ = some (.int .u64 y.i.bits) ∧ w.cell? ⟨g, o + 6, none⟩ = some (.string y.i.name) ∧ w.cell? ⟨g, o + 7, none⟩ = some (.slice y.A y.i.args.length y.c) ∧ w.cell? ⟨g, o + 8, none⟩ = some (.int .i64 y.i.to) :=
  ⟨h 0 (by decide), h 1 (by decide), h 2 (by decide), h 3 (by decide), h 4 (by decide), h 5 (by decide), h 6 (by decide), h 7 (by decide), h 8 (by decide)⟩
/-- A block's cells, which may be written. -/
def Blk (w : World) (b : Nat) (cs : Array Value) (ty : TypeId) : Prop := w.heap[b]? = some (.cells cs ty (0, 0))
theorem Blk.lt {w : World} {b : Nat} {cs : Array Value} {ty : TypeId} (h : Blk w b cs ty) : b < w.heap.size := (Array.getElem?_eq_some_iff.1 h).1
theorem Blk.kp {w w' : World} {b : Nat} {cs : Array Value} {ty : TypeId} (h : Blk w b cs ty) (k : Kp w w') : Blk w' b cs ty := (k.block h.lt).trans h
theorem Blk.cell {w : World} {b : Nat} {cs : Array Value} {ty : TypeId} (h : Blk w b cs ty) (i : Nat) : w.cell? ⟨b, i, none⟩ = cs[i]? := by
  unfold Blk at h
  simp [World.cell?, h]
theorem Blk.frozen {w : World} {b : Nat} {cs : Array Value} {ty : TypeId} (h : Blk w b cs ty) (i : Nat) : w.frozen? ⟨b, i, none⟩ = false := by
  unfold Blk at h
  simp [World.frozen?, h]
theorem Blk.set {w : World} {b i : Nat} {cs : Array Value} {ty : TypeId} (h : Blk w b cs ty) (v : Value) : Blk (w.setCell ⟨b, i, none⟩ v) b (cs.setIfInBounds i v) ty := heap_setCell_same w b i cs ty v h
theorem Blk.far {w : World} {b b' i : Nat} {cs : Array Value} {ty : TypeId} (h : Blk w b cs ty) (hne : b ≠ b') (v : Value) : Blk (w.setCell ⟨b', i, none⟩ v) b cs ty := (heap_setCell_other w ⟨b', i, none⟩ b v hne).trans h
theorem Blk.new (w : World) (cs : Array Value) (ty : TypeId) : Blk (w.alloc (.cells cs ty)) w.heap.size cs ty := heap_new rfl
theorem Blk.alloc {w : World} {b : Nat} {cs : Array Value} {ty : TypeId} (h : Blk w b cs ty) (o : Obj) : Blk (w.alloc o) b cs ty := h.kp ((Kp.refl w).alloc o)
theorem Blk.grown {w w' : World} {b : Nat} {cs : Array Value} {ty : TypeId} {row : Option Nat} (h : Blk w b cs ty) (hg : w.grownBy w' row) (hne : some b ≠ row) : Blk w' b cs ty := (hg.block b h.lt hne).trans h
theorem isKey (x : Int) : WideAt.IsKeyLit (.int .i64 x) := by simp [WideAt.IsKeyLit]
theorem lawI : Keyed Try.prog 3 := int_keyed Try.underlying3
theorem keyI {x : Int} (h : -9223372036854775808 ≤ x ∧ x ≤ 9223372036854775807) : keyOf Try.prog 3 (.int .i64 x) = some (.int .i64 x) := keyOf_int_mk Try.underlying3 (WalkArith.wf_i64 (by omega))
/-- An element of a set. -/
def RB : Value → Option (DataW Value × List MemPlace)
  | .bool true => some (.held (.bool true), [])
  | _ => none
theorem RB_inv {v : Value} {y : DataW Value × List MemPlace} (h : RB v = some y) : v = .bool true := by
  unfold RB at h
  split at h
  · rfl
  · cases h
/-- Block b holds a set of numbers from 0 to below K. -/
def SetAt (w : World) (b K : Nat) (S : Int → Bool) : Prop := ∃ D : DataW Value, w.ownsMap Try.prog 3 RB b (Maps.size D) D ∧ (∀ x : Int, Maps.has D (.int .i64 x) = S x) ∧ ∀ x, S x = true → 0 ≤ x ∧ x < K
/-- How many numbers a set has. -/
def card (K : Nat) (S : Int → Bool) : Nat := (((List.range K).map fun r : Nat => (r : Int)).filter S).length
theorem mem_below {K : Nat} {S : Int → Bool} (h : ∀ x, S x = true → 0 ≤ x ∧ x < K) (x : Int) : x ∈ ((List.range K).map fun r : Nat => (r : Int)).filter S ↔ S x = true := by
  simp only [List.mem_filter, List.mem_map, List.mem_range]
  refine ⟨fun h => h.2, fun hx => ⟨?_, hx⟩⟩
  have := h x hx
  exact ⟨x.toNat, by omega, by omega⟩
theorem nodup_below (K : Nat) (S : Int → Bool) : (((List.range K).map fun r : Nat => (r : Int)).filter S).Nodup := by
  refine List.Nodup.sublist List.filter_sublist ?_
  rw [List.nodup_iff_pairwise_ne, List.pairwise_map]
  refine List.Pairwise.imp (R := fun a b => a < b) (fun h => by omega) List.pairwise_lt_range
theorem card_le (K : Nat) (S : Int → Bool) : card K S ≤ K := by
  unfold card
  refine Nat.le_trans (List.length_filter_le ..) ?_
  simp
/-- The numbers that are keys. -/
def intKs {H : Type} : DataW H → List Int
  | .map es => es.map fun p => match p.1 with | .int _ x => x | _ => 0
  | _ => []
theorem keys_ints {w : World} {b n : Nat} {D : DataW Value} {R : Value → Option (DataW Value × List MemPlace)} (h : w.ownsMap Try.prog 3 R b n D) : ∃ es, D = .map es ∧ es.Pairwise (fun p q => p.1 ≠ q.1) ∧ ∀ p ∈ es, ∃ x : Int, p.1 = .int .i64 x := by
  obtain ⟨es, clock, hb, F, hs, rfl⟩ := h
  refine ⟨_, rfl, ((sorted_perm _).pairwise_iff (fun {_ _} hne => Ne.symm hne)).2 (Maps.fit_apart lawI F), fun p hp => ?_⟩
  obtain ⟨x, hx, rfl⟩ := List.mem_map.1 (mem_sorted.1 hp)
  obtain ⟨y, hy⟩ := F.reads x hx
  rw [Go.WideElems.rg_of hy]
  obtain ⟨z, -, e, -⟩ := Maps.keyOf_int_inv Try.underlying3 (Go.WideElems.rd_key hy)
  exact ⟨z, e⟩
theorem has_mem {D : DataW Value} {es : List (Lit × DataW Value)} (he : D = .map es) (hk : ∀ p ∈ es, ∃ x : Int, p.1 = .int .i64 x) (x : Int) : Maps.has D (.int .i64 x) = true ↔ x ∈ intKs D := by
  subst he
  unfold Maps.has intKs
  simp only [List.any_eq_true, List.mem_map]
  constructor
  · rintro ⟨p, hp, h⟩
    have := WideAt.sameKey_eq h
    exact ⟨p, hp, by rw [this]⟩
  · rintro ⟨p, hp, rfl⟩
    obtain ⟨y, hy⟩ := hk p hp
    refine ⟨p, hp, ?_⟩
    rw [hy]
    exact WideAt.sameKey_self (isKey y)
theorem nodup_keys {D : DataW Value} {es : List (Lit × DataW Value)} (he : D = .map es) (hd : es.Pairwise (fun p q => p.1 ≠ q.1)) (hk : ∀ p ∈ es, ∃ x : Int, p.1 = .int .i64 x) : (intKs D).Nodup := by
  subst he
  unfold intKs
  rw [List.nodup_iff_pairwise_ne, List.pairwise_map]
  refine List.Pairwise.imp_of_mem (fun {p q} hp hq hne => ?_) hd
  obtain ⟨x, hx⟩ := hk p hp
  obtain ⟨y, hy⟩ := hk q hq
  rw [hx, hy] at hne ⊢
  intro e
  exact hne (by simpa using e)
theorem SetAt.keys {w : World} {b K : Nat} {S : Int → Bool} {D : DataW Value} {n : Nat} {R : Value → Option (DataW Value × List MemPlace)} (h : w.ownsMap Try.prog 3 R b n D) (hS : ∀ x : Int, Maps.has D (.int .i64 x) = S x) (hK : ∀ x, S x = true → 0 ≤ x ∧ x < K) : (intKs D).Perm (((List.range K).map fun r : Nat => (r : Int)).filter S) ∧ Maps.size D = card K S := by
  obtain ⟨es, he, hd, hk⟩ := keys_ints h
  have hp : (intKs D).Perm (((List.range K).map fun r : Nat => (r : Int)).filter S) := (List.perm_ext_iff_of_nodup (nodup_keys he hd hk) (nodup_below K S)).2 (fun x => by rw [mem_below hK, ← hS, has_mem he hk])
  refine ⟨hp, ?_⟩
  unfold card
  rw [← hp.length_eq, he]
  simp [Maps.size, intKs]
theorem SetAt.lt {w : World} {b K : Nat} {S : Int → Bool} (h : SetAt w b K S) : b < w.heap.size := by
  obtain ⟨D, h, -⟩ := h
  exact h.lt
theorem SetAt.kp {w w' : World} {b K : Nat} {S : Int → Bool} (h : SetAt w b K S) (k : Kp w w') : SetAt w' b K S := by
  obtain ⟨D, h, r⟩ := h
  have hl := h.lt
  obtain ⟨es, clock, hb, r'⟩ := h
  exact ⟨D, ⟨es, clock, (k.block hl).trans hb, r'⟩, r⟩
theorem SetAt.grown {w w' : World} {b K : Nat} {S : Int → Bool} {row : Option Nat} (h : SetAt w b K S) (hg : w.grownBy w' row) (hne : some b ≠ row) : SetAt w' b K S := by
  obtain ⟨D, h, r⟩ := h
  exact ⟨D, h.kept hg hne, r⟩
theorem SetAt.made (w : World) (K : Nat) : SetAt (w.alloc (.map #[] 0)) w.heap.size K (fun _ => false) := ⟨.map [], World.ownsMap_made w _ _ _, fun x => rfl, fun x h => by cases h⟩
/-- A number more. -/
def putS (S : Int → Bool) (x : Int) : Int → Bool := fun y => decide (y = x) || S y
theorem put_set {D : DataW Value} (hD : IsMap D) {S : Int → Bool} (h : ∀ x : Int, Maps.has D (.int .i64 x) = S x) (x : Int) (d : DataW Value) : ∀ y : Int, Maps.has (D.put (.int .i64 x) d) (.int .i64 y) = putS S x y := by
  intro y
  unfold putS
  by_cases e : y = x
  · subst e
    rw [has_put_same hD (isKey _)]
    simp
  · rw [has_put_other (by intro e2; cases e2; exact e rfl), h y]
    simp [e]
section
variable {ops : Array Oper} {rest : List Oper} {o : Oper} {a : Act} {Q : Exit → Act → World → Prop}
/-- 'm[x] = true'. -/
theorem wpList_putS (w : World) (hg : o.guard = none) (m x v : Operand) (t : TypeId) (hop : o.op = Op.mapUpdate t m x v) (ht : Try.prog.underlying t = some (.map 3 4)) (b K : Nat) (S : Int → Bool)
    (hm : a.eval m = .map (some b)) (h : SetAt w b K S) (hK0 : K ≤ 100000) (y : Int) (hx : a.eval x = .int .i64 y) (hv : a.eval v = .bool true) (hy : 0 ≤ y ∧ y < K)
    (hK : ∀ w', SetAt w' b K (putS S y) → w.grownBy w' (some b) → wpList Try.prog ops Q rest (a.put o.dst undef) w') : wpList Try.prog ops Q (o :: rest) a w := by
  obtain ⟨D, hown, hS, hb⟩ := h
  have hsz := (SetAt.keys hown hS hb).2
  have hle := card_le K S
  refine wpList_mapUpdate_own w hg m x v t hop 3 4 lawI ht RB b (Maps.size D) D hm hown (by unfold maxLen; omega) (.int .i64 y) (.bool true) (.int .i64 y) hx hv (keyI (by omega)) (.held (.bool true)) [] rfl ?_
  intro w' hown' hg'
  have hb' : ∀ z, putS S y z = true → 0 ≤ z ∧ z < K := fun z hz => by
    unfold putS at hz
    simp only [Bool.or_eq_true, decide_eq_true_eq] at hz
    rcases hz with rfl | hz
    · exact hy
    · exact hb z hz
  refine hK w' ⟨D.put (.int .i64 y) (.held (.bool true)), ?_, put_set hown.isMap hS y _, hb'⟩ hg'
  obtain ⟨es, clock, e1, F, e2, e3⟩ := hown'
  refine ⟨es, clock, e1, F, ?_, e3⟩
  rw [e3]
  simp [Maps.size, length_sorted]
/-- 'm[x] = true' where x is there: nothing turns. -/
theorem run_same {w : World} {t : TypeId} (ht : Try.prog.underlying t = some (.map 3 4)) {b n : Nat} {D : DataW Value} (h : w.ownsMap Try.prog 3 RB b n D) {y : Int} (hy : -9223372036854775808 ≤ y ∧ y ≤ 9223372036854775807) (hh : Maps.has D (.int .i64 y) = true) :
    (Instr.mapUpdate t (.map (some b)) (.int .i64 y) (.bool true)).run Try.prog w = .ok () w := by
  obtain ⟨es, clock, hb, F, hs, rfl⟩ := h
  have hkey := keyI hy
  rcases lawI.find w hkey es.toList F.keys with ⟨h1, h2⟩ | ⟨j, e0, h1, h2, h3⟩
  · exfalso
    obtain ⟨p, hp, hpk⟩ := List.any_eq_true.1 hh
    obtain ⟨x, hx, rfl⟩ := List.mem_map.1 (mem_sorted.1 hp)
    obtain ⟨z, hz⟩ := F.reads x hx
    rw [Go.WideElems.rg_of hz] at hpk
    have e := WideAt.sameKey_eq hpk
    obtain ⟨u, e1, e2, -⟩ := Maps.keyOf_int_inv Try.underlying3 (Go.WideElems.rd_key hz)
    rw [e2] at e
    cases e
    exact h2 x hx e1
  · have hj : es[j]? = some e0 := by simpa using h2
    obtain ⟨z, hz⟩ := F.reads e0 (List.mem_of_getElem? h2)
    obtain ⟨u, hu, -⟩ := Go.WideElems.rd_val hz
    have hval := RB_inv hu
    have hmod : es.modify j (fun e' => { e' with key := Value.int .i64 y, val := Value.bool true }) = es := by
      apply Array.ext'
      rw [Array.toList_modify]
      have hl := List.getElem?_eq_some_iff.1 h2
      obtain ⟨hjl, he⟩ := hl
      apply List.ext_getElem?
      intro k
      rw [List.getElem?_modify]
      by_cases ek : j = k
      · subst ek
        rw [h2]
        simp only [if_true, Option.map_some]
        obtain ⟨k1, v1, b1⟩ := e0
        simp only at h3 hval
        subst h3 hval
        rfl
      · simp [ek]
    have hset : Go.ChangeMaps.setBlock w b (.map es clock) = w := by
      unfold Go.ChangeMaps.setBlock
      have : w.heap.setIfInBounds b (.map es clock) = w.heap := by
        apply Array.ext_getElem?
        intro k
        rw [Array.getElem?_setIfInBounds]
        by_cases ek : b = k
        · subst ek
          have hl := (Array.getElem?_eq_some_iff.1 hb).1
          rw [if_pos rfl, if_pos hl, hb]
        · rw [if_neg ek]
      rw [this]
    unfold Go.ChangeMaps.setBlock at hset
    simp [Instr.mapUpdate, run_underlying ht, MapKept.run_getObj_map hb, lawI.check w false hkey, h1, hj, h3, lawI.stays w hkey, MapKept.run_setObj_map _ hb, Result.andThen, hmod, hset]
/-- 'm[x] = true' where x is there, at the operation. -/
theorem wpList_sameS (w : World) (hg : o.guard = none) (m x v : Operand) (t : TypeId) (hop : o.op = Op.mapUpdate t m x v) (ht : Try.prog.underlying t = some (.map 3 4)) (b K : Nat) (S : Int → Bool)
    (hm : a.eval m = .map (some b)) (h : SetAt w b K S) (hK0 : K ≤ 100000) (y : Int) (hx : a.eval x = .int .i64 y) (hv : a.eval v = .bool true) (hy : S y = true)
    (hK : wpList Try.prog ops Q rest (a.put o.dst undef) w) : wpList Try.prog ops Q (o :: rest) a w := by
  obtain ⟨D, hown, hS, hb⟩ := h
  have hyb := hb y hy
  have hrun := run_same ht hown (y := y) (by omega) (by rw [hS]; exact hy)
  refine wpList_plain hg fun K' hK' => ?_
  unfold Oper.wp
  simp [execOp, hop, hm, hx, hv, hrun, Result.andThen]
  exact hK' _ _ hK
/-- 'len(m)'. -/
theorem wpList_lenS (w : World) (hg : o.guard = none) (m : Operand) (t : TypeId) (hop : o.op = Op.call { callee := Callee.builtin Builtin.len, args := #[m], argTypes := #[t] }) (ht : Try.prog.underlying t = some (.map 3 4)) (b K : Nat) (S : Int → Bool)
    (hm : a.eval m = .map (some b)) (h : SetAt w b K S) (hK : wpList Try.prog ops Q rest (a.put o.dst (.int .i64 (card K S : Nat))) w) : wpList Try.prog ops Q (o :: rest) a w := by
  obtain ⟨D, hown, hS, hb⟩ := h
  have hsz := (SetAt.keys hown hS hb).2
  exact wpList_len_own w hg m t hop 3 4 ht RB b (Maps.size D) D hm hown (by rw [hsz]; exact hK)
end
/-- A loop over a set under way: which numbers are still to come. -/
def RgAt (w : World) (b it K : Nat) (S left : Int → Bool) (cnt : Nat) : Prop := ∃ (D : DataW Value) (lf : Lit → Bool), w.ranges Try.prog 3 RB b it (Maps.size D) D lf cnt ∧ (∀ x : Int, Maps.has D (.int .i64 x) = S x) ∧ (∀ x, S x = true → 0 ≤ x ∧ x < K) ∧ (∀ x : Int, lf (.int .i64 x) = left x) ∧ ∀ x, left x = true → S x = true
theorem RgAt.set {w : World} {b it K cnt : Nat} {S left : Int → Bool} (h : RgAt w b it K S left cnt) : SetAt w b K S := by
  obtain ⟨D, lf, hr, hS, hb, -⟩ := h
  exact ⟨D, hr.owns, hS, hb⟩
theorem RgAt.left_eq {w : World} {b it K cnt : Nat} {S left : Int → Bool} (h : RgAt w b it K S left cnt) : w.rangeLeft b it = cnt := by
  obtain ⟨D, lf, hr, -⟩ := h
  exact hr.left_eq
theorem RgAt.lt {w : World} {b it K cnt : Nat} {S left : Int → Bool} (h : RgAt w b it K S left cnt) : it < w.heap.size := by
  obtain ⟨D, lf, hr, -⟩ := h
  exact hr.lt
theorem RgAt.kept {w w' : World} {b it K cnt : Nat} {S left : Int → Bool} {row : Option Nat} (h : RgAt w b it K S left cnt) (hg : w.grownBy w' row) (hb : some b ≠ row) (hi : some it ≠ row) : RgAt w' b it K S left cnt := by
  obtain ⟨D, lf, hr, r⟩ := h
  exact ⟨D, lf, hr.kept hg hb hi, r⟩
theorem RgAt.kp {w w' : World} {b it K cnt : Nat} {S left : Int → Bool} (h : RgAt w b it K S left cnt) (k : Kp w w') : RgAt w' b it K S left cnt := by
  have h1 := h.set.lt
  have h2 := h.lt
  obtain ⟨D, lf, ⟨es, clock, since, seen, c0, hb, F, hs, hD, hr, rest⟩, r⟩ := h
  exact ⟨D, lf, ⟨es, clock, since, seen, c0, (k.block h1).trans hb, F, hs, hD, (k.block h2).trans hr, rest⟩, r⟩
/-- The loop's own block is no set's. -/
theorem RgAt.ne {w : World} {b it K cnt : Nat} {S left : Int → Bool} (h : RgAt w b it K S left cnt) {b' K' : Nat} {S' : Int → Bool} (h' : SetAt w b' K' S') : it ≠ b' := by
  obtain ⟨D, lf, ⟨es, clock, since, seen, c0, hb, F, hs, hD, hr, rest⟩, r⟩ := h
  obtain ⟨D', ⟨es', clock', hb', -⟩, -⟩ := h'
  intro e
  rw [e, hb'] at hr
  cases hr
section
variable {ops : Array Oper} {rest : List Oper} {o : Oper} {a : Act} {Q : Exit → Act → World → Prop}
theorem wpList_rangeS (w : World) (hg : o.guard = none) (m : Operand) (t : TypeId) (hop : o.op = Op.range t m) (ht : Try.prog.underlying t = some (.map 3 4)) (b K : Nat) (S : Int → Bool) (hm : a.eval m = .map (some b)) (h : SetAt w b K S)
    (hK : ∀ w' cnt, RgAt w' b w.heap.size K S S cnt → w.grownBy w' none → w'.heap.size = w.heap.size + 1 → wpList Try.prog ops Q rest (a.put o.dst (.pointer (some ⟨w.heap.size, 0, none⟩))) w') : wpList Try.prog ops Q (o :: rest) a w := by
  obtain ⟨D, hown, hS, hb⟩ := h
  refine wpList_range_own w hg m t hop 3 4 lawI ht RB b (Maps.size D) D hm hown ?_
  intro w' hr hg' hs'
  exact hK w' _ ⟨D, _, hr, hS, hb, hS, fun x hx => hx⟩ hg' hs'
theorem wpList_nextS (w : World) (hg : o.guard = none) (it : Operand) (hop : o.op = Op.next it false) (b r K cnt : Nat) (S left : Int → Bool) (hit : a.eval it = .pointer (some ⟨r, 0, none⟩)) (h : RgAt w b r K S left cnt)
    (hDone : (∀ x, left x = false) → wpList Try.prog ops Q rest (a.put o.dst (.tuple #[.bool false])) w)
    (hMore : ∀ (x : Int) (w' : World) (cnt' : Nat), left x = true → S x = true → RgAt w' b r K S (fun z => left z && !decide (z = x)) cnt' → cnt' < cnt → w.grownBy w' (some r) → w'.heap.size = w.heap.size →
      (Instr.entry (.pointer (some ⟨r, 0, none⟩))).run Try.prog w' = .ok (.tuple #[.int .i64 x, .bool true]) w' → wpList Try.prog ops Q rest (a.put o.dst (.tuple #[.bool true, .int .i64 x, .bool true])) w') : wpList Try.prog ops Q (o :: rest) a w := by
  obtain ⟨D, lf, hr, hS, hb, hl, hls⟩ := h
  refine wpList_next_ranges w hg it hop 3 lawI RB (Value.int .i64) Value.bool (fun key kl hk => by obtain ⟨x, hx, _⟩ := Maps.keyOf_int_inv Try.underlying3 hk; exact ⟨x, hx⟩) (fun v y hv => ⟨true, RB_inv hv⟩) b r _ D lf cnt hit hr ?_ ?_
  · intro _ h0
    exact hDone (fun x => by rw [← hl, h0])
  · intro x c kl y w' cnt' hkey hlk hv _ hr' hlt hg' hs' hen
    obtain ⟨x', ex, rfl, _⟩ := Maps.keyOf_int_inv Try.underlying3 hkey
    cases ex
    have hc := RB_inv hv
    cases hc
    have hlx : left x = true := by rw [← hl]; exact hlk
    refine hMore x w' cnt' hlx (hls x hlx) ⟨D, _, hr', hS, hb, fun z => ?_, fun z hz => hls z (by simp at hz; exact hz.1)⟩ hlt hg' hs' hen
    show (lf (.int .i64 z) && !(Lit.int .i64 z).sameKey (.int .i64 x)) = _
    rw [hl]
    by_cases e : z = x
    · subst e
      rw [WideAt.sameKey_self (isKey _)]
      simp
    · rw [Maps.sameKey_ne (by intro e2; cases e2; exact e rfl)]
      simp [e]
end
/-- A set more among sets. -/
def updS (S : Nat → Int → Bool) (n : Nat) (T : Int → Bool) : Nat → Int → Bool := fun j => if j = n then T else S j
theorem updS_self (S : Nat → Int → Bool) (n : Nat) (T : Int → Bool) : updS S n T n = T := by simp [updS]
theorem updS_ne {S : Nat → Int → Bool} {n j : Nat} {T : Int → Bool} (h : j ≠ n) : updS S n T j = S j := by simp [updS, h]
/-- Sets in a row. -/
structure Sets (w : World) (g : Nat) (bs : List Nat) (K : Nat) (S : Nat → Int → Bool) : Prop where
  row : Blk w g (bs.map fun b => Value.map (some b)).toArray 53
  set : ∀ (j b : Nat), bs[j]? = some b → SetAt w b K (S j)
  once : bs.Nodup
theorem Sets.kp {w w' : World} {g : Nat} {bs : List Nat} {K : Nat} {S : Nat → Int → Bool} (h : Sets w g bs K S) (k : Kp w w') : Sets w' g bs K S := ⟨h.row.kp k, fun j b hb => (h.set j b hb).kp k, h.once⟩
theorem Sets.cell {w : World} {g : Nat} {bs : List Nat} {K : Nat} {S : Nat → Int → Bool} (h : Sets w g bs K S) {n b : Nat} (hb : bs[n]? = some b) : w.cell? ⟨g, n, none⟩ = some (.map (some b)) := by
  rw [h.row.cell]
  simp [hb]
theorem Sets.ne {w : World} {g : Nat} {bs : List Nat} {K : Nat} {S : Nat → Int → Bool} (h : Sets w g bs K S) {b K' : Nat} {T : Int → Bool} (hb : SetAt w b K' T) : g ≠ b := by
  obtain ⟨D, ⟨es, clock, hb', -⟩, -⟩ := hb
  intro e
  have := h.row
  unfold Blk at this
  rw [e, hb'] at this
  cases this
theorem Sets.put {w w' : World} {g : Nat} {bs : List Nat} {K : Nat} {S : Nat → Int → Bool} (h : Sets w g bs K S) {n b : Nat} (hb : bs[n]? = some b) {T : Int → Bool} (hT : SetAt w' b K T) (hg : w.grownBy w' (some b)) : Sets w' g bs K (updS S n T) := by
  refine ⟨h.row.grown hg (fun e => h.ne (h.set n b hb) (Option.some.inj e)), fun j c hc => ?_, h.once⟩
  by_cases e : j = n
  · subst e
    rw [hb] at hc
    obtain rfl := Option.some.inj hc
    rw [updS_self]
    exact hT
  · rw [updS_ne e]
    refine (h.set j c hc).grown hg (fun e2 => e ?_)
    obtain rfl := Option.some.inj e2
    have hj := (List.getElem?_eq_some_iff.1 hc).1
    exact (List.getElem?_inj hj h.once).1 (hc.trans hb.symm)
end Go.Proofs.Ytkianddaccoeiaa
