/- The machine in memory: its block, its bytes, the instructions that it knows; what a call may write. No condition. -/
import Derived.Test.YtgcihcgclmdolaaCodeDb
import Derived.Test.YtgcihcgclmdolaaPlainMach
import Derived.Maps.OwnSet
namespace Go.Proofs.Ytgcihcgclmdolaa
open Go.RowKit Go.Maps Go.Proofs.Ytgcihcgclmdolaa.PC Go.Proofs.Ytgcihcgclmdolaa.PW
set_option linter.unusedVariables false
set_option linter.unusedSimpArgs false
/-- Everything but the blocks of a set is as it was. -/
structure Mod (S : Nat → Prop) (w w' : World) : Prop where
  os : w'.os = w.os
  tape : w'.tape = w.tape
  output : w'.output = w.output
  size : w.heap.size ≤ w'.heap.size
  block : ∀ k, k < w.heap.size → ¬S k → w'.heap[k]? = w.heap[k]?
section
variable {S S' : Nat → Prop} {w w' w'' : World}
theorem Kp.mod (h : Kp w w') : Mod S w w' := ⟨h.out.os, h.out.tape, h.out.output, h.out.size, fun k hk _ => h.out.block k hk⟩
theorem Mod.refl (S : Nat → Prop) (w : World) : Mod S w w := (Kp.refl w).mod
theorem Mod.trans (h : Mod S w w') (g : Mod S w' w'') : Mod S w w'' :=
  ⟨g.os.trans h.os, g.tape.trans h.tape, g.output.trans h.output, Nat.le_trans h.size g.size, fun k hk hs => (g.block k (Nat.lt_of_lt_of_le hk h.size) hs).trans (h.block k hk hs)⟩
theorem Mod.mono (h : Mod S w w') (hS : ∀ k, k < w.heap.size → S k → S' k) : Mod S' w w' := ⟨h.os, h.tape, h.output, h.size, fun k hk hs => h.block k hk (fun e => hs (hS k hk e))⟩
theorem Mod.setCell (h : Mod S w w') {p : Addr} (hp : S p.block) (v : Value) : Mod S w (w'.setCell p v) := by
  have b : Below 0 w' (w'.setCell p v) := (Below.refl 0 w').setCell (Nat.zero_le _) v
  exact h.trans ⟨b.os, b.tape, b.output, b.size, fun k hk hs => heap_setCell_other w' p k v (fun e => hs (e ▸ hp))⟩
theorem Mod.setNew (h : Mod S w w') {p : Addr} (hp : w.heap.size ≤ p.block) (v : Value) : Mod S w (w'.setCell p v) := by
  have b : Below 0 w' (w'.setCell p v) := (Below.refl 0 w').setCell (Nat.zero_le _) v
  exact ⟨b.os.trans h.os, b.tape.trans h.tape, b.output.trans h.output, Nat.le_trans h.size b.size, fun k hk hs => (heap_setCell_other w' p k v (by omega)).trans (h.block k hk hs)⟩
theorem Mod.alloc (h : Mod S w w') (o : Obj) : Mod S w (w'.alloc o) := h.trans ((Kp.refl w').alloc o).mod
theorem Mod.drewN (h : Mod S w w') (n : Nat) : Mod S w (w'.drewN n) := h.trans ((Kp.refl w').drewN n).mod
theorem Mod.drew (h : Mod S w w') : Mod S w w'.drew := h.trans ((Kp.refl w').drew).mod
theorem Mod.kp (h : Mod S w w') (g : Kp w' w'') : Mod S w w'' := h.trans g.mod
theorem Mod.grown (h : Mod S w w') {row : Option Nat} (hg : w'.grownBy w'' row) (hr : ∀ k, row = some k → S k ∨ w.heap.size ≤ k) : Mod S w w'' :=
  ⟨hg.os.trans h.os, hg.tape.trans h.tape, hg.output.trans h.output, Nat.le_trans h.size hg.size, fun k hk hs => (hg.block k (Nat.lt_of_lt_of_le hk h.size) (fun e => (hr k e.symm).elim hs (fun g => by omega))).trans (h.block k hk hs)⟩
/-- What is written behind is new. -/
theorem Mod.behind (h : Mod S w w') (g : Mod S' w' w'') (hn : ∀ k, S' k → S k ∨ w.heap.size ≤ k) : Mod S w w'' :=
  ⟨g.os.trans h.os, g.tape.trans h.tape, g.output.trans h.output, Nat.le_trans h.size g.size, fun k hk hs => (g.block k (Nat.lt_of_lt_of_le hk h.size) (fun e => (hn k e).elim hs (fun g => by omega))).trans (h.block k hk hs)⟩
theorem Mod.toKp (h : Mod S w w') (hS : ∀ k, S k → w.heap.size ≤ k) : Kp w w' := ⟨⟨h.os, h.tape, h.output, h.size, fun k hk => h.block k hk (fun e => by have := hS k e; omega)⟩⟩
theorem Mod.blk (h : Mod S w w') {b : Nat} {cs : Array Value} {ty : TypeId} (hb : Blk w b cs ty) (hn : ¬S b) : Blk w' b cs ty := (h.block b hb.lt hn).trans hb
end
/-- A machine: memory, words, reals, the place, its state and code. -/
structure MS where
  mem : List Int
  x : List Int
  f : List Int
  pc : Int
  state : Int
  code : Int
def MS.head (s : MS) (B : Nat) : Value := .slice (some ⟨B, 0, none⟩) s.mem.length s.mem.length
def MS.cellsL (s : MS) (B K : Nat) : List Value := s.head B :: (s.x.map (Value.int .u32) ++ (s.f.map (Value.int .u64) ++ [.int .u32 s.pc, .int .i64 s.state, .int .u32 s.code, .map (some K)]))
def MS.cells (s : MS) (B K : Nat) : Array Value := (s.cellsL B K).toArray
def memC (mem : List Int) : Array Value := (mem.map (Value.int .u8)).toArray
structure MS.ok (s : MS) : Prop where
  lx : s.x.length = 32
  lf : s.f.length = 32
  ux : ∀ v ∈ s.x, U v
  uf : ∀ v ∈ s.f, U64 v
  ub : ∀ b ∈ s.mem, Byte b
  up : U s.pc
  uc : U s.code
  lm : s.mem.length ≤ 2097152
theorem memC_at (mem : List Int) (i : Nat) (h : i < mem.length) : (memC mem)[i]? = some (.int .u8 (mem.getD i 0)) := by
  simp [memC, List.getD_eq_getElem?_getD, h]
theorem memC_set (mem : List Int) (i : Nat) (v : Int) : (memC mem).setIfInBounds i (.int .u8 v) = memC (mem.set i v) := by
  simp [memC, List.map_set]
theorem memC_size (mem : List Int) : (memC mem).size = mem.length := by simp [memC]
section
variable {s : MS} {B K : Nat}
theorem cells_0 : (s.cells B K)[0]? = some (s.head B) := rfl
theorem cells_x (h : s.ok) {r : Nat} (hr : r < 32) : (s.cells B K)[1 + r]? = some (.int .u32 (s.x.getD r 0)) := by
  have l := h.lx
  simp only [MS.cells, MS.cellsL, List.getElem?_toArray]
  rw [Nat.add_comm, List.getElem?_cons_succ, List.getElem?_append_left (by simp; omega)]
  simp [List.getD_eq_getElem?_getD, show r < s.x.length by omega]
theorem cells_f (h : s.ok) {r : Nat} (hr : r < 32) : (s.cells B K)[33 + r]? = some (.int .u64 (s.f.getD r 0)) := by
  have l := h.lx
  have l2 := h.lf
  simp only [MS.cells, MS.cellsL, List.getElem?_toArray]
  rw [show 33 + r = (32 + r) + 1 by omega, List.getElem?_cons_succ, List.getElem?_append_right (by simp; omega), List.getElem?_append_left (by simp; omega)]
  simp [List.getD_eq_getElem?_getD, show r < s.f.length by omega, l]
theorem cells_tail (h : s.ok) {i : Nat} (hi : i < 4) : (s.cells B K)[65 + i]? = [Value.int .u32 s.pc, .int .i64 s.state, .int .u32 s.code, .map (some K)][i]? := by
  have l := h.lx
  have l2 := h.lf
  simp only [MS.cells, MS.cellsL, List.getElem?_toArray]
  rw [show 65 + i = (64 + i) + 1 by omega, List.getElem?_cons_succ, List.getElem?_append_right (by simp; omega), List.getElem?_append_right (by simp; omega)]
  simp only [List.length_map, l, l2]
  rw [show 64 + i - 32 - 32 = i by omega]
theorem cells_size (h : s.ok) : (s.cells B K).size = 69 := by
  have l := h.lx
  have l2 := h.lf
  simp [MS.cells, MS.cellsL, l, l2]
theorem set_x (h : s.ok) {r : Nat} (hr : r < 32) (v : Int) : (s.cells B K).setIfInBounds (1 + r) (.int .u32 v) = ({ s with x := s.x.set r v } : MS).cells B K := by
  have l := h.lx
  simp only [MS.cells, MS.cellsL, List.setIfInBounds_toArray, MS.head]
  rw [Nat.add_comm, List.set_cons_succ, List.set_append_left _ _ (by simp; omega), List.map_set]
theorem set_f (h : s.ok) {r : Nat} (hr : r < 32) (v : Int) : (s.cells B K).setIfInBounds (33 + r) (.int .u64 v) = ({ s with f := s.f.set r v } : MS).cells B K := by
  have l := h.lx
  have l2 := h.lf
  simp only [MS.cells, MS.cellsL, List.setIfInBounds_toArray, MS.head]
  rw [show 33 + r = (32 + r) + 1 by omega, List.set_cons_succ, List.set_append_right _ _ (by simp; omega)]
  simp only [List.length_map, l, show 32 + r - 32 = r by omega]
  rw [List.set_append_left _ _ (by simp; omega), List.map_set]
theorem set_pc (h : s.ok) (v : Int) : (s.cells B K).setIfInBounds 65 (.int .u32 v) = ({ s with pc := v } : MS).cells B K := by
  have l := h.lx
  have l2 := h.lf
  simp only [MS.cells, MS.cellsL, List.setIfInBounds_toArray, MS.head]
  rw [List.set_cons_succ, List.set_append_right _ _ (by simp; omega), List.set_append_right _ _ (by simp; omega)]
  simp [l, l2]
theorem set_state (h : s.ok) (v : Int) : (s.cells B K).setIfInBounds 66 (.int .i64 v) = ({ s with state := v } : MS).cells B K := by
  have l := h.lx
  have l2 := h.lf
  simp only [MS.cells, MS.cellsL, List.setIfInBounds_toArray, MS.head]
  rw [List.set_cons_succ, List.set_append_right _ _ (by simp; omega), List.set_append_right _ _ (by simp; omega)]
  simp [l, l2]
theorem set_code (h : s.ok) (v : Int) : (s.cells B K).setIfInBounds 67 (.int .u32 v) = ({ s with code := v } : MS).cells B K := by
  have l := h.lx
  have l2 := h.lf
  simp only [MS.cells, MS.cellsL, List.setIfInBounds_toArray, MS.head]
  rw [List.set_cons_succ, List.set_append_right _ _ (by simp; omega), List.set_append_right _ _ (by simp; omega)]
  simp [l, l2]
end
/-- An element of the map of known instructions, as it stands. -/
def RI : Value → Option (DataW Value × List MemPlace) := fun v => some (.held v, [])
def insV (op rd rs1 rs2 n : Int) : Value := .agg #[.int .i64 op, .int .i64 rd, .int .i64 rs1, .int .i64 rs2, .int .i64 n]
/-- What is known is right. -/
structure DecD (D : DataW Value) : Prop where
  map : Maps.IsMap D
  each : ∀ x : Int, (Maps.has D (.int .u32 x) = false ∧ ∀ z, D.atKey (.int .u32 x) z = z) ∨ Maps.has D (.int .u32 x) = true ∧ ∃ op rd rs1 rs2 n : Int, (∀ z, D.atKey (.int .u32 x) z = .held (insV op rd rs1 rs2 n)) ∧ DecR x op rd rs1 rs2 n 0
theorem decD_empty : DecD (.map []) := ⟨Maps.isMap_empty, fun x => Or.inl ⟨rfl, fun z => by simp [DataW.atKey]⟩⟩
theorem isKey32 (x : Int) : WideAt.IsKeyLit (.int .u32 x) := by simp [WideAt.IsKeyLit]
theorem decD_put {D : DataW Value} (h : DecD D) {y op rd rs1 rs2 n : Int} (hd : DecR y op rd rs1 rs2 n 0) : DecD (D.put (.int .u32 y) (.held (insV op rd rs1 rs2 n))) := by
  refine ⟨h.map.put _ _, fun x => ?_⟩
  by_cases e : x = y
  · subst e
    exact Or.inr ⟨Maps.has_put_same h.map (isKey32 _) _, op, rd, rs1, rs2, n, fun z => Maps.atKey_put_same h.map (isKey32 _) _ z, hd⟩
  · have hne : (Lit.int .u32 x) ≠ (Lit.int .u32 y) := by intro g; cases g; exact e rfl
    rw [Maps.has_put_other hne]
    rcases h.each x with ⟨g, ga⟩ | ⟨g, op', rd', rs1', rs2', n', ga, gd⟩
    · exact Or.inl ⟨g, fun z => by rw [Maps.atKey_put_other hne]; exact ga z⟩
    · exact Or.inr ⟨g, op', rd', rs1', rs2', n', fun z => by rw [Maps.atKey_put_other hne]; exact ga z, gd⟩
theorem decR_uniq {x a b c d g er a' b' c' d' g' er' : Int} (h : DecR x a b c d g er) (h' : DecR x a' b' c' d' g' er') : a = a' ∧ b = b' ∧ c = c' ∧ d = d' ∧ g = g' ∧ er = er' := by
  rcases h with ⟨h1, h2, h3⟩ | ⟨h1, rfl, rfl, rfl, rfl, rfl, h2⟩ <;> rcases h' with ⟨k1, k2, k3⟩ | ⟨k1, rfl, rfl, rfl, rfl, rfl, k2⟩
  · obtain ⟨r1, r2, r3, r4, r5⟩ := ins_one h2 k2 (h3.trans k3.symm)
    exact ⟨r1, r2, r3, r4, r5, h1.trans k1.symm⟩
  · exact absurd ⟨h2, h3⟩ (k2 _ _ _ _ _)
  · exact absurd ⟨k2, k3⟩ (h2 _ _ _ _ _)
  · exact ⟨rfl, rfl, rfl, rfl, rfl, h1.trans k1.symm⟩
/-- A machine in memory. -/
structure Mac (w : World) (M B K : Nat) (s : MS) (N : Nat) : Prop where
  m : Blk w M (s.cells B K) 79
  b : Blk w B (memC s.mem) 5
  k : ∃ D, w.ownsMap Try.prog 28 RI K N D ∧ DecD D
  nmb : M ≠ B
  nmk : M ≠ K
  nbk : B ≠ K
  ok : s.ok
theorem Mac.kl {w : World} {M B K N : Nat} {s : MS} (h : Mac w M B K s N) : K < w.heap.size := by
  obtain ⟨D, ⟨es, cl, hb, _⟩, _⟩ := h.k
  exact (Array.getElem?_eq_some_iff.1 hb).1
theorem Mac.keep {w w' : World} {M B K N : Nat} {s : MS} {S : Nat → Prop} (h : Mac w M B K s N) (g : Mod S w w') (h1 : ¬S M) (h2 : ¬S B) (h3 : ¬S K) : Mac w' M B K s N := by
  refine ⟨g.blk h.m h1, g.blk h.b h2, ?_, h.nmb, h.nmk, h.nbk, h.ok⟩
  obtain ⟨D, ⟨es, cl, hb, hr⟩, hd⟩ := h.k
  exact ⟨D, ⟨es, cl, (g.block K (Array.getElem?_eq_some_iff.1 hb).1 h3).trans hb, hr⟩, hd⟩
theorem Mac.kp {w w' : World} {M B K N : Nat} {s : MS} (h : Mac w M B K s N) (g : Kp w w') : Mac w' M B K s N := h.keep (S := fun _ => False) g.mod id id id
theorem Mac.more {w : World} {M B K N : Nat} {s : MS} (h : Mac w M B K s N) {N' : Nat} (hN : N ≤ N') : Mac w M B K s N' := by
  obtain ⟨D, hD, hd⟩ := h.k
  exact ⟨h.m, h.b, ⟨D, hD.mono hN, hd⟩, h.nmb, h.nmk, h.nbk, h.ok⟩
/-- The machine's own block is written. -/
theorem Mac.setM {w : World} {M B K N i : Nat} {s s' : MS} {v : Value} (h : Mac w M B K s N) (hc : (s.cells B K).setIfInBounds i v = s'.cells B K) (hm : s'.mem = s.mem) (ho : s'.ok) : Mac (w.setCell ⟨M, i, none⟩ v) M B K s' N := by
  refine ⟨hc ▸ h.m.set v, ?_, ?_, h.nmb, h.nmk, h.nbk, ho⟩
  · rw [hm]; exact h.b.far (fun e => h.nmb e.symm) v
  · obtain ⟨D, ⟨es, cl, hb, hr⟩, hd⟩ := h.k
    exact ⟨D, ⟨es, cl, (heap_setCell_other w ⟨M, i, none⟩ K v (fun e => h.nmk e.symm)).trans hb, hr⟩, hd⟩
theorem ok_x {s : MS} (h : s.ok) (r : Nat) {v : Int} (hv : U v) : ({ s with x := s.x.set r v } : MS).ok :=
  ⟨by simp [h.lx], h.lf, fun u hu => by rcases List.mem_or_eq_of_mem_set hu with g | g; exact h.ux u g; rw [g]; exact hv, h.uf, h.ub, h.up, h.uc, h.lm⟩
theorem ok_f {s : MS} (h : s.ok) (r : Nat) {v : Int} (hv : U64 v) : ({ s with f := s.f.set r v } : MS).ok :=
  ⟨h.lx, by simp [h.lf], h.ux, fun u hu => by rcases List.mem_or_eq_of_mem_set hu with g | g; exact h.uf u g; rw [g]; exact hv, h.ub, h.up, h.uc, h.lm⟩
theorem ok_pc {s : MS} (h : s.ok) {v : Int} (hv : U v) : ({ s with pc := v } : MS).ok := ⟨h.lx, h.lf, h.ux, h.uf, h.ub, hv, h.uc, h.lm⟩
theorem ok_state {s : MS} (h : s.ok) (v : Int) : ({ s with state := v } : MS).ok := ⟨h.lx, h.lf, h.ux, h.uf, h.ub, h.up, h.uc, h.lm⟩
theorem ok_code {s : MS} (h : s.ok) {v : Int} (hv : U v) : ({ s with code := v } : MS).ok := ⟨h.lx, h.lf, h.ux, h.uf, h.ub, h.up, hv, h.lm⟩
theorem getD_U {l : List Int} (h : ∀ v ∈ l, U v) (r : Nat) : U (l.getD r 0) := by
  rw [List.getD_eq_getElem?_getD]
  cases e : l[r]? with
  | none => exact ⟨by decide, by decide⟩
  | some b => exact h b (List.mem_of_getElem? e)
theorem getD_U64 {l : List Int} (h : ∀ v ∈ l, U64 v) (r : Nat) : U64 (l.getD r 0) := by
  rw [List.getD_eq_getElem?_getD]
  cases e : l[r]? with
  | none => exact ⟨by decide, by decide⟩
  | some b => exact h b (List.mem_of_getElem? e)
/-- The cells of a machine, for the walk. -/
theorem Mac.facts {w : World} {M B K N : Nat} {s : MS} (h : Mac w M B K s N) : M < w.heap.size ∧ B < w.heap.size ∧ w.cell? ⟨M, 0, none⟩ = some (.slice (some ⟨B, 0, none⟩) s.mem.length s.mem.length) ∧ w.cell? ⟨M, 65, none⟩ = some (.int .u32 s.pc) ∧ w.cell? ⟨M, 66, none⟩ = some (.int .i64 s.state) ∧ w.cell? ⟨M, 67, none⟩ = some (.int .u32 s.code) ∧ w.cell? ⟨M, 68, none⟩ = some (.map (some K)) :=
  ⟨h.m.lt, h.b.lt, (h.m.cell 0).trans cells_0, (h.m.cell 65).trans (cells_tail h.ok (i := 0) (by decide)), (h.m.cell 66).trans (cells_tail h.ok (i := 1) (by decide)), (h.m.cell 67).trans (cells_tail h.ok (i := 2) (by decide)), (h.m.cell 68).trans (cells_tail h.ok (i := 3) (by decide))⟩
theorem Mac.cx {w : World} {M B K N : Nat} {s : MS} (h : Mac w M B K s N) {r : Nat} (hr : r < 32) : w.cell? ⟨M, 1 + r, none⟩ = some (.int .u32 (s.x.getD r 0)) := (h.m.cell _).trans (cells_x h.ok hr)
theorem Mac.cf {w : World} {M B K N : Nat} {s : MS} (h : Mac w M B K s N) {r : Nat} (hr : r < 32) : w.cell? ⟨M, 33 + r, none⟩ = some (.int .u64 (s.f.getD r 0)) := (h.m.cell _).trans (cells_f h.ok hr)
theorem Mac.cb {w : World} {M B K N : Nat} {s : MS} (h : Mac w M B K s N) {i : Nat} (hi : i < s.mem.length) : w.cell? ⟨B, i, none⟩ = some (.int .u8 (s.mem.getD i 0)) := (h.b.cell i).trans (memC_at s.mem i hi)
end Go.Proofs.Ytgcihcgclmdolaa
