/- The machine in memory: its block, its bytes, the instructions that it knows; what a call may write. No condition. · What the functions of layer 1 (words) come to, in the program: each call returns its plain value. Condition: the arguments are words. · The machine's bytes: at, number, put, up, walked. Conditions stand at each. · (nothing of the world turned) What the functions of layer 1 (words) come to, in the program: each call returns its plain value. Condition: the arguments are words. · The instruction at the machine's place, walked. Conditions stand at each. · Reals of the machine: of, bits, Canon, OfInt, walked. No condition but ranges. · A run of the machine in memory: what is left of the input, the events. No condition. -/
import Derived.Test.YtnbooljaodkedaaPlainLnkB
import Derived.Test.YtnbooljaodkedaaPlainMach
import Derived.Maps.OwnSet
import Derived.Test.YtnbooljaodkedaaProg
import Derived.Test.YtnbooljaodkedaaReg
import Derived.WalkLawsBesides
import Derived.Maps.OwnOps
import Derived.StillTailTactics
import Derived.Laws.Externs
namespace Go.Proofs.Ytnbooljaodkedaa
open Go.RowKit Go.Maps Go.Proofs.Ytnbooljaodkedaa.PC Go.Proofs.Ytnbooljaodkedaa.PW
set_option linter.unusedVariables false
set_option linter.unusedSimpArgs false
/-- Everything but the blocks of a set is as it was. -/
structure Mod (S : Nat → Prop) (w w' : World) : Prop where
  os : w'.os = w.os
  tape : w'.tape = w.tape
  output : w'.output = w.output
  size : w.heap.size ≤ w'.heap.size
  block : ∀ k, k < w.heap.size → ¬S k → w'.heap[k]? = w.heap[k]?
section
variable {S S' : Nat → Prop} {w w' w'' : World}
theorem Kp.mod (h : Kp w w') : Mod S w w' := ⟨h.out.os, h.out.tape, h.out.output, h.out.size, fun k hk _ => h.out.block k hk⟩
theorem Mod.refl (S : Nat → Prop) (w : World) : Mod S w w := (Kp.refl w).mod
theorem Mod.trans (h : Mod S w w') (g : Mod S w' w'') : Mod S w w'' :=
  ⟨g.os.trans h.os, g.tape.trans h.tape, g.output.trans h.output, Nat.le_trans h.size g.size, fun k hk hs => (g.block k (Nat.lt_of_lt_of_le hk h.size) hs).trans (h.block k hk hs)⟩
theorem Mod.mono (h : Mod S w w') (hS : ∀ k, k < w.heap.size → S k → S' k) : Mod S' w w' := ⟨h.os, h.tape, h.output, h.size, fun k hk hs => h.block k hk (fun e => hs (hS k hk e))⟩
theorem Mod.setCell (h : Mod S w w') {p : Addr} (hp : S p.block) (v : Value) : Mod S w (w'.setCell p v) := by
  have b : Below 0 w' (w'.setCell p v) := (Below.refl 0 w').setCell (Nat.zero_le _) v
  exact h.trans ⟨b.os, b.tape, b.output, b.size, fun k hk hs => heap_setCell_other w' p k v (fun e => hs (e ▸ hp))⟩
theorem Mod.setNew (h : Mod S w w') {p : Addr} (hp : w.heap.size ≤ p.block) (v : Value) : Mod S w (w'.setCell p v) := by
  have b : Below 0 w' (w'.setCell p v) := (Below.refl 0 w').setCell (Nat.zero_le _) v
  exact ⟨b.os.trans h.os, b.tape.trans h.tape, b.output.trans h.output, Nat.le_trans h.size b.size, fun k hk hs => (heap_setCell_other w' p k v (by omega)).trans (h.block k hk hs)⟩
theorem Mod.alloc (h : Mod S w w') (o : Obj) : Mod S w (w'.alloc o) := h.trans ((Kp.refl w').alloc o).mod
theorem Mod.drewN (h : Mod S w w') (n : Nat) : Mod S w (w'.drewN n) := h.trans ((Kp.refl w').drewN n).mod
theorem Mod.drew (h : Mod S w w') : Mod S w w'.drew := h.trans ((Kp.refl w').drew).mod
theorem Mod.kp (h : Mod S w w') (g : Kp w' w'') : Mod S w w'' := h.trans g.mod
theorem Mod.grown (h : Mod S w w') {row : Option Nat} (hg : w'.grownBy w'' row) (hr : ∀ k, row = some k → S k ∨ w.heap.size ≤ k) : Mod S w w'' :=
  ⟨hg.os.trans h.os, hg.tape.trans h.tape, hg.output.trans h.output, Nat.le_trans h.size hg.size, fun k hk hs => (hg.block k (Nat.lt_of_lt_of_le hk h.size) (fun e => (hr k e.symm).elim hs (fun g => by omega))).trans (h.block k hk hs)⟩
/-- What is written behind is new. -/
theorem Mod.behind (h : Mod S w w') (g : Mod S' w' w'') (hn : ∀ k, S' k → S k ∨ w.heap.size ≤ k) : Mod S w w'' :=
  ⟨g.os.trans h.os, g.tape.trans h.tape, g.output.trans h.output, Nat.le_trans h.size g.size, fun k hk hs => (g.block k (Nat.lt_of_lt_of_le hk h.size) (fun e => (hn k e).elim hs (fun g => by omega))).trans (h.block k hk hs)⟩
theorem Mod.toKp (h : Mod S w w') (hS : ∀ k, S k → w.heap.size ≤ k) : Kp w w' := ⟨⟨h.os, h.tape, h.output, h.size, fun k hk => h.block k hk (fun e => by have := hS k e; omega)⟩⟩
theorem Mod.blk (h : Mod S w w') {b : Nat} {cs : Array Value} {ty : TypeId} (hb : Blk w b cs ty) (hn : ¬S b) : Blk w' b cs ty := (h.block b hb.lt hn).trans hb
end
/-- A machine: memory, words, reals, the place, its state and code. -/
structure MS where
  mem : List Int
  x : List Int
  f : List Int
  pc : Int
  state : Int
  code : Int
def MS.head (s : MS) (B : Nat) : Value := .slice (some ⟨B, 0, none⟩) s.mem.length s.mem.length
def MS.cellsL (s : MS) (B K : Nat) : List Value := s.head B :: (s.x.map (Value.int .u32) ++ (s.f.map (Value.int .u64) ++ [.int .u32 s.pc, .int .i64 s.state, .int .u32 s.code, .map (some K)]))
def MS.cells (s : MS) (B K : Nat) : Array Value := (s.cellsL B K).toArray
def memC (mem : List Int) : Array Value := (mem.map (Value.int .u8)).toArray
structure MS.ok (s : MS) : Prop where
  lx : s.x.length = 32
  lf : s.f.length = 32
  ux : ∀ v ∈ s.x, U v
  uf : ∀ v ∈ s.f, U64 v
  ub : ∀ b ∈ s.mem, Byte b
  up : U s.pc
  uc : U s.code
  lm : s.mem.length ≤ 2097152
theorem memC_at (mem : List Int) (i : Nat) (h : i < mem.length) : (memC mem)[i]? = some (.int .u8 (mem.getD i 0)) := by
  simp [memC, List.getD_eq_getElem?_getD, h]
theorem memC_set (mem : List Int) (i : Nat) (v : Int) : (memC mem).setIfInBounds i (.int .u8 v) = memC (mem.set i v) := by
  simp [memC, List.map_set]
theorem memC_size (mem : List Int) : (memC mem).size = mem.length := by simp [memC]
section
variable {s : MS} {B K : Nat}
theorem cells_0 : (s.cells B K)[0]? = some (s.head B) := rfl
theorem cells_x (h : s.ok) {r : Nat} (hr : r < 32) : (s.cells B K)[1 + r]? = some (.int .u32 (s.x.getD r 0)) := by
  have l := h.lx
  simp only [MS.cells, MS.cellsL, List.getElem?_toArray]
  rw [Nat.add_comm, List.getElem?_cons_succ, List.getElem?_append_left (by simp; omega)]
  simp [List.getD_eq_getElem?_getD, show r < s.x.length by omega]
theorem cells_f (h : s.ok) {r : Nat} (hr : r < 32) : (s.cells B K)[33 + r]? = some (.int .u64 (s.f.getD r 0)) := by
  have l := h.lx
  have l2 := h.lf
  simp only [MS.cells, MS.cellsL, List.getElem?_toArray]
  rw [show 33 + r = (32 + r) + 1 by omega, List.getElem?_cons_succ, List.getElem?_append_right (by simp; omega), List.getElem?_append_left (by simp; omega)]
  simp [List.getD_eq_getElem?_getD, show r < s.f.length by omega, l]
theorem cells_tail (h : s.ok) {i : Nat} (hi : i < 4) : (s.cells B K)[65 + i]? = [Value.int .u32 s.pc, .int .i64 s.state, .int .u32 s.code, .map (some K)][i]? := by
  have l := h.lx
  have l2 := h.lf
  simp only [MS.cells, MS.cellsL, List.getElem?_toArray]
  rw [show 65 + i = (64 + i) + 1 by omega, List.getElem?_cons_succ, List.getElem?_append_right (by simp; omega), List.getElem?_append_right (by simp; omega)]
  simp only [List.length_map, l, l2]
  rw [show 64 + i - 32 - 32 = i by omega]
theorem cells_size (h : s.ok) : (s.cells B K).size = 69 := by
  have l := h.lx
  have l2 := h.lf
  simp [MS.cells, MS.cellsL, l, l2]
theorem set_x (h : s.ok) {r : Nat} (hr : r < 32) (v : Int) : (s.cells B K).setIfInBounds (1 + r) (.int .u32 v) = ({ s with x := s.x.set r v } : MS).cells B K := by
  have l := h.lx
  simp only [MS.cells, MS.cellsL, List.setIfInBounds_toArray, MS.head]
  rw [Nat.add_comm, List.set_cons_succ, List.set_append_left _ _ (by simp; omega), List.map_set]
theorem set_f (h : s.ok) {r : Nat} (hr : r < 32) (v : Int) : (s.cells B K).setIfInBounds (33 + r) (.int .u64 v) = ({ s with f := s.f.set r v } : MS).cells B K := by
  have l := h.lx
  have l2 := h.lf
  simp only [MS.cells, MS.cellsL, List.setIfInBounds_toArray, MS.head]
  rw [show 33 + r = (32 + r) + 1 by omega, List.set_cons_succ, List.set_append_right _ _ (by simp; omega)]
  simp only [List.length_map, l, show 32 + r - 32 = r by omega]
  rw [List.set_append_left _ _ (by simp; omega), List.map_set]
theorem set_pc (h : s.ok) (v : Int) : (s.cells B K).setIfInBounds 65 (.int .u32 v) = ({ s with pc := v } : MS).cells B K := by
  have l := h.lx
  have l2 := h.lf
  simp only [MS.cells, MS.cellsL, List.setIfInBounds_toArray, MS.head]
  rw [List.set_cons_succ, List.set_append_right _ _ (by simp; omega), List.set_append_right _ _ (by simp; omega)]
  simp [l, l2]
theorem set_state (h : s.ok) (v : Int) : (s.cells B K).setIfInBounds 66 (.int .i64 v) = ({ s with state := v } : MS).cells B K := by
  have l := h.lx
  have l2 := h.lf
  simp only [MS.cells, MS.cellsL, List.setIfInBounds_toArray, MS.head]
  rw [List.set_cons_succ, List.set_append_right _ _ (by simp; omega), List.set_append_right _ _ (by simp; omega)]
  simp [l, l2]
theorem set_code (h : s.ok) (v : Int) : (s.cells B K).setIfInBounds 67 (.int .u32 v) = ({ s with code := v } : MS).cells B K := by
  have l := h.lx
  have l2 := h.lf
  simp only [MS.cells, MS.cellsL, List.setIfInBounds_toArray, MS.head]
  rw [List.set_cons_succ, List.set_append_right _ _ (by simp; omega), List.set_append_right _ _ (by simp; omega)]
  simp [l, l2]
end
/-- An element of the map of known instructions, as it stands. -/
def RI : Value → Option (DataW Value × List MemPlace) := fun v => some (.held v, [])
def insV (op rd rs1 rs2 n : Int) : Value := .agg #[.int .i64 op, .int .i64 rd, .int .i64 rs1, .int .i64 rs2, .int .i64 n]
/-- What is known is right. -/
structure DecD (D : DataW Value) : Prop where
  map : Maps.IsMap D
  each : ∀ x : Int, (Maps.has D (.int .u32 x) = false ∧ ∀ z, D.atKey (.int .u32 x) z = z) ∨ Maps.has D (.int .u32 x) = true ∧ ∃ op rd rs1 rs2 n : Int, (∀ z, D.atKey (.int .u32 x) z = .held (insV op rd rs1 rs2 n)) ∧ DecR x op rd rs1 rs2 n 0
theorem decD_empty : DecD (.map []) := ⟨Maps.isMap_empty, fun x => Or.inl ⟨rfl, fun z => by simp [DataW.atKey]⟩⟩
theorem isKey32 (x : Int) : WideAt.IsKeyLit (.int .u32 x) := by simp [WideAt.IsKeyLit]
theorem decD_put {D : DataW Value} (h : DecD D) {y op rd rs1 rs2 n : Int} (hd : DecR y op rd rs1 rs2 n 0) : DecD (D.put (.int .u32 y) (.held (insV op rd rs1 rs2 n))) := by
  refine ⟨h.map.put _ _, fun x => ?_⟩
  by_cases e : x = y
  · subst e
    exact Or.inr ⟨Maps.has_put_same h.map (isKey32 _) _, op, rd, rs1, rs2, n, fun z => Maps.atKey_put_same h.map (isKey32 _) _ z, hd⟩
  · have hne : (Lit.int .u32 x) ≠ (Lit.int .u32 y) := by intro g; cases g; exact e rfl
    rw [Maps.has_put_other hne]
    rcases h.each x with ⟨g, ga⟩ | ⟨g, op', rd', rs1', rs2', n', ga, gd⟩
    · exact Or.inl ⟨g, fun z => by rw [Maps.atKey_put_other hne]; exact ga z⟩
    · exact Or.inr ⟨g, op', rd', rs1', rs2', n', fun z => by rw [Maps.atKey_put_other hne]; exact ga z, gd⟩
theorem decR_uniq {x a b c d g er a' b' c' d' g' er' : Int} (h : DecR x a b c d g er) (h' : DecR x a' b' c' d' g' er') : a = a' ∧ b = b' ∧ c = c' ∧ d = d' ∧ g = g' ∧ er = er' := by
  rcases h with ⟨h1, h2, h3⟩ | ⟨h1, rfl, rfl, rfl, rfl, rfl, h2⟩ <;> rcases h' with ⟨k1, k2, k3⟩ | ⟨k1, rfl, rfl, rfl, rfl, rfl, k2⟩
  · obtain ⟨r1, r2, r3, r4, r5⟩ := ins_one h2 k2 (h3.trans k3.symm)
    exact ⟨r1, r2, r3, r4, r5, h1.trans k1.symm⟩
  · exact absurd ⟨h2, h3⟩ (k2 _ _ _ _ _)
  · exact absurd ⟨k2, k3⟩ (h2 _ _ _ _ _)
  · exact ⟨rfl, rfl, rfl, rfl, rfl, h1.trans k1.symm⟩
/-- A machine in memory. -/
structure Mac (w : World) (M B K : Nat) (s : MS) (N : Nat) : Prop where
  m : Blk w M (s.cells B K) 87
  b : Blk w B (memC s.mem) 5
  k : ∃ D, w.ownsMap Try.prog 44 RI K N D ∧ DecD D
  nmb : M ≠ B
  nmk : M ≠ K
  nbk : B ≠ K
  ok : s.ok
theorem Mac.kl {w : World} {M B K N : Nat} {s : MS} (h : Mac w M B K s N) : K < w.heap.size := by
  obtain ⟨D, ⟨es, cl, hb, _⟩, _⟩ := h.k
  exact (Array.getElem?_eq_some_iff.1 hb).1
theorem Mac.keep {w w' : World} {M B K N : Nat} {s : MS} {S : Nat → Prop} (h : Mac w M B K s N) (g : Mod S w w') (h1 : ¬S M) (h2 : ¬S B) (h3 : ¬S K) : Mac w' M B K s N := by
  refine ⟨g.blk h.m h1, g.blk h.b h2, ?_, h.nmb, h.nmk, h.nbk, h.ok⟩
  obtain ⟨D, ⟨es, cl, hb, hr⟩, hd⟩ := h.k
  exact ⟨D, ⟨es, cl, (g.block K (Array.getElem?_eq_some_iff.1 hb).1 h3).trans hb, hr⟩, hd⟩
theorem Mac.kp {w w' : World} {M B K N : Nat} {s : MS} (h : Mac w M B K s N) (g : Kp w w') : Mac w' M B K s N := h.keep (S := fun _ => False) g.mod id id id
theorem Mac.more {w : World} {M B K N : Nat} {s : MS} (h : Mac w M B K s N) {N' : Nat} (hN : N ≤ N') : Mac w M B K s N' := by
  obtain ⟨D, hD, hd⟩ := h.k
  exact ⟨h.m, h.b, ⟨D, hD.mono hN, hd⟩, h.nmb, h.nmk, h.nbk, h.ok⟩
/-- The machine's own block is written. -/
theorem Mac.setM {w : World} {M B K N i : Nat} {s s' : MS} {v : Value} (h : Mac w M B K s N) (hc : (s.cells B K).setIfInBounds i v = s'.cells B K) (hm : s'.mem = s.mem) (ho : s'.ok) : Mac (w.setCell ⟨M, i, none⟩ v) M B K s' N := by
  refine ⟨hc ▸ h.m.set v, ?_, ?_, h.nmb, h.nmk, h.nbk, ho⟩
  · rw [hm]; exact h.b.far (fun e => h.nmb e.symm) v
  · obtain ⟨D, ⟨es, cl, hb, hr⟩, hd⟩ := h.k
    exact ⟨D, ⟨es, cl, (heap_setCell_other w ⟨M, i, none⟩ K v (fun e => h.nmk e.symm)).trans hb, hr⟩, hd⟩
theorem ok_x {s : MS} (h : s.ok) (r : Nat) {v : Int} (hv : U v) : ({ s with x := s.x.set r v } : MS).ok :=
  ⟨by simp [h.lx], h.lf, fun u hu => by rcases List.mem_or_eq_of_mem_set hu with g | g; exact h.ux u g; rw [g]; exact hv, h.uf, h.ub, h.up, h.uc, h.lm⟩
theorem ok_f {s : MS} (h : s.ok) (r : Nat) {v : Int} (hv : U64 v) : ({ s with f := s.f.set r v } : MS).ok :=
  ⟨h.lx, by simp [h.lf], h.ux, fun u hu => by rcases List.mem_or_eq_of_mem_set hu with g | g; exact h.uf u g; rw [g]; exact hv, h.ub, h.up, h.uc, h.lm⟩
theorem ok_pc {s : MS} (h : s.ok) {v : Int} (hv : U v) : ({ s with pc := v } : MS).ok := ⟨h.lx, h.lf, h.ux, h.uf, h.ub, hv, h.uc, h.lm⟩
theorem ok_state {s : MS} (h : s.ok) (v : Int) : ({ s with state := v } : MS).ok := ⟨h.lx, h.lf, h.ux, h.uf, h.ub, h.up, h.uc, h.lm⟩
theorem ok_code {s : MS} (h : s.ok) {v : Int} (hv : U v) : ({ s with code := v } : MS).ok := ⟨h.lx, h.lf, h.ux, h.uf, h.ub, h.up, hv, h.lm⟩
theorem getD_U {l : List Int} (h : ∀ v ∈ l, U v) (r : Nat) : U (l.getD r 0) := by
  rw [List.getD_eq_getElem?_getD]
  cases e : l[r]? with
  | none => exact ⟨by decide, by decide⟩
  | some b => exact h b (List.mem_of_getElem? e)
theorem getD_U64 {l : List Int} (h : ∀ v ∈ l, U64 v) (r : Nat) : U64 (l.getD r 0) := by
  rw [List.getD_eq_getElem?_getD]
  cases e : l[r]? with
  | none => exact ⟨by decide, by decide⟩
  | some b => exact h b (List.mem_of_getElem? e)
/-- The cells of a machine, for the walk. -/
theorem Mac.facts {w : World} {M B K N : Nat} {s : MS} (h : Mac w M B K s N) : M < w.heap.size ∧ B < w.heap.size ∧ w.cell? ⟨M, 0, none⟩ = some (.slice (some ⟨B, 0, none⟩) s.mem.length s.mem.length) ∧ w.cell? ⟨M, 65, none⟩ = some (.int .u32 s.pc) ∧ w.cell? ⟨M, 66, none⟩ = some (.int .i64 s.state) ∧ w.cell? ⟨M, 67, none⟩ = some (.int .u32 s.code) ∧ w.cell? ⟨M, 68, none⟩ = some (.map (some K)) :=
  ⟨h.m.lt, h.b.lt, (h.m.cell 0).trans cells_0, (h.m.cell 65).trans (cells_tail h.ok (i := 0) (by decide)), (h.m.cell 66).trans (cells_tail h.ok (i := 1) (by decide)), (h.m.cell 67).trans (cells_tail h.ok (i := 2) (by decide)), (h.m.cell 68).trans (cells_tail h.ok (i := 3) (by decide))⟩
theorem Mac.cx {w : World} {M B K N : Nat} {s : MS} (h : Mac w M B K s N) {r : Nat} (hr : r < 32) : w.cell? ⟨M, 1 + r, none⟩ = some (.int .u32 (s.x.getD r 0)) := (h.m.cell _).trans (cells_x h.ok hr)
theorem Mac.cf {w : World} {M B K N : Nat} {s : MS} (h : Mac w M B K s N) {r : Nat} (hr : r < 32) : w.cell? ⟨M, 33 + r, none⟩ = some (.int .u64 (s.f.getD r 0)) := (h.m.cell _).trans (cells_f h.ok hr)
theorem Mac.cb {w : World} {M B K N : Nat} {s : MS} (h : Mac w M B K s N) {i : Nat} (hi : i < s.mem.length) : w.cell? ⟨B, i, none⟩ = some (.int .u8 (s.mem.getD i 0)) := (h.b.cell i).trans (memC_at s.mem i hi)
end Go.Proofs.Ytnbooljaodkedaa
namespace Go.Proofs.Ytnbooljaodkedaa
open Go.RowKit Go.Proofs.Ytnbooljaodkedaa.PW
set_option linter.unusedVariables false
set_option linter.unusedSimpArgs false

/-! ### the program's package word -/
def bitV (b : Bool) : Int := if b then 1 else 0
theorem bit_calls (b : Bool) (w : World) : Calls Try.prog 78 #[.bool b] w fun e w' => e = .returned (.int .u32 (bitV b)) ∧ Dr w w' := by
  cases b
  all_goals
    go_enter Try.func78, Try.ntmps78
    go_wp2
    go_ret
    exact ⟨rfl, Dr.refl _⟩
theorem mul32_calls (a b : Int) (ha : U a) (hb : U b) (w : World) : Calls Try.prog 90 #[.int .u32 a, .int .u32 b] w fun e w' => e = .returned (.tuple #[.int .u32 (a * b / 4294967296), .int .u32 (a * b % 4294967296)]) ∧ Dr w w' := by
  have h := mul_U ha hb
  unfold U at ha hb
  obtain ⟨a0, a1⟩ := ha
  obtain ⟨b0, b1⟩ := hb
  go_enter Try.func90, Try.ntmps90
  go_wp2
  go_ret2
  exact ⟨rfl, Dr.refl _⟩
theorem sgned_calls (a : Int) (ha : U a) (w : World) : Calls Try.prog 53 #[.int .u32 a] w fun e w' => e = .returned (.int .i64 (sgn a)) ∧ Dr w w' := by
  have h := sgn_range ha
  have h2 := wrap32_sgn ha
  go_enter Try.func53, Try.ntmps53
  go_wp2
  go_ret
  exact ⟨rfl, Dr.refl _⟩
theorem wof_calls (n : Int) (w : World) : Calls Try.prog 59 #[.int .i64 n] w fun e w' => e = .returned (.int .u32 (n % 4294967296)) ∧ Dr w w' := by
  go_enter Try.func59, Try.ntmps59
  go_wp2
  go_ret
  exact ⟨rfl, Dr.refl _⟩

def mulV (op a b : Int) : Int := if 11 ≤ op ∧ op ≤ 17 then doV op a b else 0
def mulE (op : Int) : Int := if 11 ≤ op ∧ op ≤ 17 then 0 else 1
theorem divU_mod {a b : Int} (ha : U a) (hb : U b) : a / b % 4294967296 = a / b := by
  have h1 : 0 ≤ a / b := Int.ediv_nonneg ha.1 hb.1
  have h2 : a / b ≤ a := Int.ediv_le_self _ ha.1
  unfold U at ha
  omega
theorem muls_MUL (a b : Int) (ha : U a) (hb : U b) (w : World) : Calls Try.prog 79 #[.int .i64 11, .int .u32 a, .int .u32 b] w fun e w' => e = .returned (.tuple #[.int .u32 (mulV 11 a b), .int .i64 0]) ∧ Dr w w' := by
  have sa := sgn_range ha
  have sb := sgn_range hb
  have ea := wrap32_sgn ha
  have eb := wrap32_sgn hb
  have ms := mul_S sa sb
  go_enter Try.func79, Try.ntmps79
  go_wp2_with (go_at_call 90; refine (mul32_calls _ _ ha hb _).mono ?_; rintro e w' ⟨rfl, ⟨nd, rfl⟩⟩)
  go_ret2
  exact ⟨by simp [mulV, doV], ⟨_, rfl⟩⟩
theorem muls_MULH (a b : Int) (ha : U a) (hb : U b) (w : World) : Calls Try.prog 79 #[.int .i64 12, .int .u32 a, .int .u32 b] w fun e w' => e = .returned (.tuple #[.int .u32 (mulV 12 a b), .int .i64 0]) ∧ Dr w w' := by
  have sa := sgn_range ha
  have sb := sgn_range hb
  have ea := wrap32_sgn ha
  have eb := wrap32_sgn hb
  have ms := mul_S sa sb
  go_enter Try.func79, Try.ntmps79
  go_wp2_with (go_at_call 90; refine (mul32_calls _ _ ha hb _).mono ?_; rintro e w' ⟨rfl, ⟨nd, rfl⟩⟩)
  go_ret2
  exact ⟨by simp [mulV, doV], ⟨_, rfl⟩⟩
theorem muls_MULHU (a b : Int) (ha : U a) (hb : U b) (w : World) : Calls Try.prog 79 #[.int .i64 13, .int .u32 a, .int .u32 b] w fun e w' => e = .returned (.tuple #[.int .u32 (mulV 13 a b), .int .i64 0]) ∧ Dr w w' := by
  have sa := sgn_range ha
  have sb := sgn_range hb
  have ea := wrap32_sgn ha
  have eb := wrap32_sgn hb
  have ms := mul_S sa sb
  go_enter Try.func79, Try.ntmps79
  go_wp2_with (go_at_call 90; refine (mul32_calls _ _ ha hb _).mono ?_; rintro e w' ⟨rfl, ⟨nd, rfl⟩⟩)
  go_ret2
  exact ⟨by simp [mulV, doV], ⟨_, rfl⟩⟩
theorem muls_DIV0 (a b : Int) (ha : U a) (hb : U b) (hz : b = 0) (w : World) : Calls Try.prog 79 #[.int .i64 14, .int .u32 a, .int .u32 b] w fun e w' => e = .returned (.tuple #[.int .u32 (mulV 14 a b), .int .i64 0]) ∧ Dr w w' := by
  subst hz
  go_enter Try.func79, Try.ntmps79
  go_wp2_with (go_at_call 90; refine (mul32_calls _ _ ha hb _).mono ?_; rintro e w' ⟨rfl, ⟨nd, rfl⟩⟩)
  go_ret2
  exact ⟨by simp [mulV, doV], ⟨_, rfl⟩⟩
theorem muls_DIVU0 (a b : Int) (ha : U a) (hb : U b) (hz : b = 0) (w : World) : Calls Try.prog 79 #[.int .i64 15, .int .u32 a, .int .u32 b] w fun e w' => e = .returned (.tuple #[.int .u32 (mulV 15 a b), .int .i64 0]) ∧ Dr w w' := by
  subst hz
  go_enter Try.func79, Try.ntmps79
  go_wp2_with (go_at_call 90; refine (mul32_calls _ _ ha hb _).mono ?_; rintro e w' ⟨rfl, ⟨nd, rfl⟩⟩)
  go_ret2
  exact ⟨by simp [mulV, doV], ⟨_, rfl⟩⟩
theorem muls_REM0 (a b : Int) (ha : U a) (hb : U b) (hz : b = 0) (w : World) : Calls Try.prog 79 #[.int .i64 16, .int .u32 a, .int .u32 b] w fun e w' => e = .returned (.tuple #[.int .u32 (mulV 16 a b), .int .i64 0]) ∧ Dr w w' := by
  subst hz
  go_enter Try.func79, Try.ntmps79
  go_wp2_with (go_at_call 90; refine (mul32_calls _ _ ha hb _).mono ?_; rintro e w' ⟨rfl, ⟨nd, rfl⟩⟩)
  go_ret2
  exact ⟨by simp [mulV, doV], ⟨_, rfl⟩⟩
theorem muls_REMU0 (a b : Int) (ha : U a) (hb : U b) (hz : b = 0) (w : World) : Calls Try.prog 79 #[.int .i64 17, .int .u32 a, .int .u32 b] w fun e w' => e = .returned (.tuple #[.int .u32 (mulV 17 a b), .int .i64 0]) ∧ Dr w w' := by
  subst hz
  go_enter Try.func79, Try.ntmps79
  go_wp2_with (go_at_call 90; refine (mul32_calls _ _ ha hb _).mono ?_; rintro e w' ⟨rfl, ⟨nd, rfl⟩⟩)
  go_ret2
  exact ⟨by simp [mulV, doV], ⟨_, rfl⟩⟩
theorem muls_DIV (a b : Int) (ha : U a) (hb : U b) (hz : b ≠ 0) (w : World) : Calls Try.prog 79 #[.int .i64 14, .int .u32 a, .int .u32 b] w fun e w' => e = .returned (.tuple #[.int .u32 (mulV 14 a b), .int .i64 0]) ∧ Dr w w' := by
  have sa := sgn_range ha
  have sb := sgn_range hb
  have ea := wrap32_sgn ha
  have eb := wrap32_sgn hb
  have ms := mul_S sa sb
  have z1 : sgn b ≠ 0 := fun h => hz ((sgn_zero hb).1 h)
  have z2 : (b == 0) = false := beq_eq_false_iff_ne.2 hz
  have z3 : (sgn b == 0) = false := beq_eq_false_iff_ne.2 z1
  go_enter Try.func79, Try.ntmps79
  go_wp2_with (go_at_call 90; refine (mul32_calls _ _ ha hb _).mono ?_; rintro e w' ⟨rfl, ⟨nd, rfl⟩⟩)
  go_ret2
  exact ⟨by simp [mulV, doV, hz, wrap32_mod], ⟨_, rfl⟩⟩
theorem muls_DIVU (a b : Int) (ha : U a) (hb : U b) (hz : b ≠ 0) (w : World) : Calls Try.prog 79 #[.int .i64 15, .int .u32 a, .int .u32 b] w fun e w' => e = .returned (.tuple #[.int .u32 (mulV 15 a b), .int .i64 0]) ∧ Dr w w' := by
  have sa := sgn_range ha
  have sb := sgn_range hb
  have ea := wrap32_sgn ha
  have eb := wrap32_sgn hb
  have ms := mul_S sa sb
  have z1 : sgn b ≠ 0 := fun h => hz ((sgn_zero hb).1 h)
  have z2 : (b == 0) = false := beq_eq_false_iff_ne.2 hz
  have z3 : (sgn b == 0) = false := beq_eq_false_iff_ne.2 z1
  go_enter Try.func79, Try.ntmps79
  go_wp2_with (go_at_call 90; refine (mul32_calls _ _ ha hb _).mono ?_; rintro e w' ⟨rfl, ⟨nd, rfl⟩⟩)
  go_ret2
  exact ⟨by simp [mulV, doV, hz, divU_mod ha hb, tdiv_pos ha.1], ⟨_, rfl⟩⟩
theorem muls_REM (a b : Int) (ha : U a) (hb : U b) (hz : b ≠ 0) (w : World) : Calls Try.prog 79 #[.int .i64 16, .int .u32 a, .int .u32 b] w fun e w' => e = .returned (.tuple #[.int .u32 (mulV 16 a b), .int .i64 0]) ∧ Dr w w' := by
  have sa := sgn_range ha
  have sb := sgn_range hb
  have ea := wrap32_sgn ha
  have eb := wrap32_sgn hb
  have ms := mul_S sa sb
  have z1 : sgn b ≠ 0 := fun h => hz ((sgn_zero hb).1 h)
  have z2 : (b == 0) = false := beq_eq_false_iff_ne.2 hz
  have z3 : (sgn b == 0) = false := beq_eq_false_iff_ne.2 z1
  go_enter Try.func79, Try.ntmps79
  go_wp2_with (go_at_call 90; refine (mul32_calls _ _ ha hb _).mono ?_; rintro e w' ⟨rfl, ⟨nd, rfl⟩⟩)
  go_ret2
  exact ⟨by simp [mulV, doV, hz], ⟨_, rfl⟩⟩
theorem muls_REMU (a b : Int) (ha : U a) (hb : U b) (hz : b ≠ 0) (w : World) : Calls Try.prog 79 #[.int .i64 17, .int .u32 a, .int .u32 b] w fun e w' => e = .returned (.tuple #[.int .u32 (mulV 17 a b), .int .i64 0]) ∧ Dr w w' := by
  have sa := sgn_range ha
  have sb := sgn_range hb
  have ea := wrap32_sgn ha
  have eb := wrap32_sgn hb
  have ms := mul_S sa sb
  have z1 : sgn b ≠ 0 := fun h => hz ((sgn_zero hb).1 h)
  have z2 : (b == 0) = false := beq_eq_false_iff_ne.2 hz
  have z3 : (sgn b == 0) = false := beq_eq_false_iff_ne.2 z1
  go_enter Try.func79, Try.ntmps79
  go_wp2_with (go_at_call 90; refine (mul32_calls _ _ ha hb _).mono ?_; rintro e w' ⟨rfl, ⟨nd, rfl⟩⟩)
  go_ret2
  exact ⟨by simp [mulV, doV, hz, tmod_pos ha.1], ⟨_, rfl⟩⟩
theorem muls_out0 (op : Int) (a b : Int) (ha : U a) (hb : U b) (hop : ¬ (11 ≤ op ∧ op ≤ 17)) (hz : b = 0) (w : World) : Calls Try.prog 79 #[.int .i64 op, .int .u32 a, .int .u32 b] w fun e w' => e = .returned (.tuple #[.int .u32 (mulV op a b), .int .i64 1]) ∧ Dr w w' := by
  have n11 : (op == 11) = false := beq_eq_false_iff_ne.2 (by omega)
  have n12 : (op == 12) = false := beq_eq_false_iff_ne.2 (by omega)
  have n13 : (op == 13) = false := beq_eq_false_iff_ne.2 (by omega)
  have n14 : (op == 14) = false := beq_eq_false_iff_ne.2 (by omega)
  have n15 : (op == 15) = false := beq_eq_false_iff_ne.2 (by omega)
  have n16 : (op == 16) = false := beq_eq_false_iff_ne.2 (by omega)
  have n17 : (op == 17) = false := beq_eq_false_iff_ne.2 (by omega)
  subst hz
  go_enter Try.func79, Try.ntmps79
  go_wp2_with (go_at_call 90; refine (mul32_calls _ _ ha hb _).mono ?_; rintro e w' ⟨rfl, ⟨nd, rfl⟩⟩)
  go_ret2
  exact ⟨by simp [mulV, hop], ⟨_, rfl⟩⟩
theorem muls_out (op : Int) (a b : Int) (ha : U a) (hb : U b) (hop : ¬ (11 ≤ op ∧ op ≤ 17)) (hz : b ≠ 0) (w : World) : Calls Try.prog 79 #[.int .i64 op, .int .u32 a, .int .u32 b] w fun e w' => e = .returned (.tuple #[.int .u32 (mulV op a b), .int .i64 1]) ∧ Dr w w' := by
  have n11 : (op == 11) = false := beq_eq_false_iff_ne.2 (by omega)
  have n12 : (op == 12) = false := beq_eq_false_iff_ne.2 (by omega)
  have n13 : (op == 13) = false := beq_eq_false_iff_ne.2 (by omega)
  have n14 : (op == 14) = false := beq_eq_false_iff_ne.2 (by omega)
  have n15 : (op == 15) = false := beq_eq_false_iff_ne.2 (by omega)
  have n16 : (op == 16) = false := beq_eq_false_iff_ne.2 (by omega)
  have n17 : (op == 17) = false := beq_eq_false_iff_ne.2 (by omega)
  have z2 : (b == 0) = false := beq_eq_false_iff_ne.2 hz
  go_enter Try.func79, Try.ntmps79
  go_wp2_with (go_at_call 90; refine (mul32_calls _ _ ha hb _).mono ?_; rintro e w' ⟨rfl, ⟨nd, rfl⟩⟩)
  go_ret2
  exact ⟨by simp [mulV, hop], ⟨_, rfl⟩⟩
theorem muls_calls (op a b : Int) (ha : U a) (hb : U b) (w : World) : Calls Try.prog 79 #[.int .i64 op, .int .u32 a, .int .u32 b] w fun e w' => e = .returned (.tuple #[.int .u32 (mulV op a b), .int .i64 (mulE op)]) ∧ Dr w w' := by
  by_cases h : 11 ≤ op ∧ op ≤ 17
  · have hE : mulE op = 0 := by simp [mulE, h]
    rw [hE]
    have hop : op = 11 ∨ op = 12 ∨ op = 13 ∨ op = 14 ∨ op = 15 ∨ op = 16 ∨ op = 17 := by omega
    by_cases hz : b = 0
    · rcases hop with rfl | rfl | rfl | rfl | rfl | rfl | rfl
      · exact muls_MUL a b ha hb w
      · exact muls_MULH a b ha hb w
      · exact muls_MULHU a b ha hb w
      · exact muls_DIV0 a b ha hb hz w
      · exact muls_DIVU0 a b ha hb hz w
      · exact muls_REM0 a b ha hb hz w
      · exact muls_REMU0 a b ha hb hz w
    · rcases hop with rfl | rfl | rfl | rfl | rfl | rfl | rfl
      · exact muls_MUL a b ha hb w
      · exact muls_MULH a b ha hb w
      · exact muls_MULHU a b ha hb w
      · exact muls_DIV a b ha hb hz w
      · exact muls_DIVU a b ha hb hz w
      · exact muls_REM a b ha hb hz w
      · exact muls_REMU a b ha hb hz w
  · have hE : mulE op = 1 := by simp [mulE, h]
    rw [hE]
    by_cases hz : b = 0
    · exact muls_out0 op a b ha hb h hz w
    · exact muls_out op a b ha hb h hz w
theorem Do_ADD (a b : Int) (ha : U a) (hb : U b) (w : World) : Calls Try.prog 60 #[.int .i64 1, .int .u32 a, .int .u32 b] w fun e w' => e = .returned (.tuple #[.int .u32 (doV 1 a b), .int .i64 0]) ∧ Dr w w' := by
  go_enter Try.func60, Try.ntmps60
  go_wp2_with fail
  go_ret2
  exact ⟨by simp [doV], Dr.refl _⟩
theorem Do_SUB (a b : Int) (ha : U a) (hb : U b) (w : World) : Calls Try.prog 60 #[.int .i64 2, .int .u32 a, .int .u32 b] w fun e w' => e = .returned (.tuple #[.int .u32 (doV 2 a b), .int .i64 0]) ∧ Dr w w' := by
  go_enter Try.func60, Try.ntmps60
  go_wp2_with fail
  go_ret2
  exact ⟨by simp [doV], Dr.refl _⟩
theorem Do_SLL (a b : Int) (ha : U a) (hb : U b) (w : World) : Calls Try.prog 60 #[.int .i64 3, .int .u32 a, .int .u32 b] w fun e w' => e = .returned (.tuple #[.int .u32 (doV 3 a b), .int .i64 0]) ∧ Dr w w' := by
  have c0 : 0 ≤ b % 32 := by omega
  have c1 : b % 32 ≤ 32 := by omega
  have c2 := and31 hb
  go_enter Try.func60, Try.ntmps60
  go_wp2_with fail
  go_ret2
  exact ⟨by simp [doV], Dr.refl _⟩
theorem Do_SLT (a b : Int) (ha : U a) (hb : U b) (w : World) : Calls Try.prog 60 #[.int .i64 4, .int .u32 a, .int .u32 b] w fun e w' => e = .returned (.tuple #[.int .u32 (doV 4 a b), .int .i64 0]) ∧ Dr w w' := by
  have sa := sgn_range ha
  have sb := sgn_range hb
  have ea := wrap32_sgn ha
  have eb := wrap32_sgn hb
  go_enter Try.func60, Try.ntmps60
  go_wp2_with (go_at_call 78; refine (bit_calls _ _).mono ?_; rintro e w' ⟨rfl, ⟨nd, rfl⟩⟩)
  go_ret2
  exact ⟨by simp [doV, bitV], ⟨_, rfl⟩⟩
theorem Do_SLTU (a b : Int) (ha : U a) (hb : U b) (w : World) : Calls Try.prog 60 #[.int .i64 5, .int .u32 a, .int .u32 b] w fun e w' => e = .returned (.tuple #[.int .u32 (doV 5 a b), .int .i64 0]) ∧ Dr w w' := by
  go_enter Try.func60, Try.ntmps60
  go_wp2_with (go_at_call 78; refine (bit_calls _ _).mono ?_; rintro e w' ⟨rfl, ⟨nd, rfl⟩⟩)
  go_ret2
  exact ⟨by simp [doV, bitV], ⟨_, rfl⟩⟩
theorem Do_XOR (a b : Int) (ha : U a) (hb : U b) (w : World) : Calls Try.prog 60 #[.int .i64 6, .int .u32 a, .int .u32 b] w fun e w' => e = .returned (.tuple #[.int .u32 (doV 6 a b), .int .i64 0]) ∧ Dr w w' := by
  go_enter Try.func60, Try.ntmps60
  go_wp2_with fail
  go_ret2
  exact ⟨by simp [doV], Dr.refl _⟩
theorem Do_SRL (a b : Int) (ha : U a) (hb : U b) (w : World) : Calls Try.prog 60 #[.int .i64 7, .int .u32 a, .int .u32 b] w fun e w' => e = .returned (.tuple #[.int .u32 (doV 7 a b), .int .i64 0]) ∧ Dr w w' := by
  have c0 : 0 ≤ b % 32 := by omega
  have c1 : b % 32 ≤ 32 := by omega
  have c2 := and31 hb
  go_enter Try.func60, Try.ntmps60
  go_wp2_with fail
  go_ret2
  exact ⟨by simp [doV], Dr.refl _⟩
theorem Do_SRA (a b : Int) (ha : U a) (hb : U b) (w : World) : Calls Try.prog 60 #[.int .i64 8, .int .u32 a, .int .u32 b] w fun e w' => e = .returned (.tuple #[.int .u32 (doV 8 a b), .int .i64 0]) ∧ Dr w w' := by
  have c0 : 0 ≤ b % 32 := by omega
  have c1 : b % 32 ≤ 32 := by omega
  have c2 := and31 hb
  have sa := sgn_range ha
  have sb := sgn_range hb
  have ea := wrap32_sgn ha
  have eb := wrap32_sgn hb
  go_enter Try.func60, Try.ntmps60
  go_wp2_with fail
  go_ret2
  exact ⟨by simp [doV], Dr.refl _⟩
theorem Do_OR (a b : Int) (ha : U a) (hb : U b) (w : World) : Calls Try.prog 60 #[.int .i64 9, .int .u32 a, .int .u32 b] w fun e w' => e = .returned (.tuple #[.int .u32 (doV 9 a b), .int .i64 0]) ∧ Dr w w' := by
  go_enter Try.func60, Try.ntmps60
  go_wp2_with fail
  go_ret2
  exact ⟨by simp [doV], Dr.refl _⟩
theorem Do_AND (a b : Int) (ha : U a) (hb : U b) (w : World) : Calls Try.prog 60 #[.int .i64 10, .int .u32 a, .int .u32 b] w fun e w' => e = .returned (.tuple #[.int .u32 (doV 10 a b), .int .i64 0]) ∧ Dr w w' := by
  go_enter Try.func60, Try.ntmps60
  go_wp2_with fail
  go_ret2
  exact ⟨by simp [doV], Dr.refl _⟩
theorem Do_muls (op a b : Int) (ha : U a) (hb : U b) (h : ¬ (1 ≤ op ∧ op ≤ 10)) (w : World) : Calls Try.prog 60 #[.int .i64 op, .int .u32 a, .int .u32 b] w fun e w' => e = .returned (.tuple #[.int .u32 (mulV op a b), .int .i64 (mulE op)]) ∧ Dr w w' := by
  have n1 : (op == 1) = false := beq_eq_false_iff_ne.2 (by omega)
  have n2 : (op == 2) = false := beq_eq_false_iff_ne.2 (by omega)
  have n3 : (op == 3) = false := beq_eq_false_iff_ne.2 (by omega)
  have n4 : (op == 4) = false := beq_eq_false_iff_ne.2 (by omega)
  have n5 : (op == 5) = false := beq_eq_false_iff_ne.2 (by omega)
  have n6 : (op == 6) = false := beq_eq_false_iff_ne.2 (by omega)
  have n7 : (op == 7) = false := beq_eq_false_iff_ne.2 (by omega)
  have n8 : (op == 8) = false := beq_eq_false_iff_ne.2 (by omega)
  have n9 : (op == 9) = false := beq_eq_false_iff_ne.2 (by omega)
  have n10 : (op == 10) = false := beq_eq_false_iff_ne.2 (by omega)
  go_enter Try.func60, Try.ntmps60
  go_wp2_with (go_at_call 79; refine (muls_calls _ _ _ ha hb _).mono ?_; rintro e w' ⟨rfl, ⟨nd, rfl⟩⟩)
  go_ret2
  exact ⟨rfl, ⟨_, rfl⟩⟩
theorem mul_do {op : Int} (a b : Int) (h : ¬ (1 ≤ op ∧ op ≤ 10)) : mulV op a b = doV op a b ∧ mulE op = doE op := by
  by_cases g : 11 ≤ op ∧ op ≤ 17
  · refine ⟨by simp [mulV, g], ?_⟩
    rw [mulE, doE, if_pos g, if_pos (by omega)]
  · refine ⟨?_, ?_⟩
    · rw [mulV, if_neg g]
      have n1 : op ≠ 1 := by omega
      have n2 : op ≠ 2 := by omega
      have n3 : op ≠ 3 := by omega
      have n4 : op ≠ 4 := by omega
      have n5 : op ≠ 5 := by omega
      have n6 : op ≠ 6 := by omega
      have n7 : op ≠ 7 := by omega
      have n8 : op ≠ 8 := by omega
      have n9 : op ≠ 9 := by omega
      have n10 : op ≠ 10 := by omega
      have n11 : op ≠ 11 := by omega
      have n12 : op ≠ 12 := by omega
      have n13 : op ≠ 13 := by omega
      have n14 : op ≠ 14 := by omega
      have n15 : op ≠ 15 := by omega
      have n16 : op ≠ 16 := by omega
      have n17 : op ≠ 17 := by omega
      simp only [doV, n1, n2, n3, n4, n5, n6, n7, n8, n9, n10, n11, n12, n13, n14, n15, n16, n17, if_false]
    · rw [mulE, doE, if_neg g, if_neg (by omega)]
/-- word.Do: each operation of words. -/
theorem Do_calls (op a b : Int) (ha : U a) (hb : U b) (w : World) : Calls Try.prog 60 #[.int .i64 op, .int .u32 a, .int .u32 b] w fun e w' => e = .returned (.tuple #[.int .u32 (doV op a b), .int .i64 (doE op)]) ∧ Dr w w' := by
  by_cases h : 1 ≤ op ∧ op ≤ 10
  · have hE : doE op = 0 := by rw [doE, if_pos (by omega)]
    rw [hE]
    have hop : op = 1 ∨ op = 2 ∨ op = 3 ∨ op = 4 ∨ op = 5 ∨ op = 6 ∨ op = 7 ∨ op = 8 ∨ op = 9 ∨ op = 10 := by omega
    rcases hop with rfl | rfl | rfl | rfl | rfl | rfl | rfl | rfl | rfl | rfl
    · exact Do_ADD a b ha hb w
    · exact Do_SUB a b ha hb w
    · exact Do_SLL a b ha hb w
    · exact Do_SLT a b ha hb w
    · exact Do_SLTU a b ha hb w
    · exact Do_XOR a b ha hb w
    · exact Do_SRL a b ha hb w
    · exact Do_SRA a b ha hb w
    · exact Do_OR a b ha hb w
    · exact Do_AND a b ha hb w
  · rw [← (mul_do a b h).1, ← (mul_do a b h).2]
    exact Do_muls op a b ha hb h w
end Go.Proofs.Ytnbooljaodkedaa
namespace Go.Proofs.Ytnbooljaodkedaa
open Go.RowKit Go.Maps Go.Proofs.Ytnbooljaodkedaa.PC Go.Proofs.Ytnbooljaodkedaa.PW
set_option linter.unusedVariables false
set_option linter.unusedSimpArgs false
/-- What is thrown by a step. -/
def thrown (n : Int) : List PanicEntry := [{ v := .iface 113 (.int .i64 n), recovered := false }]
set_option maxHeartbeats 1000000 in
theorem at_ok {w : World} {M B K N : Nat} {s : MS} (hm : Mac w M B K s N) (a n : Int) (ha : U a) (hn : 1 ≤ n ∧ n ≤ 8) (h1 : a % n = 0) (h2 : a + n ≤ s.mem.length) :
    Calls Try.prog 77 #[.pointer (some ⟨M, 0, none⟩), .int .u32 a, .int .i64 n] w fun e w' => e = .returned (.slice (some ⟨B, a.toNat, none⟩) n.toNat (s.mem.length - a.toNat)) ∧ w = w' := by
  obtain ⟨lm, lb, c0, -⟩ := hm.facts
  have ha' : 0 ≤ a ∧ a ≤ 4294967295 := ha
  have hl := hm.ok.lm
  replace hm := Aside.mk hm
  obtain ⟨A, rfl⟩ := Int.eq_ofNat_of_zero_le ha'.1
  obtain ⟨n', rfl⟩ := Int.eq_ofNat_of_zero_le (show 0 ≤ n by omega)
  have h3 : (((A : Int) % (n' : Int)) == 0) = true := by simpa using h1
  have h4 : (((A : Int) % (n' : Int)) != 0) = false := by simpa using h1
  go_enter Try.func77, Try.ntmps77
  go_wp2
  go_ret
  refine ⟨?_, rfl⟩
  show Ending.returned (Value.slice (some ⟨B, A, none⟩) (A + n' - A) (s.mem.length - A)) = _
  rw [Nat.add_sub_cancel_left]
  rfl
set_option maxHeartbeats 1000000 in
theorem at_bad {w : World} {M B K N : Nat} {s : MS} (hm : Mac w M B K s N) (a n : Int) (ha : U a) (hn : 1 ≤ n ∧ n ≤ 8) (h : ¬(a % n = 0 ∧ a + n ≤ s.mem.length)) :
    Calls Try.prog 77 #[.pointer (some ⟨M, 0, none⟩), .int .u32 a, .int .i64 n] w fun e w' => e = .panicked (thrown 3) ∧ w = w' := by
  obtain ⟨lm, lb, c0, -⟩ := hm.facts
  have ha' : 0 ≤ a ∧ a ≤ 4294967295 := ha
  have hl := hm.ok.lm
  replace hm := Aside.mk hm
  by_cases h1 : a % n = 0
  · have h2 : (s.mem.length : Int) < a + n := by omega
    clear h
    go_enter Try.func77, Try.ntmps77
    go_wp2
    exact ⟨rfl, rfl, rfl⟩
  · clear h
    go_enter Try.func77, Try.ntmps77
    go_wp2
    exact ⟨rfl, rfl, rfl⟩
theorem shift8 (k : Nat) : (2 : Int) ^ (8 * k) = 256 ^ k := by rw [Int.pow_mul]; rfl
set_option maxHeartbeats 1000000 in
theorem number_still {w : World} {B : Nat} {mem : List Int} (hb : Blk w B (memC mem) 5) (hm : ∀ b ∈ mem, Byte b) (a n c : Nat) (hn : n ≤ 8) (h : a + n ≤ mem.length) :
    Calls Try.prog 76 #[.slice (some ⟨B, a, none⟩) n c] w fun e w' => e = .returned (.int .u64 (getN mem a n)) ∧ w' = w := by
  have hbl := hb.lt
  replace hb := Aside.mk hb
  replace hm := Aside.mk hm
  go_enter Try.func76, Try.ntmps76
  go_wp2
  go_loopw [3, 8] (fun v i wr => ∃ k : Nat, k ≤ n ∧ i = .int .i64 k ∧ v = .int .u64 (getN mem a k) ∧ wr = w) (fun _ i _ => n - (intOf i).toNat)
  case atStart => exact ⟨0, Nat.zero_le _, rfl, rfl, rfl⟩
  case round =>
    obtain ⟨k, hk, rfl, rfl, rfl⟩ := hrel
    by_cases hlt : k < n
    · have hc : wr.cell? ⟨B, a + k, none⟩ = some (.int .u8 (mem.getD (a + k) 0)) := by
        exact (hb.out.cell _).trans (memC_at mem _ (by omega))
      have hbt := byte_getD hm.out (a + k)
      have hr := getN_range hm.out a k
      have ho := or_u64 k (by omega) hr hbt
      have hs := byte_shl k (by omega) hbt
      have hge : getN mem a (k + 1) = getN mem a k + mem.getD (a + k) 0 * 256 ^ k := rfl
      replace ho := Aside.mk ho
      replace hs := Aside.mk hs
      replace hge := Aside.mk hge
      clear hr
      generalize hB : mem.getD (a + k) 0 = byt at *
      clear hB
      generalize getN mem a k = g at *
      have hby : 0 ≤ byt ∧ byt ≤ 255 := hbt
      clear hbt
      go_wp2
      go_roundw
      case rel => exact ⟨k + 1, by omega, by go_num, by rw [shift8, IntKind.wrap_u64, hs.out, ho.out, hge.out], trivial⟩
      case measure => simp [intOf]; omega
    · obtain rfl : n = k := by omega
      go_wp2
      go_ret
      exact ⟨rfl, rfl⟩
theorem number_calls {w : World} {B : Nat} {mem : List Int} (hb : Blk w B (memC mem) 5) (hm : ∀ b ∈ mem, Byte b) (a n c : Nat) (hn : n ≤ 8) (h : a + n ≤ mem.length) :
    Calls Try.prog 76 #[.slice (some ⟨B, a, none⟩) n c] w fun e w' => e = .returned (.int .u64 (getN mem a n)) ∧ Dr w w' :=
  (number_still hb hm a n c hn h).mono fun _ _ ⟨he, hw⟩ => ⟨he, by rw [hw]; exact Dr.refl _⟩
set_option maxHeartbeats 1000000 in
theorem bput_calls {w : World} {B : Nat} {mem : List Int} (hb : Blk w B (memC mem) 5) (a n c : Nat) (v : Int) (hv : U64 v) (hn : n ≤ 8) (h : a + n ≤ mem.length) :
    Calls Try.prog 80 #[.slice (some ⟨B, a, none⟩) n c, .int .u64 v] w fun e w' => e = .returned (.tuple #[]) ∧ Mod (fun k => k = B) w w' ∧ Blk w' B (memC (putN mem a v n)) 5 := by
  have hv' : 0 ≤ v ∧ v ≤ 18446744073709551615 := hv
  have hbl := hb.lt
  replace hb := Aside.mk hb
  go_enter Try.func80, Try.ntmps80
  go_wp2
  go_loopw [7] (fun i wr => ∃ k : Nat, k ≤ n ∧ i = .int .i64 k ∧ Mod (fun k => k = B) w wr ∧ Blk wr B (memC (putN mem a v k)) 5) (fun i _ => n - (intOf i).toNat)
  case atStart => exact ⟨0, Nat.zero_le _, rfl, Mod.refl _ _, hb.out⟩
  case round =>
    obtain ⟨k, hk, rfl, hd, hbk⟩ := hrel
    have hle : B < wr.heap.size := hbk.lt
    have hlen := putN_length mem a v k
    replace hd := Aside.mk hd
    by_cases hlt : k < n
    · have hc := (hbk.cell (a + k)).trans (memC_at _ (a + k) (by omega))
      have hf := hbk.frozen (a + k)
      replace hlen := Aside.mk hlen
      replace hbk := Aside.mk hbk
      have hdiv : Aside (0 ≤ v / 256 ^ k) := ⟨Int.ediv_nonneg hv'.1 (Int.le_of_lt (pow256 k))⟩
      go_wp2
      go_roundw
      case rel =>
        refine ⟨k + 1, by omega, by go_num, hd.out.setCell rfl _, ?_⟩
        have h1 := hbk.out.set (i := a + k) (Value.int .u8 (v / 256 ^ k % 256))
        rw [memC_set] at h1
        rw [shift8]
        exact h1
      case measure => simp [intOf]; omega
    · obtain rfl : n = k := by omega
      replace hlen := Aside.mk hlen
      replace hbk := Aside.mk hbk
      go_wp2
      go_end0
      exact ⟨rfl, hd.out, hbk.out⟩
end Go.Proofs.Ytnbooljaodkedaa
namespace Go.Proofs.Ytnbooljaodkedaa.Still
open Go.RowKit Go.Proofs.Ytnbooljaodkedaa.PW
set_option linter.unusedVariables false
set_option linter.unusedSimpArgs false

/-- The world is the old one. -/
structure Sm (w w' : World) : Prop where mk :: (out : w' = w)
theorem Sm.refl (w : World) : Sm w w := ⟨rfl⟩
theorem Sm.trans {w w' w'' : World} (h : Sm w w') (g : Sm w' w'') : Sm w w'' := ⟨g.out.trans h.out⟩
/-! ### the program's package word -/
def bitV (b : Bool) : Int := if b then 1 else 0
theorem bit_calls (b : Bool) (w : World) : Calls Try.prog 78 #[.bool b] w fun e w' => e = .returned (.int .u32 (bitV b)) ∧ Sm w w' := by
  cases b
  all_goals
    go_enter Try.func78, Try.ntmps78
    go_wp2
    go_ret
    exact ⟨rfl, Sm.refl _⟩
theorem mul32_calls (a b : Int) (ha : U a) (hb : U b) (w : World) : Calls Try.prog 90 #[.int .u32 a, .int .u32 b] w fun e w' => e = .returned (.tuple #[.int .u32 (a * b / 4294967296), .int .u32 (a * b % 4294967296)]) ∧ Sm w w' := by
  have h := mul_U ha hb
  unfold U at ha hb
  obtain ⟨a0, a1⟩ := ha
  obtain ⟨b0, b1⟩ := hb
  go_enter Try.func90, Try.ntmps90
  go_wp2
  go_ret2
  exact ⟨rfl, Sm.refl _⟩
theorem sgned_calls (a : Int) (ha : U a) (w : World) : Calls Try.prog 53 #[.int .u32 a] w fun e w' => e = .returned (.int .i64 (sgn a)) ∧ Sm w w' := by
  have h := sgn_range ha
  have h2 := wrap32_sgn ha
  go_enter Try.func53, Try.ntmps53
  go_wp2
  go_ret
  exact ⟨rfl, Sm.refl _⟩
theorem wof_calls (n : Int) (w : World) : Calls Try.prog 59 #[.int .i64 n] w fun e w' => e = .returned (.int .u32 (n % 4294967296)) ∧ Sm w w' := by
  go_enter Try.func59, Try.ntmps59
  go_wp2
  go_ret
  exact ⟨rfl, Sm.refl _⟩

def mulV (op a b : Int) : Int := if 11 ≤ op ∧ op ≤ 17 then doV op a b else 0
def mulE (op : Int) : Int := if 11 ≤ op ∧ op ≤ 17 then 0 else 1
theorem divU_mod {a b : Int} (ha : U a) (hb : U b) : a / b % 4294967296 = a / b := by
  have h1 : 0 ≤ a / b := Int.ediv_nonneg ha.1 hb.1
  have h2 : a / b ≤ a := Int.ediv_le_self _ ha.1
  unfold U at ha
  omega
theorem muls_MUL (a b : Int) (ha : U a) (hb : U b) (w : World) : Calls Try.prog 79 #[.int .i64 11, .int .u32 a, .int .u32 b] w fun e w' => e = .returned (.tuple #[.int .u32 (mulV 11 a b), .int .i64 0]) ∧ Sm w w' := by
  have sa := sgn_range ha
  have sb := sgn_range hb
  have ea := wrap32_sgn ha
  have eb := wrap32_sgn hb
  have ms := mul_S sa sb
  go_enter Try.func79, Try.ntmps79
  go_wp2_with (go_at_call 90; refine (mul32_calls _ _ ha hb _).mono ?_; rintro e w' ⟨rfl, ⟨rfl⟩⟩)
  go_ret2
  exact ⟨by simp [mulV, doV], ⟨rfl⟩⟩
theorem muls_MULH (a b : Int) (ha : U a) (hb : U b) (w : World) : Calls Try.prog 79 #[.int .i64 12, .int .u32 a, .int .u32 b] w fun e w' => e = .returned (.tuple #[.int .u32 (mulV 12 a b), .int .i64 0]) ∧ Sm w w' := by
  have sa := sgn_range ha
  have sb := sgn_range hb
  have ea := wrap32_sgn ha
  have eb := wrap32_sgn hb
  have ms := mul_S sa sb
  go_enter Try.func79, Try.ntmps79
  go_wp2_with (go_at_call 90; refine (mul32_calls _ _ ha hb _).mono ?_; rintro e w' ⟨rfl, ⟨rfl⟩⟩)
  go_ret2
  exact ⟨by simp [mulV, doV], ⟨rfl⟩⟩
theorem muls_MULHU (a b : Int) (ha : U a) (hb : U b) (w : World) : Calls Try.prog 79 #[.int .i64 13, .int .u32 a, .int .u32 b] w fun e w' => e = .returned (.tuple #[.int .u32 (mulV 13 a b), .int .i64 0]) ∧ Sm w w' := by
  have sa := sgn_range ha
  have sb := sgn_range hb
  have ea := wrap32_sgn ha
  have eb := wrap32_sgn hb
  have ms := mul_S sa sb
  go_enter Try.func79, Try.ntmps79
  go_wp2_with (go_at_call 90; refine (mul32_calls _ _ ha hb _).mono ?_; rintro e w' ⟨rfl, ⟨rfl⟩⟩)
  go_ret2
  exact ⟨by simp [mulV, doV], ⟨rfl⟩⟩
theorem muls_DIV0 (a b : Int) (ha : U a) (hb : U b) (hz : b = 0) (w : World) : Calls Try.prog 79 #[.int .i64 14, .int .u32 a, .int .u32 b] w fun e w' => e = .returned (.tuple #[.int .u32 (mulV 14 a b), .int .i64 0]) ∧ Sm w w' := by
  subst hz
  go_enter Try.func79, Try.ntmps79
  go_wp2_with (go_at_call 90; refine (mul32_calls _ _ ha hb _).mono ?_; rintro e w' ⟨rfl, ⟨rfl⟩⟩)
  go_ret2
  exact ⟨by simp [mulV, doV], ⟨rfl⟩⟩
theorem muls_DIVU0 (a b : Int) (ha : U a) (hb : U b) (hz : b = 0) (w : World) : Calls Try.prog 79 #[.int .i64 15, .int .u32 a, .int .u32 b] w fun e w' => e = .returned (.tuple #[.int .u32 (mulV 15 a b), .int .i64 0]) ∧ Sm w w' := by
  subst hz
  go_enter Try.func79, Try.ntmps79
  go_wp2_with (go_at_call 90; refine (mul32_calls _ _ ha hb _).mono ?_; rintro e w' ⟨rfl, ⟨rfl⟩⟩)
  go_ret2
  exact ⟨by simp [mulV, doV], ⟨rfl⟩⟩
theorem muls_REM0 (a b : Int) (ha : U a) (hb : U b) (hz : b = 0) (w : World) : Calls Try.prog 79 #[.int .i64 16, .int .u32 a, .int .u32 b] w fun e w' => e = .returned (.tuple #[.int .u32 (mulV 16 a b), .int .i64 0]) ∧ Sm w w' := by
  subst hz
  go_enter Try.func79, Try.ntmps79
  go_wp2_with (go_at_call 90; refine (mul32_calls _ _ ha hb _).mono ?_; rintro e w' ⟨rfl, ⟨rfl⟩⟩)
  go_ret2
  exact ⟨by simp [mulV, doV], ⟨rfl⟩⟩
theorem muls_REMU0 (a b : Int) (ha : U a) (hb : U b) (hz : b = 0) (w : World) : Calls Try.prog 79 #[.int .i64 17, .int .u32 a, .int .u32 b] w fun e w' => e = .returned (.tuple #[.int .u32 (mulV 17 a b), .int .i64 0]) ∧ Sm w w' := by
  subst hz
  go_enter Try.func79, Try.ntmps79
  go_wp2_with (go_at_call 90; refine (mul32_calls _ _ ha hb _).mono ?_; rintro e w' ⟨rfl, ⟨rfl⟩⟩)
  go_ret2
  exact ⟨by simp [mulV, doV], ⟨rfl⟩⟩
theorem muls_DIV (a b : Int) (ha : U a) (hb : U b) (hz : b ≠ 0) (w : World) : Calls Try.prog 79 #[.int .i64 14, .int .u32 a, .int .u32 b] w fun e w' => e = .returned (.tuple #[.int .u32 (mulV 14 a b), .int .i64 0]) ∧ Sm w w' := by
  have sa := sgn_range ha
  have sb := sgn_range hb
  have ea := wrap32_sgn ha
  have eb := wrap32_sgn hb
  have ms := mul_S sa sb
  have z1 : sgn b ≠ 0 := fun h => hz ((sgn_zero hb).1 h)
  have z2 : (b == 0) = false := beq_eq_false_iff_ne.2 hz
  have z3 : (sgn b == 0) = false := beq_eq_false_iff_ne.2 z1
  go_enter Try.func79, Try.ntmps79
  go_wp2_with (go_at_call 90; refine (mul32_calls _ _ ha hb _).mono ?_; rintro e w' ⟨rfl, ⟨rfl⟩⟩)
  go_ret2
  exact ⟨by simp [mulV, doV, hz, wrap32_mod], ⟨rfl⟩⟩
theorem muls_DIVU (a b : Int) (ha : U a) (hb : U b) (hz : b ≠ 0) (w : World) : Calls Try.prog 79 #[.int .i64 15, .int .u32 a, .int .u32 b] w fun e w' => e = .returned (.tuple #[.int .u32 (mulV 15 a b), .int .i64 0]) ∧ Sm w w' := by
  have sa := sgn_range ha
  have sb := sgn_range hb
  have ea := wrap32_sgn ha
  have eb := wrap32_sgn hb
  have ms := mul_S sa sb
  have z1 : sgn b ≠ 0 := fun h => hz ((sgn_zero hb).1 h)
  have z2 : (b == 0) = false := beq_eq_false_iff_ne.2 hz
  have z3 : (sgn b == 0) = false := beq_eq_false_iff_ne.2 z1
  go_enter Try.func79, Try.ntmps79
  go_wp2_with (go_at_call 90; refine (mul32_calls _ _ ha hb _).mono ?_; rintro e w' ⟨rfl, ⟨rfl⟩⟩)
  go_ret2
  exact ⟨by simp [mulV, doV, hz, divU_mod ha hb, tdiv_pos ha.1], ⟨rfl⟩⟩
theorem muls_REM (a b : Int) (ha : U a) (hb : U b) (hz : b ≠ 0) (w : World) : Calls Try.prog 79 #[.int .i64 16, .int .u32 a, .int .u32 b] w fun e w' => e = .returned (.tuple #[.int .u32 (mulV 16 a b), .int .i64 0]) ∧ Sm w w' := by
  have sa := sgn_range ha
  have sb := sgn_range hb
  have ea := wrap32_sgn ha
  have eb := wrap32_sgn hb
  have ms := mul_S sa sb
  have z1 : sgn b ≠ 0 := fun h => hz ((sgn_zero hb).1 h)
  have z2 : (b == 0) = false := beq_eq_false_iff_ne.2 hz
  have z3 : (sgn b == 0) = false := beq_eq_false_iff_ne.2 z1
  go_enter Try.func79, Try.ntmps79
  go_wp2_with (go_at_call 90; refine (mul32_calls _ _ ha hb _).mono ?_; rintro e w' ⟨rfl, ⟨rfl⟩⟩)
  go_ret2
  exact ⟨by simp [mulV, doV, hz], ⟨rfl⟩⟩
theorem muls_REMU (a b : Int) (ha : U a) (hb : U b) (hz : b ≠ 0) (w : World) : Calls Try.prog 79 #[.int .i64 17, .int .u32 a, .int .u32 b] w fun e w' => e = .returned (.tuple #[.int .u32 (mulV 17 a b), .int .i64 0]) ∧ Sm w w' := by
  have sa := sgn_range ha
  have sb := sgn_range hb
  have ea := wrap32_sgn ha
  have eb := wrap32_sgn hb
  have ms := mul_S sa sb
  have z1 : sgn b ≠ 0 := fun h => hz ((sgn_zero hb).1 h)
  have z2 : (b == 0) = false := beq_eq_false_iff_ne.2 hz
  have z3 : (sgn b == 0) = false := beq_eq_false_iff_ne.2 z1
  go_enter Try.func79, Try.ntmps79
  go_wp2_with (go_at_call 90; refine (mul32_calls _ _ ha hb _).mono ?_; rintro e w' ⟨rfl, ⟨rfl⟩⟩)
  go_ret2
  exact ⟨by simp [mulV, doV, hz, tmod_pos ha.1], ⟨rfl⟩⟩
theorem muls_out0 (op : Int) (a b : Int) (ha : U a) (hb : U b) (hop : ¬ (11 ≤ op ∧ op ≤ 17)) (hz : b = 0) (w : World) : Calls Try.prog 79 #[.int .i64 op, .int .u32 a, .int .u32 b] w fun e w' => e = .returned (.tuple #[.int .u32 (mulV op a b), .int .i64 1]) ∧ Sm w w' := by
  have n11 : (op == 11) = false := beq_eq_false_iff_ne.2 (by omega)
  have n12 : (op == 12) = false := beq_eq_false_iff_ne.2 (by omega)
  have n13 : (op == 13) = false := beq_eq_false_iff_ne.2 (by omega)
  have n14 : (op == 14) = false := beq_eq_false_iff_ne.2 (by omega)
  have n15 : (op == 15) = false := beq_eq_false_iff_ne.2 (by omega)
  have n16 : (op == 16) = false := beq_eq_false_iff_ne.2 (by omega)
  have n17 : (op == 17) = false := beq_eq_false_iff_ne.2 (by omega)
  subst hz
  go_enter Try.func79, Try.ntmps79
  go_wp2_with (go_at_call 90; refine (mul32_calls _ _ ha hb _).mono ?_; rintro e w' ⟨rfl, ⟨rfl⟩⟩)
  go_ret2
  exact ⟨by simp [mulV, hop], ⟨rfl⟩⟩
theorem muls_out (op : Int) (a b : Int) (ha : U a) (hb : U b) (hop : ¬ (11 ≤ op ∧ op ≤ 17)) (hz : b ≠ 0) (w : World) : Calls Try.prog 79 #[.int .i64 op, .int .u32 a, .int .u32 b] w fun e w' => e = .returned (.tuple #[.int .u32 (mulV op a b), .int .i64 1]) ∧ Sm w w' := by
  have n11 : (op == 11) = false := beq_eq_false_iff_ne.2 (by omega)
  have n12 : (op == 12) = false := beq_eq_false_iff_ne.2 (by omega)
  have n13 : (op == 13) = false := beq_eq_false_iff_ne.2 (by omega)
  have n14 : (op == 14) = false := beq_eq_false_iff_ne.2 (by omega)
  have n15 : (op == 15) = false := beq_eq_false_iff_ne.2 (by omega)
  have n16 : (op == 16) = false := beq_eq_false_iff_ne.2 (by omega)
  have n17 : (op == 17) = false := beq_eq_false_iff_ne.2 (by omega)
  have z2 : (b == 0) = false := beq_eq_false_iff_ne.2 hz
  go_enter Try.func79, Try.ntmps79
  go_wp2_with (go_at_call 90; refine (mul32_calls _ _ ha hb _).mono ?_; rintro e w' ⟨rfl, ⟨rfl⟩⟩)
  go_ret2
  exact ⟨by simp [mulV, hop], ⟨rfl⟩⟩
theorem muls_calls (op a b : Int) (ha : U a) (hb : U b) (w : World) : Calls Try.prog 79 #[.int .i64 op, .int .u32 a, .int .u32 b] w fun e w' => e = .returned (.tuple #[.int .u32 (mulV op a b), .int .i64 (mulE op)]) ∧ Sm w w' := by
  by_cases h : 11 ≤ op ∧ op ≤ 17
  · have hE : mulE op = 0 := by simp [mulE, h]
    rw [hE]
    have hop : op = 11 ∨ op = 12 ∨ op = 13 ∨ op = 14 ∨ op = 15 ∨ op = 16 ∨ op = 17 := by omega
    by_cases hz : b = 0
    · rcases hop with rfl | rfl | rfl | rfl | rfl | rfl | rfl
      · exact muls_MUL a b ha hb w
      · exact muls_MULH a b ha hb w
      · exact muls_MULHU a b ha hb w
      · exact muls_DIV0 a b ha hb hz w
      · exact muls_DIVU0 a b ha hb hz w
      · exact muls_REM0 a b ha hb hz w
      · exact muls_REMU0 a b ha hb hz w
    · rcases hop with rfl | rfl | rfl | rfl | rfl | rfl | rfl
      · exact muls_MUL a b ha hb w
      · exact muls_MULH a b ha hb w
      · exact muls_MULHU a b ha hb w
      · exact muls_DIV a b ha hb hz w
      · exact muls_DIVU a b ha hb hz w
      · exact muls_REM a b ha hb hz w
      · exact muls_REMU a b ha hb hz w
  · have hE : mulE op = 1 := by simp [mulE, h]
    rw [hE]
    by_cases hz : b = 0
    · exact muls_out0 op a b ha hb h hz w
    · exact muls_out op a b ha hb h hz w
theorem Do_ADD (a b : Int) (ha : U a) (hb : U b) (w : World) : Calls Try.prog 60 #[.int .i64 1, .int .u32 a, .int .u32 b] w fun e w' => e = .returned (.tuple #[.int .u32 (doV 1 a b), .int .i64 0]) ∧ Sm w w' := by
  go_enter Try.func60, Try.ntmps60
  go_wp2_with fail
  go_ret2
  exact ⟨by simp [doV], Sm.refl _⟩
theorem Do_SUB (a b : Int) (ha : U a) (hb : U b) (w : World) : Calls Try.prog 60 #[.int .i64 2, .int .u32 a, .int .u32 b] w fun e w' => e = .returned (.tuple #[.int .u32 (doV 2 a b), .int .i64 0]) ∧ Sm w w' := by
  go_enter Try.func60, Try.ntmps60
  go_wp2_with fail
  go_ret2
  exact ⟨by simp [doV], Sm.refl _⟩
theorem Do_SLL (a b : Int) (ha : U a) (hb : U b) (w : World) : Calls Try.prog 60 #[.int .i64 3, .int .u32 a, .int .u32 b] w fun e w' => e = .returned (.tuple #[.int .u32 (doV 3 a b), .int .i64 0]) ∧ Sm w w' := by
  have c0 : 0 ≤ b % 32 := by omega
  have c1 : b % 32 ≤ 32 := by omega
  have c2 := and31 hb
  go_enter Try.func60, Try.ntmps60
  go_wp2_with fail
  go_ret2
  exact ⟨by simp [doV], Sm.refl _⟩
theorem Do_SLT (a b : Int) (ha : U a) (hb : U b) (w : World) : Calls Try.prog 60 #[.int .i64 4, .int .u32 a, .int .u32 b] w fun e w' => e = .returned (.tuple #[.int .u32 (doV 4 a b), .int .i64 0]) ∧ Sm w w' := by
  have sa := sgn_range ha
  have sb := sgn_range hb
  have ea := wrap32_sgn ha
  have eb := wrap32_sgn hb
  go_enter Try.func60, Try.ntmps60
  go_wp2_with (go_at_call 78; refine (bit_calls _ _).mono ?_; rintro e w' ⟨rfl, ⟨rfl⟩⟩)
  go_ret2
  exact ⟨by simp [doV, bitV], ⟨rfl⟩⟩
theorem Do_SLTU (a b : Int) (ha : U a) (hb : U b) (w : World) : Calls Try.prog 60 #[.int .i64 5, .int .u32 a, .int .u32 b] w fun e w' => e = .returned (.tuple #[.int .u32 (doV 5 a b), .int .i64 0]) ∧ Sm w w' := by
  go_enter Try.func60, Try.ntmps60
  go_wp2_with (go_at_call 78; refine (bit_calls _ _).mono ?_; rintro e w' ⟨rfl, ⟨rfl⟩⟩)
  go_ret2
  exact ⟨by simp [doV, bitV], ⟨rfl⟩⟩
theorem Do_XOR (a b : Int) (ha : U a) (hb : U b) (w : World) : Calls Try.prog 60 #[.int .i64 6, .int .u32 a, .int .u32 b] w fun e w' => e = .returned (.tuple #[.int .u32 (doV 6 a b), .int .i64 0]) ∧ Sm w w' := by
  go_enter Try.func60, Try.ntmps60
  go_wp2_with fail
  go_ret2
  exact ⟨by simp [doV], Sm.refl _⟩
theorem Do_SRL (a b : Int) (ha : U a) (hb : U b) (w : World) : Calls Try.prog 60 #[.int .i64 7, .int .u32 a, .int .u32 b] w fun e w' => e = .returned (.tuple #[.int .u32 (doV 7 a b), .int .i64 0]) ∧ Sm w w' := by
  have c0 : 0 ≤ b % 32 := by omega
  have c1 : b % 32 ≤ 32 := by omega
  have c2 := and31 hb
  go_enter Try.func60, Try.ntmps60
  go_wp2_with fail
  go_ret2
  exact ⟨by simp [doV], Sm.refl _⟩
theorem Do_SRA (a b : Int) (ha : U a) (hb : U b) (w : World) : Calls Try.prog 60 #[.int .i64 8, .int .u32 a, .int .u32 b] w fun e w' => e = .returned (.tuple #[.int .u32 (doV 8 a b), .int .i64 0]) ∧ Sm w w' := by
  have c0 : 0 ≤ b % 32 := by omega
  have c1 : b % 32 ≤ 32 := by omega
  have c2 := and31 hb
  have sa := sgn_range ha
  have sb := sgn_range hb
  have ea := wrap32_sgn ha
  have eb := wrap32_sgn hb
  go_enter Try.func60, Try.ntmps60
  go_wp2_with fail
  go_ret2
  exact ⟨by simp [doV], Sm.refl _⟩
theorem Do_OR (a b : Int) (ha : U a) (hb : U b) (w : World) : Calls Try.prog 60 #[.int .i64 9, .int .u32 a, .int .u32 b] w fun e w' => e = .returned (.tuple #[.int .u32 (doV 9 a b), .int .i64 0]) ∧ Sm w w' := by
  go_enter Try.func60, Try.ntmps60
  go_wp2_with fail
  go_ret2
  exact ⟨by simp [doV], Sm.refl _⟩
theorem Do_AND (a b : Int) (ha : U a) (hb : U b) (w : World) : Calls Try.prog 60 #[.int .i64 10, .int .u32 a, .int .u32 b] w fun e w' => e = .returned (.tuple #[.int .u32 (doV 10 a b), .int .i64 0]) ∧ Sm w w' := by
  go_enter Try.func60, Try.ntmps60
  go_wp2_with fail
  go_ret2
  exact ⟨by simp [doV], Sm.refl _⟩
theorem Do_muls (op a b : Int) (ha : U a) (hb : U b) (h : ¬ (1 ≤ op ∧ op ≤ 10)) (w : World) : Calls Try.prog 60 #[.int .i64 op, .int .u32 a, .int .u32 b] w fun e w' => e = .returned (.tuple #[.int .u32 (mulV op a b), .int .i64 (mulE op)]) ∧ Sm w w' := by
  have n1 : (op == 1) = false := beq_eq_false_iff_ne.2 (by omega)
  have n2 : (op == 2) = false := beq_eq_false_iff_ne.2 (by omega)
  have n3 : (op == 3) = false := beq_eq_false_iff_ne.2 (by omega)
  have n4 : (op == 4) = false := beq_eq_false_iff_ne.2 (by omega)
  have n5 : (op == 5) = false := beq_eq_false_iff_ne.2 (by omega)
  have n6 : (op == 6) = false := beq_eq_false_iff_ne.2 (by omega)
  have n7 : (op == 7) = false := beq_eq_false_iff_ne.2 (by omega)
  have n8 : (op == 8) = false := beq_eq_false_iff_ne.2 (by omega)
  have n9 : (op == 9) = false := beq_eq_false_iff_ne.2 (by omega)
  have n10 : (op == 10) = false := beq_eq_false_iff_ne.2 (by omega)
  go_enter Try.func60, Try.ntmps60
  go_wp2_with (go_at_call 79; refine (muls_calls _ _ _ ha hb _).mono ?_; rintro e w' ⟨rfl, ⟨rfl⟩⟩)
  go_ret2
  exact ⟨rfl, ⟨rfl⟩⟩
theorem mul_do {op : Int} (a b : Int) (h : ¬ (1 ≤ op ∧ op ≤ 10)) : mulV op a b = doV op a b ∧ mulE op = doE op := by
  by_cases g : 11 ≤ op ∧ op ≤ 17
  · refine ⟨by simp [mulV, g], ?_⟩
    rw [mulE, doE, if_pos g, if_pos (by omega)]
  · refine ⟨?_, ?_⟩
    · rw [mulV, if_neg g]
      have n1 : op ≠ 1 := by omega
      have n2 : op ≠ 2 := by omega
      have n3 : op ≠ 3 := by omega
      have n4 : op ≠ 4 := by omega
      have n5 : op ≠ 5 := by omega
      have n6 : op ≠ 6 := by omega
      have n7 : op ≠ 7 := by omega
      have n8 : op ≠ 8 := by omega
      have n9 : op ≠ 9 := by omega
      have n10 : op ≠ 10 := by omega
      have n11 : op ≠ 11 := by omega
      have n12 : op ≠ 12 := by omega
      have n13 : op ≠ 13 := by omega
      have n14 : op ≠ 14 := by omega
      have n15 : op ≠ 15 := by omega
      have n16 : op ≠ 16 := by omega
      have n17 : op ≠ 17 := by omega
      simp only [doV, n1, n2, n3, n4, n5, n6, n7, n8, n9, n10, n11, n12, n13, n14, n15, n16, n17, if_false]
    · rw [mulE, doE, if_neg g, if_neg (by omega)]
/-- word.Do: each operation of words. -/
theorem Do_calls (op a b : Int) (ha : U a) (hb : U b) (w : World) : Calls Try.prog 60 #[.int .i64 op, .int .u32 a, .int .u32 b] w fun e w' => e = .returned (.tuple #[.int .u32 (doV op a b), .int .i64 (doE op)]) ∧ Sm w w' := by
  by_cases h : 1 ≤ op ∧ op ≤ 10
  · have hE : doE op = 0 := by rw [doE, if_pos (by omega)]
    rw [hE]
    have hop : op = 1 ∨ op = 2 ∨ op = 3 ∨ op = 4 ∨ op = 5 ∨ op = 6 ∨ op = 7 ∨ op = 8 ∨ op = 9 ∨ op = 10 := by omega
    rcases hop with rfl | rfl | rfl | rfl | rfl | rfl | rfl | rfl | rfl | rfl
    · exact Do_ADD a b ha hb w
    · exact Do_SUB a b ha hb w
    · exact Do_SLL a b ha hb w
    · exact Do_SLT a b ha hb w
    · exact Do_SLTU a b ha hb w
    · exact Do_XOR a b ha hb w
    · exact Do_SRL a b ha hb w
    · exact Do_SRA a b ha hb w
    · exact Do_OR a b ha hb w
    · exact Do_AND a b ha hb w
  · rw [← (mul_do a b h).1, ← (mul_do a b h).2]
    exact Do_muls op a b ha hb h w
theorem ext8_val {a : Int} (ha : U a) : wrap32 (a * 16777216 % 4294967296) / 16777216 % 4294967296 = (if a % 256 ≥ 128 then a % 256 - 256 else a % 256) % 4294967296 := by
  unfold U at ha
  unfold wrap32
  split <;> omega
/-- A word of its lowest byte, extended. -/
def ext8 (a : Int) : Int := (if a % 256 ≥ 128 then a % 256 - 256 else a % 256) % 4294967296
theorem ext8_calls (a : Int) (ha : U a) (w : World) : Calls Try.prog 75 #[.int .u32 a, .int .i64 8] w fun e w' => e = .returned (.tuple #[.int .u32 (ext8 a), .int .i64 0]) ∧ w' = w := by
  have hv := Aside.mk (ext8_val ha)
  go_enter Try.func75, Try.ntmps75
  go_wp2
  go_ret2
  exact ⟨by rw [ext8, ← hv.out]; rfl, rfl⟩
end Go.Proofs.Ytnbooljaodkedaa.Still
namespace Go.Proofs.Ytnbooljaodkedaa
open Go.Proofs.Ytnbooljaodkedaa.PW
/-- The operations of words leave the world alone. -/
theorem Do_still (op a b : Int) (ha : U a) (hb : U b) (w : World) : Calls Try.prog 60 #[.int .i64 op, .int .u32 a, .int .u32 b] w fun e w' => e = .returned (.tuple #[.int .u32 (doV op a b), .int .i64 (doE op)]) ∧ w' = w :=
  (Still.Do_calls op a b ha hb w).mono fun _ _ ⟨he, hd⟩ => ⟨he, hd.out⟩
theorem sgned_still (a : Int) (ha : U a) (w : World) : Calls Try.prog 53 #[.int .u32 a] w fun e w' => e = .returned (.int .i64 (sgn a)) ∧ w' = w :=
  (Still.sgned_calls a ha w).mono fun _ _ ⟨he, hd⟩ => ⟨he, hd.out⟩
theorem wof_still (n : Int) (w : World) : Calls Try.prog 59 #[.int .i64 n] w fun e w' => e = .returned (.int .u32 (n % 4294967296)) ∧ w' = w :=
  (Still.wof_calls n w).mono fun _ _ ⟨he, hd⟩ => ⟨he, hd.out⟩
end Go.Proofs.Ytnbooljaodkedaa
namespace Go.Proofs.Ytnbooljaodkedaa
open Go.RowKit Go.Maps Go.Proofs.Ytnbooljaodkedaa.PC Go.Proofs.Ytnbooljaodkedaa.PW
set_option linter.unusedVariables false
set_option linter.unusedSimpArgs false
theorem lawK32 : Keyed Try.prog 44 := int_keyed Try.underlying44
theorem keyI32 {x : Int} (h : U x) : keyOf Try.prog 44 (.int .u32 x) = some (.int .u32 x) := keyOf_int_mk Try.underlying44 (WalkArith.wf_u32 h)
theorem getN4_U {mem : List Int} (hm : ∀ b ∈ mem, Byte b) (a : Nat) : U (getN mem a 4) ∧ 0 ≤ getN mem a 4 ∧ getN mem a 4 ≤ 4294967295 := by
  have hg := getN_range hm a 4
  have e : (256 : Int) ^ 4 = 4294967296 := by decide
  rw [e] at hg
  unfold U
  omega
theorem zero_ins (w : World) : (zeroValue 40).run Try.prog w = .ok (insV 0 0 0 0 0) w := by kernel_rfl
set_option maxRecDepth 100000 in
theorem look_known {w : World} {K N : Nat} {D : DataW Value} (h : w.ownsMap Try.prog 44 RI K N D) {x : Int} (hx : U x) {op rd rs1 rs2 n : Int} (h1 : Maps.has D (.int .u32 x) = true) (h2 : ∀ z, D.atKey (.int .u32 x) z = .held (insV op rd rs1 rs2 n)) :
    (Instr.lookup 82 (.map (some K)) (.int .u32 x) true).run Try.prog w = .ok (.tuple #[insV op rd rs1 rs2 n, .bool true]) w := by
  obtain ⟨v, ps, hrun, hv⟩ := h.look_ok lawK32 Try.underlying82 (zero_ins w) rfl (keyI32 hx)
  rw [h1, h2] at *
  injection hv with hv
  injection hv with hv _
  injection hv with hv
  rw [hrun, hv]
set_option maxRecDepth 100000 in
theorem look_new {w : World} {K N : Nat} {D : DataW Value} (h : w.ownsMap Try.prog 44 RI K N D) {x : Int} (hx : U x) (h1 : Maps.has D (.int .u32 x) = false) (h2 : ∀ z, D.atKey (.int .u32 x) z = z) :
    (Instr.lookup 82 (.map (some K)) (.int .u32 x) true).run Try.prog w = .ok (.tuple #[insV 0 0 0 0 0, .bool false]) w := by
  obtain ⟨v, ps, hrun, hv⟩ := h.look_ok lawK32 Try.underlying82 (zero_ins w) rfl (keyI32 hx)
  rw [h1, h2] at *
  injection hv with hv
  injection hv with hv _
  injection hv with hv
  rw [hrun, hv]
theorem own_mod {w w' : World} {k : TypeId} {b n : Nat} {D : DataW Value} {S : Nat → Prop} (h : w.ownsMap Try.prog k RI b n D) (g : Mod S w w') (hn : ¬S b) : w'.ownsMap Try.prog k RI b n D := by
  obtain ⟨es, cl, hb, hr⟩ := h
  exact ⟨es, cl, (g.block b (Array.getElem?_eq_some_iff.1 hb).1 hn).trans hb, hr⟩
theorem own_kp {w w' : World} {k : TypeId} {b n : Nat} {D : DataW Value} (h : w.ownsMap Try.prog k RI b n D) (g : Kp w w') : w'.ownsMap Try.prog k RI b n D := by
  obtain ⟨es, cl, hb, hr⟩ := h
  exact ⟨es, cl, (g.block (Array.getElem?_eq_some_iff.1 hb).1).trans hb, hr⟩
set_option maxRecDepth 100000 in
set_option maxHeartbeats 2000000 in
theorem fetch_known {w : World} {M B K N : Nat} {s : MS} (hm : Mac w M B K s N) (h1 : s.pc % 4 = 0) (h2 : s.pc + 4 ≤ s.mem.length) {op rd rs1 rs2 n : Int} {D : DataW Value} (hD : w.ownsMap Try.prog 44 RI K N D)
    (k1 : Maps.has D (.int .u32 (getN s.mem s.pc.toNat 4)) = true) (k2 : ∀ z, D.atKey (.int .u32 (getN s.mem s.pc.toNat 4)) z = .held (insV op rd rs1 rs2 n)) :
    Calls Try.prog 58 #[.pointer (some ⟨M, 0, none⟩)] w fun e w' => e = .returned (insV op rd rs1 rs2 n) ∧ Kp w w' := by
  have hu := Aside.mk hm.ok.up
  have hu' := hm.ok.up
  have hby := Aside.mk hm.ok.ub
  have h3 : Aside (s.pc.toNat + 4 ≤ s.mem.length) := ⟨by unfold U at hu'; omega⟩
  replace h1 := Aside.mk h1
  replace h2 := Aside.mk h2
  have ha := Aside.mk (hm.kp ((Kp.refl w).alloc (.cells #[.int .i64 0, .int .i64 0, .int .i64 0, .int .i64 0, .int .i64 0] 40)))
  have hb := Aside.mk ha.out.b
  obtain ⟨lm, lb, c0, c65, -, -, c68⟩ := ha.out.facts
  obtain ⟨hx, hxr⟩ := getN4_U hby.out s.pc.toNat
  have hD1 := Aside.mk (own_kp hD ((Kp.refl w).alloc (.cells #[.int .i64 0, .int .i64 0, .int .i64 0, .int .i64 0, .int .i64 0] 40)))
  replace k2 := Aside.mk k2
  replace k1 := Aside.mk k1
  replace hD := Aside.mk hD
  replace hm := Aside.mk hm
  go_enter Try.func58, Try.ntmps58
  go_wp2_with fail
  refine Calls.mono (at_ok ha.out _ _ hu.out (by decide) h1.out h2.out) ?_
  rintro e w1 ⟨rfl, rfl⟩
  go_wp2_with fail
  refine Calls.mono (number_calls hb.out hby.out _ 4 _ (by decide) h3.out) ?_
  rintro e w2 ⟨rfl, hd2⟩
  have ha2 := Aside.mk (ha.out.kp (Dr.kp hd2))
  have hD2 := own_kp hD1.out (Dr.kp hd2)
  have hk2 : Aside (Kp w w2) := ⟨((Kp.refl w).alloc _).trans (Dr.kp hd2)⟩
  have hr2 := Aside.mk ((Blk.new w #[.int .i64 0, .int .i64 0, .int .i64 0, .int .i64 0, .int .i64 0] 40).kp (Dr.kp hd2))
  clear ha hb lm lb c0 c65 c68 hd2 hD1
  obtain ⟨lm, lb, c0, c65, -, -, c68⟩ := ha2.out.facts
  have hlk := look_known hD2 hx k1.out k2.out
  simp only [insV] at hlk
  replace hD2 := Aside.mk hD2
  obtain ⟨rl, r0, r1, r2, r3, r4, s0, s1, s2, s3, s4⟩ := hr2.out.five
  go_wp2_with fail
  refine bodyPost_ret (results_cell_row rfl _ _ w.heap.size _ _ _ _ rfl ((Blk.set (Blk.set (Blk.set (Blk.set (Blk.set hr2.out _) _) _) _) _).alloc _) Try.underlying40 rfl (by kernel_rfl)) rfl ?_
  exact ⟨rfl, (((((hk2.out.setCell (Nat.le_refl _) _).setCell (Nat.le_refl _) _).setCell (Nat.le_refl _) _).setCell (Nat.le_refl _) _).setCell (Nat.le_refl _) _).alloc _⟩
set_option maxRecDepth 100000 in
set_option maxHeartbeats 2000000 in
theorem fetch_none {w : World} {M B K N : Nat} {s : MS} (hm : Mac w M B K s N) (h1 : s.pc % 4 = 0) (h2 : s.pc + 4 ≤ s.mem.length) (hno : ∀ op rd rs1 rs2 n : Int, ¬DecR (getN s.mem s.pc.toNat 4) op rd rs1 rs2 n 0) {D : DataW Value} (hDD : DecD D) (hD : w.ownsMap Try.prog 44 RI K N D)
    (k1 : Maps.has D (.int .u32 (getN s.mem s.pc.toNat 4)) = false) (k2 : ∀ z, D.atKey (.int .u32 (getN s.mem s.pc.toNat 4)) z = z) :
    Calls Try.prog 58 #[.pointer (some ⟨M, 0, none⟩)] w fun e w' => e = .panicked (thrown 2) ∧ Kp w w' := by
  have hu := Aside.mk hm.ok.up
  have hu' := hm.ok.up
  have hby := Aside.mk hm.ok.ub
  have h3 : Aside (s.pc.toNat + 4 ≤ s.mem.length) := ⟨by unfold U at hu'; omega⟩
  replace h1 := Aside.mk h1
  replace h2 := Aside.mk h2
  have ha := Aside.mk (hm.kp ((Kp.refl w).alloc (.cells #[.int .i64 0, .int .i64 0, .int .i64 0, .int .i64 0, .int .i64 0] 40)))
  have hb := Aside.mk ha.out.b
  obtain ⟨lm, lb, c0, c65, -, -, c68⟩ := ha.out.facts
  obtain ⟨hx, hxr⟩ := getN4_U hby.out s.pc.toNat
  replace hno := Aside.mk hno
  replace hDD := Aside.mk hDD
  have hD1 := Aside.mk (own_kp hD ((Kp.refl w).alloc (.cells #[.int .i64 0, .int .i64 0, .int .i64 0, .int .i64 0, .int .i64 0] 40)))
  replace k2 := Aside.mk k2
  replace k1 := Aside.mk k1
  replace hD := Aside.mk hD
  replace hm := Aside.mk hm
  go_enter Try.func58, Try.ntmps58
  go_wp2_with fail
  refine Calls.mono (at_ok ha.out _ _ hu.out (by decide) h1.out h2.out) ?_
  rintro e w1 ⟨rfl, rfl⟩
  go_wp2_with fail
  refine Calls.mono (number_calls hb.out hby.out _ 4 _ (by decide) h3.out) ?_
  rintro e w2 ⟨rfl, hd2⟩
  have ha2 := Aside.mk (ha.out.kp (Dr.kp hd2))
  have hD2 := own_kp hD1.out (Dr.kp hd2)
  have hk2 : Aside (Kp w w2) := ⟨((Kp.refl w).alloc _).trans (Dr.kp hd2)⟩
  have hr2 := Aside.mk ((Blk.new w #[.int .i64 0, .int .i64 0, .int .i64 0, .int .i64 0, .int .i64 0] 40).kp (Dr.kp hd2))
  clear ha hb lm lb c0 c65 c68 hd2 hD1
  obtain ⟨lm, lb, c0, c65, -, -, c68⟩ := ha2.out.facts
  have hlk := look_new hD2 hx k1.out k2.out
  simp only [insV] at hlk
  replace hD2 := Aside.mk hD2
  obtain ⟨rl, r0, r1, r2, r3, r4, s0, s1, s2, s3, s4⟩ := hr2.out.five
  replace hx := Aside.mk hx
  go_wp2_with fail
  refine Calls.mono (Decode_calls (getN s.mem s.pc.toNat 4) hxr _) ?_
  rintro e w3 ⟨op', rd', rs1', rs2', n', er, rfl, k3, hd⟩
  obtain rfl : er = 2 := by
    rcases hd with h | h
    · exact absurd (Or.inl ⟨rfl, h.2⟩) (hno.out op' rd' rs1' rs2' n')
    · exact h.1
  clear hd
  have b4 := Aside.mk ((Blk.new w2 #[.int .i64 0, .int .i64 0, .int .i64 0, .int .i64 0, .int .i64 0] 40).kp k3)
  have kk : Aside (Kp w w3) := ⟨(hk2.out.alloc _).trans k3⟩
  have hls : Aside (w.heap.size ≤ w2.heap.size) := ⟨hk2.out.size⟩
  have hr0 : Aside (w.heap.size < w2.heap.size) := ⟨hr2.out.lt⟩
  clear k3 lm lb c0 c65 c68 rl r0 r1 r2 r3 r4 s0 s1 s2 s3 s4
  obtain ⟨rl, r0, r1, r2, r3, r4, s0, s1, s2, s3, s4⟩ := b4.out.five
  go_wp2_with fail
  exact ⟨rfl, rfl, ((((kk.out.setCell hls.out _).setCell hls.out _).setCell hls.out _).setCell hls.out _).setCell hls.out _⟩
set_option maxRecDepth 100000 in
set_option maxHeartbeats 2000000 in
theorem fetch_new {w : World} {M B K N : Nat} {s : MS} (hm : Mac w M B K s N) (h1 : s.pc % 4 = 0) (h2 : s.pc + 4 ≤ s.mem.length) {op rd rs1 rs2 n : Int} (hno : DecR (getN s.mem s.pc.toNat 4) op rd rs1 rs2 n 0) (hN : N < 1000000000) {D : DataW Value} (hDD : DecD D) (hD : w.ownsMap Try.prog 44 RI K N D)
    (k1 : Maps.has D (.int .u32 (getN s.mem s.pc.toNat 4)) = false) (k2 : ∀ z, D.atKey (.int .u32 (getN s.mem s.pc.toNat 4)) z = z) :
    Calls Try.prog 58 #[.pointer (some ⟨M, 0, none⟩)] w fun e w' => e = .returned (insV op rd rs1 rs2 n) ∧ Mod (fun k => k = K) w w' ∧ ∃ D', w'.ownsMap Try.prog 44 RI K (N + 1) D' ∧ DecD D' := by
  have hu := Aside.mk hm.ok.up
  have hu' := hm.ok.up
  have hby := Aside.mk hm.ok.ub
  have h3 : Aside (s.pc.toNat + 4 ≤ s.mem.length) := ⟨by unfold U at hu'; omega⟩
  replace h1 := Aside.mk h1
  replace h2 := Aside.mk h2
  have ha := Aside.mk (hm.kp ((Kp.refl w).alloc (.cells #[.int .i64 0, .int .i64 0, .int .i64 0, .int .i64 0, .int .i64 0] 40)))
  have hb := Aside.mk ha.out.b
  obtain ⟨lm, lb, c0, c65, -, -, c68⟩ := ha.out.facts
  obtain ⟨hx, hxr⟩ := getN4_U hby.out s.pc.toNat
  replace hno := Aside.mk hno
  replace hDD := Aside.mk hDD
  have hD1 := Aside.mk (own_kp hD ((Kp.refl w).alloc (.cells #[.int .i64 0, .int .i64 0, .int .i64 0, .int .i64 0, .int .i64 0] 40)))
  replace k2 := Aside.mk k2
  replace k1 := Aside.mk k1
  replace hD := Aside.mk hD
  replace hm := Aside.mk hm
  go_enter Try.func58, Try.ntmps58
  go_wp2_with fail
  refine Calls.mono (at_ok ha.out _ _ hu.out (by decide) h1.out h2.out) ?_
  rintro e w1 ⟨rfl, rfl⟩
  go_wp2_with fail
  refine Calls.mono (number_calls hb.out hby.out _ 4 _ (by decide) h3.out) ?_
  rintro e w2 ⟨rfl, hd2⟩
  have ha2 := Aside.mk (ha.out.kp (Dr.kp hd2))
  have hD2 := own_kp hD1.out (Dr.kp hd2)
  have hk2 : Aside (Kp w w2) := ⟨((Kp.refl w).alloc _).trans (Dr.kp hd2)⟩
  have hr2 := Aside.mk ((Blk.new w #[.int .i64 0, .int .i64 0, .int .i64 0, .int .i64 0, .int .i64 0] 40).kp (Dr.kp hd2))
  clear ha hb lm lb c0 c65 c68 hd2 hD1
  obtain ⟨lm, lb, c0, c65, -, -, c68⟩ := ha2.out.facts
  have hlk := look_new hD2 hx k1.out k2.out
  simp only [insV] at hlk
  replace hD2 := Aside.mk hD2
  obtain ⟨rl, r0, r1, r2, r3, r4, s0, s1, s2, s3, s4⟩ := hr2.out.five
  replace hx := Aside.mk hx
  go_wp2_with fail
  refine Calls.mono (Decode_calls (getN s.mem s.pc.toNat 4) hxr _) ?_
  rintro e w3 ⟨op', rd', rs1', rs2', n', er, rfl, k3, hd⟩
  obtain ⟨rfl, rfl, rfl, rfl, rfl, rfl⟩ := decR_uniq hno.out hd
  clear hd
  have b4 := Aside.mk ((Blk.new w2 #[.int .i64 0, .int .i64 0, .int .i64 0, .int .i64 0, .int .i64 0] 40).kp k3)
  have kk : Aside (Kp w w3) := ⟨(hk2.out.alloc _).trans k3⟩
  have hls : Aside (w.heap.size ≤ w2.heap.size) := ⟨hk2.out.size⟩
  have hr0 : Aside (w.heap.size < w2.heap.size) := ⟨hr2.out.lt⟩
  have hr3 := Aside.mk ((hr2.out.alloc (.cells #[.int .i64 0, .int .i64 0, .int .i64 0, .int .i64 0, .int .i64 0]  40)).kp k3)
  have ha3 := Aside.mk ((ha2.out.kp ((Kp.refl _).alloc (.cells #[.int .i64 0, .int .i64 0, .int .i64 0, .int .i64 0, .int .i64 0]  40))).kp k3)
  have hD3 := Aside.mk (own_kp (own_kp hD2.out ((Kp.refl _).alloc (.cells #[.int .i64 0, .int .i64 0, .int .i64 0, .int .i64 0, .int .i64 0]  40))) k3)
  clear k3 lm lb c0 c65 c68 rl r0 r1 r2 r3 r4 s0 s1 s2 s3 s4 ha2 hr2 hD2
  obtain ⟨lm, lb, c0, c65, -, -, c68⟩ := ha3.out.facts
  obtain ⟨rl, r0, r1, r2, r3, r4, s0, s1, s2, s3, s4⟩ := b4.out.five
  go_upto_region 8 with fail
  have hmod : Mod (fun k => k = w2.heap.size) w3 (((((w3.setCell ⟨w2.heap.size, 0, none⟩ (.int .i64 op)).setCell ⟨w2.heap.size, 1, none⟩ (.int .i64 rd)).setCell ⟨w2.heap.size, 2, none⟩ (.int .i64 rs1)).setCell ⟨w2.heap.size, 3, none⟩ (.int .i64 rs2)).setCell ⟨w2.heap.size, 4, none⟩ (.int .i64 n)) :=
    (((((Mod.refl (fun k => k = w2.heap.size) w3).setCell (p := ⟨w2.heap.size, 0, none⟩) rfl _).setCell (p := ⟨w2.heap.size, 1, none⟩) rfl _).setCell (p := ⟨w2.heap.size, 2, none⟩) rfl _).setCell (p := ⟨w2.heap.size, 3, none⟩) rfl _).setCell (p := ⟨w2.heap.size, 4, none⟩) rfl _
  have hb5 : Blk (((((w3.setCell ⟨w2.heap.size, 0, none⟩ (.int .i64 op)).setCell ⟨w2.heap.size, 1, none⟩ (.int .i64 rd)).setCell ⟨w2.heap.size, 2, none⟩ (.int .i64 rs1)).setCell ⟨w2.heap.size, 3, none⟩ (.int .i64 rs2)).setCell ⟨w2.heap.size, 4, none⟩ (.int .i64 n)) w2.heap.size #[.int .i64 op, .int .i64 rd, .int .i64 rs1, .int .i64 rs2, .int .i64 n] 40 :=
    ((((b4.out.set _).set _).set _).set _).set _
  have hlm := hm.out.m.lt
  have hlb := hm.out.b.lt
  have hlk2 := hm.out.kl
  have hls' := hls.out
  have hlr : w.heap.size < w2.heap.size := hr0.out
  have ha4 := Aside.mk (ha3.out.keep hmod (by omega) (by omega) (by omega))
  have hr4 := Aside.mk (hmod.blk hr3.out (by omega))
  have hD4 := Aside.mk (own_mod hD3.out hmod (by omega))
  have hk4 : Aside (Mod (fun k => k = w2.heap.size) w3 _) := ⟨hmod⟩
  replace hb5 := Aside.mk hb5
  clear hmod b4 hr3 ha3 hD3 lm lb c0 c65 c68 rl r0 r1 r2 r3 r4 s0 s1 s2 s3 s4
  generalize (((((w3.setCell ⟨w2.heap.size, 0, none⟩ (.int .i64 op)).setCell ⟨w2.heap.size, 1, none⟩ (.int .i64 rd)).setCell ⟨w2.heap.size, 2, none⟩ (.int .i64 rs1)).setCell ⟨w2.heap.size, 3, none⟩ (.int .i64 rs2)).setCell ⟨w2.heap.size, 4, none⟩ (.int .i64 n)) = W at *
  obtain ⟨lm, lb, c0, c65, -, -, c68⟩ := ha4.out.facts
  obtain ⟨il, i0, i1, i2, i3, i4, -⟩ := hb5.out.five
  clear hlm hlb hlk2 hls' hlr
  go_still_tail 6, (by kernel_rfl)
  refine wpList_mapUpdate_own _ rfl _ _ _ 82 rfl 44 40 lawK32 Try.underlying82 RI K N D rfl (own_kp hD4.out ((Kp.refl W).drew)) (by unfold maxLen; omega) (.int .u32 (getN s.mem s.pc.toNat 4)) (insV op rd rs1 rs2 n) _ rfl rfl (keyI32 hx.out) (.held (insV op rd rs1 rs2 n)) [] rfl ?_
  intro w5 hown hgr
  have hm5 : Mod (fun k => k = K) W w5 := ((Kp.refl W).drew).mod.grown hgr (fun k hk => Or.inl (by cases hk; rfl))
  have hne : Aside (w2.heap.size ≠ K ∧ w.heap.size ≠ K) := ⟨by have h1 := hm.out.kl; have h2 := hls.out; omega⟩
  have hr5 := Aside.mk (hm5.blk hr4.out hne.out.2)
  have hb6 := Aside.mk (hm5.blk hb5.out hne.out.1)
  have hMod : Aside (Mod (fun k => k = K) w w5) := ⟨(kk.out.mod.behind hk4.out (fun k hk => Or.inr (by have h1 : k = w2.heap.size := hk; have h2 := hls.out; omega))).trans hm5⟩
  replace hown := Aside.mk hown
  clear hgr hm5 ha4 hb5 hr4 hD4 hk4 lm lb c0 c65 c68 il i0 i1 i2 i3 i4
  obtain ⟨il, i0, i1, i2, i3, i4, -⟩ := hb6.out.five
  obtain ⟨rl, r0, r1, r2, r3, r4, s0, s1, s2, s3, s4⟩ := hr5.out.five
  go_wp2_with fail
  refine bodyPost_ret (results_cell_row rfl _ _ w.heap.size _ _ _ _ rfl (Blk.set (Blk.set (Blk.set (Blk.set (Blk.set hr5.out _) _) _) _) _) Try.underlying40 rfl (by kernel_rfl)) rfl ?_
  have hfin : Mod (fun k => k = K) w _ := ((((hMod.out.setNew (p := ⟨w.heap.size, 0, none⟩) (Nat.le_refl _) (.int .i64 op)).setNew (p := ⟨w.heap.size, 1, none⟩) (Nat.le_refl _) (.int .i64 rd)).setNew (p := ⟨w.heap.size, 2, none⟩) (Nat.le_refl _) (.int .i64 rs1)).setNew (p := ⟨w.heap.size, 3, none⟩) (Nat.le_refl _) (.int .i64 rs2)).setNew (p := ⟨w.heap.size, 4, none⟩) (Nat.le_refl _) (.int .i64 n)
  have hg : Mod (fun k => k = w.heap.size) w5 _ := (((((Mod.refl (fun k => k = w.heap.size) w5).setCell (p := ⟨w.heap.size, 0, none⟩) rfl (.int .i64 op)).setCell (p := ⟨w.heap.size, 1, none⟩) rfl (.int .i64 rd)).setCell (p := ⟨w.heap.size, 2, none⟩) rfl (.int .i64 rs1)).setCell (p := ⟨w.heap.size, 3, none⟩) rfl (.int .i64 rs2)).setCell (p := ⟨w.heap.size, 4, none⟩) rfl (.int .i64 n)
  exact ⟨rfl, hfin, _, own_mod hown.out hg (fun e => hne.out.2 e.symm), decD_put hDD.out hno.out⟩
set_option maxRecDepth 100000 in
set_option maxHeartbeats 1000000 in
theorem fetch_far {w : World} {M B K N : Nat} {s : MS} (hm : Mac w M B K s N) (h : ¬(s.pc % 4 = 0 ∧ s.pc + 4 ≤ s.mem.length)) :
    Calls Try.prog 58 #[.pointer (some ⟨M, 0, none⟩)] w fun e w' => e = .panicked (thrown 3) ∧ Kp w w' := by
  have hu := Aside.mk hm.ok.up
  replace h := Aside.mk h
  have ha := Aside.mk (hm.kp ((Kp.refl w).alloc (.cells #[.int .i64 0, .int .i64 0, .int .i64 0, .int .i64 0, .int .i64 0] 40)))
  obtain ⟨lm, lb, c0, c65, -, -, c68⟩ := ha.out.facts
  replace hm := Aside.mk hm
  go_enter Try.func58, Try.ntmps58
  go_wp2_with fail
  refine Calls.mono (at_bad ha.out _ 4 hu.out (by decide) h.out) ?_
  rintro e w1 ⟨rfl, rfl⟩
  go_wp2_with fail
  exact ⟨rfl, rfl, (Kp.refl w).alloc _⟩
/-- The word at a machine's place. -/
def MS.here (s : MS) : Int := getN s.mem s.pc.toNat 4
/-- Whether there is a word at its place. -/
def MS.inside (s : MS) : Prop := s.pc % 4 = 0 ∧ s.pc + 4 ≤ s.mem.length
theorem fetch_ok {w : World} {M B K N : Nat} {s : MS} (hm : Mac w M B K s N) (hN : N < 1000000000) (h : s.inside) {op rd rs1 rs2 n : Int} (hd : DecR s.here op rd rs1 rs2 n 0) :
    Calls Try.prog 58 #[.pointer (some ⟨M, 0, none⟩)] w fun e w' => e = .returned (insV op rd rs1 rs2 n) ∧ Mod (fun k => k = K) w w' ∧ Mac w' M B K s (N + 1) := by
  obtain ⟨D, hD, hDD⟩ := hm.k
  rcases hDD.each s.here with ⟨g1, g2⟩ | ⟨g1, op', rd', rs1', rs2', n', g2, gd⟩
  · refine (fetch_new hm h.1 h.2 hd hN hDD hD g1 g2).mono ?_
    rintro e w' ⟨he, hmod, D', hD', hDD'⟩
    exact ⟨he, hmod, hmod.blk hm.m hm.nmk, hmod.blk hm.b hm.nbk, ⟨D', hD', hDD'⟩, hm.nmb, hm.nmk, hm.nbk, hm.ok⟩
  · obtain ⟨rfl, rfl, rfl, rfl, rfl, -⟩ := decR_uniq hd gd
    refine (fetch_known hm h.1 h.2 hD g1 g2).mono ?_
    rintro e w' ⟨he, hk⟩
    exact ⟨he, hk.mod, (hm.kp hk).more (Nat.le_succ _)⟩
/-- What stops a machine ahead of its step: 3: it stands outside; 2: there is no instruction. -/
def MS.stops (s : MS) (c : Int) : Prop := ¬s.inside ∧ c = 3 ∨ s.inside ∧ (∀ op rd rs1 rs2 n : Int, ¬DecR s.here op rd rs1 rs2 n 0) ∧ c = 2
theorem fetch_bad {w : World} {M B K N : Nat} {s : MS} (hm : Mac w M B K s N) {c : Int} (h : s.stops c) :
    Calls Try.prog 58 #[.pointer (some ⟨M, 0, none⟩)] w fun e w' => e = .panicked (thrown c) ∧ Kp w w' := by
  rcases h with ⟨h, rfl⟩ | ⟨h, hno, rfl⟩
  · exact fetch_far hm h
  · obtain ⟨D, hD, hDD⟩ := hm.k
    rcases hDD.each s.here with ⟨g1, g2⟩ | ⟨g1, op', rd', rs1', rs2', n', g2, gd⟩
    · exact fetch_none hm h.1 h.2 hno hDD hD g1 g2
    · exact absurd gd (hno _ _ _ _ _)
end Go.Proofs.Ytnbooljaodkedaa
namespace Go.Proofs.Ytnbooljaodkedaa
open Go.RowKit Go.Proofs.Ytnbooljaodkedaa.PC Go.Proofs.Ytnbooljaodkedaa.PW
set_option linter.unusedVariables false
set_option linter.unusedSimpArgs false
theorem run_frombits (a : Int) (w : World) : (callFunc 99 #[.int .u64 a]).run Try.prog w = .ok (.value (.float .f64 a.toNat)) w := by
  rw [run_callFunc_extern (e := Extern.MathFloatBits.float64frombits) Try.func99 (by kernel_rfl) (by kernel_rfl) (by kernel_rfl) (by kernel_rfl)]
  rfl
theorem run_bits (b : Nat) (w : World) : (callFunc 98 #[.float .f64 b]).run Try.prog w = .ok (.value (.int .u64 b)) w := by
  rw [run_callFunc_extern (e := Extern.MathFloatBits.float64bits) Try.func98 (by kernel_rfl) (by kernel_rfl) (by kernel_rfl) (by kernel_rfl)]
  rfl
/-- Whether bits are a number's. -/
def numB (b : Nat) : Bool := FloatKind.f64.format.order b b == some .eq
/-- The bits, or NaN's. -/
def canV (b : Nat) : Int := if numB b = true then b else 9221120237041090560
theorem canV_again (b : Nat) : canV (canV b).toNat = canV b := by
  have h : numB 9221120237041090560 = false := by decide +kernel
  unfold canV
  by_cases e : numB b = true
  · simp [e]
  · simp [e, h]
theorem canV_U {b : Nat} (h : (b : Int) ≤ 18446744073709551615) : U64 (canV b) := by
  unfold canV U64
  split
  · omega
  · decide
set_option maxHeartbeats 1000000 in
theorem fof_calls (a : Int) (w : World) : Calls Try.prog 92 #[.int .u64 a] w fun e w' => e = .returned (.float .f64 a.toNat) ∧ w' = w := by
  have h := fun w => run_frombits a w
  go_enter Try.func92, Try.ntmps92
  go_wp2
  go_ret
  exact ⟨rfl, rfl⟩
set_option maxHeartbeats 1000000 in
theorem isNaN_calls (b : Nat) (w : World) : Calls Try.prog 95 #[.float .f64 b] w fun e w' => e = .returned (.bool (!numB b)) ∧ w' = w := by
  go_enter Try.func95, Try.ntmps95
  go_wp2
  go_ret
  exact ⟨rfl, rfl⟩
set_option maxHeartbeats 1000000 in
theorem fbits_calls (b : Nat) (w : World) : Calls Try.prog 91 #[.float .f64 b] w fun e w' => e = .returned (.int .u64 (canV b)) ∧ w' = w := by
  have h := fun w => run_bits b w
  by_cases hb : numB b = true
  · have hn := fun w => isNaN_calls b w
    rw [hb] at hn
    have hv : Aside (canV b = b) := ⟨by unfold canV; rw [if_pos hb]⟩
    replace hn := Aside.mk hn
    go_enter Try.func91, Try.ntmps91
    go_wp2_with ((go_at_call 95); (refine Calls.mono (hn.out _) ?_); (rintro e w1 ⟨rfl, rfl⟩))
    go_ret
    exact ⟨by rw [hv.out]; rfl, rfl⟩
  · have hb' : numB b = false := by simpa using hb
    have hn := fun w => isNaN_calls b w
    rw [hb'] at hn
    have hv : Aside (canV b = 9221120237041090560) := ⟨by unfold canV; rw [if_neg hb]⟩
    replace hn := Aside.mk hn
    clear h hb
    go_enter Try.func91, Try.ntmps91
    go_wp2_with ((go_at_call 95); (refine Calls.mono (hn.out _) ?_); (rintro e w1 ⟨rfl, rfl⟩))
    go_ret
    exact ⟨by rw [hv.out]; rfl, rfl⟩
set_option maxHeartbeats 1000000 in
theorem Canon_calls (a : Int) (w : World) : Calls Try.prog 81 #[.int .u64 a] w fun e w' => e = .returned (.int .u64 (canV a.toNat)) ∧ w' = w := by
  go_enter Try.func81, Try.ntmps81
  go_wp2_with (first | ((go_at_call 92); (refine Calls.mono (fof_calls _ _) ?_); (rintro e w1 ⟨rfl, rfl⟩)) | ((go_at_call 91); (refine Calls.mono (fbits_calls _ _) ?_); (rintro e w1 ⟨rfl, rfl⟩)))
  go_ret
  exact ⟨rfl, rfl⟩
set_option maxHeartbeats 1000000 in
theorem OfInt_calls (a : Int) (ha : U a) (w : World) : Calls Try.prog 85 #[.int .u32 a] w fun e w' => e = .returned (.int .u64 (canV (floatOfInt .f64 (sgn a)))) ∧ w' = w := by
  have hc := fun w => run_convert_int_float (P := Try.prog) w 3 177 .i64 .f64 (sgn a) (by kernel_rfl) Try.underlying177
  go_enter Try.func85, Try.ntmps85
  go_wp2_with (first | ((go_at_call 53); (refine Calls.mono (sgned_still _ ha _) ?_); (rintro e w1 ⟨rfl, rfl⟩)) | ((go_at_call 91); (refine Calls.mono (fbits_calls _ _) ?_); (rintro e w1 ⟨rfl, rfl⟩)))
  go_ret
  exact ⟨rfl, rfl⟩
end Go.Proofs.Ytnbooljaodkedaa
namespace Go.Proofs.Ytnbooljaodkedaa
open Go.RowKit Go.Maps Go.Proofs.Ytnbooljaodkedaa.PC Go.Proofs.Ytnbooljaodkedaa.PW
set_option linter.unusedVariables false
set_option linter.unusedSimpArgs false
structure Ev where
  kind : Int
  word : Int
  real : Int
def evC (l : List Ev) : List Value := l.flatMap fun e => [.int .i64 e.kind, .int .u32 e.word, .int .u64 e.real]
theorem evC_snoc (l : List Ev) (e : Ev) : evC (l ++ [e]) = evC l ++ [.int .i64 e.kind, .int .u32 e.word, .int .u64 e.real] := by simp [evC]
/-- A run: the machine, what is left of its input, its events. -/
structure RS where
  s : MS
  inp : List Int
  ev : List Ev
/-- Words in memory, below a block, and not where the machine stands. -/
def Words (w : World) (b1 M B K : Nat) (v : Value) (l : List Int) : Prop :=
  (∃ A c, v = .slice A l.length c ∧ l.length ≤ c ∧ (l ≠ [] → ∃ I off, A = some ⟨I, off, none⟩ ∧ I < b1 ∧ I ≠ M ∧ I ≠ B ∧ I ≠ K ∧ ∀ i, i < l.length → w.cell? ⟨I, off + i, none⟩ = some (.int .u32 (l.getD i 0)))) ∧ (∀ x ∈ l, U x) ∧ l.length ≤ 140737488355328
theorem Words.at {w w' : World} {b1 M B K : Nat} {v : Value} {l : List Int} (h : Words w b1 M B K v l) (g : ∀ I, I < b1 → I ≠ M → I ≠ B → I ≠ K → I < w.heap.size → w'.heap[I]? = w.heap[I]?) : Words w' b1 M B K v l := by
  obtain ⟨⟨A, c, hv, hc, hA⟩, hu, hl⟩ := h
  refine ⟨⟨A, c, hv, hc, fun hne => ?_⟩, hu, hl⟩
  obtain ⟨I, off, e, h1, h2, h3, h4, hcell⟩ := hA hne
  refine ⟨I, off, e, h1, h2, h3, h4, fun i hi => ?_⟩
  have hx := hcell i hi
  have hI : I < w.heap.size := by
    obtain ⟨b, o, e1, e2⟩ := cell_some hx
    cases e1
    exact e2
  rw [World.cell?_of_block (w := w) (g I h1 h2 h3 h4 hI)]
  exact hx
theorem row_at {w w' : World} {base : Nat} {e : TypeId} {size : Nat} {v : Value} {n : Nat} {xs : List Value} (h : w.ownsRow base e size v n xs) (g : ∀ j, v.ownBlock = some j → j < w.heap.size → w'.heap[j]? = w.heap[j]?) : w'.ownsRow base e size v n xs := by
  refine ⟨h.1, ?_⟩
  rcases h.2 with hn | ⟨j, cap, cur, hv, hb, hgg, rest⟩
  · exact .inl hn
  · have hj : j < w.heap.size := (Array.getElem?_eq_some_iff.1 hgg).1
    exact .inr ⟨j, cap, cur, hv, hb, (g j (by rw [hv]; rfl) hj).trans hgg, rest⟩
/-- A run in memory. -/
structure Rat (w : World) (b1 R M B K : Nat) (r : RS) (N : Nat) : Prop where
  mac : Mac w M B K r.s N
  run : ∃ iv ev, Blk w R #[.pointer (some ⟨M, 0, none⟩), iv, ev] 90 ∧ Words w b1 M B K iv r.inp ∧ w.ownsRow b1 165 3 ev r.ev.length (evC r.ev) ∧ ev.ownBlock ≠ some R
  lR : b1 ≤ R
  lM : M < b1
  lB : B < b1
  lK : K < b1
  le : r.ev.length ≤ N
/-- What a run may write. -/
def SR (b1 b2 M B K : Nat) : Nat → Prop := fun k => k = M ∨ k = B ∨ k = K ∨ b1 ≤ k ∧ k < b2
/-- A run's own blocks lie below. -/
def TopB (w : World) (R M b2 : Nat) : Prop := R < b2 ∧ ∀ iv ev, Blk w R #[.pointer (some ⟨M, 0, none⟩), iv, ev] 90 → ∀ j, ev.ownBlock = some j → j < b2
theorem TopB.mod {S : Nat → Prop} {w w' : World} {R M b2 : Nat} (h : TopB w R M b2) (g : Mod S w w') (hn : ¬S R) (hR : R < w.heap.size) : TopB w' R M b2 :=
  ⟨h.1, fun iv ev hb => h.2 iv ev ((g.block R hR hn).symm.trans hb)⟩
theorem TopB.kp {w w' : World} {R M b2 : Nat} (h : TopB w R M b2) (g : Kp w w') (hR : R < w.heap.size) : TopB w' R M b2 := h.mod (S := fun _ => False) g.mod id hR
theorem Rat.kp {w w' : World} {b1 R M B K N : Nat} {r : RS} (h : Rat w b1 R M B K r N) (g : Kp w w') : Rat w' b1 R M B K r N := by
  obtain ⟨iv, ev, hb, hw, ho, hn⟩ := h.run
  exact ⟨h.mac.kp g, ⟨iv, ev, hb.kp g, hw.at (fun I _ _ _ _ hI => g.block hI), row_at ho (fun j _ hj => g.block hj), hn⟩, h.lR, h.lM, h.lB, h.lK, h.le⟩
/-- The machine alone was written. -/
theorem Rat.turn {w w' : World} {b1 R M B K N N' : Nat} {r : RS} {s' : MS} {S : Nat → Prop} (h : Rat w b1 R M B K r N) (g : Mod S w w') (hS : ∀ k, S k → k = M ∨ k = B ∨ k = K) (hm : Mac w' M B K s' N') (hN : N ≤ N') : Rat w' b1 R M B K { r with s := s' } N' := by
  obtain ⟨iv, ev, hb, hw, ho, hn⟩ := h.run
  have hbig : ∀ k, b1 ≤ k → ¬S k := fun k hk e => by
    have h1 := h.lM
    have h2 := h.lB
    have h3 := h.lK
    rcases hS k e with e | e | e <;> omega
  refine ⟨hm, ⟨iv, ev, g.blk hb (hbig R h.lR), hw.at (fun I _ h1 h2 h3 hI => g.block I hI (fun e => ?_)), row_at ho (fun j hj hl => g.block j hl (hbig j (own_ge ho j hj))), hn⟩, h.lR, h.lM, h.lB, h.lK, Nat.le_trans h.le hN⟩
  rcases hS I e with e | e | e
  · exact h1 e
  · exact h2 e
  · exact h3 e
theorem Rat.setM {w : World} {b1 R M B K N i : Nat} {r : RS} {s' : MS} {v : Value} (h : Rat w b1 R M B K r N) (hc : (r.s.cells B K).setIfInBounds i v = s'.cells B K) (hm : s'.mem = r.s.mem) (ho : s'.ok) : Rat (w.setCell ⟨M, i, none⟩ v) b1 R M B K { r with s := s' } N :=
  h.turn (S := fun k => k = M) ((Mod.refl (fun k => k = M) w).setCell (p := ⟨M, i, none⟩) rfl v) (fun k e => Or.inl e) (h.mac.setM hc hm ho) (Nat.le_refl _)
/-- The memory's bytes alone were written. -/
theorem Rat.setB {w w' : World} {b1 R M B K N : Nat} {r : RS} {mem : List Int} (h : Rat w b1 R M B K r N) (g : Mod (fun k => k = B) w w') (hb : Blk w' B (memC mem) 5) (hl : mem.length = r.s.mem.length) (hby : ∀ b ∈ mem, Byte b) : Rat w' b1 R M B K { r with s := { r.s with mem := mem } } N := by
  refine h.turn g (fun k e => Or.inr (Or.inl e)) ⟨?_, hb, ?_, h.mac.nmb, h.mac.nmk, h.mac.nbk, ?_⟩ (Nat.le_refl _)
  · have := g.blk h.mac.m h.mac.nmb
    have e : ({ r.s with mem := mem } : MS).cells B K = r.s.cells B K := by simp [MS.cells, MS.cellsL, MS.head, hl]
    rw [e]
    exact this
  · obtain ⟨D, hD, hd⟩ := h.mac.k
    exact ⟨D, own_mod hD g (fun e => h.mac.nbk e.symm), hd⟩
  · have ho := h.mac.ok
    exact ⟨ho.lx, ho.lf, ho.ux, ho.uf, hby, ho.up, ho.uc, by rw [show ({ r.s with mem := mem } : MS).mem = mem from rfl, hl]; exact ho.lm⟩
theorem Rat.facts {w : World} {b1 R M B K N : Nat} {r : RS} (h : Rat w b1 R M B K r N) : ∃ iv ev, Blk w R #[.pointer (some ⟨M, 0, none⟩), iv, ev] 90 ∧ Words w b1 M B K iv r.inp ∧ w.ownsRow b1 165 3 ev r.ev.length (evC r.ev) ∧ ev.ownBlock ≠ some R ∧ R < w.heap.size ∧ w.cell? ⟨R, 0, none⟩ = some (.pointer (some ⟨M, 0, none⟩)) ∧ w.cell? ⟨R, 1, none⟩ = some iv ∧ w.cell? ⟨R, 2, none⟩ = some ev := by
  obtain ⟨iv, ev, hb, hw, ho, hn⟩ := h.run
  exact ⟨iv, ev, hb, hw, ho, hn, hb.lt, hb.cell 0, hb.cell 1, hb.cell 2⟩
/-- A register of words set; the first stays 0 only behind a step. -/
def MS.setx (s : MS) (d : Nat) (v : Int) : MS := { s with x := s.x.set d v }
def MS.setf (s : MS) (d : Nat) (v : Int) : MS := { s with f := s.f.set d v }
def RS.on (r : RS) (s : MS) : RS := { r with s := s }
end Go.Proofs.Ytnbooljaodkedaa
