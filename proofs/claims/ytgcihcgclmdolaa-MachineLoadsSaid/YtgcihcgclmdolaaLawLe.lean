/- The reference's machine as a value; its Load, walked. Conditions stand at each. · The reference's Load, walked, where it loads. Conditions stand at each. · What is told of a machine, held against the reference's, walked. Conditions stand at each. · MachineLoads, walked. Condition: the arguments are of their types. · MachineLoads: images that are refused; the law. Condition: the arguments are of their types. -/
import Derived.Test.YtgcihcgclmdolaaMachY
import Derived.Test.YtgcihcgclmdolaaCodeRoB
import Derived.Deep.MidRow
import Derived.Test.YtgcihcgclmdolaaLawAw
import Derived.Lib.SmallJoins
import Derived.ChangeOld
import Derived.Carry
namespace Go.Proofs.Ytgcihcgclmdolaa
open Go.RowKit Go.Maps Go.Proofs.Ytgcihcgclmdolaa.PC Go.Proofs.Ytgcihcgclmdolaa.PW
set_option linter.unusedVariables false
set_option linter.unusedSimpArgs false
/-- The reference's machine. -/
def MS.refL (s : MS) (B : Nat) : List Value := s.head B :: (s.x.map (Value.int .u32) ++ (s.f.map (Value.int .u64) ++ [.int .u32 s.pc, .int .i64 s.state, .int .u32 s.code]))
def MS.ref (s : MS) (B : Nat) : Array Value := (s.refL B).toArray
section
variable {s : MS} {B : Nat}
theorem ref_cells (h : s.ok) (K : Nat) {i : Nat} (hi : i < 68) : (s.ref B)[i]? = (s.cells B K)[i]? := by
  have l := h.lx
  have l2 := h.lf
  have e : s.cellsL B K = s.refL B ++ [.map (some K)] := by simp [MS.cellsL, MS.refL]
  have ll : (s.refL B).length = 68 := by simp [MS.refL, l, l2]
  simp only [MS.ref, MS.cells, List.getElem?_toArray, e]
  rw [List.getElem?_append_left (by omega)]
theorem ref_size (h : s.ok) : (s.ref B).size = 68 := by
  have l := h.lx
  have l2 := h.lf
  simp [MS.ref, MS.refL, l, l2]
theorem ref_0 : (s.ref B)[0]? = some (s.head B) := rfl
theorem ref_x (h : s.ok) {r : Nat} (hr : r < 32) : (s.ref B)[1 + r]? = some (.int .u32 (s.x.getD r 0)) := (ref_cells h 0 (by omega)).trans (cells_x h hr)
theorem ref_f (h : s.ok) {r : Nat} (hr : r < 32) : (s.ref B)[33 + r]? = some (.int .u64 (s.f.getD r 0)) := (ref_cells h 0 (by omega)).trans (cells_f h hr)
theorem ref_pc (h : s.ok) : (s.ref B)[65]? = some (.int .u32 s.pc) := (ref_cells h 0 (by omega)).trans (cells_tail h (i := 0) (by decide))
end
/-! Whole blocks, stored. -/
def setL (cs : Array Value) : Nat → List Value → Array Value
  | _, [] => cs
  | o, v :: vs => setL (cs.setIfInBounds o v) (o + 1) vs
theorem setL_get (vs : List Value) : ∀ (cs : Array Value) (o i : Nat), o + vs.length ≤ cs.size → (setL cs o vs)[i]? = if o ≤ i ∧ i < o + vs.length then vs[i - o]? else cs[i]? := by
  induction vs with
  | nil => intro cs o i _; rw [if_neg (by simp)]; rfl
  | cons v vs ih =>
    intro cs o i h
    simp only [List.length_cons] at h ⊢
    show (setL (cs.setIfInBounds o v) (o + 1) vs)[i]? = _
    rw [ih _ _ _ (by simp; omega)]
    by_cases e : i = o
    · subst e
      rw [if_neg (by omega), if_pos ⟨Nat.le_refl _, by omega⟩, Nat.sub_self]
      rw [Array.getElem?_setIfInBounds, if_pos rfl, if_pos (by omega)]
      simp
    · by_cases g : o + 1 ≤ i ∧ i < o + 1 + vs.length
      · rw [if_pos g, if_pos ⟨by omega, by omega⟩]
        obtain ⟨k, rfl⟩ : ∃ k, i = o + 1 + k := ⟨i - (o + 1), by omega⟩
        rw [show o + 1 + k - (o + 1) = k by omega, show o + 1 + k - o = k + 1 by omega]
        rfl
      · rw [if_neg g, if_neg (by omega), Array.getElem?_setIfInBounds, if_neg (fun x => e x.symm)]
theorem Blk.setAt {b : Nat} {ty : TypeId} : ∀ (vs : List Value) (o : Nat) (w : World) (cs : Array Value), Blk w b cs ty → Blk (w.setCells b o vs) b (setL cs o vs) ty
  | [], _, _, _, h => h
  | v :: vs, o, w, cs, h => Blk.setAt vs (o + 1) _ _ (h.set (i := o) v)
theorem Blk.setAll {w : World} {b : Nat} {cs : Array Value} {ty : TypeId} (h : Blk w b cs ty) (vs : List Value) (hs : vs.length = cs.size) : Blk (w.setCells b 0 vs) b vs.toArray ty := by
  have e : setL cs 0 vs = vs.toArray := by
    apply Array.ext_getElem?
    intro i
    rw [setL_get _ _ _ _ (by omega)]
    by_cases g : i < vs.length
    · rw [if_pos ⟨Nat.zero_le _, by omega⟩]; simp
    · rw [if_neg (by omega)]
      rw [Array.getElem?_eq_none (by omega), Array.getElem?_eq_none (by simpa using g)]
  have := Blk.setAt vs 0 w cs h
  rw [e] at this
  exact this
theorem Mod.setCells {S : Nat → Prop} {w0 : World} {b : Nat} (hb : S b) : ∀ (vs : List Value) (o : Nat) (w : World), Mod S w0 w → Mod S w0 (w.setCells b o vs)
  | [], _, _, h => h
  | v :: vs, o, w, h => Mod.setCells hb vs (o + 1) _ (h.setCell (p := ⟨b, o, none⟩) hb v)
/-- A whole block is stored: the world behind it by what lies there. -/
theorem wpList_store_blk {P : Program} {ops : Array Oper} {rest : List Oper} {op : Oper} {a : Act} {w : World} {Q : Exit → Act → World → Prop} (hgd : op.guard = none) (ty : TypeId) (x y : Operand) (ho : op.op = .store ty x y)
    (b : Nat) (cells : Array Value) (hx : a.eval x = .pointer (some ⟨b, 0, none⟩)) (hy : a.eval y = .agg cells)
    (hi : (P.info? ty).map (·.size) = some cells.size) (h1 : cells.all (·.oneCell') = true) (cs0 : Array Value) (t : TypeId) (hb : Blk w b cs0 t) (hs : cells.size = cs0.size)
    (h : ∀ w', Blk w' b cells t → Mod (fun k => k = b) w w' → wpList P ops Q rest (a.put op.dst undef) w') : wpList P ops Q (op :: rest) a w := by
  refine wpList_store_mid hgd ty x y ho b 0 cells hx hy (fun j hj => ⟨?_, hb.frozen _⟩) hi h1 ?_
  · rw [hb.cell, Nat.zero_add, Array.getElem?_eq_getElem (by omega)]; rfl
  · exact h _ (hb.setAll _ (by simpa using hs)) (Mod.setCells (S := fun k => k = b) rfl _ _ _ (Mod.refl _ _))
theorem blk_next (w : World) (o1 : Obj) (cs : Array Value) (ty : TypeId) : Blk ((w.alloc o1).alloc (.cells cs ty)) (w.heap.size + 1) cs ty := by
  have b := Blk.new (w.alloc o1) cs ty
  rw [sz1] at b
  exact b
theorem Blk.range {w : World} {b : Nat} {cs : List Value} {ty : TypeId} (h : Blk w b cs.toArray ty) : w.rangeAt b 0 cs := by
  intro j v hj
  rw [h.cell, Nat.zero_add, List.getElem?_toArray]
  exact hj
theorem Blk.there {w : World} {b n : Nat} {cs : Array Value} {ty : TypeId} (h : Blk w b cs ty) (hn : cs.size = n) : w.there b 0 n := by
  intro j hj
  refine ⟨?_, h.frozen _⟩
  rw [h.cell, Nat.zero_add, Array.getElem?_eq_getElem (by omega)]
  rfl
def zeroC : List Value := .slice none 0 0 :: (List.replicate 32 (.int .u32 0) ++ (List.replicate 32 (.int .u64 0) ++ [.int .u32 0, .int .i64 0, .int .u32 0]))
set_option maxRecDepth 100000 in
set_option maxHeartbeats 1000000 in
theorem rup_calls (n : Int) (k : Nat) (hn : n = k) (h : k ≤ 4294967296) (w : World) : Calls Try.prog 30 #[.int .i64 n] w fun e w' => e = .returned (.int .i64 (upV k)) ∧ w' = w := by
  subst hn
  have e : (upV k : Int) = ((k : Int) + 15) / 16 * 16 := by unfold upV; omega
  replace e := Aside.mk e
  go_enter Try.func30, Try.ntmps30
  go_wp2
  go_ret
  exact ⟨by rw [e.out]; rfl, rfl⟩
/-- What a load refuses. -/
def badL (entry stack : Int) (n : Nat) : Prop := stack < 0 ∨ 2097152 < stack ∨ entry < 0 ∨ 4294967295 < entry ∨ 2097152 < upV (upV n + stack.toNat)
theorem upV_le (n : Nat) : n ≤ upV n ∧ upV n ≤ n + 15 := by unfold upV; omega
set_option maxRecDepth 100000 in
set_option maxHeartbeats 4000000 in
theorem Load_err {w : World} {A : Option Addr} {n c : Nat} (entry stack : Int) (hn : n ≤ 3000) (h : badL entry stack n) :
    Calls Try.prog 10 #[.agg #[.int .i64 entry, .slice A n c], .int .i64 stack] w fun e w' => e = .returned (.tuple #[.pointer none, .int .i64 1]) ∧ Kp w w' := by
  have bI := Blk.new w #[.int .i64 entry, .slice A n c] 38
  have kI : Aside (Kp w (w.alloc (.cells #[.int .i64 entry, .slice A n c] 38))) := ⟨(Kp.refl w).alloc _⟩
  have i0 := bI.cell 0
  have i1 := bI.cell 1
  simp at i0 i1
  replace bI := Aside.mk bI
  have b1 := upV_le n
  unfold badL at h
  by_cases h1 : stack < 0
  · clear h
    go_enter Try.func10, Try.ntmps10
    go_wp2_with fail
    go_ret2
    exact ⟨rfl, by repeat (with_reducible first | exact Kp.refl _ | assumption | exact Dr.kp (by assumption) | refine Kp.drewN ?_ _ | refine Kp.drew ?_ | refine Kp.alloc ?_ _ | refine Kp.setCell ?_ (by first | exact Nat.le_refl _ | assumption | omega) _ | refine Kp.trans ?_ (by assumption) | refine Kp.trans ?_ (Dr.kp (by assumption)))⟩
  by_cases h2 : 2097152 < stack
  · clear h
    go_enter Try.func10, Try.ntmps10
    go_wp2_with fail
    go_ret2
    exact ⟨rfl, by repeat (with_reducible first | exact Kp.refl _ | assumption | exact Dr.kp (by assumption) | refine Kp.drewN ?_ _ | refine Kp.drew ?_ | refine Kp.alloc ?_ _ | refine Kp.setCell ?_ (by first | exact Nat.le_refl _ | assumption | omega) _ | refine Kp.trans ?_ (by assumption) | refine Kp.trans ?_ (Dr.kp (by assumption)))⟩
  by_cases h3 : entry < 0
  · clear h
    go_enter Try.func10, Try.ntmps10
    go_wp2_with fail
    go_ret2
    exact ⟨rfl, by repeat (with_reducible first | exact Kp.refl _ | assumption | exact Dr.kp (by assumption) | refine Kp.drewN ?_ _ | refine Kp.drew ?_ | refine Kp.alloc ?_ _ | refine Kp.setCell ?_ (by first | exact Nat.le_refl _ | assumption | omega) _ | refine Kp.trans ?_ (by assumption) | refine Kp.trans ?_ (Dr.kp (by assumption)))⟩
  by_cases h4 : 4294967295 < entry
  · clear h
    go_enter Try.func10, Try.ntmps10
    go_wp2_with fail
    go_ret2
    exact ⟨rfl, by repeat (with_reducible first | exact Kp.refl _ | assumption | exact Dr.kp (by assumption) | refine Kp.drewN ?_ _ | refine Kp.drew ?_ | refine Kp.alloc ?_ _ | refine Kp.setCell ?_ (by first | exact Nat.le_refl _ | assumption | omega) _ | refine Kp.trans ?_ (by assumption) | refine Kp.trans ?_ (Dr.kp (by assumption)))⟩
  have h5 : 2097152 < upV (upV n + stack.toNat) := by omega
  obtain ⟨S, rfl⟩ := Int.eq_ofNat_of_zero_le (show 0 ≤ stack by omega)
  rw [Int.toNat_natCast] at h5
  have b2 := upV_le (upV n + S)
  clear h
  go_enter Try.func10, Try.ntmps10
  go_wp2_with ((go_at_call 26); (first | (with_reducible refine Calls.mono (up_calls n n rfl (by omega) _) ?_) | (with_reducible refine Calls.mono (up_calls _ (upV n + S) (by omega) (by omega) _) ?_)); (rintro e w1 ⟨⟨r, rfl, rfl, q1, q2⟩, rfl⟩))
  go_ret2
  exact ⟨rfl, by repeat (with_reducible first | exact Kp.refl _ | assumption | exact Dr.kp (by assumption) | refine Kp.drewN ?_ _ | refine Kp.drew ?_ | refine Kp.alloc ?_ _ | refine Kp.setCell ?_ (by first | exact Nat.le_refl _ | assumption | omega) _ | refine Kp.trans ?_ (by assumption) | refine Kp.trans ?_ (Dr.kp (by assumption)))⟩
theorem zero_done {w W1 : World} {o1 o2 : Obj} (h : Mod (fun k => k = w.heap.size + 1) ((w.alloc o1).alloc o2) W1) : Kp w W1 :=
  ((((Kp.refl w).alloc o1).alloc o2).mod (S := fun k => k = w.heap.size + 1) |>.trans h).toKp (fun k e => by have : k = w.heap.size + 1 := e; omega)
set_option maxRecDepth 100000 in
set_option maxHeartbeats 4000000 in
theorem rLoad_bad {w : World} {A : Option Addr} {n c : Nat} (entry stack : Int) (hn : n ≤ 3000) (h : badL entry stack n) :
    Calls Try.prog 20 #[.agg #[.int .i64 entry, .slice A n c], .int .i64 stack] w fun e w' => e = .returned (.tuple #[.agg Try.zeroCells62, .bool false]) ∧ Kp w w' := by
  have bI := Blk.new w #[.int .i64 entry, .slice A n c] 38
  have i0 : (w.alloc (.cells #[.int .i64 entry, .slice A n c] 38)).cell? ⟨w.heap.size, 0, none⟩ = some (.int .i64 entry) := bI.cell 0
  have i1 : (w.alloc (.cells #[.int .i64 entry, .slice A n c] 38)).cell? ⟨w.heap.size, 1, none⟩ = some (.slice A n c) := bI.cell 1
  replace bI := Aside.mk bI
  have b1 := upV_le n
  unfold badL at h
  by_cases h1 : stack < 0
  · clear h
    go_enter Try.func20, Try.ntmps20
    go_upto_region 2 with fail
    go_wp2_with ((refine wpList_store_blk rfl 62 (.tmp 4) (.tmp 34) rfl (w.heap.size + 1) Try.zeroCells62 rfl rfl (by kernel_rfl) (by kernel_rfl) Try.zeroCells62 62 (blk_next _ _ _ _) rfl ?_; intro W1 hB1 hM1; have zq := Aside.mk (And.intro hB1 hM1); clear hB1 hM1))
    (refine bodyPost_ret (results_cell_tmp_row rfl _ _ (w.heap.size + 1) _ _ _ rfl zq.out.1 Try.underlying62 (by kernel_rfl)) rfl ?_; exact ⟨rfl, zero_done zq.out.2⟩)
  by_cases h2 : 2097152 < stack
  · clear h
    go_enter Try.func20, Try.ntmps20
    go_upto_region 2 with fail
    go_wp2_with ((refine wpList_store_blk rfl 62 (.tmp 4) (.tmp 34) rfl (w.heap.size + 1) Try.zeroCells62 rfl rfl (by kernel_rfl) (by kernel_rfl) Try.zeroCells62 62 (blk_next _ _ _ _) rfl ?_; intro W1 hB1 hM1; have zq := Aside.mk (And.intro hB1 hM1); clear hB1 hM1))
    (refine bodyPost_ret (results_cell_tmp_row rfl _ _ (w.heap.size + 1) _ _ _ rfl zq.out.1 Try.underlying62 (by kernel_rfl)) rfl ?_; exact ⟨rfl, zero_done zq.out.2⟩)
  by_cases h3 : entry < 0
  · clear h
    go_enter Try.func20, Try.ntmps20
    go_upto_region 2 with fail
    go_wp2_with ((refine wpList_store_blk rfl 62 (.tmp 4) (.tmp 34) rfl (w.heap.size + 1) Try.zeroCells62 rfl rfl (by kernel_rfl) (by kernel_rfl) Try.zeroCells62 62 (blk_next _ _ _ _) rfl ?_; intro W1 hB1 hM1; have zq := Aside.mk (And.intro hB1 hM1); clear hB1 hM1))
    (refine bodyPost_ret (results_cell_tmp_row rfl _ _ (w.heap.size + 1) _ _ _ rfl zq.out.1 Try.underlying62 (by kernel_rfl)) rfl ?_; exact ⟨rfl, zero_done zq.out.2⟩)
  by_cases h4 : 4294967295 < entry
  · clear h
    go_enter Try.func20, Try.ntmps20
    go_upto_region 2 with fail
    go_wp2_with ((refine wpList_store_blk rfl 62 (.tmp 4) (.tmp 34) rfl (w.heap.size + 1) Try.zeroCells62 rfl rfl (by kernel_rfl) (by kernel_rfl) Try.zeroCells62 62 (blk_next _ _ _ _) rfl ?_; intro W1 hB1 hM1; have zq := Aside.mk (And.intro hB1 hM1); clear hB1 hM1))
    (refine bodyPost_ret (results_cell_tmp_row rfl _ _ (w.heap.size + 1) _ _ _ rfl zq.out.1 Try.underlying62 (by kernel_rfl)) rfl ?_; exact ⟨rfl, zero_done zq.out.2⟩)
  have h5 : 2097152 < upV (upV n + stack.toNat) := by omega
  obtain ⟨S, rfl⟩ := Int.eq_ofNat_of_zero_le (show 0 ≤ stack by omega)
  rw [Int.toNat_natCast] at h5
  have b2 := upV_le (upV n + S)
  clear h
  go_enter Try.func20, Try.ntmps20
  go_upto_region 2 with ((go_at_call 30); (first | (with_reducible refine Calls.mono (rup_calls n n rfl (by omega) _) ?_) | (with_reducible refine Calls.mono (rup_calls _ (upV n + S) (by omega) (by omega) _) ?_)); (rintro e w1 ⟨rfl, rfl⟩))
  go_wp2_with ((refine wpList_store_blk rfl 62 (.tmp 4) (.tmp 34) rfl (w.heap.size + 1) Try.zeroCells62 rfl rfl (by kernel_rfl) (by kernel_rfl) Try.zeroCells62 62 (blk_next _ _ _ _) rfl ?_; intro W1 hB1 hM1; have zq := Aside.mk (And.intro hB1 hM1); clear hB1 hM1))
  (refine bodyPost_ret (results_cell_tmp_row rfl _ _ (w.heap.size + 1) _ _ _ rfl zq.out.1 Try.underlying62 (by kernel_rfl)) rfl ?_; exact ⟨rfl, zero_done zq.out.2⟩)
/-- Bytes that are read: where they lie. -/
structure InB (w : World) (A : Option Addr) (c : Nat) (l : List Int) : Prop where
  cap : l.length ≤ c
  nil : A = none → c = 0
  byte : ∀ b ∈ l, Byte b
  at_ : l ≠ [] → ∃ I off, A = some ⟨I, off, none⟩ ∧ I < w.heap.size ∧ ∀ i, i < l.length → w.cell? ⟨I, off + i, none⟩ = some (.int .u8 (l.getD i 0))
theorem InB.kp {w w' : World} {A : Option Addr} {c : Nat} {l : List Int} (h : InB w A c l) (hk : Kp w w') : InB w' A c l := by
  refine ⟨h.cap, h.nil, h.byte, fun hn => ?_⟩
  obtain ⟨I, off, e, hl, hc⟩ := h.at_ hn
  exact ⟨I, off, e, Nat.lt_of_lt_of_le hl hk.size, fun i hi => (hk.cell (p := ⟨I, off + i, none⟩) hl).trans (hc i hi)⟩
structure RMade (w wx : World) (M B : Nat) (entry : Int) (top : Nat) (im : Array Value) (mem : List Int) : Prop where
  kp : Kp w wx
  gm : w.heap.size + 1 < M
  gb : w.heap.size + 1 < B
  ne : M ≠ B
  m : Blk wx M ((zeroS entry top).ref B) 62
  b : Blk wx B (memC mem) 5
  im : Blk wx w.heap.size im 38
  z : Blk wx (w.heap.size + 1) Try.zeroCells62 62
end Go.Proofs.Ytgcihcgclmdolaa
namespace Go.Proofs.Ytgcihcgclmdolaa
open Go.RowKit Go.Maps Go.Proofs.Ytgcihcgclmdolaa.PC Go.Proofs.Ytgcihcgclmdolaa.PW
set_option linter.unusedVariables false
set_option linter.unusedSimpArgs false
theorem made_r {w W V W3 : World} {q M B top : Nat} {entry : Int} {im : Array Value} {mem : List Int} (hq : w.heap.size = q) (sW : W.heap.size = q + 1 + 1) (kW : Kp w W) (kV : Kp W V) (m : Mod (fun k => k = M) V W3) (hM : Blk W3 M ((zeroS entry top).ref B) 62) (hB : Blk V B (memC mem) 5) (gM : W.heap.size ≤ M) (gB : W.heap.size ≤ B) (ne : M ≠ B) (bx : Blk W q im 38) (bz : Blk W (q + 1) Try.zeroCells62 62) :
    RMade w W3 M B entry top im mem := by
  subst hq
  refine ⟨((kW.trans kV).mod (S := fun k => k = M) |>.trans m).toKp (fun k e => by have : k = M := e; omega), by omega, by omega, ne, hM, m.blk hB (fun e => ne e.symm), m.blk (bx.kp kV) (fun e => by have : w.heap.size = M := e; omega), m.blk (bz.kp kV) (fun e => by have : w.heap.size + 1 = M := e; omega)⟩
theorem loadM_step (l : List Int) (top k : Nat) (hk : k < l.length) (ht : l.length ≤ top) : (loadM (l.take k) top).set k (l.getD k 0) = loadM (l.take (k + 1)) top := by
  apply List.ext_getElem?
  intro i
  have e1 : (l.take k).length = k := by rw [List.length_take]; omega
  have e2 : (l.take (k + 1)).length = k + 1 := by rw [List.length_take]; omega
  have hl1 : (loadM (l.take k) top).length = top := loadM_length _ _ (by omega)
  rw [List.getElem?_set]
  unfold loadM
  by_cases hi : k = i
  · subst hi
    rw [if_pos rfl, List.getElem?_append_left (by omega)]
    have : k < (l.take k ++ List.replicate (top - (l.take k).length) 0).length := by rw [List.length_append, List.length_replicate]; omega
    rw [if_pos this, List.getElem?_take, if_pos (by omega), List.getD_eq_getElem?_getD, List.getElem?_eq_getElem hk]
    rfl
  · rw [if_neg hi]
    by_cases h2 : i < k
    · rw [List.getElem?_append_left (by omega), List.getElem?_append_left (by omega), List.getElem?_take, List.getElem?_take, if_pos h2, if_pos (by omega)]
    · rw [List.getElem?_append_right (by omega), List.getElem?_append_right (by omega), e1, e2, List.getElem?_replicate, List.getElem?_replicate]
      by_cases h3 : i < top
      · rw [if_pos (by omega), if_pos (by omega)]
      · rw [if_neg (by omega), if_neg (by omega)]
theorem RMade.step {w wr : World} {M B top k : Nat} {entry b : Int} {im : Array Value} {mem mem' : List Int} (h : RMade w wr M B entry top im mem) (hs : mem.set k b = mem') : RMade w (wr.setCell ⟨B, k, none⟩ (.int .u8 b)).drew M B entry top im mem' := by
  have g := h.gb
  refine ⟨(h.kp.setCell (by show w.heap.size ≤ B; omega) _).drew, h.gm, h.gb, h.ne, (h.m.far h.ne _).kp (Kp.refl _).drew, ?_, (h.im.far (by omega) _).kp (Kp.refl _).drew, (h.z.far (by omega) _).kp (Kp.refl _).drew⟩
  have e := h.b.set (i := k) (.int .u8 b)
  rw [memC_set, hs] at e
  exact e.kp (Kp.refl _).drew
theorem load_ref (entry : Int) (l : List Int) (floor top B : Nat) (hl : l.length ≤ top) : (((zeroS entry top).ref B).setIfInBounds 3 (.int .u32 (top : Int))).setIfInBounds 28 (.int .u32 (floor : Int)) = (loadS entry l floor top).ref B := by
  have e : (zeroS entry top).head B = .slice (some ⟨B, 0, none⟩) top top := by simp [zeroS, MS.head]
  have e2 : (loadS entry l floor top).head B = .slice (some ⟨B, 0, none⟩) top top := by
    unfold MS.head
    rw [show (loadS entry l floor top).mem = loadM l top from rfl, loadM_length l top hl]
  unfold MS.ref MS.refL
  rw [e, e2]
  rfl
theorem refL_one (s : MS) (B : Nat) : ∀ v ∈ s.refL B, v.oneCell' = true := by
  intro v hv
  simp only [MS.refL, MS.head, List.mem_cons, List.mem_append, List.mem_map, List.not_mem_nil, or_false] at hv
  rcases hv with rfl | ⟨x, _, rfl⟩ | ⟨x, _, rfl⟩ | rfl | rfl | rfl <;> rfl
/-- What is done of a load of the reference's. -/
structure RDone (w V : World) (M B : Nat) (entry : Int) (l : List Int) (floor top : Nat) : Prop where
  kp : Kp w V
  gb : w.heap.size ≤ B
  m : Blk V M ((loadS entry l floor top).ref B) 62
  b : Blk V B (memC (loadM l top)) 5
  z : Blk V (w.heap.size + 1) Try.zeroCells62 62
  ne : B ≠ w.heap.size + 1
theorem RMade.fin {w wr : World} {M B top floor : Nat} {entry : Int} {im : Array Value} {l : List Int} (h : RMade w wr M B entry top im (loadM l top)) (hl : l.length ≤ top) : RDone w ((wr.setCell ⟨M, 3, none⟩ (.int .u32 (top : Int))).setCell ⟨M, 28, none⟩ (.int .u32 (floor : Int))) M B entry l floor top := by
  have g := h.gb
  have g2 := h.gm
  refine ⟨(h.kp.setCell (by show w.heap.size ≤ M; omega) _).setCell (by show w.heap.size ≤ M; omega) _, by omega, ?_, (h.b.far (fun e => h.ne e.symm) _).far (fun e => h.ne e.symm) _, (h.z.far (by omega) _).far (by omega) _, by omega⟩
  have e := (h.m.set (i := 3) (.int .u32 (top : Int))).set (i := 28) (.int .u32 (floor : Int))
  rw [load_ref entry l floor top B hl] at e
  exact e
theorem rup_any (n : Int) (h0 : 0 ≤ n) (h : n ≤ 4294967296) (w : World) : Calls Try.prog 30 #[.int .i64 n] w fun e w' => e = .returned (.int .i64 (upV n.toNat)) ∧ w' = w := rup_calls n n.toNat (by omega) (by omega) w
theorem st_mid {P : Program} {W : World} {b : Nat} {zs : Array Value} {ty : TypeId} (hb : Blk W b zs ty) (L : List Value) (hl : L.length = zs.size) (h1 : ∀ v ∈ L, v.oneCell' = true) :
    ∃ W3, (storeCells ⟨b, 0, none⟩ L).run P W = .ok () W3 ∧ Blk W3 b L.toArray ty ∧ Mod (fun k => k = b) W W3 := by
  have ht := hb.there rfl
  have h := run_storeCells_cells (P := P) b 0 L 0 W (fun j hj => by simpa using (ht j (by omega)).1) (fun j hj => by simpa using (ht j (by omega)).2) h1
  simp only [Nat.add_zero] at h
  exact ⟨_, h, hb.setAll _ (by simpa using hl), Mod.setCells (S := fun k => k = b) rfl _ _ _ (Mod.refl _ _)⟩
def rList (zs : Array Value) (entry : Int) (top B : Nat) : List Value := (zs.toList.set 0 (.slice (some ⟨B, 0, none⟩) top top)).set 65 (.int .u32 entry)
set_option maxRecDepth 100000 in
theorem rList_ref (entry : Int) (top B : Nat) : (rList Try.zeroCells62 entry top B).toArray = (zeroS entry top).ref B := by
  have e : (zeroS entry top).head B = .slice (some ⟨B, 0, none⟩) top top := by simp [zeroS, MS.head]
  unfold MS.ref MS.refL
  rw [e]
  rfl
set_option maxRecDepth 100000 in
theorem rList_len (entry : Int) (top B : Nat) : (rList Try.zeroCells62 entry top B).length = Try.zeroCells62.size := rfl
set_option maxRecDepth 100000 in
theorem rList_one (entry : Int) (top B : Nat) : ∀ v ∈ rList Try.zeroCells62 entry top B, v.oneCell' = true := by
  have h : (rList Try.zeroCells62 entry top B).all (·.oneCell') = true := rfl
  exact List.all_eq_true.1 h
set_option maxRecDepth 100000 in
set_option maxHeartbeats 4000000 in
theorem rLoad_ok {w : World} {A : Option Addr} {c : Nat} {l : List Int} (hA : InB w A c l) (entry : Int) (stack : Nat) (hn : l.length ≤ 3000) (he : U entry) (hs : stack ≤ 2097152) (ht : upV (upV l.length + stack) ≤ 2097152) :
    Calls Try.prog 20 #[.agg #[.int .i64 entry, .slice A l.length c], .int .i64 stack] w fun e w' => ∃ B, e = .returned (.tuple #[.agg ((loadS entry l (upV l.length) (upV (upV l.length + stack))).ref B), .bool true]) ∧ w.heap.size ≤ B ∧ Kp w w' ∧ Blk w' B (memC (loadM l (upV (upV l.length + stack)))) 5 := by
  have he' := U_shr he
  obtain ⟨n, hnl⟩ : ∃ n, Aside (l.length = n) := ⟨_, ⟨rfl⟩⟩
  rw [hnl.out] at ht hn ⊢
  have bI := Blk.new w #[.int .i64 entry, .slice A n c] 38
  have i0 : (w.alloc (.cells #[.int .i64 entry, .slice A n c] 38)).cell? ⟨w.heap.size, 0, none⟩ = some (.int .i64 entry) := bI.cell 0
  have i1 : (w.alloc (.cells #[.int .i64 entry, .slice A n c] 38)).cell? ⟨w.heap.size, 1, none⟩ = some (.slice A n c) := bI.cell 1
  replace bI := Aside.mk bI
  obtain ⟨S, hS⟩ : ∃ S, Aside (stack = S) := ⟨_, ⟨rfl⟩⟩
  rw [hS.out] at ht hs ⊢
  have b1 := upV_le n
  have b2 := upV_le (upV n + S)
  have hmk := made_u8 (upV (upV n + S)) ht
  replace hA := Aside.mk hA
  go_enter Try.func20, Try.ntmps20
  go_upto_region 3 with ((go_at_call 30); (first | (with_reducible refine Calls.mono (rup_calls n n rfl (by omega) _) ?_) | (with_reducible refine Calls.mono (rup_calls _ (upV n + S) (by omega) (by omega) _) ?_)); (rintro e w1 ⟨rfl, rfl⟩))
  have bx := bI.out.kp ((Kp.refl _).alloc (.cells Try.zeroCells62 62))
  have bz := Blk.new (w.alloc (.cells #[.int .i64 entry, .slice A n c] 38)) Try.zeroCells62 62
  have kW : Kp w ((w.alloc (.cells #[.int .i64 entry, .slice A n c] 38)).alloc (.cells Try.zeroCells62 62)) := ((Kp.refl w).alloc _).alloc _
  have sW : ((w.alloc (.cells #[.int .i64 entry, .slice A n c] 38)).alloc (.cells Try.zeroCells62 62)).heap.size = w.heap.size + 1 + 1 := by rw [sz1, sz1]
  rw [sz1] at bz
  go_cut [6] (fun m wx => ∃ M B, m = .pointer (some ⟨M, 0, none⟩) ∧ RMade w wx M B entry (upV (upV n + S)) #[.int .i64 entry, .slice A n c] (List.replicate (upV (upV n + S)) 0))
  case first =>
    clear i0 i1 bI
    generalize (w.alloc (.cells #[.int .i64 entry, .slice A n c] 38)).alloc (.cells Try.zeroCells62 62) = W at *
    have lq : w.heap.size < W.heap.size := by omega
    have i0 : W.cell? ⟨w.heap.size, 0, none⟩ = some (.int .i64 entry) := bx.cell 0
    have i1 : W.cell? ⟨w.heap.size, 1, none⟩ = some (.slice A n c) := bx.cell 1
    generalize hq : w.heap.size = q at *
    replace hq := Aside.mk hq
    replace sW := Aside.mk sW
    replace bx := Aside.mk bx
    replace bz := Aside.mk bz
    replace kW := Aside.mk kW
    have e64 : IntKind.i64.wrap ((upV n : Int) + S) = (upV n : Int) + S := IntWalk.i64_in _ (by omega)
    have et : ((upV n : Int) + S).toNat = upV n + S := by omega
    have e32 : IntKind.u32.wrap entry = entry := by rw [IntKind.wrap_u32]; omega
    have n1 := Blk.new (W.alloc (.cells (memC (List.replicate (upV (upV n + S)) 0)) 5)) Try.zeroCells62 62
    rw [sz1] at n1
    obtain ⟨W3, s3, b3, m3⟩ := st_mid (P := Try.prog) (n1.kp (Kp.refl _).drew) (rList Try.zeroCells62 entry (upV (upV n + S)) W.heap.size) (rList_len _ _ _) (rList_one _ _ _)
    obtain ⟨W4, s4, b4, m4⟩ := st_mid (P := Try.prog) (((Blk.new W Try.zeroCells62 62).alloc (.cells (memC (List.replicate (upV (upV n + S)) 0)) 5)).kp (Kp.refl _).drew) (rList Try.zeroCells62 entry (upV (upV n + S)) (W.heap.size + 1)) (rList_len _ _ _) (rList_one _ _ _)
    have j3 : W3.cell? ⟨q, 0, none⟩ = some (.int .i64 entry) ∧ W3.cell? ⟨q, 1, none⟩ = some (.slice A n c) := ⟨mod_cell m3 (by show ¬(q = _); omega) (kp_cell (((Kp.refl W).alloc _).alloc _).drew i0), mod_cell m3 (by show ¬(q = _); omega) (kp_cell (((Kp.refl W).alloc _).alloc _).drew i1)⟩
    have j4 : W4.cell? ⟨q, 0, none⟩ = some (.int .i64 entry) ∧ W4.cell? ⟨q, 1, none⟩ = some (.slice A n c) := ⟨mod_cell m4 (by show ¬(q = _); omega) (kp_cell (((Kp.refl W).alloc _).alloc _).drew i0), mod_cell m4 (by show ¬(q = _); omega) (kp_cell (((Kp.refl W).alloc _).alloc _).drew i1)⟩
    replace j3 := Aside.mk j3
    replace j4 := Aside.mk j4
    rw [rList_ref] at b3 b4
    unfold rList at s3 s4
    replace b3 := Aside.mk b3
    replace b4 := Aside.mk b4
    replace m3 := Aside.mk m3
    replace m4 := Aside.mk m4
    replace n1 := Aside.mk n1
    go_region_held3 (fun w' => w'.cell? ⟨q, 0, none⟩ = some (.int .i64 entry) ∧ w'.cell? ⟨q, 1, none⟩ = some (.slice A n c)) (first | (go_keep; done) | exact j3.out | exact j4.out | exact ⟨kp_cell ((Kp.refl W).drew.alloc _) i0, kp_cell ((Kp.refl W).drew.alloc _) i1⟩) (first | ((go_at_call 30); ((with_reducible refine Calls.mono (rup_any _ (by omega) (by omega) _) ?_)); (rintro e w1 ⟨rfl, rfl⟩)))
    all_goals
      go_wp2_with fail
      go_meet
      first
        | exact ⟨_, _, rfl, made_r hq.out sW.out kW.out (((Kp.refl W).alloc _).alloc _).drew m3.out b3.out (((Blk.new W _ _).alloc _).kp (Kp.refl _).drew) (Nat.le_succ _) (Nat.le_refl _) (Nat.succ_ne_self _) bx.out bz.out⟩
        | exact ⟨_, _, rfl, made_r hq.out sW.out kW.out (((Kp.refl W).alloc _).alloc _).drew m4.out b4.out (by have h := Blk.new (W.alloc (.cells Try.zeroCells62 62)) (memC (List.replicate (upV (upV n + S)) 0)) 5; rw [sz1] at h; exact h.kp (Kp.refl _).drew) (Nat.le_refl _) (Nat.le_succ _) (fun e => Nat.succ_ne_self _ e.symm) bx.out bz.out⟩
  case rest =>
    clear bx bz kW sW i0 i1 bI hmk
    obtain ⟨M, B, rfl, hR⟩ := hcut
    have lM := hR.m.lt
    have lB := hR.b.lt
    have i1 : wc.cell? ⟨w.heap.size, 1, none⟩ = some (.slice A n c) := hR.im.cell 1
    have lq := hR.im.lt
    replace hR := Aside.mk hR
    go_wp2_with fail
    go_loopw [50] (fun i wr => ∃ k : Nat, k ≤ n ∧ i = .int .i64 k ∧ RMade w wr M B entry (upV (upV n + S)) #[.int .i64 entry, .slice A n c] (loadM (l.take k) (upV (upV n + S)))) (fun i _ => n - (intOf i).toNat)
    case atStart => exact ⟨0, Nat.zero_le _, rfl, by have := hR.out; simpa [loadM] using this⟩
    case round =>
      clear i1 lM lB lq hR
      obtain ⟨k, hk, rfl, hR⟩ := hrel
      have lM := hR.m.lt
      have lB := hR.b.lt
      have lq := hR.im.lt
      have i1 : wr.cell? ⟨w.heap.size, 1, none⟩ = some (.slice A n c) := hR.im.cell 1
      have m0 : wr.cell? ⟨M, 0, none⟩ = some (.slice (some ⟨B, 0, none⟩) (upV (upV n + S)) (upV (upV n + S))) := (hR.m.cell 0).trans (by simp [MS.ref, MS.refL, MS.head, zeroS])
      by_cases hlt : k < n
      · have hl := hnl.out
        obtain ⟨I, off, rfl, hI, hc⟩ := (hA.out.kp hR.kp).at_ (by intro e; rw [e] at hl; simp at hl; omega)
        have c1 := hc k (by omega)
        have hlm : (loadM (l.take k) (upV (upV n + S))).length = upV (upV n + S) := loadM_length _ _ (by rw [List.length_take]; omega)
        have c2 := (hR.b.cell k).trans (memC_at _ k (by omega))
        have f2 := hR.b.frozen k
        have hset : Aside ((loadM (l.take k) (upV (upV n + S))).set k (l.getD k 0) = loadM (l.take (k + 1)) (upV (upV n + S))) := ⟨loadM_step l _ k (by omega) (by omega)⟩
        have bw : 0 ≤ l.getD k 0 ∧ l.getD k 0 ≤ 255 := byte_getD hA.out.byte k
        have hkt : k < upV (upV n + S) := by omega
        generalize l.getD k 0 = b at *
        generalize (loadM (l.take k) (upV (upV n + S))).getD k 0 = b0 at *
        replace hR := Aside.mk hR
        replace hlm := Aside.mk hlm
        replace hc := Aside.mk hc
        clear hl
        go_upto_region 7 with fail
        go_region
        go_wp2_with fail
        go_roundw
        case rel =>
          exact ⟨k + 1, by omega, by go_num, hR.out.step hset.out⟩
        case measure => simp [intOf]; omega
      · obtain rfl : k = n := by omega
        have hl := hnl.out
        rw [List.take_of_length_le (by omega)] at hR
        have zk := zeroS_ok he ht
        have c3 : wr.cell? ⟨M, 3, none⟩ = some (.int .u32 0) := (hR.m.cell 3).trans (ref_x zk (r := 2) (by decide))
        have c28 : wr.cell? ⟨M, 28, none⟩ = some (.int .u32 0) := (hR.m.cell 28).trans (ref_x zk (r := 27) (by decide))
        have f3 := hR.m.frozen 3
        have f28 := hR.m.frozen 28
        have nqM : M ≠ w.heap.size := by have := hR.gm; omega
        have done := hR.fin (floor := upV k) (by omega)
        have i2 : (wr.setCell ⟨M, 3, none⟩ (.int .u32 (upV (upV k + S)))).cell? ⟨w.heap.size, 1, none⟩ = some (.slice A k c) := sc0 nqM i1
        have c29 : (wr.setCell ⟨M, 3, none⟩ (.int .u32 (upV (upV k + S)))).cell? ⟨M, 28, none⟩ = some (.int .u32 0) := sc0' (by decide) c28
        have f29 : (wr.setCell ⟨M, 3, none⟩ (.int .u32 (upV (upV k + S)))).frozen? ⟨M, 28, none⟩ = false := (hR.m.set (i := 3) _).frozen 28
        have lok := loadS_ok (floor := upV k) (top := upV (upV k + S)) he hA.out.byte (by omega) (by omega) ht
        have rl : ((loadS entry l (upV k) (upV (upV k + S))).refL B).length = 68 := by simp [MS.refL, lok.lx, lok.lf]
        have r1 : ∀ v ∈ (loadS entry l (upV k) (upV (upV k + S))).refL B, v.oneCell' = true := refL_one _ _
        replace hR := Aside.mk hR
        replace zk := Aside.mk zk
        replace lok := Aside.mk lok
        replace r1 := Aside.mk r1
        replace rl := Aside.mk rl
        replace done := Aside.mk done
        clear hl
        go_upto_region 11 with (first | ((go_at_call 30); ((with_reducible refine Calls.mono (rup_any _ (by omega) (by omega) _) ?_)); (rintro e w1 ⟨rfl, rfl⟩)))
        clear i2 c29 f29 c3 c28 f3 f28 i1 m0 lM lB lq
        generalize ((wr.setCell ⟨M, 3, none⟩ (.int .u32 (upV (upV k + S)))).setCell ⟨M, 28, none⟩ (.int .u32 (upV k))) = V at done ⊢
        go_wp2_with (first
          | (refine wpList_load_mid rfl 62 (.tmp 6) rfl M 0 rfl ((loadS entry l (upV k) (upV (upV k + S))).refL B) _ (Blk.range (cs := (loadS entry l (upV k) (upV (upV k + S))).refL B) done.out.m) Try.underlying62 rfl (by rw [rl.out]; kernel_rfl) ?_)
          | (refine wpList_store_blk rfl 62 (.tmp 4) (.tmp 76) rfl (w.heap.size + 1) ((loadS entry l (upV k) (upV (upV k + S))).refL B).toArray rfl rfl (by rw [List.size_toArray, rl.out]; kernel_rfl) (all_oneCell_toArray r1.out) Try.zeroCells62 62 done.out.z (by rw [List.size_toArray, rl.out]; rfl) ?_; intro W1 hB1 hM1; have zq := Aside.mk (And.intro hB1 hM1); clear hB1 hM1))
        refine bodyPost_ret (results_cell_tmp_row rfl _ _ (w.heap.size + 1) _ _ _ rfl zq.out.1 Try.underlying62 (by rw [List.size_toArray, rl.out]; kernel_rfl)) rfl ?_
        exact ⟨B, rfl, done.out.gb, (done.out.kp.mod (S := fun k => k = w.heap.size + 1) |>.trans zq.out.2).toKp (fun k e => by have : k = w.heap.size + 1 := e; omega), zq.out.2.blk done.out.b done.out.ne⟩
end Go.Proofs.Ytgcihcgclmdolaa
namespace Go.Proofs.Ytgcihcgclmdolaa
open Go.RowKit Go.Maps Go.Proofs.Ytgcihcgclmdolaa.PC Go.Proofs.Ytgcihcgclmdolaa.PW
set_option linter.unusedVariables false
set_option linter.unusedSimpArgs false
set_option maxHeartbeats 1000000 in
theorem Real_dr {w : World} {M B K N : Nat} {s : MS} (hm : Mac w M B K s N) (r : Nat) (hr : r < 32) : Calls Try.prog 16 #[.pointer (some ⟨M, 0, none⟩), .int .i64 r] w fun e w' => e = .returned (.int .u64 (s.f.getD r 0)) ∧ Dr w w' := by
  have hc := hm.cf hr
  have hl := hm.m.lt
  obtain ⟨q, hq⟩ : ∃ q, Aside (s.f.getD r 0 = q) := ⟨_, ⟨rfl⟩⟩
  rw [hq.out] at hc ⊢
  replace hm := Aside.mk hm
  go_enter Try.func16, Try.ntmps16
  go_wp2_with fail
  all_goals go_ret
  all_goals exact ⟨rfl, by repeat (first | exact Dr.refl _ | assumption | refine Dr.step ?_ _ | refine Dr.trans ?_ (by assumption))⟩
set_option maxHeartbeats 1000000 in
theorem Real_bad {w : World} (p : Value) (r : Int) (hr : r < 0 ∨ 31 < r) : Calls Try.prog 16 #[p, .int .i64 r] w fun e w' => e = .returned (.int .u64 0) ∧ Dr w w' := by
  by_cases h : r < 0
  · clear hr
    go_enter Try.func16, Try.ntmps16
    go_wp2_with fail
    all_goals go_ret
    all_goals exact ⟨rfl, by repeat (first | exact Dr.refl _ | assumption | refine Dr.step ?_ _ | refine Dr.trans ?_ (by assumption))⟩
  · have h2 : 31 < r := by omega
    clear hr
    go_enter Try.func16, Try.ntmps16
    go_wp2_with fail
    all_goals go_ret
    all_goals exact ⟨rfl, by repeat (first | exact Dr.refl _ | assumption | refine Dr.step ?_ _ | refine Dr.trans ?_ (by assumption))⟩
set_option maxRecDepth 100000 in
set_option maxHeartbeats 2000000 in
theorem Tells_calls {w : World} {M B K N B' : Nat} {s : MS} (hm : Mac w M B K s N) (hb : Blk w B' (memC s.mem) 5) :
    Calls Try.prog 21 #[.pointer (some ⟨M, 0, none⟩), .agg (s.ref B')] w fun e w' => e = .returned (.bool true) ∧ Kp w w' := by
  have hl := hm.ok.lm
  have bx := Aside.mk (Blk.new w (s.ref B') 62)
  have hbl := hb.lt
  have hMl := hm.m.lt
  obtain ⟨rc, hrc⟩ : ∃ rc, Aside (s.ref B' = rc) := ⟨_, ⟨rfl⟩⟩
  rw [hrc.out] at bx ⊢
  replace hm := Aside.mk hm
  replace hb := Aside.mk hb
  go_enter Try.func21, Try.ntmps21
  go_wp2_with fail
  go_loopw [5] (fun i wr => ∃ k : Nat, k ≤ 32 ∧ i = .int .i64 k ∧ Kp (w.alloc (.cells rc 62)) wr) (fun i _ => 32 - (intOf i).toNat)
  case atStart => exact ⟨0, by decide, rfl, Kp.refl _⟩
  case round =>
    obtain ⟨k, hk, rfl, kr⟩ := hrel
    have kw : Kp w wr := ((Kp.refl w).alloc _).trans kr
    have bw := bx.out.kp kr
    by_cases hlt : k < 32
    · have c1 : wr.cell? ⟨w.heap.size, 1 + k, none⟩ = some (.int .u32 (s.x.getD k 0)) := (bw.cell _).trans (by rw [← hrc.out]; exact ref_x hm.out.ok hlt)
      have c2 : wr.cell? ⟨w.heap.size, 33 + k, none⟩ = some (.int .u64 (s.f.getD k 0)) := (bw.cell _).trans (by rw [← hrc.out]; exact ref_f hm.out.ok hlt)
      have wc := fun n => Word_dr ((hm.out.kp kw).kp ((Kp.refl wr).drewN n)) k hlt
      have rc' := fun n => Real_dr ((hm.out.kp kw).kp ((Kp.refl wr).drewN n)) k hlt
      have ux := getD_U hm.out.ok.ux k
      generalize s.x.getD k 0 = q at *
      generalize s.f.getD k 0 = q2 at *
      replace wc := Aside.mk wc
      replace rc' := Aside.mk rc'
      replace kr := Aside.mk kr
      replace bw := Aside.mk bw
      replace kw := Aside.mk kw
      replace ux := Aside.mk ux
      go_wp2_with fail
      go_quiet (first | ((go_at_call 15); exact quiet_dr (wc.out _)) | ((go_at_call 16); exact quiet_dr (rc'.out _)))
      go_wp2_with fail
      go_roundw
      case rel => exact ⟨k + 1, by omega, by go_num, kr.out.drewN _⟩
      case measure => simp [intOf]; omega
    · obtain rfl : k = 32 := by omega
      have c0 : wr.cell? ⟨w.heap.size, 0, none⟩ = some (.slice (some ⟨B', 0, none⟩) s.mem.length s.mem.length) := (bw.cell 0).trans (by rw [← hrc.out]; exact ref_0)
      have lx : w.heap.size < wr.heap.size := bw.lt
      replace bw := Aside.mk bw
      replace kr := Aside.mk kr
      replace kw := Aside.mk kw
      have mb := Aside.mk (mBytes_at (hm.out.kp kw.out) 0 s.mem.length 0 s.mem.length rfl rfl (by omega))
      go_wp2_with fail
      refine Calls.mono mb.out ?_
      rintro e w2 ⟨A2, n2, m2, rfl, k2, hr2⟩
      rw [List.drop_zero, List.take_length] at hr2
      replace hr2 := Aside.mk hr2
      have kw2 : Aside (Kp w w2) := ⟨kw.out.trans k2⟩
      have bw2 := Aside.mk (bw.out.kp k2)
      clear mb c0 bw kw kr k2 lx
      have c0 : w2.cell? ⟨w.heap.size, 0, none⟩ = some (.slice (some ⟨B', 0, none⟩) s.mem.length s.mem.length) := (bw2.out.cell 0).trans (by rw [← hrc.out]; exact ref_0)
      have mb := Aside.mk (mBytes_bad (hm.out.kp kw2.out) 0 (s.mem.length + 1) (by decide) (by omega) (by omega))
      go_wp2_with fail
      refine Calls.mono mb.out ?_
      rintro e w3 ⟨rfl, hd3⟩
      obtain ⟨d3, rfl⟩ := hd3.out
      clear hd3
      have mb2 := Aside.mk (mBytes_bad ((hm.out.kp kw2.out).kp ((Kp.refl w2).drewN d3)) (-1) 2 (by decide) (by decide) (by omega))
      go_wp2_with fail
      refine Calls.mono mb2.out ?_
      rintro e w4 ⟨rfl, hd4⟩
      obtain ⟨d4, rfl⟩ := hd4.out
      clear hd4 mb mb2
      go_wp2_with fail
      obtain ⟨V, hV⟩ : ∃ V, Aside ((w2.drewN d3).drewN d4 = V) := ⟨_, ⟨rfl⟩⟩
      have kV : Kp w2 V := by rw [← hV.out]; exact ((Kp.refl w2).drewN _).drewN _
      first | rw [hV.out] | (rw [World.drewN_drewN] at hV; rw [hV.out])
      have q0 : V.cell? ⟨w.heap.size, 0, none⟩ = some (.slice (some ⟨B', 0, none⟩) s.mem.length s.mem.length) := kp_cell kV c0
      have q65 : V.cell? ⟨w.heap.size, 65, none⟩ = some (.int .u32 s.pc) := kp_cell kV ((bw2.out.cell 65).trans (by rw [← hrc.out]; exact ref_pc hm.out.ok))
      have v1 := fun n => conv_row hr2.out (kV.drewN n)
      have v2 := fun n => conv_blk hb.out ((kw2.out.trans kV).drewN n) s.mem.length s.mem.length rfl
      have pd := fun n => Place_dr (hm.out.kp ((kw2.out.trans kV).drewN n))
      generalize s.pc = pc at *
      generalize strOfNums s.mem = txt at *
      replace pd := Aside.mk pd
      replace kV := Aside.mk kV
      clear c0
      go_quiet (first | ((go_at_call 18); exact quiet_dr (pd.out _)) | ((go_at_call 15); exact quiet_dr (Word_bad _ _ (by decide))) | ((go_at_call 16); exact quiet_dr (Real_bad _ _ (by decide))))
      go_wp2_with fail
      go_ret
      exact ⟨rfl, (kw2.out.trans kV.out).drewN _⟩
end Go.Proofs.Ytgcihcgclmdolaa
namespace Go.Proofs.Ytgcihcgclmdolaa
open Go.RowKit Go.Maps Go.Proofs.Ytgcihcgclmdolaa.PC Go.Proofs.Ytgcihcgclmdolaa.PW
set_option linter.unusedVariables false
set_option linter.unusedSimpArgs false
section
variable {P : Program} {ops : Array Oper} {rest : List Oper} {o : Oper} {a : Act} {w : World} {K : Act → World → Prop} {Q : Exit → Act → World → Prop}
/-- A whole slice behind a row of the call's own, in a plain region. -/
theorem wpList_app (hgd : o.guard = none) (s x : Operand) (t : TypeId) (ho : o.op = .call { callee := .builtin .append, args := #[s, x], argTypes := #[t, t] })
    (base : Nat) (e : TypeId) (size bytes : Nat) (ht : P.underlying t = some (.slice e)) (hinfo : ∃ i z, P.info? e = some i ∧ i.zero = some z ∧ i.size = size ∧ i.bytes = bytes ∧ z.cells.size = size) (hsz : 0 < size)
    (v : Value) (n : Nat) (xs : List Value) (hs : a.eval s = v) (hown : w.ownsRow base e size v n xs)
    (A : Option Addr) (m c : Nat) (news : List Value) (hx : a.eval x = .slice A m c) (hA : A = none → m = 0 ∧ c = 0) (hl : news.length = m * size) (hnews : ∀ ad, A = some ad → ∀ j u, news[j]? = some u → w.cell? (ad.add j) = some u) (h1 : ∀ u ∈ news, u.oneCell' = true)
    (hbytes : (n + m) * bytes ≤ 140737488355328) (hmax : n + m ≤ 140737488355328) (hbase : base ≤ w.heap.size)
    (h : ∀ v' w', w'.ownsRow base e size v' (n + m) (xs ++ news) → w.grownBy w' v.ownBlock → wpList P ops Q rest (a.put o.dst v') w') : wpList P ops Q (o :: rest) a w := by
  obtain ⟨i, z, hi, hz, hsize, hby, hzs⟩ := hinfo
  cases A with
  | some ad => exact wpList_append_own w hgd s x t ho base e i z size bytes ht hi hz hsize hby hzs hsz v n xs hs hown ad m c news hx hl (hnews ad rfl) h1 (by unfold maxLen; omega) hbytes hbase (fun v' w' g1 g2 _ => h v' w' g1 g2)
  | none =>
    obtain ⟨rfl, rfl⟩ := hA rfl
    obtain rfl : news = [] := List.eq_nil_of_length_eq_zero (by simpa using hl)
    have hrun := run_append_owned_none (P := P) (w := w) base t o.type e i size ht hi v n xs hown
    refine wpList_plain hgd fun K hK => ?_
    unfold Oper.wp
    simp [execOp, ho, resolve, invoke, builtin, hs, hx, hrun, Result.andThen]
    exact hK _ _ (h v w (by simpa using hown) ⟨rfl, rfl, rfl, Nat.le_refl _, fun _ _ _ => rfl⟩)
/-- A whole block is loaded where a guard lets it. -/
theorem wpList_load_g (hw : Region.wanted o (yielded ops a.tmps) = true) (ty : TypeId) (x : Operand) (ho : o.op = .load ty x)
    (b : Nat) (hx : a.eval x = .pointer (some ⟨b, 0, none⟩)) (cs : List Value) (d : TypeDesc) (hc : w.rangeAt b 0 cs)
    (hu : P.underlying ty = some d) (hd : d.isRow = true) (hi : (P.info? ty).map (·.size) = some cs.length)
    (h : wpList P ops Q rest (a.put o.dst (.agg cs.toArray)) w) : wpList P ops Q (o :: rest) a w := by
  unfold wpList
  rw [if_pos hw]
  exact Or.inl (wp_load_mid ty x ho b 0 hx cs d hc hu hd hi h)
end
theorem row_form {w : World} {base : Nat} {v : Value} {l : List Int} (h : rowBy w base v l) : ∃ A c, v = .slice A l.length c ∧ (A = none → l = [] ∧ c = 0) ∧ (l ≠ [] → ∃ g, A = some ⟨g, 0, none⟩) := by
  rcases h.2 with ⟨h1, h2⟩ | ⟨g, cap, cur, h1, _⟩
  · have : l = [] := List.eq_nil_of_length_eq_zero h2
    subst this
    exact ⟨_, _, h1, fun _ => ⟨rfl, rfl⟩, fun hne => absurd rfl hne⟩
  · exact ⟨_, _, h1, (fun e => by cases e), fun _ => ⟨g, rfl⟩⟩
theorem InB.none {w : World} {c : Nat} {l : List Int} (h : InB w Option.none c l) : l = [] := by
  by_cases e : l = []
  · exact e
  · obtain ⟨I, off, e2, _⟩ := h.at_ e
    cases e2
set_option maxRecDepth 100000 in
set_option maxHeartbeats 1000000 in
theorem loads_long {w : World} {A : Option Addr} {n c : Nat} (entry stack : Int) (hn : 3000 < n) (hn2 : n ≤ 9223372036854775807) : Calls Try.prog 7 #[.agg #[.int .i64 entry, .slice A n c], .int .i64 stack] w fun e w' => e = .returned (.bool true) ∧ Kp w w' := by
  have bI := Aside.mk (Blk.new w #[.int .i64 entry, .slice A n c] 38)
  have kI : Aside (Kp w (w.alloc (.cells #[.int .i64 entry, .slice A n c] 38))) := ⟨(Kp.refl w).alloc _⟩
  go_enter Try.func7, Try.ntmps7
  go_wp2_with fail
  refine Calls.mono (awake04_calls _) ?_
  rintro e w1 ⟨rfl, k1⟩
  have i1 : w1.cell? ⟨w.heap.size, 1, none⟩ = some (.slice A n c) := (bI.out.kp k1).cell 1
  have lq := (bI.out.kp k1).lt
  replace kI : Aside (Kp w w1) := ⟨kI.out.trans k1⟩
  clear k1
  go_wp2_with fail
  refine Calls.mono (awake04_calls _) ?_
  rintro e w2 ⟨rfl, k2⟩
  go_wp2_with fail
  go_ret
  exact ⟨rfl, kI.out.trans k2⟩
/-- Own bytes, of which each is raised. -/
def Raised (w0 wr : World) (base : Nat) (v : Value) (n : Nat) : Prop := Mod (fun j => v.ownBlock = some j) w0 wr ∧ ∃ l', l'.length = n ∧ (∀ b ∈ l', Byte b) ∧ rowBy wr base v l'
theorem Raised.step {w0 wr : World} {base g n cap k : Nat} {l' : List Int} (h : Mod (fun j => (Value.slice (some ⟨g, 0, none⟩) n cap).ownBlock = some j) w0 wr) (hl : l'.length = n) (hb : ∀ b ∈ l', Byte b) (hr : rowBy wr base (.slice (some ⟨g, 0, none⟩) n cap) l') (b : Int) (hbb : Byte b) :
    Raised w0 (wr.setCell ⟨g, k, none⟩ (.int .u8 b)) base (.slice (some ⟨g, 0, none⟩) n cap) n := by
  subst hl
  refine ⟨h.setCell (p := ⟨g, k, none⟩) rfl _, l'.set k b, by simp, byte_set hb _ hbb, ?_⟩
  have := (World.ownsRow.stored hr k (.int .u8 b)).1
  unfold rowBy
  rw [List.length_set]
  have e : byV (l'.set k b) = (byV l').set k (.int .u8 b) := by simp [byV, List.map_set]
  rw [e]
  exact this
theorem row_block {w : World} {base : Nat} {v : Value} {l : List Int} (h : rowBy w base v l) : ∀ j, v.ownBlock = some j → base ≤ j ∧ j < w.heap.size := by
  intro j hj
  refine ⟨own_ge h j hj, ?_⟩
  rcases h.2 with ⟨h1, _⟩ | ⟨g, cap, cur, h1, _, h3, _⟩
  · rw [h1] at hj; cases hj
  · rw [h1] at hj
    have : g = j := by simpa [Value.ownBlock] using hj
    subst this
    exact (Array.getElem?_eq_some_iff.1 h3).1
set_option maxRecDepth 100000 in
set_option maxHeartbeats 4000000 in
theorem loads_good {w : World} {A : Option Addr} {c : Nat} {l : List Int} (hA : InB w A c l) (entry : Int) (stack : Nat) (hn : l.length ≤ 3000) (he : U entry) (hs : stack ≤ 2097152) (ht : upV (upV l.length + stack) ≤ 2097152) :
    Calls Try.prog 7 #[.agg #[.int .i64 entry, .slice A l.length c], .int .i64 stack] w fun e w' => e = .returned (.bool true) ∧ Kp w w' := by
  have lok := loadS_ok (floor := upV l.length) (top := upV (upV l.length + stack)) he hA.byte (by have := upV_le l.length; have := upV_le (upV l.length + stack); omega) (by have := upV_le l.length; omega) ht
  obtain ⟨n, hnl⟩ : ∃ n, Aside (l.length = n) := ⟨_, ⟨rfl⟩⟩
  have bI := Aside.mk (Blk.new w #[.int .i64 entry, .slice A n c] 38)
  have kI : Aside (Kp w (w.alloc (.cells #[.int .i64 entry, .slice A n c] 38))) := ⟨(Kp.refl w).alloc _⟩
  have lc := fun {W base v} (h : rowBy W base v l) => Load_calls entry stack h hA.byte he hs ht (by omega)
  have rl := fun {W} (k : Kp w W) => rLoad_ok (hA.kp k) entry stack hn he hs ht
  have cs1 : Aside (((loadS entry l (upV l.length) (upV (upV l.length + stack))).mem) = loadM l (upV (upV l.length + stack))) := ⟨rfl⟩
  rw [hnl.out] at hn ⊢ lok
  simp only [hnl.out] at lc rl cs1
  obtain ⟨s, hsd⟩ : ∃ s, Aside (loadS entry l (upV n) (upV (upV n + stack)) = s) := ⟨_, ⟨rfl⟩⟩
  simp only [hsd.out] at lc rl lok cs1
  have rlen : Aside ((s.refL 0).length = 68) := ⟨by simp [MS.refL, lok.lx, lok.lf]⟩
  have rlen2 : ∀ B, (s.refL B).length = 68 := fun B => rlen.out
  obtain ⟨sv, hsv⟩ : ∃ sv : Int, Aside ((stack : Int) = sv) := ⟨_, ⟨rfl⟩⟩
  simp only [hsv.out] at lc rl ⊢
  replace lok := Aside.mk lok
  have lc' := Aside.mk @lc
  have rl' := Aside.mk @rl
  clear lc rl
  replace hA := Aside.mk hA
  replace rlen2 := Aside.mk rlen2
  go_enter Try.func7, Try.ntmps7
  go_wp2_with fail
  refine Calls.mono (awake04_calls _) ?_
  rintro e w1 ⟨rfl, k1⟩
  have i0 : w1.cell? ⟨w.heap.size, 0, none⟩ = some (.int .i64 entry) := (bI.out.kp k1).cell 0
  have i1 : w1.cell? ⟨w.heap.size, 1, none⟩ = some (.slice A n c) := (bI.out.kp k1).cell 1
  have lq := (bI.out.kp k1).lt
  have hA1 := Aside.mk (hA.out.kp (kI.out.trans k1))
  have bI1 := Aside.mk (bI.out.kp k1)
  replace kI : Aside (Kp w w1) := ⟨kI.out.trans k1⟩
  have hle1 := Aside.mk kI.out.size
  clear k1 bI
  have ho := Aside.mk (World.ownsRow_lit (base := w1.heap.size) (e := 5) (size := 1) w1 #[] 0 (Nat.le_refl _) (by decide) rfl)
  have hAn : Aside (A = none → n = 0 ∧ c = 0) := ⟨fun e => by
    have h := hA1.out
    rw [e] at h
    have hl := h.none
    have h2 := hnl.out
    rw [hl] at h2
    exact ⟨h2.symm, h.nil rfl⟩⟩
  have hbl : Aside ((byV l).length = n * 1) := ⟨by rw [Nat.mul_one, ← hnl.out]; simp [byV]⟩
  have hnews : Aside (∀ ad, A = some ad → ∀ j u, (byV l)[j]? = some u → (w1.alloc (.cells #[] 5)).cell? (ad.add j) = some u) := ⟨by
    intro ad e j u hu
    have hj : j < l.length := by
      rcases Nat.lt_or_ge j l.length with h | h
      · exact h
      · rw [byV, List.getElem?_eq_none (by simpa using h)] at hu; cases hu
    obtain ⟨I, off, e2, hI, hc⟩ := hA1.out.at_ (fun e3 => by rw [e3] at hj; simp at hj)
    rw [e] at e2
    cases e2
    rw [addr_add, cell_kept w1 _ hI, hc j hj, ← hu, byV, List.getElem?_map, List.getD_eq_getElem?_getD, List.getElem?_eq_getElem hj]
    rfl⟩
  have h1c : Aside (∀ u ∈ byV l, u.oneCell' = true) := ⟨by simp [byV, Value.oneCell']⟩
  go_upto_region 4 with ((at_builtin); (refine wpList_app rfl (.tmp 20) (.tmp 22) 35 rfl w1.heap.size 5 1 1 Try.underlying35 info_u8 (by decide) (.slice (some ⟨w1.heap.size, 0, none⟩) 0 0) 0 [] rfl ho.out A n c (byV l) rfl hAn.out hbl.out hnews.out h1c.out (by omega) (by omega) (by simp) ?_); (intro v5 w5 hown hg))
  have hr5 : rowBy w5 w1.heap.size v5 l := by
    unfold rowBy
    rw [hnl.out]
    simpa using hown
  have k5 : Kp w1 w5 := ((Kp.refl w1).alloc _).grown hg (own_ge ho.out)
  obtain ⟨A5, c5, hv5, -⟩ := row_form hr5
  rw [hnl.out] at hv5
  subst hv5
  have hbk := Aside.mk (row_block hr5)
  replace hr5 := Aside.mk hr5
  replace kI : Aside (Kp w w5) := ⟨kI.out.trans k5⟩
  have bI5 := Aside.mk (bI1.out.kp k5)
  have s5 := k5.size
  clear hown hg hA1 hnews ho i0 i1 lq bI1 k5
  have i0 : w5.cell? ⟨w.heap.size, 0, none⟩ = some (.int .i64 entry) := bI5.out.cell 0
  have i1 : w5.cell? ⟨w.heap.size, 1, none⟩ = some (.slice A n c) := bI5.out.cell 1
  have lq := bI5.out.lt
  go_wp2_with fail
  refine Calls.mono (lc'.out hr5.out) ?_
  rintro e w6 ⟨M, B, K, rfl, ⟨gM, gB, gK⟩, k6, hm⟩
  have lM := hm.m.lt
  have lB := hm.b.lt
  have lK := hm.kl
  replace hm := Aside.mk hm
  replace kI : Aside (Kp w w6) := ⟨kI.out.trans k6⟩
  have bI6 := Aside.mk (bI5.out.kp k6)
  have r6 : Aside (rowBy w6 w1.heap.size (.slice A5 n c5) l) := ⟨row_at hr5.out (fun j hj hl => k6.block hl)⟩
  clear i0 i1 lq bI5 k6 hr5
  have i0 : w6.cell? ⟨w.heap.size, 0, none⟩ = some (.int .i64 entry) := bI6.out.cell 0
  have i1 : w6.cell? ⟨w.heap.size, 1, none⟩ = some (.slice A n c) := bI6.out.cell 1
  have lq := bI6.out.lt
  go_wp2_with fail
  refine Calls.mono (rl'.out kI.out) ?_
  rintro e w7 ⟨B', rfl, gB', k7, hb'⟩
  have l7 : w7.heap.size < (w7.alloc (.cells Try.zeroCells62 62)).heap.size := by rw [sz1]; omega
  have bn := Aside.mk (Blk.new w7 Try.zeroCells62 62)
  replace kI : Aside (Kp w w7) := ⟨kI.out.trans k7⟩
  have hm7 := Aside.mk (hm.out.kp k7)
  have r7 : Aside (rowBy w7 w1.heap.size (.slice A5 n c5) l) := ⟨row_at r6.out (fun j hj hl => k7.block hl)⟩
  have s7 := k7.size
  have one := Aside.mk (refL_one s B')
  have rl3 := Aside.mk (rlen2.out B')
  replace hb' := Aside.mk hb'
  clear i0 i1 lq bI6 k7 hm r6
  go_wp2_with (refine wpList_store_blk (op := ⟨none, .store 62 (.tmp 8) (.tmp 37), _, _, _, none⟩) rfl 62 (.tmp 8) (.tmp 37) rfl w7.heap.size (s.refL B').toArray rfl rfl (by rw [List.size_toArray, rl3.out]; kernel_rfl) (all_oneCell_toArray one.out) Try.zeroCells62 62 bn.out (by rw [List.size_toArray, rl3.out]; rfl) ?_; intro w8 hB8 hM8; have b8 := Aside.mk hB8; have m8 := Aside.mk (((Kp.refl w7).alloc (.cells Try.zeroCells62 62)).mod.trans hM8); clear hB8 hM8)
  have k8 : Kp w7 w8 := m8.out.toKp (fun k e => by have : k = w7.heap.size := e; omega)
  have r8 : Aside (rowBy w8 w1.heap.size (.slice A5 n c5) l) := ⟨row_at r7.out (fun j hj hl => k8.block hl)⟩
  have hm8 := Aside.mk (hm7.out.kp k8)
  have hb8 := Aside.mk (hb'.out.kp k8)
  replace kI : Aside (Kp w w8) := ⟨kI.out.trans k8⟩
  have l8 := k8.size
  clear hm7 r7 bn hb'
  replace k8 := Aside.mk k8
  go_loopw [60] (fun i wr => ∃ k : Nat, k ≤ n ∧ i = .int .i64 k ∧ Raised w8 wr w1.heap.size (.slice A5 n c5) n) (fun i _ => n - (intOf i).toNat)
  case atStart => exact ⟨0, Nat.zero_le _, rfl, Mod.refl _ _, l, hnl.out, hA.out.byte, r8.out⟩
  case round =>
    obtain ⟨k, hk, rfl, hmod, l', hl', hb', hr'⟩ := hrel
    by_cases hlt : k < n
    · obtain ⟨A', c', e1, -, e2⟩ := row_form hr'
      obtain ⟨g, rfl⟩ := e2 (fun e3 => by rw [e3] at hl'; simp at hl'; omega)
      injection e1 with e1 e4 e5
      subst e1 e5
      have cg : wr.cell? ⟨g, k, none⟩ = some (.int .u8 (l'.getD k 0)) := (World.ownsRow.cellAt (by have h := hr'; unfold rowBy at h; rw [hl'] at h; exact h) k (by omega)).trans (by simp [byV, List.getD_eq_getElem?_getD, show k < l'.length by omega])
      have fg : wr.frozen? ⟨g, k, none⟩ = false := World.ownsRow.frozenAt (by have h := hr'; unfold rowBy at h; rw [hl'] at h; exact h) k
      have st := Raised.step (k := k) hmod hl' hb' hr' ((l'.getD k 0 + 1) % 256) (byte_mod _)
      have bd := byte_getD hb' k
      unfold Byte at bd
      generalize l'.getD k 0 = b at *
      replace hmod := Aside.mk hmod
      replace hl' := Aside.mk hl'
      replace hb' := Aside.mk hb'
      replace hr' := Aside.mk hr'
      replace st := Aside.mk st
      have cc : n ≤ c5 := by
        rcases hr'.out.2 with ⟨h1, _⟩ | ⟨g1, cap1, cur1, h1, _, _, h4, _⟩
        · cases h1
        · injection h1 with q1 q2 q3
          have := hl'.out
          omega
      go_wp2_with fail
      go_roundw
      case rel =>
        exact ⟨k + 1, by omega, by go_num, st.out⟩
      case measure => simp [intOf]; omega
    · obtain rfl : k = n := by omega
      have q8 : ∀ j, ((Value.slice A5 k c5).ownBlock = some j) → w.heap.size ≤ j ∧ j < w5.heap.size := fun j hj => by
        have h1 := hbk.out j hj
        have h2 := kI.out.size
        have h3 := hle1.out
        omega
      have q9 : ∀ j, w5.heap.size ≤ j → ¬((Value.slice A5 k c5).ownBlock = some j) := fun j hj e => by have := (q8 j e).2; omega
      have hmr := Aside.mk (hm8.out.keep hmod (q9 _ gM) (q9 _ gB) (q9 _ gK))
      have b8r := Aside.mk (hmod.blk b8.out (q9 _ (by omega)))
      have hbr := hmod.blk hb8.out (q9 _ (by omega))
      rw [← cs1.out] at hbr
      replace hbr := Aside.mk hbr
      have kr : Aside (Kp w wr) := ⟨(kI.out.mod (S := fun _ => False) |>.behind hmod (fun j hj => Or.inr (q8 j hj).1)).toKp (fun j e => e.elim)⟩
      clear hmod q8 q9
      go_wp2_with (first
        | (refine wpList_load_g (o := ⟨some 74, .load 62 (.tmp 8), _, _, _, some (2, false)⟩) rfl 62 (.tmp 8) rfl w7.heap.size rfl (s.refL B') _ (Blk.range b8r.out) Try.underlying62 rfl (by rw [rl3.out]; kernel_rfl) ?_)
        | ((go_at_call 21); (refine Calls.mono (Tells_calls hmr.out hbr.out) ?_); (rintro e w9 ⟨rfl, k9⟩)))
      go_ret
      exact ⟨rfl, kr.out.trans k9⟩
end Go.Proofs.Ytgcihcgclmdolaa
namespace Go.Proofs.Ytgcihcgclmdolaa
open Go.RowKit Go.Maps Go.Proofs.Ytgcihcgclmdolaa.PC Go.Proofs.Ytgcihcgclmdolaa.PW
set_option linter.unusedVariables false
set_option linter.unusedSimpArgs false
set_option maxRecDepth 100000 in
set_option maxHeartbeats 4000000 in
theorem loads_bad {w : World} {A : Option Addr} {c : Nat} {l : List Int} (hA : InB w A c l) (entry sv : Int) (hn : l.length ≤ 3000) (hbad : badL entry sv l.length) :
    Calls Try.prog 7 #[.agg #[.int .i64 entry, .slice A l.length c], .int .i64 sv] w fun e w' => e = .returned (.bool true) ∧ Kp w w' := by
  obtain ⟨n, hnl⟩ : ∃ n, Aside (l.length = n) := ⟨_, ⟨rfl⟩⟩
  have bI := Aside.mk (Blk.new w #[.int .i64 entry, .slice A n c] 38)
  have kI : Aside (Kp w (w.alloc (.cells #[.int .i64 entry, .slice A n c] 38))) := ⟨(Kp.refl w).alloc _⟩
  rw [hnl.out] at hn hbad ⊢
  have lc := fun W B d => Load_err (w := W) (A := B) (c := d) entry sv hn hbad
  have rl := fun W B d => rLoad_bad (w := W) (A := B) (c := d) entry sv hn hbad
  replace lc := Aside.mk lc
  replace rl := Aside.mk rl
  replace hbad := Aside.mk hbad
  replace hA := Aside.mk hA
  go_enter Try.func7, Try.ntmps7
  go_wp2_with fail
  refine Calls.mono (awake04_calls _) ?_
  rintro e w1 ⟨rfl, k1⟩
  have i0 : w1.cell? ⟨w.heap.size, 0, none⟩ = some (.int .i64 entry) := (bI.out.kp k1).cell 0
  have i1 : w1.cell? ⟨w.heap.size, 1, none⟩ = some (.slice A n c) := (bI.out.kp k1).cell 1
  have lq := (bI.out.kp k1).lt
  have hA1 := Aside.mk (hA.out.kp (kI.out.trans k1))
  have bI1 := Aside.mk (bI.out.kp k1)
  replace kI : Aside (Kp w w1) := ⟨kI.out.trans k1⟩
  have hle1 := Aside.mk kI.out.size
  clear k1 bI
  have ho := Aside.mk (World.ownsRow_lit (base := w1.heap.size) (e := 5) (size := 1) w1 #[] 0 (Nat.le_refl _) (by decide) rfl)
  have hAn : Aside (A = none → n = 0 ∧ c = 0) := ⟨fun e => by
    have h := hA1.out
    rw [e] at h
    have hl := h.none
    have h2 := hnl.out
    rw [hl] at h2
    exact ⟨h2.symm, h.nil rfl⟩⟩
  have hbl : Aside ((byV l).length = n * 1) := ⟨by rw [Nat.mul_one, ← hnl.out]; simp [byV]⟩
  have hnews : Aside (∀ ad, A = some ad → ∀ j u, (byV l)[j]? = some u → (w1.alloc (.cells #[] 5)).cell? (ad.add j) = some u) := ⟨by
    intro ad e j u hu
    have hj : j < l.length := by
      rcases Nat.lt_or_ge j l.length with h | h
      · exact h
      · rw [byV, List.getElem?_eq_none (by simpa using h)] at hu; cases hu
    obtain ⟨I, off, e2, hI, hc⟩ := hA1.out.at_ (fun e3 => by rw [e3] at hj; simp at hj)
    rw [e] at e2
    cases e2
    rw [addr_add, cell_kept w1 _ hI, hc j hj, ← hu, byV, List.getElem?_map, List.getD_eq_getElem?_getD, List.getElem?_eq_getElem hj]
    rfl⟩
  have h1c : Aside (∀ u ∈ byV l, u.oneCell' = true) := ⟨by simp [byV, Value.oneCell']⟩
  go_upto_region 4 with ((at_builtin); (refine wpList_app rfl (.tmp 20) (.tmp 22) 35 rfl w1.heap.size 5 1 1 Try.underlying35 info_u8 (by decide) (.slice (some ⟨w1.heap.size, 0, none⟩) 0 0) 0 [] rfl ho.out A n c (byV l) rfl hAn.out hbl.out hnews.out h1c.out (by omega) (by omega) (by simp) ?_); (intro v5 w5 hown hg))
  have hr5 : rowBy w5 w1.heap.size v5 l := by
    unfold rowBy
    rw [hnl.out]
    simpa using hown
  have k5 : Kp w1 w5 := ((Kp.refl w1).alloc _).grown hg (own_ge ho.out)
  obtain ⟨A5, c5, hv5, -⟩ := row_form hr5
  rw [hnl.out] at hv5
  subst hv5
  have hbk := Aside.mk (row_block hr5)
  replace hr5 := Aside.mk hr5
  replace kI : Aside (Kp w w5) := ⟨kI.out.trans k5⟩
  have bI5 := Aside.mk (bI1.out.kp k5)
  have s5 := k5.size
  clear hown hg hA1 hnews ho i0 i1 lq bI1 k5
  have i0 : w5.cell? ⟨w.heap.size, 0, none⟩ = some (.int .i64 entry) := bI5.out.cell 0
  have i1 : w5.cell? ⟨w.heap.size, 1, none⟩ = some (.slice A n c) := bI5.out.cell 1
  have lq := bI5.out.lt
  go_wp2_with fail
  refine Calls.mono (lc.out _ _ _) ?_
  rintro e w6 ⟨rfl, k6⟩
  replace kI : Aside (Kp w w6) := ⟨kI.out.trans k6⟩
  have bI6 := Aside.mk (bI5.out.kp k6)
  have r6 : Aside (rowBy w6 w1.heap.size (.slice A5 n c5) l) := ⟨row_at hr5.out (fun j hj hl => k6.block hl)⟩
  clear i0 i1 lq bI5 k6 hr5
  have i0 : w6.cell? ⟨w.heap.size, 0, none⟩ = some (.int .i64 entry) := bI6.out.cell 0
  have i1 : w6.cell? ⟨w.heap.size, 1, none⟩ = some (.slice A n c) := bI6.out.cell 1
  have lq := bI6.out.lt
  go_wp2_with fail
  refine Calls.mono (rl.out _ _ _) ?_
  rintro e w7 ⟨rfl, k7⟩
  have l7 : w7.heap.size < (w7.alloc (.cells Try.zeroCells62 62)).heap.size := by rw [sz1]; omega
  have bn := Aside.mk (Blk.new w7 Try.zeroCells62 62)
  replace kI : Aside (Kp w w7) := ⟨kI.out.trans k7⟩
  have r7 : Aside (rowBy w7 w1.heap.size (.slice A5 n c5) l) := ⟨row_at r6.out (fun j hj hl => k7.block hl)⟩
  clear i0 i1 lq bI6 k7 r6
  go_wp2_with (refine wpList_store_blk (op := ⟨none, .store 62 (.tmp 8) (.tmp 37), _, _, _, none⟩) rfl 62 (.tmp 8) (.tmp 37) rfl w7.heap.size Try.zeroCells62 rfl rfl (by kernel_rfl) (by kernel_rfl) Try.zeroCells62 62 bn.out rfl ?_; intro w8 hB8 hM8; have m8 := Aside.mk (((Kp.refl w7).alloc (.cells Try.zeroCells62 62)).mod.trans hM8); clear hB8 hM8)
  have k8 : Kp w7 w8 := m8.out.toKp (fun k e => by have : k = w7.heap.size := e; omega)
  have r8 : Aside (rowBy w8 w1.heap.size (.slice A5 n c5) l) := ⟨row_at r7.out (fun j hj hl => k8.block hl)⟩
  replace kI : Aside (Kp w w8) := ⟨kI.out.trans k8⟩
  clear r7 bn
  replace k8 := Aside.mk k8
  go_loopw [60] (fun i wr => ∃ k : Nat, k ≤ n ∧ i = .int .i64 k ∧ Raised w8 wr w1.heap.size (.slice A5 n c5) n) (fun i _ => n - (intOf i).toNat)
  case atStart => exact ⟨0, Nat.zero_le _, rfl, Mod.refl _ _, l, hnl.out, hA.out.byte, r8.out⟩
  case round =>
    obtain ⟨k, hk, rfl, hmod, l', hl', hb', hr'⟩ := hrel
    by_cases hlt : k < n
    · obtain ⟨A', c', e1, -, e2⟩ := row_form hr'
      obtain ⟨g, rfl⟩ := e2 (fun e3 => by rw [e3] at hl'; simp at hl'; omega)
      injection e1 with e1 e4 e5
      subst e1 e5
      have cg : wr.cell? ⟨g, k, none⟩ = some (.int .u8 (l'.getD k 0)) := (World.ownsRow.cellAt (by have h := hr'; unfold rowBy at h; rw [hl'] at h; exact h) k (by omega)).trans (by simp [byV, List.getD_eq_getElem?_getD, show k < l'.length by omega])
      have fg : wr.frozen? ⟨g, k, none⟩ = false := World.ownsRow.frozenAt (by have h := hr'; unfold rowBy at h; rw [hl'] at h; exact h) k
      have st := Raised.step (k := k) hmod hl' hb' hr' ((l'.getD k 0 + 1) % 256) (byte_mod _)
      have bd := byte_getD hb' k
      unfold Byte at bd
      generalize l'.getD k 0 = b at *
      replace hmod := Aside.mk hmod
      replace hl' := Aside.mk hl'
      replace hb' := Aside.mk hb'
      replace hr' := Aside.mk hr'
      replace st := Aside.mk st
      have cc : n ≤ c5 := by
        rcases hr'.out.2 with ⟨h1, _⟩ | ⟨g1, cap1, cur1, h1, _, _, h4, _⟩
        · cases h1
        · injection h1 with q1 q2 q3
          have := hl'.out
          omega
      go_wp2_with fail
      go_roundw
      case rel =>
        exact ⟨k + 1, by omega, by go_num, st.out⟩
      case measure => simp [intOf]; omega
    · obtain rfl : k = n := by omega
      have q8 : ∀ j, ((Value.slice A5 k c5).ownBlock = some j) → w.heap.size ≤ j ∧ j < w5.heap.size := fun j hj => by
        have h1 := hbk.out j hj
        have h2 := kI.out.size
        have h3 := hle1.out
        omega
      have kr : Aside (Kp w wr) := ⟨(kI.out.mod (S := fun _ => False) |>.behind hmod (fun j hj => Or.inr (q8 j hj).1)).toKp (fun j e => e.elim)⟩
      clear hmod q8
      go_wp2_with fail
      go_ret
      exact ⟨rfl, kr.out⟩
section
open Go.WideShapes Go.Deep Go.ChangeShapes Go.Joins
variable {H : Type} {enc : TypeId × Value → H} {W : World} {base : Nat}
set_option maxRecDepth 100000 in
theorem bytes_open {n fuel : Nat} {v : Value} {d : DataW H × List MemPlace} {A : Option Addr} {c : Nat} (hv : v = .slice A n c) (h : DataW.trod enc Try.prog W 0 (fun _ => true) true fuel 35 [v] = some d) :
    ∃ l : List Int, n = l.length ∧ InB W A c l ∧ l.length ≤ 9223372036854775807 := by
  subst hv
  have hC1 : Try.prog.cellsOf 5 = 1 := by kernel_rfl
  rcases open_ints Try.underlying35 Try.underlying5 hC1 h with ⟨hcs, _⟩ | ⟨a, len, cap, zs, hcs, _, hl, hm, hz, _, hcell, hw⟩
  · simp at hcs
    obtain ⟨rfl, rfl, rfl⟩ := hcs
    exact ⟨[], rfl, ⟨Nat.le_refl _, fun _ => rfl, by simp, fun h => absurd rfl h⟩, by decide⟩
  · simp at hcs
    obtain ⟨rfl, rfl, rfl⟩ := hcs
    simp only [if_true] at hz
    have ll : (zs.take n).length = n := by rw [List.length_take]; omega
    refine ⟨zs.take n, ll.symm, ⟨by rw [ll]; exact hl, (fun e => by cases e), fun x hx => bounds_u8 (hw x (List.mem_of_mem_take hx)), fun hne => ?_⟩, by rw [ll]; unfold maxLen at hm; omega⟩
    have h0 : 0 < n := by
      rcases Nat.eq_zero_or_pos n with e | e
      · rw [e] at hne; simp at hne
      · exact e
    have hx := hcell 0 (by omega)
    rw [addr_add0] at hx
    obtain ⟨b, off, rfl, hlt⟩ := cell_some hx
    refine ⟨b, off, rfl, hlt, fun i hi => ?_⟩
    rw [ll] at hi
    have hc := hcell i (by omega)
    rw [addr_add] at hc
    rw [hc]
    simp [List.getD_eq_getElem?_getD, List.getElem?_take, hi]
set_option maxRecDepth 100000 in
theorem image_open {v : Value} {d : DataW H} {p : List MemPlace} (hv : Value.okWide Try.prog W .any base 38 v) (h : DataW.Trod enc Try.prog W 0 (fun _ => true) true 38 v d p) :
    ∃ entry A c l, v = .agg #[.int .i64 entry, .slice A l.length c] ∧ InB W A c l ∧ l.length ≤ 9223372036854775807 ∧ (-9223372036854775808 ≤ entry ∧ entry ≤ 9223372036854775807) := by
  obtain ⟨c0, c1, y0, y1, m2, rfl, _, _, q0, q1⟩ := open_agg2 Try.underlying38 (by kernel_rfl) (by kernel_rfl) hv h
  obtain ⟨r1, f0, _, u0⟩ := DataW.trod_int Try.underlying3 q0
  simp only [List.cons.injEq, and_true] at f0
  subst f0
  obtain ⟨A, n, c, e⟩ := slice_form Try.underlying35 q1
  simp only [List.cons.injEq, and_true] at e
  subst e
  obtain ⟨l, rfl, hi, hl⟩ := bytes_open rfl q1
  exact ⟨_, _, _, l, rfl, hi, hl, bounds_i64 u0⟩
set_option maxRecDepth 100000 in
theorem loads_law {v : Value} {d : DataW H} {p : List MemPlace} (hv : Value.okWide Try.prog W .any base 38 v) (h : DataW.Trod enc Try.prog W 0 (fun _ => true) true 38 v d p) (n : Int) (w1 : (Lit.int .i64 n).wf = true) :
    Calls Try.prog 7 #[v, .int .i64 n] W fun e w' => e = .returned (.bool true) ∧ Below W.heap.size W w' := by
  obtain ⟨entry, A, c, l, rfl, hi, hl, he⟩ := image_open hv h
  have hn := bounds_i64 w1
  refine Calls.mono (R := fun e w' => e = .returned (.bool true) ∧ Kp W w') ?_ (fun _ _ ⟨he, hk⟩ => ⟨he, hk.out⟩)
  by_cases h1 : 3000 < l.length
  · exact loads_long entry n h1 hl
  by_cases h2 : badL entry n l.length
  · exact loads_bad hi entry n (by omega) h2
  · unfold badL at h2
    obtain ⟨S, rfl⟩ := Int.eq_ofNat_of_zero_le (show 0 ≤ n by omega)
    rw [Int.toNat_natCast] at h2
    exact loads_good hi entry S (by omega) (by unfold U; omega) (by omega) (by omega)
end
end Go.Proofs.Ytgcihcgclmdolaa
