/- Which operation one with an Imm does; whether a branch is taken: walked. Conditions stand at each. · A step of the machine: what its walk goes by. Conditions stand at each. · A step tried: what stops it is caught, walked. Conditions stand at each. -/
import Derived.Test.YtnbooljaodkedaaMachE
import Derived.Maps.Own
import Derived.Maps.OwnOps
import Derived.Test.YtnbooljaodkedaaMachC
import Derived.Test.YtnbooljaodkedaaMachM
import Derived.Defers
import Derived.Recover
import Derived.Tactics2
import Derived.Laws.Pointers
namespace Go.Proofs.Ytnbooljaodkedaa
open Go.RowKit Go.Maps Go.Proofs.Ytnbooljaodkedaa.PC Go.Proofs.Ytnbooljaodkedaa.PW
set_option linter.unusedVariables false
set_option linter.unusedSimpArgs false
/-- Which operation one with an Imm does. -/
def plainV (op : Int) : Int := if op = 18 then 1 else if op = 19 then 4 else if op = 20 then 5 else if op = 21 then 6 else if op = 22 then 9 else if op = 23 then 10 else if op = 24 then 3 else if op = 25 then 7 else 8
/-- Whether a branch is taken. -/
def takenV (op a b : Int) : Bool := if op = 32 then a == b else if op = 33 then a != b else if op = 34 then decide (sgn a < sgn b) else if op = 35 then decide (sgn b ≤ sgn a) else if op = 36 then decide (a < b) else decide (b ≤ a)
set_option maxHeartbeats 1000000 in
theorem branch_calls (op a b : Int) (ho : 32 ≤ op ∧ op ≤ 37) (ha : U a) (hb : U b) (w : World) : Calls Try.prog 63 #[.int .i64 op, .int .u32 a, .int .u32 b] w fun e w' => e = .returned (.bool (takenV op a b)) ∧ w' = w := by
  have h1 := wrap32_sgn ha
  have h2 := wrap32_sgn hb
  have ha' : 0 ≤ a ∧ a ≤ 4294967295 := ha
  have hb' : 0 ≤ b ∧ b ≤ 4294967295 := hb
  have h6 : op = 32 ∨ op = 33 ∨ op = 34 ∨ op = 35 ∨ op = 36 ∨ op = 37 := by omega
  clear ho
  rcases h6 with rfl | rfl | rfl | rfl | rfl | rfl <;>
  · go_enter Try.func63, Try.ntmps63
    go_wp2
    go_ret
    exact ⟨rfl, rfl⟩
theorem law_int : Keyed Try.prog 3 := int_keyed Try.underlying3
theorem zero_int (w : World) : (zeroValue 3).run Try.prog w = .ok (.int .i64 0) w := by kernel_rfl
/-- An entry of a map's literal: as an entry that is set. -/
theorem wpList_insert_own {H : Type} {P : Program} (w : World) {ops : Array Oper} {rest : List Oper} {o : Oper} {a : Act} {Q : Exit → Act → World → Prop}
    (hg : o.guard = none) (m x v : Operand) (t : TypeId) (hop : o.op = Op.insert t m x v)
    (k e : TypeId) (K : Keyed P k) (ht : P.underlying t = some (.map k e)) (R : Value → Option (DataW H × List MemPlace)) (b n : Nat) (D : DataW H)
    (hm : a.eval m = .map (some b)) (hown : w.ownsMap P k R b n D) (hn : n < maxLen) (key val : Value) (kl : Lit) (hx : a.eval x = key) (hv : a.eval v = val) (hkey : keyOf P k key = some kl)
    (d : DataW H) (ps : List MemPlace) (hval : R val = some (d, ps))
    (hK : ∀ w', w'.ownsMap P k R b (n + 1) (D.put kl d) → w.grownBy w' (some b) → wpList P ops Q rest (a.put o.dst undef) w') :
    wpList P ops Q (o :: rest) a w := by
  refine wpList_plain hg fun K' hK' => ?_
  obtain ⟨w', hrun, r1, r2⟩ := hown.update K ht hn hkey hval
  unfold Oper.wp
  simp [execOp, hop, hm, hx, hv, hrun, Result.andThen]
  exact hK' _ _ (hK w' r1 r2)
theorem keyI64 (x : Int) (h : -1000 ≤ x ∧ x ≤ 1000) : keyOf Try.prog 3 (.int .i64 x) = some (.int .i64 x) := keyOf_int_mk Try.underlying3 (WalkArith.wf_i64 (by omega))
theorem elemI64 (x : Int) (h : -1000 ≤ x ∧ x ≤ 1000) : plainElem (H := Value) Try.prog 3 (.int .i64 x) = some (.lit (.int .i64 x), []) := plainElem_int Try.underlying3 (WalkArith.wf_i64 (by omega))
def insD : List (Int × Int) → DataW Value
  | [] => .map []
  | (k, v) :: r => (insD r).put (.int .i64 k) (.lit (.int .i64 v))
def plainD : DataW Value := insD [(26, 8), (25, 7), (24, 3), (23, 10), (22, 9), (21, 6), (20, 5), (19, 4), (18, 1)]
theorem plainD_at : ∀ j : Fin 9, plainD.atKey (.int .i64 ((j.val : Int) + 18)) (.lit (.int .i64 0)) = .lit (.int .i64 (plainV ((j.val : Int) + 18))) := by
  intro ⟨j, hj⟩
  have h9 : j = 0 ∨ j = 1 ∨ j = 2 ∨ j = 3 ∨ j = 4 ∨ j = 5 ∨ j = 6 ∨ j = 7 ∨ j = 8 := by omega
  rcases h9 with rfl | rfl | rfl | rfl | rfl | rfl | rfl | rfl | rfl <;> rfl
set_option maxRecDepth 100000 in
set_option maxHeartbeats 2000000 in
theorem plain_calls (op : Int) (ho : 18 ≤ op ∧ op ≤ 26) (w : World) : Calls Try.prog 61 #[.int .i64 op] w fun e w' => e = .returned (.int .i64 (plainV op)) ∧ Kp w w' := by
  have hmm := @run_makeMap Try.prog
  have hown := World.ownsMap_made (H := Value) w Try.prog 3 (plainElem (H := Value) Try.prog 3)
  have kp : Kp w (w.alloc (.map #[] 0)) := (Kp.refl w).alloc _
  have hat := plainD_at ⟨(op - 18).toNat, by omega⟩
  have e : (((op - 18).toNat : Nat) : Int) + 18 = op := by omega
  simp only [e] at hat
  replace hat := Aside.mk hat
  clear e
  go_enter Try.func61, Try.ntmps61
  go_wp2_with (first | ((refine wpList_insert_own _ rfl _ _ _ 161 rfl 3 3 law_int Try.underlying161 (plainElem (H := Value) Try.prog 3) _ _ _ rfl hown (by unfold maxLen; omega) _ _ _ rfl rfl (keyI64 _ (by decide)) _ [] (elemI64 _ (by decide)) ?_); (intro w1 hown hgr); (have kp := Kp.grown kp hgr (fun k hk => by cases hk; exact Nat.le_refl _))) | ((refine wpList_lookup_own_int _ rfl _ _ 161 rfl 3 3 .i64 law_int Try.underlying161 Try.underlying3 (zero_int _) _ _ plainD rfl hown _ _ rfl (keyI64 op (by omega)) ?_); (intro c hc hwc)))
  go_ret
  have e2 : c = plainV op := by
    have := hc.symm.trans hat.out
    injection this with this
    injection this
  exact ⟨by rw [← e2]; rfl, kp⟩
end Go.Proofs.Ytnbooljaodkedaa
namespace Go.Proofs.Ytnbooljaodkedaa
open Go.RowKit Go.Maps Go.Proofs.Ytnbooljaodkedaa.PC Go.Proofs.Ytnbooljaodkedaa.PW
set_option linter.unusedVariables false
set_option linter.unusedSimpArgs false
theorem decR_ops {x op rd rs1 rs2 n : Int} (h : DecR x op rd rs1 rs2 n 0) : (1 ≤ op ∧ op ≤ 55) ∧ (0 ≤ rd ∧ rd ≤ 31) ∧ (0 ≤ rs1 ∧ rs1 ≤ 31) ∧ (0 ≤ rs2 ∧ rs2 ≤ 31) := by
  rcases h with ⟨_, h2, _⟩ | ⟨h2, _⟩
  · obtain ⟨f, hf, e, _⟩ := insE_form h2
    obtain ⟨u1, u2, u3, u4, r1, r2, r3, r4, r5, r6, hfit⟩ := encE_zero e
    exact ⟨(formOf_good hf).2, ⟨r1, r2⟩, ⟨r3, r4⟩, r5, r6⟩
  · cases h2
/-- The state behind a step: the first register is 0, and the place is the next. -/
def RS.fin (r : RS) (next : Int) : RS := { r with s := { r.s with x := r.s.x.set 0 0, pc := next } }
theorem Rat.done {w : World} {b1 R M B K N : Nat} {r : RS} (h : Rat w b1 R M B K r N) {next : Int} (hn : U next) : Rat ((w.setCell ⟨M, 1, none⟩ (.int .u32 0)).setCell ⟨M, 65, none⟩ (.int .u32 next)) b1 R M B K (r.fin next) N := by
  have ho := h.mac.ok
  have h1 := h.setM (i := 1) (v := .int .u32 0) (s' := { r.s with x := r.s.x.set 0 0 }) (set_x ho (r := 0) (by decide) 0) rfl (ok_x ho 0 (by unfold U; decide))
  exact h1.setM (i := 65) (v := .int .u32 next) (s' := { r.s with x := r.s.x.set 0 0, pc := next }) (set_pc (ok_x ho 0 (by unfold U; decide)) next) rfl (ok_pc (ok_x ho 0 (by unfold U; decide)) hn)
theorem sc0 {w : World} {M i : Nat} {v : Value} {b o : Nat} {u : Value} (hn : M ≠ b) (h : w.cell? ⟨b, o, none⟩ = some u) : (w.setCell ⟨M, i, none⟩ v).cell? ⟨b, o, none⟩ = some u := by
  rw [World.cell?_setCell_other _ _ _ _ (fun e => hn (by cases e; rfl))]
  exact h
theorem sc0' {w : World} {i j : Nat} {v : Value} {b : Nat} {u : Value} (hn : i ≠ j) (h : w.cell? ⟨b, j, none⟩ = some u) : (w.setCell ⟨b, i, none⟩ v).cell? ⟨b, j, none⟩ = some u := by
  rw [World.cell?_setCell_other _ _ _ _ (fun e => hn (by cases e; rfl))]
  exact h
theorem sc65 {w : World} {M d : Nat} {v u : Value} (hd : 1 + d ≠ 65) (h : w.cell? ⟨M, 65, none⟩ = some u) : (w.setCell ⟨M, 1 + d, none⟩ v).drew.cell? ⟨M, 65, none⟩ = some u := sc0' hd h
theorem kp_cell {w w' : World} {b o : Nat} {u : Value} (g : Kp w w') (h : w.cell? ⟨b, o, none⟩ = some u) : w'.cell? ⟨b, o, none⟩ = some u := mod_cell (S := fun _ => False) g.mod id h
theorem U_mod' (x : Int) : U (x % 4294967296 / 2 * 2) := by unfold U; omega
theorem andNot1 {x : Int} (h : U x) : bits .andNot .u32 x 1 = x / 2 * 2 := by
  have h' : 0 ≤ x ∧ x ≤ 4294967295 := h
  obtain ⟨a, rfl⟩ := Int.eq_ofNat_of_zero_le h'.1
  have ha : a < 2 ^ 32 := by omega
  have e1 : BitVec.ofInt 32 (a : Int) = BitVec.ofNat 32 a := BitVec.ofInt_natCast _ _
  have e2 : (BitVec.ofNat 32 a &&& ~~~(BitVec.ofNat 32 1)).toNat = a / 2 * 2 := by
    have hb : BitVec.ofNat 32 a &&& ~~~(BitVec.ofNat 32 1) = BitVec.ofNat 32 (a / 2 * 2) := by
      refine BitVec.eq_of_getLsbD_eq fun i hi => ?_
      simp only [BitVec.getLsbD_and, BitVec.getLsbD_not, BitVec.getLsbD_ofNat, hi, decide_true, Bool.true_and]
      cases i with
      | zero => simp [Nat.testBit_zero]
      | succ j =>
        have t1 : Nat.testBit 1 (j + 1) = false := by simp [Nat.testBit_succ]
        rw [t1, Nat.testBit_succ, Nat.testBit_succ, Nat.mul_div_cancel _ (by decide : 0 < 2)]
        simp
    rw [hb, BitVec.toNat_ofNat, Nat.mod_eq_of_lt (by omega)]
  show IntKind.u32.wrap ((BitVec.ofInt 32 (a : Int) &&& ~~~(BitVec.ofInt 32 1)).toNat : Int) = _
  rw [e1, show BitVec.ofInt 32 1 = BitVec.ofNat 32 1 from rfl, e2, IntKind.wrap_u32]
  omega
theorem Rat.more {w : World} {b1 R M B K N N' : Nat} {r : RS} (h : Rat w b1 R M B K r N) (hN : N ≤ N') : Rat w b1 R M B K r N' := ⟨h.mac.more hN, h.run, h.lR, h.lM, h.lB, h.lK, Nat.le_trans h.le hN⟩
end Go.Proofs.Ytnbooljaodkedaa
namespace Go.Proofs.Ytnbooljaodkedaa
open Go.RowKit Go.Maps Go.Proofs.Ytnbooljaodkedaa.PC Go.Proofs.Ytnbooljaodkedaa.PW
set_option linter.unusedVariables false
set_option linter.unusedSimpArgs false
theorem ta_nil (w : World) : (Instr.typeAssert .nilIface 20 113 true).run Try.prog w = .ok (.tuple #[.int .i64 0, .bool false]) w := by kernel_rfl
set_option maxRecDepth 100000 in
theorem ta_stop (n : Int) (w : World) : (Instr.typeAssert (.iface 113 (.int .i64 n)) 20 113 true).run Try.prog w = .ok (.tuple #[.int .i64 n, .bool true]) w := by rfl
theorem frame17 (p q : Value) : (#[p, q] ++ Array.replicate 15 undef : Array Value) = #[p, q, undef, undef, undef, undef, undef, undef, undef, undef, undef, undef, undef, undef, undef, undef, undef] := rfl
set_option maxRecDepth 100000 in
theorem caught_idle (p q : Addr) (w : World) : CallsD Try.prog 40 #[.pointer (some p), .pointer (some q)] .returning w fun e u' w' => e = .returned (.tuple #[]) ∧ u' = .returning ∧ w' = w := by
  refine callsD_of_wpS Try.func40 rfl fun c₀ cs hu => ?_
  apply wpS_seq
  apply wpS_region
  simp [wpOpsS, go_sem, recoverD, hu, Try.ntmps40, Exit.thenS, frame17, ta_nil]
  apply wpS_seq
  apply wpS_region
  simp [wpOpsS, go_sem, Exit.thenS]
  refine wpS_cond (t := false) (by simp [Act.eval]) ?_
  simp only [Bool.false_eq_true, if_false]
  refine wpS_of_wp (wp_skip ?_)
  cases c₀
  simp_all [bodyPostS, results, Try.results40]
set_option maxRecDepth 100000 in
theorem caught_stop {w : World} {M R a b : Nat} (n : Int) (older : List PanicEntry) {x : Int} {y : Bool} (ha : w.cell? ⟨a, 0, none⟩ = some (.pointer (some ⟨R, 0, none⟩))) (hR : w.cell? ⟨R, 0, none⟩ = some (.pointer (some ⟨M, 0, none⟩))) (hM : w.cell? ⟨M, 66, none⟩ = some (.int .i64 x)) (fM : w.frozen? ⟨M, 66, none⟩ = false) (hb : w.cell? ⟨b, 0, none⟩ = some (.bool y)) (fb : w.frozen? ⟨b, 0, none⟩ = false) (hMb : M ≠ b) :
    CallsD Try.prog 40 #[.pointer (some ⟨a, 0, none⟩), .pointer (some ⟨b, 0, none⟩)] (.panicking ({ v := .iface 113 (.int .i64 n), recovered := false } :: older)) w fun e u' w' =>
      e = .returned (.tuple #[]) ∧ u' = .panicking ({ v := .iface 113 (.int .i64 n), recovered := true } :: older) ∧ w' = (w.setCell ⟨M, 66, none⟩ (.int .i64 n)).setCell ⟨b, 0, none⟩ (.bool false) := by
  have hb' : (w.setCell ⟨M, 66, none⟩ (.int .i64 n)).cell? ⟨b, 0, none⟩ = some (.bool y) := by rw [World.cell?_setCell_other _ _ _ _ (fun e => by cases e)]; exact hb
  refine callsD_of_wpS Try.func40 rfl fun c₀ cs hu => ?_
  apply wpS_seq
  apply wpS_region
  simp [wpOpsS, go_sem, recoverD, hu, Try.ntmps40, Exit.thenS, frame17, ta_stop]
  apply wpS_seq
  apply wpS_region
  simp [wpOpsS, go_sem, Exit.thenS]
  refine wpS_cond (t := true) (by simp [Act.eval]) ?_
  simp only [if_true]
  refine wpS_of_wp ?_
  go_wp2
  cases c₀
  simp_all [bodyPostS, results, Try.results40]
theorem make_fn (fn : Fn) (first cap : Array Value) (w : World) : (Instr.makeFunc fn first cap).run Try.prog w = .ok (.func fn first cap) w := rfl
/-- A block of nobody's is written. -/
theorem rat_new {w : World} {b1 R M B K N q : Nat} {r : RS} {v : Value} {cs : Array Value} {ty : TypeId} (h : Rat w b1 R M B K r N) (hq : b1 ≤ q) (hR : q ≠ R) (hb0 : Blk w q cs ty) (hty : ty ≠ 165) : Rat (w.setCell ⟨q, 0, none⟩ v) b1 R M B K r N := by
  obtain ⟨iv, ev, hb, hw, ho, hn⟩ := h.run
  have h1 := h.lR
  have h2 := h.lM
  have h3 := h.lB
  have h4 := h.lK
  have m : Mod (fun k => k = q) w (w.setCell ⟨q, 0, none⟩ v) := (Mod.refl (fun k => k = q) w).setCell (p := ⟨q, 0, none⟩) rfl _
  refine ⟨h.mac.keep m (by omega) (by omega) (by omega), ⟨iv, ev, m.blk hb (fun e => hR e.symm), ?_, ?_, hn⟩, h1, h2, h3, h4, h.le⟩
  · exact hw.at (fun I hI _ _ _ hl => m.block I hl (by omega))
  · refine row_at ho (fun j hj hl => m.block j hl (fun e => ?_))
    obtain rfl : j = q := e
    rcases ho.2 with ⟨e1, _⟩ | ⟨g, cap, cur, e1, _, e2, _⟩
    · rw [e1] at hj; cases hj
    · rw [e1] at hj
      have : g = j := by simpa [Value.ownBlock] using hj
      subst this
      have e3 := hb0.symm.trans e2
      injection e3 with e3
      injection e3 with _ e3
      exact hty e3
set_option maxRecDepth 100000 in
set_option maxHeartbeats 2000000 in
/-- A step that is made. -/
theorem try_ok {w : World} {b1 b2 R M B K N N' : Nat} {r r' : RS} (h : Rat w b1 R M B K r N) (hT : TopB w R M b2) (hb2 : b2 ≤ w.heap.size)
    (hs : ∀ W, Rat W b1 R M B K r N → TopB W R M b2 → Calls Try.prog 41 #[.pointer (some ⟨R, 0, none⟩)] W fun e' w' => e' = .returned (.tuple #[]) ∧ Mod (SR b1 b2 M B K) W w' ∧ Rat w' b1 R M B K r' N') :
    Calls Try.prog 26 #[.pointer (some ⟨R, 0, none⟩)] w fun e' w' => e' = .returned (.bool true) ∧ Mod (SR b1 b2 M B K) w w' ∧ Rat w' b1 R M B K r' N' := by
  have hmf := make_fn
  obtain ⟨iv, ev, -, -, -, -, rl, -, -, -⟩ := h.facts
  have kA : Kp w ((w.alloc (.cells #[.pointer (some ⟨R, 0, none⟩)] 88)).alloc (.cells #[.bool false] 4)) := ((Kp.refl w).alloc _).alloc _
  have hc := hs _ (h.kp kA) (hT.kp kA rl)
  have hlM := h.lM
  have hlB := h.lB
  have hlK := h.lK
  have hb1 : b1 ≤ R := h.lR
  replace hc := Aside.mk hc
  have bo := Aside.mk (Blk.new (w.alloc (.cells #[.pointer (some ⟨R, 0, none⟩)] 88)) #[.bool false] 4)
  have hTR := hT.1
  replace hs := Aside.mk hs
  replace h := Aside.mk h
  replace hT := Aside.mk hT
  go_enter_defers Try.func26, Try.ntmps26
  go_wp2_with ((go_at_call 41); (refine Calls.mono hc.out ?_); (rintro e' w3 ⟨rfl, hm3, hR3⟩); (have bo3 : Aside (Blk w3 (w.heap.size + 1) #[.bool false] 4) := ⟨by have := hm3.blk bo.out (by simp [SR]; omega); simpa using this⟩); (have bc : w3.cell? ⟨w.heap.size + 1, 0, none⟩ = some (.bool false) := bo3.out.cell 0); (have bf : w3.frozen? ⟨w.heap.size + 1, 0, none⟩ = false := bo3.out.frozen 0))
  refine leaves_cons (f := 40) (args := #[.pointer (some ⟨w.heap.size, 0, none⟩), .pointer (some ⟨w.heap.size + 1, 0, none⟩)]) (by simp) (by simp [go_sem]) ?_
  refine (caught_idle _ _ _).mono ?_
  rintro e u' w'' ⟨rfl, rfl, rfl⟩
  have bq : (w3.setCell ⟨w.heap.size + 1, 0, none⟩ (.bool true)).cell? ⟨w.heap.size + 1, 0, none⟩ = some (.bool true) := World.cell?_setCell_same _ _ _ bc
  have m1 : Mod (SR b1 b2 M B K) w w3 := kA.mod.trans hm3
  have m2 : Mod (SR b1 b2 M B K) w (w3.setCell ⟨w.heap.size + 1, 0, none⟩ (.bool true)) := m1.setNew (p := ⟨w.heap.size + 1, 0, none⟩) (Nat.le_succ _) _
  have r2 := rat_new hR3 (q := w.heap.size + 1) (v := .bool true) (by omega) (by omega) bo3.out (by decide)
  simp [Leaves, settle, results, Try.results26, go_sem, bq]
  exact ⟨m2, r2⟩
theorem Rat.top {w : World} {b1 R M B K N : Nat} {r : RS} (h : Rat w b1 R M B K r N) : TopB w R M w.heap.size := by
  obtain ⟨iv, ev, hb, hw, ho, hn⟩ := h.run
  refine ⟨hb.lt, fun iv' ev' hb' j hj => ?_⟩
  have e := hb.symm.trans hb'
  injection e with e
  injection e with e
  have e2 : ev = ev' := by
    have := congrArg (fun a => a[2]?) e
    simpa using this
  subst e2
  rcases ho.2 with ⟨e1, _⟩ | ⟨g, cap, cur, e1, _, e3, _⟩
  · rw [e1] at hj; cases hj
  · rw [e1] at hj
    have : g = j := by simpa [Value.ownBlock] using hj
    subst this
    exact (Array.getElem?_eq_some_iff.1 e3).1
/-- A step is made from a state to the next. -/
def StepC (r r' : RS) : Prop := ∀ (w : World) (b1 b2 R M B K N : Nat), Rat w b1 R M B K r N → TopB w R M b2 → N < 999999990 →
  Calls Try.prog 41 #[.pointer (some ⟨R, 0, none⟩)] w fun e' w' => e' = .returned (.tuple #[]) ∧ Mod (SR b1 b2 M B K) w w' ∧ Rat w' b1 R M B K r' (N + 2)
theorem try_step {r r' : RS} (hs : StepC r r') {w : World} {b1 R M B K N : Nat} (h : Rat w b1 R M B K r N) (hN : N < 999999990) :
    Calls Try.prog 26 #[.pointer (some ⟨R, 0, none⟩)] w fun e' w' => e' = .returned (.bool true) ∧ Mod (SR b1 w.heap.size M B K) w w' ∧ Rat w' b1 R M B K r' (N + 2) :=
  try_ok h h.top (Nat.le_refl _) (fun W hW hT => hs W _ _ _ _ _ _ _ hW hT hN)
end Go.Proofs.Ytnbooljaodkedaa
