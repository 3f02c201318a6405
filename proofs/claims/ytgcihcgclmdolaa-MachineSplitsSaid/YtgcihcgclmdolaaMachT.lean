/- A step tried: what stops it is caught, walked. Conditions stand at each. -/
import Derived.Test.YtgcihcgclmdolaaMachS
import Derived.Defers
import Derived.Recover
import Derived.Tactics2
import Derived.Laws.Pointers
namespace Go.Proofs.Ytgcihcgclmdolaa
open Go.RowKit Go.Maps Go.Proofs.Ytgcihcgclmdolaa.PC Go.Proofs.Ytgcihcgclmdolaa.PW
set_option linter.unusedVariables false
set_option linter.unusedSimpArgs false
theorem ta_nil (w : World) : (Instr.typeAssert .nilIface 20 90 true).run Try.prog w = .ok (.tuple #[.int .i64 0, .bool false]) w := by kernel_rfl
set_option maxRecDepth 100000 in
theorem ta_stop (n : Int) (w : World) : (Instr.typeAssert (.iface 90 (.int .i64 n)) 20 90 true).run Try.prog w = .ok (.tuple #[.int .i64 n, .bool true]) w := by rfl
theorem frame17 (p q : Value) : (#[p, q] ++ Array.replicate 15 undef : Array Value) = #[p, q, undef, undef, undef, undef, undef, undef, undef, undef, undef, undef, undef, undef, undef, undef, undef] := rfl
set_option maxRecDepth 100000 in
theorem caught_idle (p q : Addr) (w : World) : CallsD Try.prog 33 #[.pointer (some p), .pointer (some q)] .returning w fun e u' w' => e = .returned (.tuple #[]) ∧ u' = .returning ∧ w' = w := by
  refine callsD_of_wpS Try.func33 rfl fun c₀ cs hu => ?_
  apply wpS_seq
  apply wpS_region
  simp [wpOpsS, go_sem, recoverD, hu, Try.ntmps33, Exit.thenS, frame17, ta_nil]
  apply wpS_seq
  apply wpS_region
  simp [wpOpsS, go_sem, Exit.thenS]
  refine wpS_cond (t := false) (by simp [Act.eval]) ?_
  simp only [Bool.false_eq_true, if_false]
  refine wpS_of_wp (wp_skip ?_)
  cases c₀
  simp_all [bodyPostS, results, Try.results33]
set_option maxRecDepth 100000 in
theorem caught_stop {w : World} {M R a b : Nat} (n : Int) (older : List PanicEntry) {x : Int} {y : Bool} (ha : w.cell? ⟨a, 0, none⟩ = some (.pointer (some ⟨R, 0, none⟩))) (hR : w.cell? ⟨R, 0, none⟩ = some (.pointer (some ⟨M, 0, none⟩))) (hM : w.cell? ⟨M, 66, none⟩ = some (.int .i64 x)) (fM : w.frozen? ⟨M, 66, none⟩ = false) (hb : w.cell? ⟨b, 0, none⟩ = some (.bool y)) (fb : w.frozen? ⟨b, 0, none⟩ = false) (hMb : M ≠ b) :
    CallsD Try.prog 33 #[.pointer (some ⟨a, 0, none⟩), .pointer (some ⟨b, 0, none⟩)] (.panicking ({ v := .iface 90 (.int .i64 n), recovered := false } :: older)) w fun e u' w' =>
      e = .returned (.tuple #[]) ∧ u' = .panicking ({ v := .iface 90 (.int .i64 n), recovered := true } :: older) ∧ w' = (w.setCell ⟨M, 66, none⟩ (.int .i64 n)).setCell ⟨b, 0, none⟩ (.bool false) := by
  have hb' : (w.setCell ⟨M, 66, none⟩ (.int .i64 n)).cell? ⟨b, 0, none⟩ = some (.bool y) := by rw [World.cell?_setCell_other _ _ _ _ (fun e => by cases e)]; exact hb
  refine callsD_of_wpS Try.func33 rfl fun c₀ cs hu => ?_
  apply wpS_seq
  apply wpS_region
  simp [wpOpsS, go_sem, recoverD, hu, Try.ntmps33, Exit.thenS, frame17, ta_stop]
  apply wpS_seq
  apply wpS_region
  simp [wpOpsS, go_sem, Exit.thenS]
  refine wpS_cond (t := true) (by simp [Act.eval]) ?_
  simp only [if_true]
  refine wpS_of_wp ?_
  go_wp2
  cases c₀
  simp_all [bodyPostS, results, Try.results33]
theorem make_fn (fn : Fn) (first cap : Array Value) (w : World) : (Instr.makeFunc fn first cap).run Try.prog w = .ok (.func fn first cap) w := rfl
/-- A block of nobody's is written. -/
theorem rat_new {w : World} {b1 R M B K N q : Nat} {r : RS} {v : Value} {cs : Array Value} {ty : TypeId} (h : Rat w b1 R M B K r N) (hq : b1 ≤ q) (hR : q ≠ R) (hb0 : Blk w q cs ty) (hty : ty ≠ 45) : Rat (w.setCell ⟨q, 0, none⟩ v) b1 R M B K r N := by
  obtain ⟨iv, ev, hb, hw, ho, hn⟩ := h.run
  have h1 := h.lR
  have h2 := h.lM
  have h3 := h.lB
  have h4 := h.lK
  have m : Mod (fun k => k = q) w (w.setCell ⟨q, 0, none⟩ v) := (Mod.refl (fun k => k = q) w).setCell (p := ⟨q, 0, none⟩) rfl _
  refine ⟨h.mac.keep m (by omega) (by omega) (by omega), ⟨iv, ev, m.blk hb (fun e => hR e.symm), ?_, ?_, hn⟩, h1, h2, h3, h4, h.le⟩
  · exact hw.at (fun I hI _ _ _ hl => m.block I hl (by omega))
  · refine row_at ho (fun j hj hl => m.block j hl (fun e => ?_))
    obtain rfl : j = q := e
    rcases ho.2 with ⟨e1, _⟩ | ⟨g, cap, cur, e1, _, e2, _⟩
    · rw [e1] at hj; cases hj
    · rw [e1] at hj
      have : g = j := by simpa [Value.ownBlock] using hj
      subst this
      have e3 := hb0.symm.trans e2
      injection e3 with e3
      injection e3 with _ e3
      exact hty e3
set_option maxRecDepth 100000 in
set_option maxHeartbeats 2000000 in
/-- A step that is made. -/
theorem try_ok {w : World} {b1 b2 R M B K N N' : Nat} {r r' : RS} (h : Rat w b1 R M B K r N) (hT : TopB w R M b2) (hb2 : b2 ≤ w.heap.size)
    (hs : ∀ W, Rat W b1 R M B K r N → TopB W R M b2 → Calls Try.prog 34 #[.pointer (some ⟨R, 0, none⟩)] W fun e' w' => e' = .returned (.tuple #[]) ∧ Mod (SR b1 b2 M B K) W w' ∧ Rat w' b1 R M B K r' N') :
    Calls Try.prog 27 #[.pointer (some ⟨R, 0, none⟩)] w fun e' w' => e' = .returned (.bool true) ∧ Mod (SR b1 b2 M B K) w w' ∧ Rat w' b1 R M B K r' N' := by
  have hmf := make_fn
  obtain ⟨iv, ev, -, -, -, -, rl, -, -, -⟩ := h.facts
  have kA : Kp w ((w.alloc (.cells #[.pointer (some ⟨R, 0, none⟩)] 80)).alloc (.cells #[.bool false] 4)) := ((Kp.refl w).alloc _).alloc _
  have hc := hs _ (h.kp kA) (hT.kp kA rl)
  have hlM := h.lM
  have hlB := h.lB
  have hlK := h.lK
  have hb1 : b1 ≤ R := h.lR
  replace hc := Aside.mk hc
  have bo := Aside.mk (Blk.new (w.alloc (.cells #[.pointer (some ⟨R, 0, none⟩)] 80)) #[.bool false] 4)
  have hTR := hT.1
  replace hs := Aside.mk hs
  replace h := Aside.mk h
  replace hT := Aside.mk hT
  go_enter_defers Try.func27, Try.ntmps27
  go_wp2_with ((go_at_call 34); (refine Calls.mono hc.out ?_); (rintro e' w3 ⟨rfl, hm3, hR3⟩); (have bo3 : Aside (Blk w3 (w.heap.size + 1) #[.bool false] 4) := ⟨by have := hm3.blk bo.out (by simp [SR]; omega); simpa using this⟩); (have bc : w3.cell? ⟨w.heap.size + 1, 0, none⟩ = some (.bool false) := bo3.out.cell 0); (have bf : w3.frozen? ⟨w.heap.size + 1, 0, none⟩ = false := bo3.out.frozen 0))
  refine leaves_cons (f := 33) (args := #[.pointer (some ⟨w.heap.size, 0, none⟩), .pointer (some ⟨w.heap.size + 1, 0, none⟩)]) (by simp) (by simp [go_sem]) ?_
  refine (caught_idle _ _ _).mono ?_
  rintro e u' w'' ⟨rfl, rfl, rfl⟩
  have bq : (w3.setCell ⟨w.heap.size + 1, 0, none⟩ (.bool true)).cell? ⟨w.heap.size + 1, 0, none⟩ = some (.bool true) := World.cell?_setCell_same _ _ _ bc
  have m1 : Mod (SR b1 b2 M B K) w w3 := kA.mod.trans hm3
  have m2 : Mod (SR b1 b2 M B K) w (w3.setCell ⟨w.heap.size + 1, 0, none⟩ (.bool true)) := m1.setNew (p := ⟨w.heap.size + 1, 0, none⟩) (Nat.le_succ _) _
  have r2 := rat_new hR3 (q := w.heap.size + 1) (v := .bool true) (by omega) (by omega) bo3.out (by decide)
  simp [Leaves, settle, results, Try.results27, go_sem, bq]
  exact ⟨m2, r2⟩
theorem Rat.top {w : World} {b1 R M B K N : Nat} {r : RS} (h : Rat w b1 R M B K r N) : TopB w R M w.heap.size := by
  obtain ⟨iv, ev, hb, hw, ho, hn⟩ := h.run
  refine ⟨hb.lt, fun iv' ev' hb' j hj => ?_⟩
  have e := hb.symm.trans hb'
  injection e with e
  injection e with e
  have e2 : ev = ev' := by
    have := congrArg (fun a => a[2]?) e
    simpa using this
  subst e2
  rcases ho.2 with ⟨e1, _⟩ | ⟨g, cap, cur, e1, _, e3, _⟩
  · rw [e1] at hj; cases hj
  · rw [e1] at hj
    have : g = j := by simpa [Value.ownBlock] using hj
    subst this
    exact (Array.getElem?_eq_some_iff.1 e3).1
/-- A step is made from a state to the next. -/
def StepC (r r' : RS) : Prop := ∀ (w : World) (b1 b2 R M B K N : Nat), Rat w b1 R M B K r N → TopB w R M b2 → N < 999999990 →
  Calls Try.prog 34 #[.pointer (some ⟨R, 0, none⟩)] w fun e' w' => e' = .returned (.tuple #[]) ∧ Mod (SR b1 b2 M B K) w w' ∧ Rat w' b1 R M B K r' (N + 2)
theorem try_step {r r' : RS} (hs : StepC r r') {w : World} {b1 R M B K N : Nat} (h : Rat w b1 R M B K r N) (hN : N < 999999990) :
    Calls Try.prog 27 #[.pointer (some ⟨R, 0, none⟩)] w fun e' w' => e' = .returned (.bool true) ∧ Mod (SR b1 w.heap.size M B K) w w' ∧ Rat w' b1 R M B K r' (N + 2) :=
  try_ok h h.top (Nat.le_refl _) (fun W hW hT => hs W _ _ _ _ _ _ _ hW hT hN)
end Go.Proofs.Ytgcihcgclmdolaa
