/- Which operation one with an Imm does; whether a branch is taken: walked. Conditions stand at each. -/
import Derived.Test.YtgcihcgclmdolaaMachA
import Derived.Maps.Own
import Derived.Maps.OwnOps
namespace Go.Proofs.Ytgcihcgclmdolaa
open Go.RowKit Go.Maps Go.Proofs.Ytgcihcgclmdolaa.PC Go.Proofs.Ytgcihcgclmdolaa.PW
set_option linter.unusedVariables false
set_option linter.unusedSimpArgs false
/-- Which operation one with an Imm does. -/
def plainV (op : Int) : Int := if op = 18 then 1 else if op = 19 then 4 else if op = 20 then 5 else if op = 21 then 6 else if op = 22 then 9 else if op = 23 then 10 else if op = 24 then 3 else if op = 25 then 7 else 8
/-- Whether a branch is taken. -/
def takenV (op a b : Int) : Bool := if op = 32 then a == b else if op = 33 then a != b else if op = 34 then decide (sgn a < sgn b) else if op = 35 then decide (sgn b ≤ sgn a) else if op = 36 then decide (a < b) else decide (b ≤ a)
set_option maxHeartbeats 1000000 in
theorem branch_calls (op a b : Int) (ho : 32 ≤ op ∧ op ≤ 37) (ha : U a) (hb : U b) (w : World) : Calls Try.prog 44 #[.int .i64 op, .int .u32 a, .int .u32 b] w fun e w' => e = .returned (.bool (takenV op a b)) ∧ w' = w := by
  have h1 := wrap32_sgn ha
  have h2 := wrap32_sgn hb
  have ha' : 0 ≤ a ∧ a ≤ 4294967295 := ha
  have hb' : 0 ≤ b ∧ b ≤ 4294967295 := hb
  have h6 : op = 32 ∨ op = 33 ∨ op = 34 ∨ op = 35 ∨ op = 36 ∨ op = 37 := by omega
  clear ho
  rcases h6 with rfl | rfl | rfl | rfl | rfl | rfl <;>
  · go_enter Try.func44, Try.ntmps44
    go_wp2
    go_ret
    exact ⟨rfl, rfl⟩
theorem law_int : Keyed Try.prog 3 := int_keyed Try.underlying3
theorem zero_int (w : World) : (zeroValue 3).run Try.prog w = .ok (.int .i64 0) w := by kernel_rfl
/-- An entry of a map's literal: as an entry that is set. -/
theorem wpList_insert_own {H : Type} {P : Program} (w : World) {ops : Array Oper} {rest : List Oper} {o : Oper} {a : Act} {Q : Exit → Act → World → Prop}
    (hg : o.guard = none) (m x v : Operand) (t : TypeId) (hop : o.op = Op.insert t m x v)
    (k e : TypeId) (K : Keyed P k) (ht : P.underlying t = some (.map k e)) (R : Value → Option (DataW H × List MemPlace)) (b n : Nat) (D : DataW H)
    (hm : a.eval m = .map (some b)) (hown : w.ownsMap P k R b n D) (hn : n < maxLen) (key val : Value) (kl : Lit) (hx : a.eval x = key) (hv : a.eval v = val) (hkey : keyOf P k key = some kl)
    (d : DataW H) (ps : List MemPlace) (hval : R val = some (d, ps))
    (hK : ∀ w', w'.ownsMap P k R b (n + 1) (D.put kl d) → w.grownBy w' (some b) → wpList P ops Q rest (a.put o.dst undef) w') :
    wpList P ops Q (o :: rest) a w := by
  refine wpList_plain hg fun K' hK' => ?_
  obtain ⟨w', hrun, r1, r2⟩ := hown.update K ht hn hkey hval
  unfold Oper.wp
  simp [execOp, hop, hm, hx, hv, hrun, Result.andThen]
  exact hK' _ _ (hK w' r1 r2)
theorem keyI64 (x : Int) (h : -1000 ≤ x ∧ x ≤ 1000) : keyOf Try.prog 3 (.int .i64 x) = some (.int .i64 x) := keyOf_int_mk Try.underlying3 (WalkArith.wf_i64 (by omega))
theorem elemI64 (x : Int) (h : -1000 ≤ x ∧ x ≤ 1000) : plainElem (H := Value) Try.prog 3 (.int .i64 x) = some (.lit (.int .i64 x), []) := plainElem_int Try.underlying3 (WalkArith.wf_i64 (by omega))
def insD : List (Int × Int) → DataW Value
  | [] => .map []
  | (k, v) :: r => (insD r).put (.int .i64 k) (.lit (.int .i64 v))
def plainD : DataW Value := insD [(26, 8), (25, 7), (24, 3), (23, 10), (22, 9), (21, 6), (20, 5), (19, 4), (18, 1)]
theorem plainD_at : ∀ j : Fin 9, plainD.atKey (.int .i64 ((j.val : Int) + 18)) (.lit (.int .i64 0)) = .lit (.int .i64 (plainV ((j.val : Int) + 18))) := by
  intro ⟨j, hj⟩
  have h9 : j = 0 ∨ j = 1 ∨ j = 2 ∨ j = 3 ∨ j = 4 ∨ j = 5 ∨ j = 6 ∨ j = 7 ∨ j = 8 := by omega
  rcases h9 with rfl | rfl | rfl | rfl | rfl | rfl | rfl | rfl | rfl <;> rfl
set_option maxRecDepth 100000 in
set_option maxHeartbeats 2000000 in
theorem plain_calls (op : Int) (ho : 18 ≤ op ∧ op ≤ 26) (w : World) : Calls Try.prog 42 #[.int .i64 op] w fun e w' => e = .returned (.int .i64 (plainV op)) ∧ Kp w w' := by
  have hmm := @run_makeMap Try.prog
  have hown := World.ownsMap_made (H := Value) w Try.prog 3 (plainElem (H := Value) Try.prog 3)
  have kp : Kp w (w.alloc (.map #[] 0)) := (Kp.refl w).alloc _
  have hat := plainD_at ⟨(op - 18).toNat, by omega⟩
  have e : (((op - 18).toNat : Nat) : Int) + 18 = op := by omega
  simp only [e] at hat
  replace hat := Aside.mk hat
  clear e
  go_enter Try.func42, Try.ntmps42
  go_wp2_with (first | ((refine wpList_insert_own _ rfl _ _ _ 112 rfl 3 3 law_int Try.underlying112 (plainElem (H := Value) Try.prog 3) _ _ _ rfl hown (by unfold maxLen; omega) _ _ _ rfl rfl (keyI64 _ (by decide)) _ [] (elemI64 _ (by decide)) ?_); (intro w1 hown hgr); (have kp := Kp.grown kp hgr (fun k hk => by cases hk; exact Nat.le_refl _))) | ((refine wpList_lookup_own_int _ rfl _ _ 112 rfl 3 3 .i64 law_int Try.underlying112 Try.underlying3 (zero_int _) _ _ plainD rfl hown _ _ rfl (keyI64 op (by omega)) ?_); (intro c hc hwc)))
  go_ret
  have e2 : c = plainV op := by
    have := hc.symm.trans hat.out
    injection this with this
    injection this
  exact ⟨by rw [← e2]; rfl, kp⟩
end Go.Proofs.Ytgcihcgclmdolaa
