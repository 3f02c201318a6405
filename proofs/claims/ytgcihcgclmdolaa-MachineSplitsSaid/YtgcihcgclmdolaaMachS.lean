/- A step of the machine: what its walk goes by. Conditions stand at each. -/
import Derived.Test.YtgcihcgclmdolaaMachC
import Derived.Test.YtgcihcgclmdolaaMachM
import Derived.Test.YtgcihcgclmdolaaMachB
namespace Go.Proofs.Ytgcihcgclmdolaa
open Go.RowKit Go.Maps Go.Proofs.Ytgcihcgclmdolaa.PC Go.Proofs.Ytgcihcgclmdolaa.PW
set_option linter.unusedVariables false
set_option linter.unusedSimpArgs false
theorem decR_ops {x op rd rs1 rs2 n : Int} (h : DecR x op rd rs1 rs2 n 0) : (1 ≤ op ∧ op ≤ 55) ∧ (0 ≤ rd ∧ rd ≤ 31) ∧ (0 ≤ rs1 ∧ rs1 ≤ 31) ∧ (0 ≤ rs2 ∧ rs2 ≤ 31) := by
  rcases h with ⟨_, h2, _⟩ | ⟨h2, _⟩
  · obtain ⟨f, hf, e, _⟩ := insE_form h2
    obtain ⟨u1, u2, u3, u4, r1, r2, r3, r4, r5, r6, hfit⟩ := encE_zero e
    exact ⟨(formOf_good hf).2, ⟨r1, r2⟩, ⟨r3, r4⟩, r5, r6⟩
  · cases h2
/-- The state behind a step: the first register is 0, and the place is the next. -/
def RS.fin (r : RS) (next : Int) : RS := { r with s := { r.s with x := r.s.x.set 0 0, pc := next } }
theorem Rat.done {w : World} {b1 R M B K N : Nat} {r : RS} (h : Rat w b1 R M B K r N) {next : Int} (hn : U next) : Rat ((w.setCell ⟨M, 1, none⟩ (.int .u32 0)).setCell ⟨M, 65, none⟩ (.int .u32 next)) b1 R M B K (r.fin next) N := by
  have ho := h.mac.ok
  have h1 := h.setM (i := 1) (v := .int .u32 0) (s' := { r.s with x := r.s.x.set 0 0 }) (set_x ho (r := 0) (by decide) 0) rfl (ok_x ho 0 (by unfold U; decide))
  exact h1.setM (i := 65) (v := .int .u32 next) (s' := { r.s with x := r.s.x.set 0 0, pc := next }) (set_pc (ok_x ho 0 (by unfold U; decide)) next) rfl (ok_pc (ok_x ho 0 (by unfold U; decide)) hn)
theorem sc0 {w : World} {M i : Nat} {v : Value} {b o : Nat} {u : Value} (hn : M ≠ b) (h : w.cell? ⟨b, o, none⟩ = some u) : (w.setCell ⟨M, i, none⟩ v).cell? ⟨b, o, none⟩ = some u := by
  rw [World.cell?_setCell_other _ _ _ _ (fun e => hn (by cases e; rfl))]
  exact h
theorem sc0' {w : World} {i j : Nat} {v : Value} {b : Nat} {u : Value} (hn : i ≠ j) (h : w.cell? ⟨b, j, none⟩ = some u) : (w.setCell ⟨b, i, none⟩ v).cell? ⟨b, j, none⟩ = some u := by
  rw [World.cell?_setCell_other _ _ _ _ (fun e => hn (by cases e; rfl))]
  exact h
theorem sc65 {w : World} {M d : Nat} {v u : Value} (hd : 1 + d ≠ 65) (h : w.cell? ⟨M, 65, none⟩ = some u) : (w.setCell ⟨M, 1 + d, none⟩ v).drew.cell? ⟨M, 65, none⟩ = some u := sc0' hd h
theorem kp_cell {w w' : World} {b o : Nat} {u : Value} (g : Kp w w') (h : w.cell? ⟨b, o, none⟩ = some u) : w'.cell? ⟨b, o, none⟩ = some u := mod_cell (S := fun _ => False) g.mod id h
theorem U_mod' (x : Int) : U (x % 4294967296 / 2 * 2) := by unfold U; omega
theorem andNot1 {x : Int} (h : U x) : bits .andNot .u32 x 1 = x / 2 * 2 := by
  have h' : 0 ≤ x ∧ x ≤ 4294967295 := h
  obtain ⟨a, rfl⟩ := Int.eq_ofNat_of_zero_le h'.1
  have ha : a < 2 ^ 32 := by omega
  have e1 : BitVec.ofInt 32 (a : Int) = BitVec.ofNat 32 a := BitVec.ofInt_natCast _ _
  have e2 : (BitVec.ofNat 32 a &&& ~~~(BitVec.ofNat 32 1)).toNat = a / 2 * 2 := by
    have hb : BitVec.ofNat 32 a &&& ~~~(BitVec.ofNat 32 1) = BitVec.ofNat 32 (a / 2 * 2) := by
      refine BitVec.eq_of_getLsbD_eq fun i hi => ?_
      simp only [BitVec.getLsbD_and, BitVec.getLsbD_not, BitVec.getLsbD_ofNat, hi, decide_true, Bool.true_and]
      cases i with
      | zero => simp [Nat.testBit_zero]
      | succ j =>
        have t1 : Nat.testBit 1 (j + 1) = false := by simp [Nat.testBit_succ]
        rw [t1, Nat.testBit_succ, Nat.testBit_succ, Nat.mul_div_cancel _ (by decide : 0 < 2)]
        simp
    rw [hb, BitVec.toNat_ofNat, Nat.mod_eq_of_lt (by omega)]
  show IntKind.u32.wrap ((BitVec.ofInt 32 (a : Int) &&& ~~~(BitVec.ofInt 32 1)).toNat : Int) = _
  rw [e1, show BitVec.ofInt 32 1 = BitVec.ofNat 32 1 from rfl, e2, IntKind.wrap_u32]
  omega
theorem Rat.more {w : World} {b1 R M B K N N' : Nat} {r : RS} (h : Rat w b1 R M B K r N) (hN : N ≤ N') : Rat w b1 R M B K r N' := ⟨h.mac.more hN, h.run, h.lR, h.lM, h.lB, h.lK, Nat.le_trans h.le hN⟩
end Go.Proofs.Ytgcihcgclmdolaa
