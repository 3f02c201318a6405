/- Plain law of the registers' fields. No condition. -/
import Derived.Test.YtkmklmpolnkkeaaCodeB
namespace Go.Proofs.Ytkmklmpolnkkeaa.PC
theorem andNot_same {x y : Int} (hx : 0 ≤ x ∧ x < 4294967296) (hy : 0 ≤ y ∧ y < 4294967296) (h1 : x / 4096 = y / 4096) (h2 : x % 128 = y % 128) : bits .andNot .u32 x 3968 = bits .andNot .u32 y 3968 := by
  obtain ⟨a, rfl⟩ := Int.eq_ofNat_of_zero_le hx.1
  obtain ⟨b, rfl⟩ := Int.eq_ofNat_of_zero_le hy.1
  have g1 : a / 2 ^ 12 = b / 2 ^ 12 := by omega
  have g2 : a % 2 ^ 7 = b % 2 ^ 7 := by omega
  have e : (BitVec.ofNat 32 a &&& ~~~(BitVec.ofNat 32 3968)) = (BitVec.ofNat 32 b &&& ~~~(BitVec.ofNat 32 3968)) := by
    refine BitVec.eq_of_getLsbD_eq fun i hi => ?_
    simp only [BitVec.getLsbD_and, BitVec.getLsbD_not, BitVec.getLsbD_ofNat, hi, decide_true, Bool.true_and]
    by_cases h7 : i < 7
    · have t1 := Nat.testBit_mod_two_pow a 7 i
      have t2 := Nat.testBit_mod_two_pow b 7 i
      rw [g2] at t1
      simp only [h7, decide_true, Bool.true_and] at t1 t2
      rw [← t1, ← t2]
    · by_cases h12 : 12 ≤ i
      · obtain ⟨j, rfl⟩ : ∃ j, i = j + 12 := ⟨i - 12, by omega⟩
        have t1 := Nat.testBit_div_two_pow (n := 12) a j
        have t2 := Nat.testBit_div_two_pow (n := 12) b j
        rw [g1] at t1
        rw [← t1, ← t2]
      · have hm : Nat.testBit 3968 i = true := by
          obtain rfl | rfl | rfl | rfl | rfl : i = 7 ∨ i = 8 ∨ i = 9 ∨ i = 10 ∨ i = 11 := by omega
          all_goals decide
        simp [hm]
  show IntKind.u32.wrap ((BitVec.ofInt 32 (a : Int) &&& ~~~(BitVec.ofInt 32 3968)).toNat : Int) = IntKind.u32.wrap ((BitVec.ofInt 32 (b : Int) &&& ~~~(BitVec.ofInt 32 3968)).toNat : Int)
  rw [show BitVec.ofInt 32 (a : Int) = BitVec.ofNat 32 a from BitVec.ofInt_natCast _ _, show BitVec.ofInt 32 (b : Int) = BitVec.ofNat 32 b from BitVec.ofInt_natCast _ _, show BitVec.ofInt 32 3968 = BitVec.ofNat 32 3968 from rfl, e]
theorem regs_form {op : Int} (h : 1 ≤ op ∧ op ≤ 17) : ∃ f3 f7, formOf op = some ⟨82, 51, f3, f7, -1⟩ ∧ 0 ≤ f3 ∧ f3 < 8 ∧ 0 ≤ f7 ∧ f7 < 128 := by
  have hd : ∀ k : Fin 17, (match tbl[k.val]? with | some f => decide (f.kind = 82 ∧ f.op = 51 ∧ f.rs2 = -1) | none => false) = true := by decide +kernel
  obtain ⟨f, hf⟩ := formOf_some (op := op) ⟨h.1, by omega⟩
  have hg := (formOf_good hf).1
  have hk := hd ⟨(op - 1).toNat, by omega⟩
  have hf' := hf
  unfold formOf at hf'
  rw [if_pos ⟨h.1, by omega⟩] at hf'
  simp only [hf'] at hk
  obtain ⟨kind, o, f3, f7, r⟩ := f
  obtain ⟨rfl, rfl, rfl⟩ := of_decide_eq_true hk
  exact ⟨f3, f7, hf, hg.2.2.1, hg.2.2.2.1, hg.2.2.2.2.1, hg.2.2.2.2.2.1⟩
/-- The word of an instruction of three registers. -/
theorem regs_word {op rs1 rs2 : Int} (h : 1 ≤ op ∧ op ≤ 17) (h2 : 0 ≤ rs1 ∧ rs1 ≤ 31) (h3 : 0 ≤ rs2 ∧ rs2 ≤ 31) :
    ∃ f3 f7 : Int, (0 ≤ f3 ∧ f3 < 8) ∧ (0 ≤ f7 ∧ f7 < 128) ∧ ∀ r, 0 ≤ r ∧ r ≤ 31 → insE op r rs1 rs2 0 = 0 ∧ insW op r rs1 rs2 0 = 51 + r * 128 + f3 * 4096 + rs1 * 32768 + rs2 * 1048576 + f7 * 33554432 := by
  obtain ⟨f3, f7, hf, a1, a2, a3, a4⟩ := regs_form h
  refine ⟨f3, f7, ⟨a1, a2⟩, ⟨a3, a4⟩, fun r hr => ?_⟩
  have e : encE ⟨82, 51, f3, f7, -1⟩ r rs1 rs2 0 = 0 := by
    unfold encE
    rw [if_neg (by simp [Fm.uRd, Fm.uRs1, Fm.uRs2]), if_neg (by simp [Fm.uImm]; omega)]
  refine ⟨by simp [insE, hf, e], ?_⟩
  simp [insW, hf, e, encW, immB]
/-- What the law of registers asks. -/
theorem regs_law {op rd rs1 rs2 t : Int} (h : 1 ≤ op ∧ op ≤ 17) (h1 : 0 ≤ rd ∧ rd ≤ 31) (h2 : 0 ≤ rs1 ∧ rs1 ≤ 31) (h3 : 0 ≤ rs2 ∧ rs2 ≤ 31) (ht : 0 ≤ t ∧ t ≤ 30) :
    insE op rd rs1 rs2 0 = 0 ∧ (0 ≤ insW op rd rs1 rs2 0 ∧ insW op rd rs1 rs2 0 < 4294967296) ∧ insW op rd rs1 rs2 0 / 128 % 32 = rd ∧ insW op rd rs1 rs2 0 / 32768 % 32 = rs1 ∧ insW op rd rs1 rs2 0 / 1048576 % 32 = rs2 ∧ insW op rd rs1 rs2 0 % 128 = 51 ∧
      insE op ((rd + 1 + t) % 32) rs1 rs2 0 = 0 ∧ (0 ≤ insW op ((rd + 1 + t) % 32) rs1 rs2 0 ∧ insW op ((rd + 1 + t) % 32) rs1 rs2 0 < 4294967296) ∧ insW op ((rd + 1 + t) % 32) rs1 rs2 0 ≠ insW op rd rs1 rs2 0 ∧ bits .andNot .u32 (insW op ((rd + 1 + t) % 32) rs1 rs2 0) 3968 = bits .andNot .u32 (insW op rd rs1 rs2 0) 3968 := by
  obtain ⟨f3, f7, b1, b2, hw⟩ := regs_word h h2 h3
  obtain ⟨e1, e2⟩ := hw rd h1
  have hr : 0 ≤ (rd + 1 + t) % 32 ∧ (rd + 1 + t) % 32 ≤ 31 := by omega
  have hne : (rd + 1 + t) % 32 ≠ rd := by omega
  generalize (rd + 1 + t) % 32 = r at *
  obtain ⟨d1, d2⟩ := hw r hr
  rw [e1, d1, e2, d2]
  obtain ⟨w1, w2, w3, w4, w5, w6, w7, w8, w9, w10, w11, -⟩ := fields (by omega : (0 : Int) ≤ 51 ∧ (51 : Int) < 128) (by omega : 0 ≤ rd ∧ rd < 32) b1 (by omega : 0 ≤ rs1 ∧ rs1 < 32) (by omega : 0 ≤ rs2 ∧ rs2 < 32) b2 rfl
  obtain ⟨v1, v2, v3, v4, v5, v6, v7, v8, v9, v10, v11, -⟩ := fields (by omega : (0 : Int) ≤ 51 ∧ (51 : Int) < 128) (by omega : 0 ≤ r ∧ r < 32) b1 (by omega : 0 ≤ rs1 ∧ rs1 < 32) (by omega : 0 ≤ rs2 ∧ rs2 < 32) b2 rfl
  exact ⟨rfl, ⟨w1, w2⟩, w4, w6, w7, w3, rfl, ⟨v1, v2⟩, by omega, andNot_same ⟨v1, v2⟩ ⟨w1, w2⟩ (v11.trans w11.symm) (v3.trans w3.symm)⟩
end Go.Proofs.Ytkmklmpolnkkeaa.PC
