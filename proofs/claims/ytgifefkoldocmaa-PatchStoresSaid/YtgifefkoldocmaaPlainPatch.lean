/- Plain law of relocations carried out. No condition. -/
import Derived.Test.YtgifefkoldocmaaCodeE
import Derived.Test.YtgifefkoldocmaaCodeDp
import Derived.Test.YtgifefkoldocmaaPlainWord
namespace Go.Proofs.Ytgifefkoldocmaa
open Go.Proofs.Ytgifefkoldocmaa.PC Go.Proofs.Ytgifefkoldocmaa.PW
/-- The upper and the lower part of a value. -/
def hiV (v : Int) : Int := (v + 2048) % 4294967296 / 4096
def loV (v : Int) : Int := if v % 4096 ≥ 2048 then v % 4096 - 4096 else v % 4096
theorem hiV_range (v : Int) : 0 ≤ hiV v ∧ hiV v < 1048576 := by unfold hiV; omega
theorem loV_range (v : Int) : -2048 ≤ loV v ∧ loV v < 2048 := by unfold loV; split <;> omega
theorem parts_law {v : Int} (hv : U v) : (hiV v * 4096 % 4294967296 + loV v % 4294967296) % 4294967296 = v := by
  unfold U at hv
  unfold hiV loV
  split <;> omega
/-- Whether a kind may be of an instruction. -/
def ofK (k op : Int) : Prop := k = 1 ∧ op = 38 ∨ k = 2 ∧ (18 ≤ op ∧ op ≤ 23 ∨ 27 ≤ op ∧ op ≤ 29 ∨ op = 41 ∨ op = 43) ∨ k = 3 ∧ (op = 30 ∨ op = 31 ∨ op = 44) ∨ k = 4 ∧ op = 40 ∨ k = 5 ∧ 32 ≤ op ∧ op ≤ 37
instance (k op : Int) : Decidable (ofK k op) := by unfold ofK; infer_instance
/-- The Imm that a relocation puts in. -/
def immP (k v p : Int) : Int := if k = 1 then hiV v else if k = 2 ∨ k = 3 then loV v else sgn ((v - p) % 4294967296)
theorem immP_1 (v p : Int) : immP 1 v p = hiV v := rfl
theorem immP_2 (v p : Int) : immP 2 v p = loV v := rfl
theorem immP_3 (v p : Int) : immP 3 v p = loV v := rfl
theorem immP_4 (v p : Int) : immP 4 v p = sgn ((v - p) % 4294967296) := rfl
theorem immP_5 (v p : Int) : immP 5 v p = sgn ((v - p) % 4294967296) := rfl
theorem immP_range (k v p : Int) : -2147483648 ≤ immP k v p ∧ immP k v p ≤ 2147483647 := by
  have h1 := hiV_range v
  have h2 := loV_range v
  unfold immP sgn
  split
  · omega
  split
  · omega
  split <;> omega
/-- What a word becomes. -/
def PatR (k x v p W E : Int) : Prop :=
  (k < 1 ∨ 6 < k) ∧ W = 0 ∧ E = 1 ∨ k = 6 ∧ W = v ∧ E = 0 ∨
  (1 ≤ k ∧ k ≤ 5) ∧ ∃ op rd rs1 rs2 n er : Int, DecR x op rd rs1 rs2 n er ∧
    ((er ≠ 0 ∨ n ≠ 0 ∨ ¬ofK k op) ∧ W = 0 ∧ E = 2 ∨ er = 0 ∧ n = 0 ∧ ofK k op ∧ (fitsOp op (immP k v p) = false ∧ W = 0 ∧ E = 7 ∨ fitsOp op (immP k v p) = true ∧ W = insW op rd rs1 rs2 (immP k v p) ∧ E = 0))
theorem decR_unique {x a b c d g er a' b' c' d' g' er' : Int} (h : DecR x a b c d g er) (h' : DecR x a' b' c' d' g' er') : a = a' ∧ b = b' ∧ c = c' ∧ d = d' ∧ g = g' ∧ er = er' := by
  rcases h with ⟨h1, h2, h3⟩ | ⟨h1, rfl, rfl, rfl, rfl, rfl, h2⟩ <;> rcases h' with ⟨k1, k2, k3⟩ | ⟨k1, rfl, rfl, rfl, rfl, rfl, k2⟩
  · obtain ⟨r1, r2, r3, r4, r5⟩ := ins_one h2 k2 (h3.trans k3.symm)
    exact ⟨r1, r2, r3, r4, r5, h1.trans k1.symm⟩
  · exact absurd ⟨h2, h3⟩ (k2 _ _ _ _ _)
  · exact absurd ⟨k2, k3⟩ (h2 _ _ _ _ _)
  · exact ⟨rfl, rfl, rfl, rfl, rfl, h1.trans k1.symm⟩
theorem patR_unique {k x v p W E W' E' : Int} (h : PatR k x v p W E) (h' : PatR k x v p W' E') : W = W' ∧ E = E' := by
  rcases h with ⟨h1, rfl, rfl⟩ | ⟨h1, rfl, rfl⟩ | ⟨h1, op, rd, rs1, rs2, n, er, hd, h2⟩ <;> rcases h' with ⟨g1, rfl, rfl⟩ | ⟨g1, rfl, rfl⟩ | ⟨g1, op', rd', rs1', rs2', n', er', hd', g2⟩
  · exact ⟨rfl, rfl⟩
  · omega
  · omega
  · omega
  · exact ⟨rfl, rfl⟩
  · omega
  · omega
  · omega
  · obtain ⟨rfl, rfl, rfl, rfl, rfl, rfl⟩ := decR_unique hd hd'
    rcases h2 with ⟨a1, rfl, rfl⟩ | ⟨a1, a2, a3, a4⟩ <;> rcases g2 with ⟨b1, rfl, rfl⟩ | ⟨b1, b2, b3, b4⟩
    · exact ⟨rfl, rfl⟩
    · exact absurd a1 (by simp [b1, b2, b3])
    · exact absurd b1 (by simp [a1, a2, a3])
    · rcases a4 with ⟨c1, rfl, rfl⟩ | ⟨c1, rfl, rfl⟩ <;> rcases b4 with ⟨d1, rfl, rfl⟩ | ⟨d1, rfl, rfl⟩
      · exact ⟨rfl, rfl⟩
      · rw [c1] at d1; cases d1
      · rw [c1] at d1; cases d1
      · exact ⟨rfl, rfl⟩
theorem decR_of {op rd rs1 rs2 n a b c d g er : Int} (h : insE op rd rs1 rs2 n = 0) (hd : DecR (insW op rd rs1 rs2 n) a b c d g er) : er = 0 ∧ a = op ∧ b = rd ∧ c = rs1 ∧ d = rs2 ∧ g = n := by
  rcases hd with ⟨h1, h2, h3⟩ | ⟨_, _, _, _, _, _, h2⟩
  · obtain ⟨r1, r2, r3, r4, r5⟩ := ins_one h2 h h3
    exact ⟨h1, r1, r2, r3, r4, r5⟩
  · exact absurd ⟨h, rfl⟩ (h2 op rd rs1 rs2 n)
theorem insW_range (op rd rs1 rs2 n : Int) : 0 ≤ insW op rd rs1 rs2 n ∧ insW op rd rs1 rs2 n ≤ 4294967295 := by
  by_cases h : insE op rd rs1 rs2 n = 0
  · obtain ⟨f, e1, e2, e3⟩ := insE_form h
    have := back (formOf_good e1).1 e2
    rw [e3]
    omega
  · have : insW op rd rs1 rs2 n = 0 := by
      unfold insW
      unfold insE at h
      cases hf : formOf op with
      | none => rfl
      | some f =>
        rw [hf] at h
        simp only at h
        simp [h]
    omega
theorem decR_range {x a b c d g er : Int} (h : DecR x a b c d g er) : (-9223372036854775808 ≤ a ∧ a ≤ 9223372036854775807) ∧ (-9223372036854775808 ≤ g ∧ g ≤ 9223372036854775807) := by
  rcases h with ⟨_, h2, _⟩ | ⟨_, rfl, rfl, rfl, rfl, rfl, _⟩
  · obtain ⟨f, hf, e, _⟩ := insE_form h2
    obtain ⟨_, r1, r2⟩ := formOf_good hf
    obtain ⟨u1, u2, u3, u4, r1, r2, r3, r4, r5, r6, hfit⟩ := encE_zero e
    refine ⟨by omega, ?_⟩
    rcases u4 with u | rfl
    · have := hfit u
      unfold fitsK at this
      omega
    · omega
  · omega
/-- An instruction that a relocation may be of, with another Imm. -/
theorem tbl_imm : ∀ i : Fin 55, (match tbl[i.val]? with | some f => decide (¬(∃ k : Fin 6, ofK (k.val : Int) ((i.val : Int) + 1)) ∨ f.uImm) | none => false) = true := by decide +kernel
theorem ofK_imm {k op : Int} {f : Fm} (h : ofK k op) (hf : formOf op = some f) : f.uImm := by
  obtain ⟨_, o1, o2⟩ := formOf_good hf
  have hk : 1 ≤ k ∧ k ≤ 5 := by unfold ofK at h; omega
  have ht := tbl_imm ⟨(op - 1).toNat, by omega⟩
  unfold formOf at hf
  rw [if_pos ⟨o1, o2⟩] at hf
  simp only [hf] at ht
  have e : (((op - 1).toNat : Nat) : Int) + 1 = op := by omega
  rcases of_decide_eq_true ht with g | g
  · exfalso
    apply g
    refine ⟨⟨k.toNat, by omega⟩, ?_⟩
    have e2 : ((k.toNat : Nat) : Int) = k := by omega
    simp only [e, e2]
    exact h
  · exact g
theorem ins_imm {k op rd rs1 rs2 m : Int} (h : ofK k op) (h0 : insE op rd rs1 rs2 0 = 0) : insE op rd rs1 rs2 m = if fitsOp op m = true then 0 else 1 := by
  obtain ⟨f, hf, e, _⟩ := insE_form h0
  have hu := ofK_imm h hf
  obtain ⟨u1, u2, u3, u4, r1, r2, r3, r4, r5, r6, hfit⟩ := encE_zero e
  unfold insE fitsOp
  rw [hf]
  show encE f rd rs1 rs2 m = _
  unfold encE
  rw [if_neg]
  · by_cases g : fitsK f.kind m
    · rw [if_neg, if_pos (by simpa using g)]
      rintro (_ | _ | _ | _ | _ | _ | ⟨_, c⟩)
      · omega
      · omega
      · omega
      · omega
      · omega
      · omega
      · exact c g
    · rw [if_pos (Or.inr (Or.inr (Or.inr (Or.inr (Or.inr (Or.inr ⟨hu, g⟩)))))), if_neg (by simpa using g)]
  · rintro (⟨a, b⟩ | ⟨a, b⟩ | ⟨a, b⟩ | ⟨a, b⟩)
    · exact b (u1.resolve_left a)
    · exact b (u2.resolve_left a)
    · exact b (u3.resolve_left a)
    · exact a hu
end Go.Proofs.Ytgifefkoldocmaa
