/- Plain law of instructions and their words: an instruction that has a word is read back from it; a word is of one instruction. No condition. -/
import Derived.RowKit
namespace Go.Proofs.Ytgcihcgclmdolaa.PC
/-- How an instruction stands in a word. -/
structure Fm where
  kind : Int
  op : Int
  f3 : Int
  f7 : Int
  rs2 : Int
/-- All, by their numbers, from 1 on. -/
def tbl : List Fm := [
  ⟨82, 51, 0, 0, -1⟩, ⟨82, 51, 0, 32, -1⟩, ⟨82, 51, 1, 0, -1⟩, ⟨82, 51, 2, 0, -1⟩, ⟨82, 51, 3, 0, -1⟩, ⟨82, 51, 4, 0, -1⟩, ⟨82, 51, 5, 0, -1⟩, ⟨82, 51, 5, 32, -1⟩, ⟨82, 51, 6, 0, -1⟩, ⟨82, 51, 7, 0, -1⟩,
  ⟨82, 51, 0, 1, -1⟩, ⟨82, 51, 1, 1, -1⟩, ⟨82, 51, 3, 1, -1⟩, ⟨82, 51, 4, 1, -1⟩, ⟨82, 51, 5, 1, -1⟩, ⟨82, 51, 6, 1, -1⟩, ⟨82, 51, 7, 1, -1⟩,
  ⟨73, 19, 0, 0, -1⟩, ⟨73, 19, 2, 0, -1⟩, ⟨73, 19, 3, 0, -1⟩, ⟨73, 19, 4, 0, -1⟩, ⟨73, 19, 6, 0, -1⟩, ⟨73, 19, 7, 0, -1⟩,
  ⟨72, 19, 1, 0, -1⟩, ⟨72, 19, 5, 0, -1⟩, ⟨72, 19, 5, 32, -1⟩,
  ⟨73, 3, 0, 0, -1⟩, ⟨73, 3, 4, 0, -1⟩, ⟨73, 3, 2, 0, -1⟩, ⟨83, 35, 0, 0, -1⟩, ⟨83, 35, 2, 0, -1⟩,
  ⟨66, 99, 0, 0, -1⟩, ⟨66, 99, 1, 0, -1⟩, ⟨66, 99, 4, 0, -1⟩, ⟨66, 99, 5, 0, -1⟩, ⟨66, 99, 6, 0, -1⟩, ⟨66, 99, 7, 0, -1⟩,
  ⟨85, 55, 0, 0, -1⟩, ⟨85, 23, 0, 0, -1⟩, ⟨74, 111, 0, 0, -1⟩, ⟨73, 103, 0, 0, -1⟩, ⟨69, 115, 0, 0, -1⟩, ⟨73, 7, 3, 0, -1⟩, ⟨83, 39, 3, 0, -1⟩,
  ⟨82, 83, 0, 1, -1⟩, ⟨82, 83, 0, 5, -1⟩, ⟨82, 83, 0, 9, -1⟩, ⟨82, 83, 0, 13, -1⟩, ⟨82, 83, 0, 17, 32⟩, ⟨82, 83, 1, 17, 32⟩, ⟨82, 83, 2, 81, -1⟩, ⟨82, 83, 1, 81, -1⟩, ⟨82, 83, 0, 81, -1⟩, ⟨82, 83, 1, 97, 0⟩, ⟨82, 83, 0, 105, 0⟩]
/-- What of a form is 0, by its kind. -/
def Fm.good (f : Fm) : Prop :=
  0 ≤ f.op ∧ f.op < 128 ∧ 0 ≤ f.f3 ∧ f.f3 < 8 ∧ 0 ≤ f.f7 ∧ f.f7 < 128 ∧
  (f.kind = 82 ∧ (f.rs2 = -1 ∨ f.rs2 = 0 ∨ f.rs2 = 32) ∨ f.kind = 73 ∧ f.f7 = 0 ∧ f.rs2 = -1 ∨ f.kind = 72 ∧ f.rs2 = -1 ∨ f.kind = 83 ∧ f.f7 = 0 ∧ f.rs2 = -1 ∨ f.kind = 66 ∧ f.f7 = 0 ∧ f.rs2 = -1 ∨
    f.kind = 85 ∧ f.f3 = 0 ∧ f.f7 = 0 ∧ f.rs2 = -1 ∨ f.kind = 74 ∧ f.f3 = 0 ∧ f.f7 = 0 ∧ f.rs2 = -1 ∨ f.kind = 69 ∧ f.f3 = 0 ∧ f.f7 = 0 ∧ f.rs2 = -1)
instance (f : Fm) : Decidable f.good := by unfold Fm.good; infer_instance
theorem tbl_good : ∀ f ∈ tbl, f.good := by decide +kernel
/-- The form of an instruction's number. -/
def formOf (op : Int) : Option Fm := if 1 ≤ op ∧ op ≤ 55 then tbl[(op - 1).toNat]? else none
theorem formOf_good {op : Int} {f : Fm} (h : formOf op = some f) : f.good ∧ 1 ≤ op ∧ op ≤ 55 := by
  unfold formOf at h
  split at h
  · rename_i hr
    exact ⟨tbl_good f (List.mem_of_getElem? h), hr⟩
  · cases h
theorem formOf_some {op : Int} (h : 1 ≤ op ∧ op ≤ 55) : ∃ f, formOf op = some f := by
  unfold formOf
  rw [if_pos h]
  have hl : tbl.length = 55 := rfl
  exact ⟨_, List.getElem?_eq_getElem (by omega)⟩
/-- What a form uses. -/
def Fm.uRd (f : Fm) : Prop := f.kind = 82 ∨ f.kind = 73 ∨ f.kind = 72 ∨ f.kind = 85 ∨ f.kind = 74
def Fm.uRs1 (f : Fm) : Prop := f.kind = 82 ∨ f.kind = 73 ∨ f.kind = 72 ∨ f.kind = 83 ∨ f.kind = 66
def Fm.uRs2 (f : Fm) : Prop := f.kind = 82 ∧ f.rs2 < 0 ∨ f.kind = 83 ∨ f.kind = 66
def Fm.uImm (f : Fm) : Prop := f.kind = 73 ∨ f.kind = 72 ∨ f.kind = 83 ∨ f.kind = 66 ∨ f.kind = 85 ∨ f.kind = 74
instance (f : Fm) : Decidable f.uRd := by unfold Fm.uRd; infer_instance
instance (f : Fm) : Decidable f.uRs1 := by unfold Fm.uRs1; infer_instance
instance (f : Fm) : Decidable f.uRs2 := by unfold Fm.uRs2; infer_instance
instance (f : Fm) : Decidable f.uImm := by unfold Fm.uImm; infer_instance
/-- Whether this may be the Imm of a kind. -/
def fitsK (k n : Int) : Prop :=
  (k = 73 ∨ k = 83) ∧ -2048 ≤ n ∧ n < 2048 ∨ k = 72 ∧ 0 ≤ n ∧ n < 32 ∨ k = 66 ∧ -4096 ≤ n ∧ n < 4096 ∧ n % 2 = 0 ∨ k = 85 ∧ 0 ≤ n ∧ n < 1048576 ∨ k = 74 ∧ -1048576 ≤ n ∧ n < 1048576 ∧ n % 2 = 0
instance (k n : Int) : Decidable (fitsK k n) := by unfold fitsK; infer_instance
/-- An Imm's bits in the word. -/
def immB (k n : Int) : Int :=
  if k = 73 then n % 4096 * 1048576 else if k = 72 then n % 32 * 1048576
  else if k = 83 then n % 32 * 128 + n / 32 % 128 * 33554432
  else if k = 66 then n / 2048 % 2 * 128 + n / 2 % 16 * 256 + n / 32 % 64 * 33554432 + n / 4096 % 2 * 2147483648
  else if k = 85 then n % 1048576 * 4096
  else if k = 74 then n / 4096 % 256 * 4096 + n / 2048 % 2 * 1048576 + n / 2 % 1024 * 2097152 + n / 1048576 % 2 * 2147483648 else 0
/-- The word of a form's fields. -/
def encW (f : Fm) (rd rs1 rs2 n : Int) : Int := f.op + rd * 128 + f.f3 * 4096 + rs1 * 32768 + (if f.rs2 = 32 then rs1 else rs2) * 1048576 + f.f7 * 33554432 + immB f.kind n
/-- The error: 2: it is none; 1: outside. -/
def encE (f : Fm) (rd rs1 rs2 n : Int) : Int :=
  if ¬f.uRd ∧ rd ≠ 0 ∨ ¬f.uRs1 ∧ rs1 ≠ 0 ∨ ¬f.uRs2 ∧ rs2 ≠ 0 ∨ ¬f.uImm ∧ n ≠ 0 then 2
  else if rd < 0 ∨ 31 < rd ∨ rs1 < 0 ∨ 31 < rs1 ∨ rs2 < 0 ∨ 31 < rs2 ∨ f.uImm ∧ ¬fitsK f.kind n then 1 else 0
theorem encE_zero {f : Fm} {rd rs1 rs2 n : Int} (h : encE f rd rs1 rs2 n = 0) :
    (f.uRd ∨ rd = 0) ∧ (f.uRs1 ∨ rs1 = 0) ∧ (f.uRs2 ∨ rs2 = 0) ∧ (f.uImm ∨ n = 0) ∧ 0 ≤ rd ∧ rd ≤ 31 ∧ 0 ≤ rs1 ∧ rs1 ≤ 31 ∧ 0 ≤ rs2 ∧ rs2 ≤ 31 ∧ (f.uImm → fitsK f.kind n) := by
  unfold encE at h
  split at h
  · cases h
  · rename_i h1
    split at h
    · cases h
    · rename_i h2
      simp only [not_or, not_and, Classical.not_not] at h1 h2
      refine ⟨?_, ?_, ?_, ?_, by omega, by omega, by omega, by omega, by omega, by omega, h2.2.2.2.2.2.2⟩
      · by_cases e : f.uRd
        · exact Or.inl e
        · exact Or.inr (h1.1 e)
      · by_cases e : f.uRs1
        · exact Or.inl e
        · exact Or.inr (h1.2.1 e)
      · by_cases e : f.uRs2
        · exact Or.inl e
        · exact Or.inr (h1.2.2.1 e)
      · by_cases e : f.uImm
        · exact Or.inl e
        · exact Or.inr (h1.2.2.2 e)
/-- An instruction's word and error, of its number. -/
def insE (op rd rs1 rs2 n : Int) : Int := match formOf op with | none => 2 | some f => encE f rd rs1 rs2 n
def insW (op rd rs1 rs2 n : Int) : Int := match formOf op with | none => 0 | some f => if encE f rd rs1 rs2 n = 0 then encW f rd rs1 rs2 n else 0
/-- The signed Imm that a word holds, by a kind. -/
def immOf (k w : Int) : Int :=
  if k = 73 then (if w / 1048576 ≥ 2048 then w / 1048576 - 4096 else w / 1048576) else if k = 72 then w / 1048576 % 32
  else if k = 83 then (if w / 33554432 ≥ 64 then w / 33554432 - 128 else w / 33554432) * 32 + w / 128 % 32
  else if k = 66 then 2 * (w / 256 % 16) + 32 * (w / 33554432 % 64) + 2048 * (w / 128 % 2) - 4096 * (w / 2147483648 % 2)
  else if k = 85 then w / 4096
  else if k = 74 then 2 * (w / 2097152 % 1024) + 2048 * (w / 1048576 % 2) + 4096 * (w / 4096 % 256) - 1048576 * (w / 2147483648 % 2) else 0
/-- What a word's fields say, by a form. -/
def cRd (f : Fm) (w : Int) : Int := if f.uRd then w / 128 % 32 else 0
def cRs1 (f : Fm) (w : Int) : Int := if f.uRs1 then w / 32768 % 32 else 0
def cRs2 (f : Fm) (w : Int) : Int := if f.uRs2 then w / 1048576 % 32 else 0
def cImm (f : Fm) (w : Int) : Int := immOf f.kind w
/-- What of a word tells its form. -/
def Fm.sig (f : Fm) (w : Int) : Prop := w % 128 = f.op ∧ (f.kind = 85 ∨ f.kind = 74 ∨ w / 4096 % 8 = f.f3) ∧ (f.kind = 82 ∨ f.kind = 72 → w / 33554432 % 128 = f.f7)
/-- The six fields of a word. -/
theorem fields {a b c d e g W : Int} (ha : 0 ≤ a ∧ a < 128) (hb : 0 ≤ b ∧ b < 32) (hc : 0 ≤ c ∧ c < 8) (hd : 0 ≤ d ∧ d < 32) (he : 0 ≤ e ∧ e < 32) (hg : 0 ≤ g ∧ g < 128) (hW : W = a + b * 128 + c * 4096 + d * 32768 + e * 1048576 + g * 33554432) :
    0 ≤ W ∧ W < 4294967296 ∧ W % 128 = a ∧ W / 128 % 32 = b ∧ W / 4096 % 8 = c ∧ W / 32768 % 32 = d ∧ W / 1048576 % 32 = e ∧ W / 33554432 % 128 = g ∧ W / 33554432 = g ∧ W / 1048576 = e + 32 * g ∧ W / 4096 = c + 8 * d + 256 * e + 8192 * g ∧
    W / 2097152 % 1024 = e / 2 + 16 * (g % 64) ∧ W / 1048576 % 2 = e % 2 ∧ W / 4096 % 256 = c + 8 * d ∧ W / 2147483648 % 2 = g / 64 ∧ W / 256 % 16 = b / 2 ∧ W / 128 % 2 = b % 2 ∧ W / 33554432 % 64 = g % 64 := by
  subst hW
  refine ⟨?_, ?_, ?_, ?_, ?_, ?_, ?_, ?_, ?_, ?_, ?_, ?_, ?_, ?_, ?_, ?_, ?_, ?_⟩ <;> omega
/-- The fields of an instruction's word. -/
theorem encW_fields {f : Fm} (hf : f.good) {rd rs1 rs2 n : Int} (h : encE f rd rs1 rs2 n = 0) :
    ∃ b c d e g : Int, (0 ≤ b ∧ b < 32) ∧ (0 ≤ c ∧ c < 8) ∧ (0 ≤ d ∧ d < 32) ∧ (0 ≤ e ∧ e < 32) ∧ (0 ≤ g ∧ g < 128) ∧ encW f rd rs1 rs2 n = f.op + b * 128 + c * 4096 + d * 32768 + e * 1048576 + g * 33554432 ∧
      (f.uRd → b = rd) ∧ (f.uRs1 → d = rs1) ∧ (f.uRs2 → e = rs2) ∧ (f.kind = 85 ∨ f.kind = 74 ∨ c = f.f3) ∧ (f.kind = 82 ∨ f.kind = 72 → g = f.f7) ∧
      (f.kind = 73 → e = n % 32 ∧ g = n / 32 % 128) ∧ (f.kind = 72 → e = n) ∧ (f.kind = 83 → b = n % 32 ∧ g = n / 32 % 128) ∧ (f.kind = 66 → b = n / 2048 % 2 + 2 * (n / 2 % 16) ∧ g = n / 32 % 64 + 64 * (n / 4096 % 2)) ∧
      (f.kind = 85 → c + 8 * d + 256 * e + 8192 * g = n) ∧ (f.kind = 74 → c + 8 * d = n / 4096 % 256 ∧ e = n / 2048 % 2 + 2 * (n / 2 % 16) ∧ g = n / 32 % 64 + 64 * (n / 1048576 % 2)) := by
  obtain ⟨u1, u2, u3, u4, r1, r2, r3, r4, r5, r6, hfit⟩ := encE_zero h
  clear h
  obtain ⟨kind, op, f3, f7, r⟩ := f
  obtain ⟨g1, g2, g3, g4, g5, g6, hk⟩ := hf
  simp only [Fm.uRd, Fm.uRs1, Fm.uRs2, Fm.uImm, fitsK, encW, immB] at *
  rcases hk with ⟨rfl, hr⟩ | ⟨rfl, rfl, rfl⟩ | ⟨rfl, rfl⟩ | ⟨rfl, rfl, rfl⟩ | ⟨rfl, rfl, rfl⟩ | ⟨rfl, rfl, rfl, rfl⟩ | ⟨rfl, rfl, rfl, rfl⟩ | ⟨rfl, rfl, rfl, rfl⟩
  · simp at u1 u2 u3 u4 hfit ⊢
    subst u4
    refine ⟨rd, by omega, f3, by omega, rs1, by omega, (if r = 32 then rs1 else rs2), by split <;> omega, f7, by omega, rfl, rfl, rfl, fun hr' => ?_, rfl, rfl⟩
    rw [if_neg (by omega)]
  · simp at u1 u2 u3 u4 hfit ⊢
    subst u3
    refine ⟨rd, by omega, f3, by omega, rs1, by omega, n % 32, by omega, n / 32 % 128, by omega, by omega, rfl, rfl, rfl, rfl, rfl⟩
  · simp at u1 u2 u3 u4 hfit ⊢
    subst u3
    refine ⟨rd, by omega, f3, by omega, rs1, by omega, n, by omega, f7, by omega, by omega, rfl, rfl, rfl, rfl, rfl⟩
  · simp at u1 u2 u3 u4 hfit ⊢
    subst u1
    refine ⟨n % 32, by omega, f3, by omega, rs1, by omega, rs2, by omega, n / 32 % 128, by omega, by omega, rfl, rfl, rfl, rfl, rfl⟩
  · simp at u1 u2 u3 u4 hfit ⊢
    subst u1
    refine ⟨n / 2048 % 2 + 2 * (n / 2 % 16), by omega, f3, by omega, rs1, by omega, rs2, by omega, n / 32 % 64 + 64 * (n / 4096 % 2), by omega, by omega, rfl, rfl, rfl, rfl, rfl⟩
  · simp at u1 u2 u3 u4 hfit ⊢
    subst u2 u3
    refine ⟨rd, by omega, n % 8, by omega, n / 8 % 32, by omega, n / 256 % 32, by omega, n / 8192, by omega, by omega, rfl, by omega⟩
  · simp at u1 u2 u3 u4 hfit ⊢
    subst u2 u3
    refine ⟨rd, by omega, n / 4096 % 8, by omega, n / 32768 % 32, by omega, n / 2048 % 2 + 2 * (n / 2 % 16), by omega, n / 32 % 64 + 64 * (n / 1048576 % 2), by omega, by omega, rfl, by omega, rfl, rfl⟩
  · simp at u1 u2 u3 u4 hfit ⊢
    subst u1 u2 u3 u4
    exact ⟨0, by omega, 0, by omega, 0, by omega, 0, by omega, 0, by omega, by omega, rfl⟩
theorem immI {n e g : Int} (h : -2048 ≤ n ∧ n < 2048) (he : e = n % 32) (hg : g = n / 32 % 128) : (if e + 32 * g ≥ 2048 then e + 32 * g - 4096 else e + 32 * g) = n := by
  subst he hg; split <;> omega
theorem immS {n b g : Int} (h : -2048 ≤ n ∧ n < 2048) (hb : b = n % 32) (hg : g = n / 32 % 128) : (if g ≥ 64 then g - 128 else g) * 32 + b = n := by
  subst hb hg; split <;> omega
theorem immBr {m b g : Int} (h : -2048 ≤ m ∧ m < 2048) (hb : b = m / 1024 % 2 + 2 * (m % 16)) (hg : g = m / 16 % 64 + 64 * (m / 2048 % 2)) : 2 * (b / 2) + 32 * (g % 64) + 2048 * (b % 2) - 4096 * (g / 64) = 2 * m := by
  have hb1 : b / 2 = m % 16 := by omega
  have hb2 : b % 2 = m / 1024 % 2 := by omega
  have hg1 : g % 64 = m / 16 % 64 := by omega
  have hg2 : g / 64 = m / 2048 % 2 := by omega
  rw [hb1, hb2, hg1, hg2]
  clear hb hg hb1 hb2 hg1 hg2
  omega
theorem immJ {m cd e g : Int} (h : -524288 ≤ m ∧ m < 524288) (hc : cd = m / 2048 % 256) (he : e = m / 1024 % 2 + 2 * (m % 16)) (hg : g = m / 16 % 64 + 64 * (m / 524288 % 2)) :
    2 * (e / 2 + 16 * (g % 64)) + 2048 * (e % 2) + 4096 * cd - 1048576 * (g / 64) = 2 * m := by
  have hb1 : e / 2 = m % 16 := by omega
  have hb2 : e % 2 = m / 1024 % 2 := by omega
  have hg1 : g % 64 = m / 16 % 64 := by omega
  have hg2 : g / 64 = m / 524288 % 2 := by omega
  rw [hb1, hb2, hg1, hg2, hc]
  clear hb1 hb2 hg1 hg2 hc he hg
  omega
theorem half (m k : Int) (_hk : 0 < k) : 2 * m / (2 * k) = m / k := Int.mul_ediv_mul_of_pos _ _ (by omega)
/-- An instruction that has a word is read back from it. -/
theorem back {f : Fm} (hf : f.good) {rd rs1 rs2 n : Int} (h : encE f rd rs1 rs2 n = 0) :
    0 ≤ encW f rd rs1 rs2 n ∧ encW f rd rs1 rs2 n < 4294967296 ∧ cRd f (encW f rd rs1 rs2 n) = rd ∧ cRs1 f (encW f rd rs1 rs2 n) = rs1 ∧ cRs2 f (encW f rd rs1 rs2 n) = rs2 ∧ cImm f (encW f rd rs1 rs2 n) = n ∧ f.sig (encW f rd rs1 rs2 n) := by
  obtain ⟨b, c, d, e, g, hb, hc, hd, he, hg, hW, h1, h2, h3, h4, h5, k1, k2, k3, k4, k5, k6⟩ := encW_fields hf h
  obtain ⟨u1, u2, u3, u4, r1, r2, r3, r4, r5, r6, hfit⟩ := encE_zero h
  obtain ⟨g1, g2, g3, g4, g5, g6, hk⟩ := hf
  generalize encW f rd rs1 rs2 n = W at *
  obtain ⟨w1, w2, w3, w4, w5, w6, w7, w8, w9, w10, w11, w12, w13, w14, w15, w16, w17, w18⟩ := fields ⟨g1, g2⟩ hb hc hd he hg hW
  clear hW h
  refine ⟨w1, w2, ?_, ?_, ?_, ?_, w3, ?_, fun hk' => w8.trans (h5 hk')⟩
  · unfold cRd
    split
    · rename_i u; rw [w4]; exact h1 u
    · rename_i u; exact (u1.resolve_left u).symm
  · unfold cRs1
    split
    · rename_i u; rw [w6]; exact h2 u
    · rename_i u; exact (u2.resolve_left u).symm
  · unfold cRs2
    split
    · rename_i u; rw [w7]; exact h3 u
    · rename_i u; exact (u3.resolve_left u).symm
  · have F1 : f.kind = 73 ∨ f.kind = 83 → -2048 ≤ n ∧ n < 2048 := fun e => by
      have hf' := hfit (by unfold Fm.uImm; omega)
      clear w1 w2 w3 w4 w5 w6 w7 w8 w9 w10 w11 w12 w13 w14 w15 w16 w17 w18 hk k1 k2 k3 k4 k5 k6 h1 h2 h3 h4 h5 hfit
      unfold fitsK at hf'; omega
    have F2 : f.kind = 66 → -4096 ≤ n ∧ n < 4096 ∧ n % 2 = 0 := fun e => by
      have hf' := hfit (by unfold Fm.uImm; omega)
      clear w1 w2 w3 w4 w5 w6 w7 w8 w9 w10 w11 w12 w13 w14 w15 w16 w17 w18 hk k1 k2 k3 k4 k5 k6 h1 h2 h3 h4 h5 hfit F1
      unfold fitsK at hf'; omega
    have F3 : f.kind = 74 → -1048576 ≤ n ∧ n < 1048576 ∧ n % 2 = 0 := fun e => by
      have hf' := hfit (by unfold Fm.uImm; omega)
      clear w1 w2 w3 w4 w5 w6 w7 w8 w9 w10 w11 w12 w13 w14 w15 w16 w17 w18 hk k1 k2 k3 k4 k5 k6 h1 h2 h3 h4 h5 hfit F1 F2
      unfold fitsK at hf'; omega
    clear hfit
    unfold cImm immOf
    by_cases e1 : f.kind = 73
    · rw [if_pos e1, w10]
      exact immI (F1 (Or.inl e1)) (k1 e1).1 (k1 e1).2
    rw [if_neg e1]
    by_cases e2 : f.kind = 72
    · rw [if_pos e2, w7]; exact k2 e2
    rw [if_neg e2]
    by_cases e3 : f.kind = 83
    · rw [if_pos e3, w9, w4]
      exact immS (F1 (Or.inr e3)) (k3 e3).1 (k3 e3).2
    rw [if_neg e3]
    by_cases e4 : f.kind = 66
    · rw [if_pos e4, w16, w18, w17, w15]
      obtain ⟨q1, q2⟩ := k4 e4
      obtain ⟨m, rfl⟩ : ∃ m, n = 2 * m := ⟨n / 2, by have := F2 e4; clear w1 w2 w3 w4 w5 w6 w7 w8 w9 w10 w11 w12 w13 w14 w15 w16 w17 w18 hk k1 k2 k3 k4 k5 k6; omega⟩
      have h2 := half m 1024 (by decide)
      have h3 := half m 16 (by decide)
      have h4 := half m 2048 (by decide)
      have h5 := half m 1 (by decide)
      simp only [Int.reduceMul, Int.ediv_one] at h2 h3 h4 h5
      rw [h2, h5] at q1
      rw [h3, h4] at q2
      have f2 := F2 e4
      exact immBr (by clear q1 q2 h2 h3 h4 h5 w1 w2 w3 w4 w5 w6 w7 w8 w9 w10 w11 w12 w13 w14 w15 w16 w17 w18 hk k1 k2 k3 k4 k5 k6; omega) q1 q2
    rw [if_neg e4]
    by_cases e5 : f.kind = 85
    · rw [if_pos e5, w11]; exact k5 e5
    rw [if_neg e5]
    by_cases e6 : f.kind = 74
    · rw [if_pos e6, w12, w13, w14, w15]
      obtain ⟨q0, q1, q2⟩ := k6 e6
      obtain ⟨m, rfl⟩ : ∃ m, n = 2 * m := ⟨n / 2, by have := F3 e6; clear w1 w2 w3 w4 w5 w6 w7 w8 w9 w10 w11 w12 w13 w14 w15 w16 w17 w18 hk k1 k2 k3 k4 k5 k6; omega⟩
      have h2 := half m 1024 (by decide)
      have h3 := half m 16 (by decide)
      have h4 := half m 2048 (by decide)
      have h5 := half m 1 (by decide)
      have h6 := half m 524288 (by decide)
      simp only [Int.reduceMul, Int.ediv_one] at h2 h3 h4 h5 h6
      rw [h4] at q0
      rw [h2, h5] at q1
      rw [h3, h6] at q2
      have f2 := F3 e6
      exact immJ (by clear q0 q1 q2 h2 h3 h4 h5 h6 w1 w2 w3 w4 w5 w6 w7 w8 w9 w10 w11 w12 w13 w14 w15 w16 w17 w18 hk k1 k2 k3 k4 k5 k6; omega) q0 q1 q2
    rw [if_neg e6]
    have := u4.resolve_left (fun u => by unfold Fm.uImm at u; exact u.elim e1 (fun u => u.elim e2 (fun u => u.elim e3 (fun u => u.elim e4 (fun u => u.elim e5 e6)))))
    exact this.symm
  · rw [w5]; exact h4
/-- Whether two forms might be told by one word. -/
def clash (f g : Fm) : Bool := f.op == g.op && (f.kind == 85 || f.kind == 74 || g.kind == 85 || g.kind == 74 || f.f3 == g.f3) && (!(f.kind == 82 || f.kind == 72) || !(g.kind == 82 || g.kind == 72) || f.f7 == g.f7)
theorem tbl_clash : (List.range 55).all (fun i => (List.range 55).all fun j => i == j || match tbl[i]?, tbl[j]? with | some f, some g => !clash f g | _, _ => true) = true := by decide +kernel
theorem sig_clash {f g : Fm} {w : Int} (hf : f.sig w) (hg : g.sig w) : clash f g = true := by
  obtain ⟨a1, a2, a3⟩ := hf
  obtain ⟨b1, b2, b3⟩ := hg
  unfold clash
  simp only [Bool.and_eq_true, Bool.or_eq_true, beq_iff_eq, Bool.not_eq_true', Bool.or_eq_false_iff, beq_eq_false_iff_ne]
  refine ⟨⟨by omega, ?_⟩, ?_⟩
  · omega
  · by_cases e1 : f.kind = 82 ∨ f.kind = 72
    · by_cases e2 : g.kind = 82 ∨ g.kind = 72
      · right
        rw [← a3 e1, ← b3 e2]
      · left; right
        omega
    · left; left
      omega
/-- A word tells one instruction's number. -/
theorem one_op {i j : Int} {f g : Fm} {w : Int} (hi : formOf i = some f) (hj : formOf j = some g) (hf : f.sig w) (hg : g.sig w) : i = j := by
  have hc := sig_clash hf hg
  obtain ⟨_, i1, i2⟩ := formOf_good hi
  obtain ⟨_, j1, j2⟩ := formOf_good hj
  unfold formOf at hi hj
  rw [if_pos ⟨i1, i2⟩] at hi
  rw [if_pos ⟨j1, j2⟩] at hj
  have h := List.all_eq_true.1 (List.all_eq_true.1 tbl_clash (i - 1).toNat (List.mem_range.2 (by omega))) (j - 1).toNat (List.mem_range.2 (by omega))
  rw [hi, hj] at h
  simp only [hc, Bool.not_true, Bool.or_false, beq_iff_eq] at h
  omega
theorem insE_form {op rd rs1 rs2 n : Int} (h : insE op rd rs1 rs2 n = 0) : ∃ f, formOf op = some f ∧ encE f rd rs1 rs2 n = 0 ∧ insW op rd rs1 rs2 n = encW f rd rs1 rs2 n := by
  unfold insE at h
  unfold insW
  cases e : formOf op with
  | none => rw [e] at h; cases h
  | some f =>
    rw [e] at h
    simp only at h
    exact ⟨f, rfl, h, by simp [h]⟩
/-- Two instructions of one word are the same. -/
theorem ins_one {op rd rs1 rs2 n op' rd' rs1' rs2' n' : Int} (h : insE op rd rs1 rs2 n = 0) (h' : insE op' rd' rs1' rs2' n' = 0) (hw : insW op rd rs1 rs2 n = insW op' rd' rs1' rs2' n') :
    op = op' ∧ rd = rd' ∧ rs1 = rs1' ∧ rs2 = rs2' ∧ n = n' := by
  obtain ⟨f, e1, e2, e3⟩ := insE_form h
  obtain ⟨g, d1, d2, d3⟩ := insE_form h'
  rw [e3, d3] at hw
  obtain ⟨_, _, a1, a2, a3, a4, as⟩ := back (formOf_good e1).1 e2
  obtain ⟨_, _, b1, b2, b3, b4, bs⟩ := back (formOf_good d1).1 d2
  rw [hw] at as
  obtain rfl := one_op e1 d1 as bs
  rw [e1] at d1
  obtain rfl := Option.some.inj d1
  rw [hw] at a1 a2 a3 a4
  exact ⟨rfl, a1.symm.trans b1, a2.symm.trans b2, a3.symm.trans b3, a4.symm.trans b4⟩
end Go.Proofs.Ytgcihcgclmdolaa.PC
