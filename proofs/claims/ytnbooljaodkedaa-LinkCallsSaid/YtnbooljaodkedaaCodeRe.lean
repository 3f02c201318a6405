/- The reference's Encode: what its walk goes by. -/
import Derived.Test.YtnbooljaodkedaaCodeRoZ
import Derived.Test.YtnbooljaodkedaaCodeN
import Derived.IntWalk
import Derived.Deep.DeepCutAuto
import Derived.Deep.CutBlock
import Derived.Deep.RegionHeld3
namespace Go.Proofs.Ytnbooljaodkedaa
open Go.RowKit Go.Maps Go.Proofs.Ytnbooljaodkedaa.PC
set_option linter.unusedVariables false
set_option linter.unusedSimpArgs false
def fieldV (x f n : Int) : Int := x / 2 ^ f.toNat % 2 ^ n.toNat
theorem field_calls' (x f n : Int) (hx : -9223372036854775808 ≤ x ∧ x ≤ 9223372036854775807) (hf : 0 ≤ f ∧ f ≤ 40) (hn : 0 ≤ n ∧ n ≤ 40) (w : World) :
    Calls Try.prog 39 #[.int .i64 x, .int .i64 f, .int .i64 n] w fun e w' => e = .returned (.int .i64 (fieldV x f n)) ∧ Dr w w' := by
  have h := field_calls x f.toNat n.toNat hx (by omega) (by omega) w
  have e1 : ((f.toNat : Nat) : Int) = f := by omega
  have e2 : ((n.toNat : Nat) : Int) = n := by omega
  rw [e1, e2] at h
  exact h
/-- The instruction's and the row's cells. -/
def RInW (w : World) (f : Fm) (r4 op rd rs1 rs2 n : Int) (b : Nat) (wx : World) : Prop :=
  Kp w wx ∧ Blk wx w.heap.size #[.int .i64 op, .int .i64 rd, .int .i64 rs1, .int .i64 rs2, .int .i64 n] 40 ∧ Blk wx b #[.int .u8 f.kind, .int .i64 f.op, .int .i64 f.f3, .int .i64 f.f7, .int .i64 r4] 108
theorem RInW.kp {w wx wy : World} {f : Fm} {r4 op rd rs1 rs2 n : Int} {b : Nat} (h : RInW w f r4 op rd rs1 rs2 n b wx) (k : Kp wx wy) : RInW w f r4 op rd rs1 rs2 n b wy := ⟨h.1.trans k, h.2.1.kp k, h.2.2.kp k⟩
theorem passed_of {f : Fm} {rd rs1 rs2 n : Int} (hb2 : ¬(¬f.uRd ∧ rd ≠ 0 ∨ ¬f.uRs1 ∧ rs1 ≠ 0 ∨ ¬f.uRs2 ∧ rs2 ≠ 0 ∨ ¬f.uImm ∧ n ≠ 0)) : (f.uRd ∨ rd = 0) ∧ (f.uRs1 ∨ rs1 = 0) ∧ (f.uRs2 ∨ rs2 = 0) ∧ (f.uImm ∨ n = 0) := by
  refine ⟨?_, ?_, ?_, ?_⟩
  · by_cases e : f.uRd
    · exact Or.inl e
    · exact Or.inr (Classical.byContradiction fun h => hb2 (Or.inl ⟨e, h⟩))
  · by_cases e : f.uRs1
    · exact Or.inl e
    · exact Or.inr (Classical.byContradiction fun h => hb2 (Or.inr (Or.inl ⟨e, h⟩)))
  · by_cases e : f.uRs2
    · exact Or.inl e
    · exact Or.inr (Classical.byContradiction fun h => hb2 (Or.inr (Or.inr (Or.inl ⟨e, h⟩))))
  · by_cases e : f.uImm
    · exact Or.inl e
    · exact Or.inr (Classical.byContradiction fun h => hb2 (Or.inr (Or.inr (Or.inr ⟨e, h⟩))))
theorem fieldV_range (x f k : Int) (hk : 0 ≤ k ∧ k ≤ 20 := by decide) : 0 ≤ fieldV x f k ∧ fieldV x f k ≤ 1048575 := by
  have h1 : (0 : Int) < 2 ^ k.toNat := Int.pow_pos (by decide)
  have h2 : (2 : Nat) ^ k.toNat ≤ 2 ^ 20 := Nat.pow_le_pow_right (by decide) (by omega)
  have h3 : (2 : Int) ^ k.toNat ≤ 2 ^ 20 := by exact_mod_cast h2
  have h4 : (2 : Int) ^ 20 = 1048576 := by decide
  unfold fieldV
  have h5 := Int.emod_nonneg (x / 2 ^ f.toNat) (Int.ne_of_gt h1)
  have h6 := Int.emod_lt_of_pos (x / 2 ^ f.toNat) h1
  exact ⟨h5, by omega⟩
theorem word_I {o f3 f7 r rd rs1 rs2 n : Int} (hg : (⟨73, o, f3, f7, r⟩ : Fm).good) (h : encE ⟨73, o, f3, f7, r⟩ rd rs1 rs2 n = 0) :
    (o + 128 * rd + 4096 * f3 + 32768 * rs1 + 1048576 * fieldV n 0 5 + 33554432 * fieldV n 5 7) % 4294967296 = encW ⟨73, o, f3, f7, r⟩ rd rs1 rs2 n := by
  obtain ⟨g1, g2, g3, g4, g5, g6, gk⟩ := hg
  obtain ⟨u1, u2, u3, u4, x1, x2, x3, x4, x5, x6, hfit⟩ := encE_zero h
  simp only [Fm.uRd, Fm.uRs1, Fm.uRs2, Fm.uImm] at *
  simp at u3 gk
  obtain ⟨rfl, rfl⟩ := gk
  subst u3
  have e1 : fieldV n 0 5 = n % 32 := by simp [fieldV]
  have e2 : fieldV n 5 7 = n / 32 % 128 := by simp [fieldV]
  have e3 : immB 73 n = n % 4096 * 1048576 := rfl
  rw [e1, e2, encW, e3]
  simp
  clear hfit u1 u2 u4 h
  omega
theorem word_S {o f3 f7 r rd rs1 rs2 n : Int} (hg : (⟨83, o, f3, f7, r⟩ : Fm).good) (h : encE ⟨83, o, f3, f7, r⟩ rd rs1 rs2 n = 0) :
    (o + 128 * fieldV n 0 5 + 4096 * f3 + 32768 * rs1 + 1048576 * rs2 + 33554432 * fieldV n 5 7) % 4294967296 = encW ⟨83, o, f3, f7, r⟩ rd rs1 rs2 n := by
  obtain ⟨g1, g2, g3, g4, g5, g6, gk⟩ := hg
  obtain ⟨u1, u2, u3, u4, x1, x2, x3, x4, x5, x6, hfit⟩ := encE_zero h
  simp only [Fm.uRd, Fm.uRs1, Fm.uRs2, Fm.uImm] at *
  simp at u1 gk
  obtain ⟨rfl, rfl⟩ := gk
  subst u1
  have e1 : fieldV n 0 5 = n % 32 := by simp [fieldV]
  have e2 : fieldV n 5 7 = n / 32 % 128 := by simp [fieldV]
  have e3 : immB 83 n = n % 32 * 128 + n / 32 % 128 * 33554432 := rfl
  rw [e1, e2, encW, e3]
  simp
  clear hfit u2 u3 u4 h
  omega
theorem word_H {o f3 f7 r rd rs1 rs2 n : Int} (hg : (⟨72, o, f3, f7, r⟩ : Fm).good) (h : encE ⟨72, o, f3, f7, r⟩ rd rs1 rs2 n = 0) :
    (o + 128 * rd + 4096 * f3 + 32768 * rs1 + 1048576 * n + 33554432 * f7) % 4294967296 = encW ⟨72, o, f3, f7, r⟩ rd rs1 rs2 n := by
  obtain ⟨g1, g2, g3, g4, g5, g6, gk⟩ := hg
  obtain ⟨u1, u2, u3, u4, x1, x2, x3, x4, x5, x6, hfit⟩ := encE_zero h
  simp only [Fm.uRd, Fm.uRs1, Fm.uRs2, Fm.uImm, fitsK] at *
  simp at u3 gk hfit
  subst gk u3
  have e3 : immB 72 n = n % 32 * 1048576 := rfl
  rw [encW, e3]
  simp
  clear u1 u2 u4 h
  omega
theorem word_E {o f3 f7 r rd rs1 rs2 n : Int} (hg : (⟨69, o, f3, f7, r⟩ : Fm).good) (h : encE ⟨69, o, f3, f7, r⟩ rd rs1 rs2 n = 0) : o = encW ⟨69, o, f3, f7, r⟩ rd rs1 rs2 n := by
  obtain ⟨g1, g2, g3, g4, g5, g6, gk⟩ := hg
  obtain ⟨u1, u2, u3, u4, x1, x2, x3, x4, x5, x6, hfit⟩ := encE_zero h
  simp only [Fm.uRd, Fm.uRs1, Fm.uRs2, Fm.uImm] at *
  simp at u1 u2 u3 u4 gk
  obtain ⟨rfl, rfl, rfl⟩ := gk
  subst u1 u2 u3 u4
  have e3 : immB 69 0 = 0 := rfl
  rw [encW, e3]
  simp
theorem word_U {o f3 f7 r rd rs1 rs2 n : Int} (hg : (⟨85, o, f3, f7, r⟩ : Fm).good) (h : encE ⟨85, o, f3, f7, r⟩ rd rs1 rs2 n = 0) : o + 128 * rd + 4096 * n = encW ⟨85, o, f3, f7, r⟩ rd rs1 rs2 n := by
  obtain ⟨g1, g2, g3, g4, g5, g6, gk⟩ := hg
  obtain ⟨u1, u2, u3, u4, x1, x2, x3, x4, x5, x6, hfit⟩ := encE_zero h
  simp only [Fm.uRd, Fm.uRs1, Fm.uRs2, Fm.uImm, fitsK] at *
  simp at u2 u3 gk hfit
  obtain ⟨rfl, rfl, rfl⟩ := gk
  subst u2 u3
  have e3 : immB 85 n = n % 1048576 * 4096 := rfl
  rw [encW, e3]
  simp
  clear u1 u4 h
  omega
theorem word_R {o f3 f7 r rd rs1 rs2 n x : Int} (hg : (⟨82, o, f3, f7, r⟩ : Fm).good) (h : encE ⟨82, o, f3, f7, r⟩ rd rs1 rs2 n = 0) (hx : r = 32 ∧ x = rs1 ∨ ¬r = 32 ∧ x = rs2) :
    (o + 128 * rd + 4096 * f3 + 32768 * rs1 + 1048576 * x + 33554432 * f7) % 4294967296 = encW ⟨82, o, f3, f7, r⟩ rd rs1 rs2 n := by
  obtain ⟨g1, g2, g3, g4, g5, g6, gk⟩ := hg
  obtain ⟨u1, u2, u3, u4, x1, x2, x3, x4, x5, x6, hfit⟩ := encE_zero h
  simp only [Fm.uRd, Fm.uRs1, Fm.uRs2, Fm.uImm] at *
  simp at u4
  have e3 : immB 82 n = 0 := rfl
  have e4 : (if r = 32 then rs1 else rs2) = x := by
    rcases hx with ⟨h1, h2⟩ | ⟨h1, h2⟩
    · rw [if_pos h1, h2]
    · rw [if_neg h1, h2]
  rw [encW, e3]
  simp only [e4]
  clear hfit u1 u2 u3 u4 h gk
  omega
theorem word_B {o f3 f7 r rd rs1 rs2 n : Int} (hg : (⟨66, o, f3, f7, r⟩ : Fm).good) (h : encE ⟨66, o, f3, f7, r⟩ rd rs1 rs2 n = 0) :
    (o + 128 * (fieldV n 11 1 + 2 * fieldV n 1 4) + 4096 * f3 + 32768 * rs1 + 1048576 * rs2 + 33554432 * (fieldV n 5 6 + 64 * fieldV n 12 1)) % 4294967296 = encW ⟨66, o, f3, f7, r⟩ rd rs1 rs2 n := by
  obtain ⟨g1, g2, g3, g4, g5, g6, gk⟩ := hg
  obtain ⟨u1, u2, u3, u4, x1, x2, x3, x4, x5, x6, hfit⟩ := encE_zero h
  simp only [Fm.uRd, Fm.uRs1, Fm.uRs2, Fm.uImm] at *
  simp at u1 gk
  obtain ⟨rfl, rfl⟩ := gk
  subst u1
  have e1 : fieldV n 11 1 = n / 2048 % 2 := by simp [fieldV]
  have e2 : fieldV n 1 4 = n / 2 % 16 := by simp [fieldV]
  have e4 : fieldV n 5 6 = n / 32 % 64 := by simp [fieldV]
  have e5 : fieldV n 12 1 = n / 4096 % 2 := by simp [fieldV]
  have e3 : immB 66 n = n / 2048 % 2 * 128 + n / 2 % 16 * 256 + n / 32 % 64 * 33554432 + n / 4096 % 2 * 2147483648 := rfl
  rw [e1, e2, e4, e5, encW, e3]
  simp
  clear hfit u2 u3 u4 h e1 e2 e3 e4 e5
  omega
theorem word_J {o f3 f7 r rd rs1 rs2 n : Int} (hg : (⟨74, o, f3, f7, r⟩ : Fm).good) (h : encE ⟨74, o, f3, f7, r⟩ rd rs1 rs2 n = 0) :
    (o + 128 * rd + 4096 * fieldV n 12 8 + 1048576 * fieldV n 11 1 + 2097152 * fieldV n 1 10 + 2147483648 * fieldV n 20 1) % 4294967296 = encW ⟨74, o, f3, f7, r⟩ rd rs1 rs2 n := by
  obtain ⟨g1, g2, g3, g4, g5, g6, gk⟩ := hg
  obtain ⟨u1, u2, u3, u4, x1, x2, x3, x4, x5, x6, hfit⟩ := encE_zero h
  simp only [Fm.uRd, Fm.uRs1, Fm.uRs2, Fm.uImm] at *
  simp at u2 u3 gk
  obtain ⟨rfl, rfl, rfl⟩ := gk
  subst u2 u3
  have e1 : fieldV n 12 8 = n / 4096 % 256 := by simp [fieldV]
  have e2 : fieldV n 11 1 = n / 2048 % 2 := by simp [fieldV]
  have e4 : fieldV n 1 10 = n / 2 % 1024 := by simp [fieldV]
  have e5 : fieldV n 20 1 = n / 1048576 % 2 := by simp [fieldV]
  have e3 : immB 74 n = n / 4096 % 256 * 4096 + n / 2048 % 2 * 1048576 + n / 2 % 1024 * 2097152 + n / 1048576 % 2 * 2147483648 := rfl
  rw [e1, e2, e4, e5, encW, e3]
  simp
  clear hfit u1 u4 h e1 e2 e3 e4 e5
  omega
theorem sums_B (n : Int) : (0 ≤ fieldV n 11 1 + 2 * fieldV n 1 4 ∧ fieldV n 11 1 + 2 * fieldV n 1 4 ≤ 1048576) ∧ (0 ≤ fieldV n 5 6 + 64 * fieldV n 12 1 ∧ fieldV n 5 6 + 64 * fieldV n 12 1 ≤ 1048576) ∧
    IntKind.i64.wrap (2 * fieldV n 1 4) = 2 * fieldV n 1 4 ∧ IntKind.i64.wrap (fieldV n 11 1 + 2 * fieldV n 1 4) = fieldV n 11 1 + 2 * fieldV n 1 4 ∧ IntKind.i64.wrap (64 * fieldV n 12 1) = 64 * fieldV n 12 1 ∧ IntKind.i64.wrap (fieldV n 5 6 + 64 * fieldV n 12 1) = fieldV n 5 6 + 64 * fieldV n 12 1 := by
  have e1 : fieldV n 11 1 = n / 2048 % 2 := by simp [fieldV]
  have e2 : fieldV n 1 4 = n / 2 % 16 := by simp [fieldV]
  have e4 : fieldV n 5 6 = n / 32 % 64 := by simp [fieldV]
  have e5 : fieldV n 12 1 = n / 4096 % 2 := by simp [fieldV]
  have b1 : 0 ≤ fieldV n 11 1 ∧ fieldV n 11 1 ≤ 1 := by omega
  have b2 : 0 ≤ fieldV n 1 4 ∧ fieldV n 1 4 ≤ 15 := by omega
  have b4 : 0 ≤ fieldV n 5 6 ∧ fieldV n 5 6 ≤ 63 := by omega
  have b5 : 0 ≤ fieldV n 12 1 ∧ fieldV n 12 1 ≤ 1 := by omega
  clear e1 e2 e4 e5
  exact ⟨by omega, by omega, IntWalk.i64_in _ (by omega), IntWalk.i64_in _ (by omega), IntWalk.i64_in _ (by omega), IntWalk.i64_in _ (by omega)⟩
theorem sums_J {o rd : Int} (n : Int) (ho : 0 ≤ o ∧ o < 128) (hr : 0 ≤ rd ∧ rd ≤ 31) :
    IntKind.i64.wrap (128 * rd) = 128 * rd ∧ IntKind.i64.wrap (o + 128 * rd) = o + 128 * rd ∧ IntKind.i64.wrap (4096 * fieldV n 12 8) = 4096 * fieldV n 12 8 ∧ IntKind.i64.wrap (o + 128 * rd + 4096 * fieldV n 12 8) = o + 128 * rd + 4096 * fieldV n 12 8 ∧
    IntKind.i64.wrap (1048576 * fieldV n 11 1) = 1048576 * fieldV n 11 1 ∧ IntKind.i64.wrap (o + 128 * rd + 4096 * fieldV n 12 8 + 1048576 * fieldV n 11 1) = o + 128 * rd + 4096 * fieldV n 12 8 + 1048576 * fieldV n 11 1 ∧
    IntKind.i64.wrap (2097152 * fieldV n 1 10) = 2097152 * fieldV n 1 10 ∧ IntKind.i64.wrap (o + 128 * rd + 4096 * fieldV n 12 8 + 1048576 * fieldV n 11 1 + 2097152 * fieldV n 1 10) = o + 128 * rd + 4096 * fieldV n 12 8 + 1048576 * fieldV n 11 1 + 2097152 * fieldV n 1 10 ∧
    IntKind.i64.wrap (2147483648 * fieldV n 20 1) = 2147483648 * fieldV n 20 1 ∧ IntKind.i64.wrap (o + 128 * rd + 4096 * fieldV n 12 8 + 1048576 * fieldV n 11 1 + 2097152 * fieldV n 1 10 + 2147483648 * fieldV n 20 1) = o + 128 * rd + 4096 * fieldV n 12 8 + 1048576 * fieldV n 11 1 + 2097152 * fieldV n 1 10 + 2147483648 * fieldV n 20 1 := by
  have b1 := fieldV_range n 12 8
  have b2 := fieldV_range n 11 1
  have b4 := fieldV_range n 1 10
  have b5 := fieldV_range n 20 1
  exact ⟨IntWalk.i64_in _ (by omega), IntWalk.i64_in _ (by omega), IntWalk.i64_in _ (by omega), IntWalk.i64_in _ (by omega), IntWalk.i64_in _ (by omega), IntWalk.i64_in _ (by omega), IntWalk.i64_in _ (by omega), IntWalk.i64_in _ (by omega), IntWalk.i64_in _ (by omega), IntWalk.i64_in _ (by omega)⟩
end Go.Proofs.Ytnbooljaodkedaa
