/- Plain laws of the operations of words. Condition: the arguments are words. -/
import Derived.Test.YtgpalngmgpdgjaaPlainWord
namespace Go.Proofs.Ytgpalngmgpdgjaa.PW
open Go.RowKit
theorem doV_mul_comm (a b : Int) : doV 11 a b = doV 11 b a := by simp [doV, Int.mul_comm]
theorem doV_add_comm (a b : Int) : doV 1 a b = doV 1 b a := by simp [doV, Int.add_comm]
theorem doV_sub_add {a : Int} (b : Int) (ha : U a) : doV 2 (doV 1 a b) b = a := by
  simp only [doV]; unfold U at ha; simp; omega
theorem doV_xor_xor {a b : Int} (ha : U a) (hb : U b) : doV 6 (doV 6 a b) b = a := by
  simp only [doV]
  simp
  obtain ⟨A, rfl, hA⟩ := toN ha
  obtain ⟨B, rfl, hB⟩ := toN hb
  rw [bits_u32_xor A B hA hB, bits_u32_xor _ B (Nat.xor_lt_two_pow hA hB) hB, Nat.xor_assoc, Nat.xor_self, Nat.xor_zero]
theorem doV_mul_add (a b c : Int) : doV 11 a (doV 1 b c) = doV 1 (doV 11 a b) (doV 11 a c) := by
  simp only [doV]
  simp
  rw [← Int.mul_add, Int.mul_emod, Int.emod_emod_of_dvd _ (Int.dvd_refl _), ← Int.mul_emod]
theorem pow_split {k : Int} (h0 : 0 ≤ k) (h1 : k ≤ 31) : (2 : Int) ^ (32 - k).toNat * 2 ^ k.toNat = 4294967296 := by
  rw [← Int.pow_add, show (32 - k).toNat + k.toNat = 32 by omega]; rfl
theorem pow_pos (n : Nat) : (0 : Int) < 2 ^ n := Int.pow_pos (by decide)
theorem doV_srl_sll {a : Int} (c : Int) (ha : U a) : doV 7 (doV 3 a c) c = doV 10 a (2 ^ (32 - c % 32).toNat - 1) := by
  simp only [doV]
  simp
  have h0 : 0 ≤ c % 32 := by omega
  have h1 : c % 32 ≤ 31 := by omega
  have hs := pow_split h0 h1
  have hp := pow_pos (c % 32).toNat
  have hm := bits_mask .u32 32 (by decide) (fun n h0 h1 => by rw [IntKind.wrap_u32]; omega) (32 - c % 32).toNat (by omega) a ha.1 (by unfold U at ha; omega)
  rw [hm, ← hs, Int.mul_comm a, Int.mul_comm (2 ^ (32 - c % 32).toNat), Int.mul_emod_mul_of_pos _ _ hp, Int.mul_ediv_cancel_left _ (by omega)]
theorem doV_slt_sum (a b : Int) : (doV 4 a b + doV 4 b a) % 4294967296 ≤ 1 := by
  simp only [doV]
  simp
  split <;> split <;> omega
theorem doV_slt_sum' (a b : Int) : 0 ≤ doV 4 a b ∧ 0 ≤ doV 4 b a ∧ doV 4 a b + doV 4 b a ≤ 1 := by
  simp only [doV]
  simp
  split <;> split <;> omega
theorem doV_sltu_iff (a b : Int) : (doV 5 a b == 1) = decide (a < b) := by
  simp only [doV]
  by_cases h : a < b <;> simp [h]
/-- signed and unsigned shifts by k places -/
theorem sh_pow {k : Int} (h0 : 0 ≤ k) (h1 : k ≤ 30) : (1 : Int) ≤ 2 ^ k.toNat ∧ (2 : Int) ^ k.toNat ≤ 1073741824 := by
  have h2 : (2 : Nat) ^ k.toNat ≤ 2 ^ 30 := Nat.pow_le_pow_right (by decide) (by omega)
  have h3 := pow_pos k.toNat
  have h4 : (2 : Int) ^ k.toNat ≤ 2 ^ 30 := by exact_mod_cast h2
  exact ⟨by omega, h4⟩
theorem sh_one {k : Int} (h0 : 0 ≤ k) (h1 : k ≤ 30) : doV 3 1 k = 2 ^ k.toNat := by
  have h := sh_pow h0 h1
  simp only [doV]
  simp
  rw [show k % 32 = k by omega]
  omega
theorem sh_sll {a k : Int} (h0 : 0 ≤ k) (h1 : k ≤ 30) : doV 3 a k = doV 11 a (2 ^ k.toNat) := by
  simp only [doV]
  simp
  rw [show k % 32 = k by omega]
theorem sh_srl {a k : Int} (h0 : 0 ≤ k) (h1 : k ≤ 30) : doV 7 a k = doV 15 a (2 ^ k.toNat) := by
  have h := sh_pow h0 h1
  simp only [doV]
  simp
  rw [show k % 32 = k by omega, if_neg (by omega)]
theorem sh_sra {a k : Int} (ha : U a) (h0 : 0 ≤ k) (h1 : k ≤ 30) : sgn (doV 8 a k) = sgn a / 2 ^ k.toNat ∧ sgn a / 2 ^ k.toNat * 2 ^ k.toNat ≤ sgn a ∧ sgn a < sgn a / 2 ^ k.toNat * 2 ^ k.toNat + 2 ^ k.toNat ∧ -2147483648 ≤ sgn a / 2 ^ k.toNat ∧ sgn a / 2 ^ k.toNat ≤ 2147483647 := by
  have h := sh_pow h0 h1
  have hs := sgn_range ha
  have e1 := Int.mul_ediv_add_emod (sgn a) (2 ^ k.toNat)
  have e2 := Int.emod_nonneg (sgn a) (b := 2 ^ k.toNat) (by omega)
  have e3 := Int.emod_lt_of_pos (sgn a) (b := 2 ^ k.toNat) (by omega)
  have hv : doV 8 a k = sgn a / 2 ^ k.toNat % 4294967296 := by
    simp only [doV]
    simp
    rw [show k % 32 = k by omega]
  rw [Int.mul_comm] at e1
  have b1 : -2147483648 ≤ sgn a / 2 ^ k.toNat := by
    rcases Int.lt_or_le (sgn a / 2 ^ k.toNat) (-2147483648) with g | g
    · have : sgn a / 2 ^ k.toNat * 2 ^ k.toNat ≤ (-2147483649) * 2 ^ k.toNat := Int.mul_le_mul_of_nonneg_right (by omega) (by omega)
      omega
    · exact g
  have b2 : sgn a / 2 ^ k.toNat ≤ 2147483647 := by
    rcases Int.lt_or_le 2147483647 (sgn a / 2 ^ k.toNat) with g | g
    · have : 2147483648 * 2 ^ k.toNat ≤ sgn a / 2 ^ k.toNat * 2 ^ k.toNat := Int.mul_le_mul_of_nonneg_right (by omega) (by omega)
      omega
    · exact g
  refine ⟨?_, by omega, by omega, b1, b2⟩
  rw [hv]
  generalize sgn a / 2 ^ k.toNat = q at *
  unfold sgn
  split <;> omega
theorem modM (x y b c : Int) (h : b % 4294967296 = c % 4294967296) : (x % 4294967296 * b % 4294967296 + y % 4294967296) % 4294967296 = (x * c + y) % 4294967296 := by
  have h1 : x % 4294967296 * b % 4294967296 = x * c % 4294967296 := by
    rw [Int.mul_emod, Int.emod_emod_of_dvd _ (Int.dvd_refl _), h, ← Int.mul_emod]
  rw [h1]
  omega
theorem div_law {a b : Int} (ha : U a) (hb : U b) : doV 1 (doV 11 (doV 14 a b) b) (doV 16 a b) = a := by
  simp only [doV]
  simp
  by_cases z : b = 0
  · subst z; simp; exact mod_U ha
  · rw [if_neg z, if_neg z]
    have h := modM (Int.tdiv (sgn a) (sgn b)) (Int.tmod (sgn a) (sgn b)) b (sgn b) (sgn_mod b).symm
    have h2 := Int.tmod_add_mul_tdiv (sgn a) (sgn b)
    have h3 : Int.tdiv (sgn a) (sgn b) * sgn b + Int.tmod (sgn a) (sgn b) = sgn a := by rw [Int.mul_comm]; omega
    rw [h3, sgn_mod, mod_U ha] at h
    omega
theorem divu_law {a b : Int} (ha : U a) (hb : U b) : doV 1 (doV 11 (doV 15 a b) b) (doV 17 a b) = a := by
  simp only [doV]
  simp
  by_cases z : b = 0
  · subst z; simp; exact mod_U ha
  · rw [if_neg z, if_neg z]
    have h2 := Int.emod_add_mul_ediv a b
    rw [Int.mul_comm] at h2
    have := ha
    unfold U at this
    generalize a / b * b = y at *
    omega
theorem remu_lt {a b : Int} (hb : U b) (z : b ≠ 0) : doV 17 a b < b := by
  simp only [doV]
  simp
  rw [if_neg z]
  exact Int.emod_lt_of_pos _ (by have := hb.1; omega)
end Go.Proofs.Ytgpalngmgpdgjaa.PW
