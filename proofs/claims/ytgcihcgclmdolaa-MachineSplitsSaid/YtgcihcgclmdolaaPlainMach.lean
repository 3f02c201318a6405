/- Plain law of the machine's memory: numbers of bytes, got and put. No condition. -/
import Derived.RowKit
import Derived.Laws.BitsLemmas
import Derived.Test.YtgcihcgclmdolaaPlainWord
namespace Go.Proofs.Ytgcihcgclmdolaa
open Go.RowKit Go.Proofs.Ytgcihcgclmdolaa.PW
def U64 (a : Int) : Prop := 0 ≤ a ∧ a ≤ 18446744073709551615
def Byte (a : Int) : Prop := 0 ≤ a ∧ a ≤ 255
/-- The number of so many bytes from a place on, the lowest first. -/
def getN (mem : List Int) (a : Nat) : Nat → Int
  | 0 => 0
  | k + 1 => getN mem a k + mem.getD (a + k) 0 * 256 ^ k
/-- So many bytes of a number, put from a place on. -/
def putN (mem : List Int) (a : Nat) (v : Int) : Nat → List Int
  | 0 => mem
  | k + 1 => (putN mem a v k).set (a + k) (v / 256 ^ k % 256)
theorem putN_length (mem : List Int) (a : Nat) (v : Int) (k : Nat) : (putN mem a v k).length = mem.length := by
  induction k with
  | zero => rfl
  | succ k ih => rw [putN, List.length_set, ih]
theorem getD_set (l : List Int) (i j : Nat) (v : Int) : (l.set i v).getD j 0 = if i = j ∧ j < l.length then v else l.getD j 0 := by
  simp only [List.getD_eq_getElem?_getD, List.getElem?_set]
  by_cases h : i = j
  · subst h
    by_cases hl : i < l.length
    · simp [hl]
    · simp [hl]
  · simp [h]
theorem putN_getD (mem : List Int) (a : Nat) (v : Int) (k j : Nat) (h : a + k ≤ mem.length) : (putN mem a v k).getD j 0 = if a ≤ j ∧ j < a + k then v / 256 ^ (j - a) % 256 else mem.getD j 0 := by
  induction k with
  | zero => rw [if_neg (by omega)]; rfl
  | succ k ih =>
    rw [putN, getD_set, putN_length, ih (by omega)]
    by_cases e : a + k = j
    · subst e
      rw [if_pos ⟨rfl, by omega⟩, if_pos ⟨by omega, by omega⟩]
      congr 2
      rw [show a + k - a = k by omega]
    · rw [if_neg (by omega)]
      by_cases g : a ≤ j ∧ j < a + k
      · rw [if_pos g, if_pos ⟨g.1, by omega⟩]
      · rw [if_neg g, if_neg (by omega)]
theorem pow256 (k : Nat) : (0 : Int) < 256 ^ k := Int.pow_pos (by decide)
theorem pow256_succ (k : Nat) : (256 : Int) ^ (k + 1) = 256 ^ k * 256 := Int.pow_succ 256 k
theorem byte_getD {mem : List Int} (hm : ∀ b ∈ mem, Byte b) (i : Nat) : Byte (mem.getD i 0) := by
  rw [List.getD_eq_getElem?_getD]
  cases e : mem[i]? with
  | none => exact ⟨by decide, by decide⟩
  | some b => exact hm b (List.mem_of_getElem? e)
theorem byte_set {mem : List Int} (hm : ∀ b ∈ mem, Byte b) (i : Nat) {v : Int} (hv : Byte v) : ∀ b ∈ mem.set i v, Byte b := by
  intro b hb
  rcases List.mem_or_eq_of_mem_set hb with h | h
  · exact hm b h
  · rw [h]; exact hv
theorem byte_mod (v : Int) : Byte (v % 256) := by unfold Byte; omega
theorem byte_putN {mem : List Int} (hm : ∀ b ∈ mem, Byte b) (a : Nat) (v : Int) (k : Nat) : ∀ b ∈ putN mem a v k, Byte b := by
  induction k with
  | zero => exact hm
  | succ k ih => exact byte_set ih _ (byte_mod _)
theorem getN_range {mem : List Int} (hm : ∀ b ∈ mem, Byte b) (a k : Nat) : 0 ≤ getN mem a k ∧ getN mem a k < 256 ^ k := by
  induction k with
  | zero => exact ⟨Int.le_refl _, Int.pow_pos (by decide)⟩
  | succ k ih =>
    have hb := byte_getD hm (a + k)
    have hp := pow256 k
    rw [getN, pow256_succ]
    have h1 : 0 ≤ mem.getD (a + k) 0 * 256 ^ k := Int.mul_nonneg hb.1 (Int.le_of_lt hp)
    have h2 : mem.getD (a + k) 0 * 256 ^ k ≤ 255 * 256 ^ k := Int.mul_le_mul_of_nonneg_right hb.2 (Int.le_of_lt hp)
    omega
/-- What was put is got. -/
theorem getN_putN (mem : List Int) (a : Nat) (v : Int) (n : Nat) (h : a + n ≤ mem.length) (k : Nat) (hk : k ≤ n) : getN (putN mem a v n) a k = v % 256 ^ k := by
  induction k with
  | zero => rw [getN]; simp
  | succ k ih =>
    rw [getN, ih (by omega), putN_getD mem a v n (a + k) h, if_pos ⟨by omega, by omega⟩, show a + k - a = k by omega, pow256_succ]
    have hp := pow256 k
    have e1 := Int.emod_add_mul_ediv v (256 ^ k)
    have e2 := Int.emod_add_mul_ediv (v / 256 ^ k) 256
    have e3 : v / (256 ^ k * 256) = v / 256 ^ k / 256 := (Int.ediv_ediv_of_nonneg (Int.le_of_lt hp)).symm
    have e4 := Int.emod_add_mul_ediv v (256 ^ k * 256)
    rw [e3] at e4
    generalize v / 256 ^ k / 256 = q at *
    generalize v / 256 ^ k % 256 = r at *
    generalize v / 256 ^ k = d at *
    generalize (256 : Int) ^ k = P at *
    have e5 : P * d = P * r + P * (256 * q) := by rw [← e2, Int.mul_add]
    have e6 : P * 256 * q = P * (256 * q) := Int.mul_assoc ..
    have e7 : r * P = P * r := Int.mul_comm ..
    omega
/-- Elsewhere all is as it was. -/
theorem getN_apart (mem : List Int) (a : Nat) (v : Int) (n b m : Nat) (h : a + n ≤ mem.length) (hb : b + m ≤ a ∨ a + n ≤ b) : getN (putN mem a v n) b m = getN mem b m := by
  have key : ∀ k, k ≤ m → getN (putN mem a v n) b k = getN mem b k := by
    intro k
    induction k with
    | zero => intro _; rfl
    | succ k ih =>
      intro hk
      rw [getN, getN, ih (by omega), putN_getD mem a v n (b + k) h, if_neg (by omega)]
  exact key m (Nat.le_refl _)
theorem wraps_u64 (n : Int) (h₀ : 0 ≤ n) (h₁ : n < 2 ^ 64) : IntKind.u64.wrap n = n := by rw [IntKind.wrap_u64]; omega
theorem pow256_le {k : Nat} (h : k ≤ 8) : (256 : Int) ^ k ≤ 18446744073709551616 := by
  obtain rfl | rfl | rfl | rfl | rfl | rfl | rfl | rfl | rfl : k = 0 ∨ k = 1 ∨ k = 2 ∨ k = 3 ∨ k = 4 ∨ k = 5 ∨ k = 6 ∨ k = 7 ∨ k = 8 := by omega
  all_goals decide
/-- 'or' of a number and a byte above it. -/
theorem or_u64 (k : Nat) (hk : k ≤ 7) {x b : Int} (hx : 0 ≤ x ∧ x < 256 ^ k) (hb : Byte b) : bits .or .u64 x (b * 256 ^ k) = x + b * 256 ^ k := by
  have e : (256 : Int) ^ k = 2 ^ (8 * k) := by rw [Int.pow_mul]; rfl
  have hp := pow256_le (k := k + 1) (by omega)
  have hp0 := pow256 k
  rw [pow256_succ] at hp
  have h2 : b * 256 ^ k ≤ 255 * 256 ^ k := Int.mul_le_mul_of_nonneg_right hb.2 (Int.le_of_lt hp0)
  have h1 : 0 ≤ b * 256 ^ k := Int.mul_nonneg hb.1 (Int.le_of_lt hp0)
  have hm : b * 256 ^ k % 2 ^ (8 * k) = 0 := by rw [e]; exact Int.mul_emod_left ..
  have h64 : (2 : Int) ^ 64 = 18446744073709551616 := by decide
  have hj := bits_join .u64 64 (by decide) wraps_u64 (8 * k) (b * 256 ^ k) x h1 hm (by rw [h64]; omega) hx.1 (by rw [← e]; exact hx.2) (by rw [h64]; omega)
  have hc : bits .or .u64 x (b * 256 ^ k) = bits .or .u64 (b * 256 ^ k) x := by
    unfold bits
    simp only [BitVec.or_comm]
  rw [hc, hj]
  omega
theorem byte_shl (k : Nat) (hk : k ≤ 7) {b : Int} (hb : Byte b) : b * 256 ^ k % 18446744073709551616 = b * 256 ^ k := by
  have hp := pow256_le (k := k + 1) (by omega)
  have hp0 := pow256 k
  rw [pow256_succ] at hp
  have h2 : b * 256 ^ k ≤ 255 * 256 ^ k := Int.mul_le_mul_of_nonneg_right hb.2 (Int.le_of_lt hp0)
  have h1 : 0 ≤ b * 256 ^ k := Int.mul_nonneg hb.1 (Int.le_of_lt hp0)
  omega
end Go.Proofs.Ytgcihcgclmdolaa
