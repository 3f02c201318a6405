/- Plain sums for layout. No condition. -/
import Derived.RowKit
import Derived.Laws.BitsLemmas
namespace Go.Proofs.Ytnaabjopheejbaa
/-- The sum of the first k. -/
def sumTo (f : Nat → Nat) : Nat → Nat
  | 0 => 0
  | k + 1 => sumTo f k + f k
theorem sumTo_mono (f : Nat → Nat) {j k : Nat} (h : j ≤ k) : sumTo f j ≤ sumTo f k := by
  induction k with
  | zero => obtain rfl : j = 0 := by omega
            exact Nat.le_refl _
  | succ k ih =>
    by_cases e : j = k + 1
    · subst e; exact Nat.le_refl _
    · have := ih (by omega)
      simp only [sumTo]; omega
theorem sumTo_le (f : Nat → Nat) (m k : Nat) (h : ∀ i, i < k → f i ≤ m) : sumTo f k ≤ k * m := by
  induction k with
  | zero => simp [sumTo]
  | succ k ih =>
    have h1 := ih (fun i hi => h i (by omega))
    have h2 := h k (by omega)
    simp only [sumTo, Nat.add_mul]; omega
theorem nat_andnot7 (X : Nat) (h : X < 2 ^ 64) : X &&& 18446744073709551608 = X / 8 * 8 := by
  have e1 : (18446744073709551608 : Nat) = (2 ^ 61 - 1) <<< 3 := by decide
  have e2 : X / 8 * 8 = (X >>> 3) <<< 3 := by rw [Nat.shiftRight_eq_div_pow, Nat.shiftLeft_eq]
  rw [e1, e2]
  apply Nat.eq_of_testBit_eq
  intro i
  rw [Nat.testBit_and, Nat.testBit_shiftLeft, Nat.testBit_shiftLeft, Nat.testBit_shiftRight, Nat.testBit_two_pow_sub_one]
  by_cases c : 3 ≤ i
  · rw [show 3 + (i - 3) = i by omega]
    by_cases g : i - 3 < 61
    · simp [c, g]
    · have : X.testBit i = false := Nat.testBit_lt_two_pow (Nat.lt_of_lt_of_le h (Nat.pow_le_pow_right (by decide) (by omega)))
      simp [c, this]
  · simp [c]
theorem andnot7 (X : Nat) (h : X < 9223372036854775808) : Go.bits .andNot .i64 (X : Int) 7 = ((X / 8 * 8 : Nat) : Int) := by
  have key : (BitVec.ofInt 64 (X : Int) &&& ~~~ BitVec.ofInt 64 7).toNat = X / 8 * 8 := by
    have e : ~~~ BitVec.ofInt 64 7 = 18446744073709551608#64 := by decide
    have m : X % 18446744073709551616 = X := Nat.mod_eq_of_lt (by omega)
    rw [e, BitVec.toNat_and, BitVec.ofInt_natCast, BitVec.toNat_ofNat, BitVec.toNat_ofNat]
    simp only [Nat.reducePow, m, Nat.reduceMod]
    exact nat_andnot7 X (by omega)
  show IntKind.i64.wrap ((BitVec.ofInt 64 (X : Int) &&& ~~~ BitVec.ofInt 64 7).toNat : Int) = _
  rw [key, IntKind.wrap_i64]
  omega
end Go.Proofs.Ytnaabjopheejbaa
