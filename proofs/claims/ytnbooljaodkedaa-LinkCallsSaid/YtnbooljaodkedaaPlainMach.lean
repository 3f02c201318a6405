/- Plain arithmetic of 32-bit words: what each operation of words comes to. No condition. · Plain sums for layout. No condition. · Plain law of instructions and their words: an instruction that has a word is read back from it; a word is of one instruction. No condition. · Plain law of the machine's memory: numbers of bytes, got and put. No condition. -/
import Derived.RowKit
import Derived.OpenShut
import Derived.Laws.BitsLemmas
import Derived.WalkKit
namespace Go.Proofs.Ytnbooljaodkedaa.PW
open Go.RowKit

/-- A word's range. -/
def U (a : Int) : Prop := 0 ≤ a ∧ a ≤ 4294967295
theorem U_of {a : Int} (h : (Lit.int .u32 a).wf = true) : U a := bounds_u32 h
def sgn (a : Int) : Int := if a ≥ 2147483648 then a - 4294967296 else a
theorem sgn_range {a : Int} (h : U a) : -2147483648 ≤ sgn a ∧ sgn a ≤ 2147483647 := by
  unfold sgn U at *; split <;> omega
theorem wrap32_sgn {a : Int} (h : U a) : wrap32 a = sgn a := by
  unfold wrap32 sgn U at *; split <;> omega
theorem sgn_mod (a : Int) : sgn a % 4294967296 = a % 4294967296 := by
  unfold sgn; split <;> omega
theorem wrap64_id {a : Int} (h : -9223372036854775808 ≤ a ∧ a ≤ 9223372036854775807) : wrap64 a = a := by
  unfold wrap64; omega
theorem wrap_u64 (x : Int) : IntKind.u64.wrap x = x % 18446744073709551616 := by simp [IntKind.wrap, IntKind.bits, IntKind.signed]
theorem U_mod (a : Int) : U (a % 4294967296) := by unfold U; omega
theorem mod_U {a : Int} (h : U a) : a % 4294967296 = a := by unfold U at h; omega

/-- The count of a shift. -/
theorem and31 {b : Int} (h : U b) : Go.bits .and .u32 b 31 = b % 32 := by
  have := bits_mask .u32 32 (by decide) (fun n h0 h1 => by rw [IntKind.wrap_u32]; omega) 5 (by decide) b h.1 (by unfold U at h; omega)
  simpa using this
/-- What an operation of words comes to. -/
def doV (op a b : Int) : Int :=
  if op = 1 then (a + b) % 4294967296 else if op = 2 then (a - b) % 4294967296
  else if op = 3 then (a * 2 ^ (b % 32).toNat) % 4294967296
  else if op = 4 then (if sgn a < sgn b then 1 else 0) else if op = 5 then (if a < b then 1 else 0)
  else if op = 6 then Go.bits .xor .u32 a b else if op = 7 then a / 2 ^ (b % 32).toNat
  else if op = 8 then (sgn a / 2 ^ (b % 32).toNat) % 4294967296
  else if op = 9 then Go.bits .or .u32 a b else if op = 10 then Go.bits .and .u32 a b
  else if op = 11 then (a * b) % 4294967296 else if op = 12 then (sgn a * sgn b / 4294967296) % 4294967296
  else if op = 13 then a * b / 4294967296
  else if op = 14 then (if b = 0 then 4294967295 else (Int.tdiv (sgn a) (sgn b)) % 4294967296)
  else if op = 15 then (if b = 0 then 4294967295 else a / b)
  else if op = 16 then (if b = 0 then a else (Int.tmod (sgn a) (sgn b)) % 4294967296)
  else if op = 17 then (if b = 0 then a else a % b) else 0
/-- Is it an operation? -/
def doE (op : Int) : Int := if 1 ≤ op ∧ op ≤ 17 then 0 else 1

theorem mul_U {a b : Int} (ha : U a) (hb : U b) : 0 ≤ a * b ∧ a * b ≤ 18446744065119617025 := by
  unfold U at *
  refine ⟨Int.mul_nonneg ha.1 hb.1, ?_⟩
  calc a * b ≤ 4294967295 * 4294967295 := Int.mul_le_mul ha.2 hb.2 hb.1 (by decide)
    _ = 18446744065119617025 := by decide
theorem mul_S {x y : Int} (hx : -2147483648 ≤ x ∧ x ≤ 2147483647) (hy : -2147483648 ≤ y ∧ y ≤ 2147483647) :
    -4611686018427387904 ≤ x * y ∧ x * y ≤ 4611686018427387904 := by
  have h1 : x.natAbs ≤ 2147483648 := by omega
  have h2 : y.natAbs ≤ 2147483648 := by omega
  have h3 : (x * y).natAbs ≤ 2147483648 * 2147483648 := by rw [Int.natAbs_mul]; exact Nat.mul_le_mul h1 h2
  omega
theorem sgn_zero {b : Int} (hb : U b) : sgn b = 0 ↔ b = 0 := by unfold sgn U at *; split <;> omega
theorem tdiv_S {x y : Int} (hx : -2147483648 ≤ x ∧ x ≤ 2147483647) : -2147483648 ≤ Int.tdiv x y ∧ Int.tdiv x y ≤ 2147483648 := by
  have h : (Int.tdiv x y).natAbs ≤ x.natAbs := by rw [Int.natAbs_tdiv]; exact Nat.div_le_self _ _
  omega
theorem tmod_S {x y : Int} (hx : -2147483648 ≤ x ∧ x ≤ 2147483647) : -2147483648 ≤ Int.tmod x y ∧ Int.tmod x y ≤ 2147483647 := by
  have h : (Int.tmod x y).natAbs ≤ x.natAbs := by rw [Int.natAbs_tmod]; exact Nat.mod_le _ _
  have h2 : 0 ≤ x → 0 ≤ Int.tmod x y := fun h => Int.tmod_nonneg _ h
  have h3 : x ≤ 0 → Int.tmod x y ≤ 0 := fun h => by
    have := Int.tmod_nonneg (a := -x) y (by omega)
    rw [Int.neg_tmod] at this
    omega
  omega
theorem tmod_pos {n m : Int} (h : 0 ≤ n) : Int.tmod n m = n % m := Int.tmod_eq_emod_of_nonneg h
theorem tdiv_pos {n m : Int} (h : 0 ≤ n) : Int.tdiv n m = n / m := Int.tdiv_eq_ediv_of_nonneg h
theorem wrap32_mod (x : Int) : wrap32 x % 4294967296 = x % 4294967296 := by unfold wrap32; omega

def zV (how x y : Int) : Int := if how = 1 ∧ x ≠ y ∨ how = 2 ∧ x + y > 0 ∨ how = 3 ∧ x + y = 2 then 1 else 0
def bitsR (how a b : Int) : Nat → Int
  | 0 => 0
  | j + 1 => (bitsR how a b j + (zV how (a / 2 ^ j % 2) (b / 2 ^ j % 2) * 2 ^ j) % 4294967296) % 4294967296
theorem bitsR_nat (how : Int) (A B N : Nat) (hb : ∀ j, zV how ((A : Int) / 2 ^ j % 2) ((B : Int) / 2 ^ j % 2) = ((N / 2 ^ j % 2 : Nat) : Int)) :
    ∀ j : Nat, j ≤ 32 → bitsR how A B j = ((N % 2 ^ j : Nat) : Int) := by
  intro j
  induction j with
  | zero => intro _; simp [bitsR, Nat.mod_one]
  | succ j ih =>
    intro hj
    have h1 : N % 2 ^ (j + 1) < 2 ^ (j + 1) := Nat.mod_lt _ (Nat.two_pow_pos _)
    have h2 : 2 ^ (j + 1) ≤ 2 ^ 32 := Nat.pow_le_pow_right (by decide) hj
    have h3 : 2 ^ j < 2 ^ 32 := Nat.pow_lt_pow_right (by decide) (by omega)
    have h4 := Nat.mod_pow_succ (x := N) (b := 2) (k := j)
    rw [bitsR, ih (by omega), hb]
    have e : ((N / 2 ^ j % 2 : Nat) : Int) * 2 ^ j = ((2 ^ j * (N / 2 ^ j % 2) : Nat) : Int) := by
      rw [Nat.mul_comm]; simp
    rw [e]
    generalize 2 ^ j * (N / 2 ^ j % 2) = x at *
    omega
theorem bit_int (A j : Nat) : (A : Int) / 2 ^ j % 2 = ((A.testBit j).toNat : Int) := by
  have : (A : Int) / 2 ^ j % 2 = ((A / 2 ^ j % 2 : Nat) : Int) := by simp
  rw [this, Nat.testBit_eq_decide_div_mod_eq]
  rcases Nat.mod_two_eq_zero_or_one (A / 2 ^ j) with h | h <;> simp [h]
theorem bit_nat (N j : Nat) : N / 2 ^ j % 2 = (N.testBit j).toNat := by
  rw [Nat.testBit_eq_decide_div_mod_eq]
  rcases Nat.mod_two_eq_zero_or_one (N / 2 ^ j) with h | h <;> simp [h]
theorem toN {a : Int} (h : U a) : ∃ A : Nat, a = A ∧ A < 2 ^ 32 := by
  obtain ⟨A, rfl⟩ := Int.eq_ofNat_of_zero_le h.1
  exact ⟨A, rfl, by have := h.2; omega⟩
theorem bits_u32_xor (A B : Nat) (hA : A < 2 ^ 32) (hB : B < 2 ^ 32) : Go.bits .xor .u32 A B = ((A ^^^ B : Nat) : Int) := by
  have h : A ^^^ B < 2 ^ 32 := Nat.xor_lt_two_pow hA hB
  have ha : A % 4294967296 = A := Nat.mod_eq_of_lt hA
  have hb : B % 4294967296 = B := Nat.mod_eq_of_lt hB
  have key : (BitVec.ofInt 32 (A : Int) ^^^ BitVec.ofInt 32 (B : Int)).toNat = A ^^^ B := by
    rw [BitVec.toNat_xor, BitVec.ofInt_natCast, BitVec.ofInt_natCast, BitVec.toNat_ofNat, BitVec.toNat_ofNat]
    simp only [Nat.reducePow, ha, hb]
  show IntKind.u32.wrap ((BitVec.ofInt 32 (A : Int) ^^^ BitVec.ofInt 32 (B : Int)).toNat : Int) = _
  rw [key, IntKind.wrap_u32]
  omega
theorem bits_u32_and (A B : Nat) (hA : A < 2 ^ 32) (hB : B < 2 ^ 32) : Go.bits .and .u32 A B = ((A &&& B : Nat) : Int) :=
  (bits_nat .u32 32 (by decide) (fun n h0 h1 => by rw [IntKind.wrap_u32]; omega) A B hA hB).1
theorem bits_u32_or (A B : Nat) (hA : A < 2 ^ 32) (hB : B < 2 ^ 32) : Go.bits .or .u32 A B = ((A ||| B : Nat) : Int) :=
  (bits_nat .u32 32 (by decide) (fun n h0 h1 => by rw [IntKind.wrap_u32]; omega) A B hA hB).2
theorem bitsR_xor {a b : Int} (ha : U a) (hb : U b) : bitsR 1 a b 32 = Go.bits .xor .u32 a b := by
  obtain ⟨A, rfl, hA⟩ := toN ha
  obtain ⟨B, rfl, hB⟩ := toN hb
  rw [bits_u32_xor A B hA hB, bitsR_nat 1 A B (A ^^^ B) _ 32 (Nat.le_refl _), Nat.mod_eq_of_lt (Nat.xor_lt_two_pow hA hB)]
  intro j
  rw [bit_int, bit_int, bit_nat, Nat.testBit_xor]
  cases A.testBit j <;> cases B.testBit j <;> decide
theorem bitsR_or {a b : Int} (ha : U a) (hb : U b) : bitsR 2 a b 32 = Go.bits .or .u32 a b := by
  obtain ⟨A, rfl, hA⟩ := toN ha
  obtain ⟨B, rfl, hB⟩ := toN hb
  rw [bits_u32_or A B hA hB, bitsR_nat 2 A B (A ||| B) _ 32 (Nat.le_refl _), Nat.mod_eq_of_lt (Nat.or_lt_two_pow hA hB)]
  intro j
  rw [bit_int, bit_int, bit_nat, Nat.testBit_or]
  cases A.testBit j <;> cases B.testBit j <;> decide
theorem bitsR_and {a b : Int} (ha : U a) (hb : U b) : bitsR 3 a b 32 = Go.bits .and .u32 a b := by
  obtain ⟨A, rfl, hA⟩ := toN ha
  obtain ⟨B, rfl, hB⟩ := toN hb
  rw [bits_u32_and A B hA hB, bitsR_nat 3 A B (A &&& B) _ 32 (Nat.le_refl _), Nat.mod_eq_of_lt (Nat.and_lt_two_pow _ hB)]
  intro j
  rw [bit_int, bit_int, bit_nat, Nat.testBit_and]
  cases A.testBit j <;> cases B.testBit j <;> decide
theorem ediv_U {a m : Int} (h : U a) (hm : 0 ≤ m) : U (a / m) := ⟨Int.ediv_nonneg h.1 hm, Int.le_trans (Int.ediv_le_self _ h.1) h.2⟩
theorem emod_U {a m : Int} (h : U m) : U (a % m) ∨ m = 0 := by
  by_cases z : m = 0
  · exact Or.inr z
  · have h1 := Int.emod_nonneg a z
    have h2 := Int.emod_lt_of_pos a (b := m) (by have := h.1; omega)
    have := h.2
    exact Or.inl ⟨h1, by omega⟩
theorem doV_U (op : Int) {a b : Int} (ha : U a) (hb : U b) : U (doV op a b) := by
  have h0 : U 0 := by unfold U; omega
  have h1 : U 1 := by unfold U; omega
  have h2 : U 4294967295 := by unfold U; omega
  have hm := mul_U ha hb
  have e : ∀ (p : Prop) [Decidable p] (x y : Int), U x → U y → U (if p then x else y) := by
    intro p _ x y hx hy
    split <;> assumption
  unfold doV
  refine e _ _ _ (U_mod _) ?_
  refine e _ _ _ (U_mod _) ?_
  refine e _ _ _ (U_mod _) ?_
  refine e _ _ _ (e _ _ _ h1 h0) ?_
  refine e _ _ _ (e _ _ _ h1 h0) ?_
  refine e _ _ _ (U_of (wf_bits _ _ _ _)) ?_
  refine e _ _ _ (ediv_U ha (Int.le_of_lt (Int.pow_pos (by decide)))) ?_
  refine e _ _ _ (U_mod _) ?_
  refine e _ _ _ (U_of (wf_bits _ _ _ _)) ?_
  refine e _ _ _ (U_of (wf_bits _ _ _ _)) ?_
  refine e _ _ _ (U_mod _) ?_
  refine e _ _ _ (U_mod _) ?_
  refine e _ _ _ ?_ ?_
  · unfold U; omega
  refine e _ _ _ (e _ _ _ h2 (U_mod _)) ?_
  refine e _ _ _ (e _ _ _ h2 (ediv_U ha hb.1)) ?_
  refine e _ _ _ (e _ _ _ ha (U_mod _)) ?_
  refine e _ _ _ ?_ h0
  split
  · exact ha
  · rcases emod_U (a := a) hb with g | g
    · exact g
    · contradiction
end Go.Proofs.Ytnbooljaodkedaa.PW
namespace Go.Proofs.Ytnbooljaodkedaa
/-- The sum of the first k. -/
def sumTo (f : Nat → Nat) : Nat → Nat
  | 0 => 0
  | k + 1 => sumTo f k + f k
theorem sumTo_mono (f : Nat → Nat) {j k : Nat} (h : j ≤ k) : sumTo f j ≤ sumTo f k := by
  induction k with
  | zero => obtain rfl : j = 0 := by omega
            exact Nat.le_refl _
  | succ k ih =>
    by_cases e : j = k + 1
    · subst e; exact Nat.le_refl _
    · have := ih (by omega)
      simp only [sumTo]; omega
theorem sumTo_le (f : Nat → Nat) (m k : Nat) (h : ∀ i, i < k → f i ≤ m) : sumTo f k ≤ k * m := by
  induction k with
  | zero => simp [sumTo]
  | succ k ih =>
    have h1 := ih (fun i hi => h i (by omega))
    have h2 := h k (by omega)
    simp only [sumTo, Nat.add_mul]; omega
theorem nat_andnot7 (X : Nat) (h : X < 2 ^ 64) : X &&& 18446744073709551608 = X / 8 * 8 := by
  have e1 : (18446744073709551608 : Nat) = (2 ^ 61 - 1) <<< 3 := by decide
  have e2 : X / 8 * 8 = (X >>> 3) <<< 3 := by rw [Nat.shiftRight_eq_div_pow, Nat.shiftLeft_eq]
  rw [e1, e2]
  apply Nat.eq_of_testBit_eq
  intro i
  rw [Nat.testBit_and, Nat.testBit_shiftLeft, Nat.testBit_shiftLeft, Nat.testBit_shiftRight, Nat.testBit_two_pow_sub_one]
  by_cases c : 3 ≤ i
  · rw [show 3 + (i - 3) = i by omega]
    by_cases g : i - 3 < 61
    · simp [c, g]
    · have : X.testBit i = false := Nat.testBit_lt_two_pow (Nat.lt_of_lt_of_le h (Nat.pow_le_pow_right (by decide) (by omega)))
      simp [c, this]
  · simp [c]
theorem andnot7 (X : Nat) (h : X < 9223372036854775808) : Go.bits .andNot .i64 (X : Int) 7 = ((X / 8 * 8 : Nat) : Int) := by
  have key : (BitVec.ofInt 64 (X : Int) &&& ~~~ BitVec.ofInt 64 7).toNat = X / 8 * 8 := by
    have e : ~~~ BitVec.ofInt 64 7 = 18446744073709551608#64 := by decide
    have m : X % 18446744073709551616 = X := Nat.mod_eq_of_lt (by omega)
    rw [e, BitVec.toNat_and, BitVec.ofInt_natCast, BitVec.toNat_ofNat, BitVec.toNat_ofNat]
    simp only [Nat.reducePow, m, Nat.reduceMod]
    exact nat_andnot7 X (by omega)
  show IntKind.i64.wrap ((BitVec.ofInt 64 (X : Int) &&& ~~~ BitVec.ofInt 64 7).toNat : Int) = _
  rw [key, IntKind.wrap_i64]
  omega
end Go.Proofs.Ytnbooljaodkedaa
namespace Go.Proofs.Ytnbooljaodkedaa.PC
/-- How an instruction stands in a word. -/
structure Fm where
  kind : Int
  op : Int
  f3 : Int
  f7 : Int
  rs2 : Int
/-- All, by their numbers, from 1 on. -/
def tbl : List Fm := [
  ⟨82, 51, 0, 0, -1⟩, ⟨82, 51, 0, 32, -1⟩, ⟨82, 51, 1, 0, -1⟩, ⟨82, 51, 2, 0, -1⟩, ⟨82, 51, 3, 0, -1⟩, ⟨82, 51, 4, 0, -1⟩, ⟨82, 51, 5, 0, -1⟩, ⟨82, 51, 5, 32, -1⟩, ⟨82, 51, 6, 0, -1⟩, ⟨82, 51, 7, 0, -1⟩,
  ⟨82, 51, 0, 1, -1⟩, ⟨82, 51, 1, 1, -1⟩, ⟨82, 51, 3, 1, -1⟩, ⟨82, 51, 4, 1, -1⟩, ⟨82, 51, 5, 1, -1⟩, ⟨82, 51, 6, 1, -1⟩, ⟨82, 51, 7, 1, -1⟩,
  ⟨73, 19, 0, 0, -1⟩, ⟨73, 19, 2, 0, -1⟩, ⟨73, 19, 3, 0, -1⟩, ⟨73, 19, 4, 0, -1⟩, ⟨73, 19, 6, 0, -1⟩, ⟨73, 19, 7, 0, -1⟩,
  ⟨72, 19, 1, 0, -1⟩, ⟨72, 19, 5, 0, -1⟩, ⟨72, 19, 5, 32, -1⟩,
  ⟨73, 3, 0, 0, -1⟩, ⟨73, 3, 4, 0, -1⟩, ⟨73, 3, 2, 0, -1⟩, ⟨83, 35, 0, 0, -1⟩, ⟨83, 35, 2, 0, -1⟩,
  ⟨66, 99, 0, 0, -1⟩, ⟨66, 99, 1, 0, -1⟩, ⟨66, 99, 4, 0, -1⟩, ⟨66, 99, 5, 0, -1⟩, ⟨66, 99, 6, 0, -1⟩, ⟨66, 99, 7, 0, -1⟩,
  ⟨85, 55, 0, 0, -1⟩, ⟨85, 23, 0, 0, -1⟩, ⟨74, 111, 0, 0, -1⟩, ⟨73, 103, 0, 0, -1⟩, ⟨69, 115, 0, 0, -1⟩, ⟨73, 7, 3, 0, -1⟩, ⟨83, 39, 3, 0, -1⟩,
  ⟨82, 83, 0, 1, -1⟩, ⟨82, 83, 0, 5, -1⟩, ⟨82, 83, 0, 9, -1⟩, ⟨82, 83, 0, 13, -1⟩, ⟨82, 83, 0, 17, 32⟩, ⟨82, 83, 1, 17, 32⟩, ⟨82, 83, 2, 81, -1⟩, ⟨82, 83, 1, 81, -1⟩, ⟨82, 83, 0, 81, -1⟩, ⟨82, 83, 1, 97, 0⟩, ⟨82, 83, 0, 105, 0⟩]
/-- What of a form is 0, by its kind. -/
def Fm.good (f : Fm) : Prop :=
  0 ≤ f.op ∧ f.op < 128 ∧ 0 ≤ f.f3 ∧ f.f3 < 8 ∧ 0 ≤ f.f7 ∧ f.f7 < 128 ∧
  (f.kind = 82 ∧ (f.rs2 = -1 ∨ f.rs2 = 0 ∨ f.rs2 = 32) ∨ f.kind = 73 ∧ f.f7 = 0 ∧ f.rs2 = -1 ∨ f.kind = 72 ∧ f.rs2 = -1 ∨ f.kind = 83 ∧ f.f7 = 0 ∧ f.rs2 = -1 ∨ f.kind = 66 ∧ f.f7 = 0 ∧ f.rs2 = -1 ∨
    f.kind = 85 ∧ f.f3 = 0 ∧ f.f7 = 0 ∧ f.rs2 = -1 ∨ f.kind = 74 ∧ f.f3 = 0 ∧ f.f7 = 0 ∧ f.rs2 = -1 ∨ f.kind = 69 ∧ f.f3 = 0 ∧ f.f7 = 0 ∧ f.rs2 = -1)
instance (f : Fm) : Decidable f.good := by unfold Fm.good; infer_instance
theorem tbl_good : ∀ f ∈ tbl, f.good := by decide +kernel
/-- The form of an instruction's number. -/
def formOf (op : Int) : Option Fm := if 1 ≤ op ∧ op ≤ 55 then tbl[(op - 1).toNat]? else none
theorem formOf_good {op : Int} {f : Fm} (h : formOf op = some f) : f.good ∧ 1 ≤ op ∧ op ≤ 55 := by
  unfold formOf at h
  split at h
  · rename_i hr
    exact ⟨tbl_good f (List.mem_of_getElem? h), hr⟩
  · cases h
theorem formOf_some {op : Int} (h : 1 ≤ op ∧ op ≤ 55) : ∃ f, formOf op = some f := by
  unfold formOf
  rw [if_pos h]
  have hl : tbl.length = 55 := rfl
  exact ⟨_, List.getElem?_eq_getElem (by omega)⟩
/-- What a form uses. -/
def Fm.uRd (f : Fm) : Prop := f.kind = 82 ∨ f.kind = 73 ∨ f.kind = 72 ∨ f.kind = 85 ∨ f.kind = 74
def Fm.uRs1 (f : Fm) : Prop := f.kind = 82 ∨ f.kind = 73 ∨ f.kind = 72 ∨ f.kind = 83 ∨ f.kind = 66
def Fm.uRs2 (f : Fm) : Prop := f.kind = 82 ∧ f.rs2 < 0 ∨ f.kind = 83 ∨ f.kind = 66
def Fm.uImm (f : Fm) : Prop := f.kind = 73 ∨ f.kind = 72 ∨ f.kind = 83 ∨ f.kind = 66 ∨ f.kind = 85 ∨ f.kind = 74
instance (f : Fm) : Decidable f.uRd := by unfold Fm.uRd; infer_instance
instance (f : Fm) : Decidable f.uRs1 := by unfold Fm.uRs1; infer_instance
instance (f : Fm) : Decidable f.uRs2 := by unfold Fm.uRs2; infer_instance
instance (f : Fm) : Decidable f.uImm := by unfold Fm.uImm; infer_instance
/-- Whether this may be the Imm of a kind. -/
def fitsK (k n : Int) : Prop :=
  (k = 73 ∨ k = 83) ∧ -2048 ≤ n ∧ n < 2048 ∨ k = 72 ∧ 0 ≤ n ∧ n < 32 ∨ k = 66 ∧ -4096 ≤ n ∧ n < 4096 ∧ n % 2 = 0 ∨ k = 85 ∧ 0 ≤ n ∧ n < 1048576 ∨ k = 74 ∧ -1048576 ≤ n ∧ n < 1048576 ∧ n % 2 = 0
instance (k n : Int) : Decidable (fitsK k n) := by unfold fitsK; infer_instance
/-- An Imm's bits in the word. -/
def immB (k n : Int) : Int :=
  if k = 73 then n % 4096 * 1048576 else if k = 72 then n % 32 * 1048576
  else if k = 83 then n % 32 * 128 + n / 32 % 128 * 33554432
  else if k = 66 then n / 2048 % 2 * 128 + n / 2 % 16 * 256 + n / 32 % 64 * 33554432 + n / 4096 % 2 * 2147483648
  else if k = 85 then n % 1048576 * 4096
  else if k = 74 then n / 4096 % 256 * 4096 + n / 2048 % 2 * 1048576 + n / 2 % 1024 * 2097152 + n / 1048576 % 2 * 2147483648 else 0
/-- The word of a form's fields. -/
def encW (f : Fm) (rd rs1 rs2 n : Int) : Int := f.op + rd * 128 + f.f3 * 4096 + rs1 * 32768 + (if f.rs2 = 32 then rs1 else rs2) * 1048576 + f.f7 * 33554432 + immB f.kind n
/-- The error: 2: it is none; 1: outside. -/
def encE (f : Fm) (rd rs1 rs2 n : Int) : Int :=
  if ¬f.uRd ∧ rd ≠ 0 ∨ ¬f.uRs1 ∧ rs1 ≠ 0 ∨ ¬f.uRs2 ∧ rs2 ≠ 0 ∨ ¬f.uImm ∧ n ≠ 0 then 2
  else if rd < 0 ∨ 31 < rd ∨ rs1 < 0 ∨ 31 < rs1 ∨ rs2 < 0 ∨ 31 < rs2 ∨ f.uImm ∧ ¬fitsK f.kind n then 1 else 0
theorem encE_zero {f : Fm} {rd rs1 rs2 n : Int} (h : encE f rd rs1 rs2 n = 0) :
    (f.uRd ∨ rd = 0) ∧ (f.uRs1 ∨ rs1 = 0) ∧ (f.uRs2 ∨ rs2 = 0) ∧ (f.uImm ∨ n = 0) ∧ 0 ≤ rd ∧ rd ≤ 31 ∧ 0 ≤ rs1 ∧ rs1 ≤ 31 ∧ 0 ≤ rs2 ∧ rs2 ≤ 31 ∧ (f.uImm → fitsK f.kind n) := by
  unfold encE at h
  split at h
  · cases h
  · rename_i h1
    split at h
    · cases h
    · rename_i h2
      simp only [not_or, not_and, Classical.not_not] at h1 h2
      refine ⟨?_, ?_, ?_, ?_, by omega, by omega, by omega, by omega, by omega, by omega, h2.2.2.2.2.2.2⟩
      · by_cases e : f.uRd
        · exact Or.inl e
        · exact Or.inr (h1.1 e)
      · by_cases e : f.uRs1
        · exact Or.inl e
        · exact Or.inr (h1.2.1 e)
      · by_cases e : f.uRs2
        · exact Or.inl e
        · exact Or.inr (h1.2.2.1 e)
      · by_cases e : f.uImm
        · exact Or.inl e
        · exact Or.inr (h1.2.2.2 e)
/-- An instruction's word and error, of its number. -/
def insE (op rd rs1 rs2 n : Int) : Int := match formOf op with | none => 2 | some f => encE f rd rs1 rs2 n
def insW (op rd rs1 rs2 n : Int) : Int := match formOf op with | none => 0 | some f => if encE f rd rs1 rs2 n = 0 then encW f rd rs1 rs2 n else 0
/-- The signed Imm that a word holds, by a kind. -/
def immOf (k w : Int) : Int :=
  if k = 73 then (if w / 1048576 ≥ 2048 then w / 1048576 - 4096 else w / 1048576) else if k = 72 then w / 1048576 % 32
  else if k = 83 then (if w / 33554432 ≥ 64 then w / 33554432 - 128 else w / 33554432) * 32 + w / 128 % 32
  else if k = 66 then 2 * (w / 256 % 16) + 32 * (w / 33554432 % 64) + 2048 * (w / 128 % 2) - 4096 * (w / 2147483648 % 2)
  else if k = 85 then w / 4096
  else if k = 74 then 2 * (w / 2097152 % 1024) + 2048 * (w / 1048576 % 2) + 4096 * (w / 4096 % 256) - 1048576 * (w / 2147483648 % 2) else 0
/-- What a word's fields say, by a form. -/
def cRd (f : Fm) (w : Int) : Int := if f.uRd then w / 128 % 32 else 0
def cRs1 (f : Fm) (w : Int) : Int := if f.uRs1 then w / 32768 % 32 else 0
def cRs2 (f : Fm) (w : Int) : Int := if f.uRs2 then w / 1048576 % 32 else 0
def cImm (f : Fm) (w : Int) : Int := immOf f.kind w
/-- What of a word tells its form. -/
def Fm.sig (f : Fm) (w : Int) : Prop := w % 128 = f.op ∧ (f.kind = 85 ∨ f.kind = 74 ∨ w / 4096 % 8 = f.f3) ∧ (f.kind = 82 ∨ f.kind = 72 → w / 33554432 % 128 = f.f7)
/-- The six fields of a word. -/
theorem fields {a b c d e g W : Int} (ha : 0 ≤ a ∧ a < 128) (hb : 0 ≤ b ∧ b < 32) (hc : 0 ≤ c ∧ c < 8) (hd : 0 ≤ d ∧ d < 32) (he : 0 ≤ e ∧ e < 32) (hg : 0 ≤ g ∧ g < 128) (hW : W = a + b * 128 + c * 4096 + d * 32768 + e * 1048576 + g * 33554432) :
    0 ≤ W ∧ W < 4294967296 ∧ W % 128 = a ∧ W / 128 % 32 = b ∧ W / 4096 % 8 = c ∧ W / 32768 % 32 = d ∧ W / 1048576 % 32 = e ∧ W / 33554432 % 128 = g ∧ W / 33554432 = g ∧ W / 1048576 = e + 32 * g ∧ W / 4096 = c + 8 * d + 256 * e + 8192 * g ∧
    W / 2097152 % 1024 = e / 2 + 16 * (g % 64) ∧ W / 1048576 % 2 = e % 2 ∧ W / 4096 % 256 = c + 8 * d ∧ W / 2147483648 % 2 = g / 64 ∧ W / 256 % 16 = b / 2 ∧ W / 128 % 2 = b % 2 ∧ W / 33554432 % 64 = g % 64 := by
  subst hW
  refine ⟨?_, ?_, ?_, ?_, ?_, ?_, ?_, ?_, ?_, ?_, ?_, ?_, ?_, ?_, ?_, ?_, ?_, ?_⟩ <;> omega
/-- The fields of an instruction's word. -/
theorem encW_fields {f : Fm} (hf : f.good) {rd rs1 rs2 n : Int} (h : encE f rd rs1 rs2 n = 0) :
    ∃ b c d e g : Int, (0 ≤ b ∧ b < 32) ∧ (0 ≤ c ∧ c < 8) ∧ (0 ≤ d ∧ d < 32) ∧ (0 ≤ e ∧ e < 32) ∧ (0 ≤ g ∧ g < 128) ∧ encW f rd rs1 rs2 n = f.op + b * 128 + c * 4096 + d * 32768 + e * 1048576 + g * 33554432 ∧
      (f.uRd → b = rd) ∧ (f.uRs1 → d = rs1) ∧ (f.uRs2 → e = rs2) ∧ (f.kind = 85 ∨ f.kind = 74 ∨ c = f.f3) ∧ (f.kind = 82 ∨ f.kind = 72 → g = f.f7) ∧
      (f.kind = 73 → e = n % 32 ∧ g = n / 32 % 128) ∧ (f.kind = 72 → e = n) ∧ (f.kind = 83 → b = n % 32 ∧ g = n / 32 % 128) ∧ (f.kind = 66 → b = n / 2048 % 2 + 2 * (n / 2 % 16) ∧ g = n / 32 % 64 + 64 * (n / 4096 % 2)) ∧
      (f.kind = 85 → c + 8 * d + 256 * e + 8192 * g = n) ∧ (f.kind = 74 → c + 8 * d = n / 4096 % 256 ∧ e = n / 2048 % 2 + 2 * (n / 2 % 16) ∧ g = n / 32 % 64 + 64 * (n / 1048576 % 2)) := by
  obtain ⟨u1, u2, u3, u4, r1, r2, r3, r4, r5, r6, hfit⟩ := encE_zero h
  clear h
  obtain ⟨kind, op, f3, f7, r⟩ := f
  obtain ⟨g1, g2, g3, g4, g5, g6, hk⟩ := hf
  simp only [Fm.uRd, Fm.uRs1, Fm.uRs2, Fm.uImm, fitsK, encW, immB] at *
  rcases hk with ⟨rfl, hr⟩ | ⟨rfl, rfl, rfl⟩ | ⟨rfl, rfl⟩ | ⟨rfl, rfl, rfl⟩ | ⟨rfl, rfl, rfl⟩ | ⟨rfl, rfl, rfl, rfl⟩ | ⟨rfl, rfl, rfl, rfl⟩ | ⟨rfl, rfl, rfl, rfl⟩
  · simp at u1 u2 u3 u4 hfit ⊢
    subst u4
    refine ⟨rd, by omega, f3, by omega, rs1, by omega, (if r = 32 then rs1 else rs2), by split <;> omega, f7, by omega, rfl, rfl, rfl, fun hr' => ?_, rfl, rfl⟩
    rw [if_neg (by omega)]
  · simp at u1 u2 u3 u4 hfit ⊢
    subst u3
    refine ⟨rd, by omega, f3, by omega, rs1, by omega, n % 32, by omega, n / 32 % 128, by omega, by omega, rfl, rfl, rfl, rfl, rfl⟩
  · simp at u1 u2 u3 u4 hfit ⊢
    subst u3
    refine ⟨rd, by omega, f3, by omega, rs1, by omega, n, by omega, f7, by omega, by omega, rfl, rfl, rfl, rfl, rfl⟩
  · simp at u1 u2 u3 u4 hfit ⊢
    subst u1
    refine ⟨n % 32, by omega, f3, by omega, rs1, by omega, rs2, by omega, n / 32 % 128, by omega, by omega, rfl, rfl, rfl, rfl, rfl⟩
  · simp at u1 u2 u3 u4 hfit ⊢
    subst u1
    refine ⟨n / 2048 % 2 + 2 * (n / 2 % 16), by omega, f3, by omega, rs1, by omega, rs2, by omega, n / 32 % 64 + 64 * (n / 4096 % 2), by omega, by omega, rfl, rfl, rfl, rfl, rfl⟩
  · simp at u1 u2 u3 u4 hfit ⊢
    subst u2 u3
    refine ⟨rd, by omega, n % 8, by omega, n / 8 % 32, by omega, n / 256 % 32, by omega, n / 8192, by omega, by omega, rfl, by omega⟩
  · simp at u1 u2 u3 u4 hfit ⊢
    subst u2 u3
    refine ⟨rd, by omega, n / 4096 % 8, by omega, n / 32768 % 32, by omega, n / 2048 % 2 + 2 * (n / 2 % 16), by omega, n / 32 % 64 + 64 * (n / 1048576 % 2), by omega, by omega, rfl, by omega, rfl, rfl⟩
  · simp at u1 u2 u3 u4 hfit ⊢
    subst u1 u2 u3 u4
    exact ⟨0, by omega, 0, by omega, 0, by omega, 0, by omega, 0, by omega, by omega, rfl⟩
theorem immI {n e g : Int} (h : -2048 ≤ n ∧ n < 2048) (he : e = n % 32) (hg : g = n / 32 % 128) : (if e + 32 * g ≥ 2048 then e + 32 * g - 4096 else e + 32 * g) = n := by
  subst he hg; split <;> omega
theorem immS {n b g : Int} (h : -2048 ≤ n ∧ n < 2048) (hb : b = n % 32) (hg : g = n / 32 % 128) : (if g ≥ 64 then g - 128 else g) * 32 + b = n := by
  subst hb hg; split <;> omega
theorem immBr {m b g : Int} (h : -2048 ≤ m ∧ m < 2048) (hb : b = m / 1024 % 2 + 2 * (m % 16)) (hg : g = m / 16 % 64 + 64 * (m / 2048 % 2)) : 2 * (b / 2) + 32 * (g % 64) + 2048 * (b % 2) - 4096 * (g / 64) = 2 * m := by
  have hb1 : b / 2 = m % 16 := by omega
  have hb2 : b % 2 = m / 1024 % 2 := by omega
  have hg1 : g % 64 = m / 16 % 64 := by omega
  have hg2 : g / 64 = m / 2048 % 2 := by omega
  rw [hb1, hb2, hg1, hg2]
  clear hb hg hb1 hb2 hg1 hg2
  omega
theorem immJ {m cd e g : Int} (h : -524288 ≤ m ∧ m < 524288) (hc : cd = m / 2048 % 256) (he : e = m / 1024 % 2 + 2 * (m % 16)) (hg : g = m / 16 % 64 + 64 * (m / 524288 % 2)) :
    2 * (e / 2 + 16 * (g % 64)) + 2048 * (e % 2) + 4096 * cd - 1048576 * (g / 64) = 2 * m := by
  have hb1 : e / 2 = m % 16 := by omega
  have hb2 : e % 2 = m / 1024 % 2 := by omega
  have hg1 : g % 64 = m / 16 % 64 := by omega
  have hg2 : g / 64 = m / 524288 % 2 := by omega
  rw [hb1, hb2, hg1, hg2, hc]
  clear hb1 hb2 hg1 hg2 hc he hg
  omega
theorem half (m k : Int) (_hk : 0 < k) : 2 * m / (2 * k) = m / k := Int.mul_ediv_mul_of_pos _ _ (by omega)
/-- An instruction that has a word is read back from it. -/
theorem back {f : Fm} (hf : f.good) {rd rs1 rs2 n : Int} (h : encE f rd rs1 rs2 n = 0) :
    0 ≤ encW f rd rs1 rs2 n ∧ encW f rd rs1 rs2 n < 4294967296 ∧ cRd f (encW f rd rs1 rs2 n) = rd ∧ cRs1 f (encW f rd rs1 rs2 n) = rs1 ∧ cRs2 f (encW f rd rs1 rs2 n) = rs2 ∧ cImm f (encW f rd rs1 rs2 n) = n ∧ f.sig (encW f rd rs1 rs2 n) := by
  obtain ⟨b, c, d, e, g, hb, hc, hd, he, hg, hW, h1, h2, h3, h4, h5, k1, k2, k3, k4, k5, k6⟩ := encW_fields hf h
  obtain ⟨u1, u2, u3, u4, r1, r2, r3, r4, r5, r6, hfit⟩ := encE_zero h
  obtain ⟨g1, g2, g3, g4, g5, g6, hk⟩ := hf
  generalize encW f rd rs1 rs2 n = W at *
  obtain ⟨w1, w2, w3, w4, w5, w6, w7, w8, w9, w10, w11, w12, w13, w14, w15, w16, w17, w18⟩ := fields ⟨g1, g2⟩ hb hc hd he hg hW
  clear hW h
  refine ⟨w1, w2, ?_, ?_, ?_, ?_, w3, ?_, fun hk' => w8.trans (h5 hk')⟩
  · unfold cRd
    split
    · rename_i u; rw [w4]; exact h1 u
    · rename_i u; exact (u1.resolve_left u).symm
  · unfold cRs1
    split
    · rename_i u; rw [w6]; exact h2 u
    · rename_i u; exact (u2.resolve_left u).symm
  · unfold cRs2
    split
    · rename_i u; rw [w7]; exact h3 u
    · rename_i u; exact (u3.resolve_left u).symm
  · have F1 : f.kind = 73 ∨ f.kind = 83 → -2048 ≤ n ∧ n < 2048 := fun e => by
      have hf' := hfit (by unfold Fm.uImm; omega)
      clear w1 w2 w3 w4 w5 w6 w7 w8 w9 w10 w11 w12 w13 w14 w15 w16 w17 w18 hk k1 k2 k3 k4 k5 k6 h1 h2 h3 h4 h5 hfit
      unfold fitsK at hf'; omega
    have F2 : f.kind = 66 → -4096 ≤ n ∧ n < 4096 ∧ n % 2 = 0 := fun e => by
      have hf' := hfit (by unfold Fm.uImm; omega)
      clear w1 w2 w3 w4 w5 w6 w7 w8 w9 w10 w11 w12 w13 w14 w15 w16 w17 w18 hk k1 k2 k3 k4 k5 k6 h1 h2 h3 h4 h5 hfit F1
      unfold fitsK at hf'; omega
    have F3 : f.kind = 74 → -1048576 ≤ n ∧ n < 1048576 ∧ n % 2 = 0 := fun e => by
      have hf' := hfit (by unfold Fm.uImm; omega)
      clear w1 w2 w3 w4 w5 w6 w7 w8 w9 w10 w11 w12 w13 w14 w15 w16 w17 w18 hk k1 k2 k3 k4 k5 k6 h1 h2 h3 h4 h5 hfit F1 F2
      unfold fitsK at hf'; omega
    clear hfit
    unfold cImm immOf
    by_cases e1 : f.kind = 73
    · rw [if_pos e1, w10]
      exact immI (F1 (Or.inl e1)) (k1 e1).1 (k1 e1).2
    rw [if_neg e1]
    by_cases e2 : f.kind = 72
    · rw [if_pos e2, w7]; exact k2 e2
    rw [if_neg e2]
    by_cases e3 : f.kind = 83
    · rw [if_pos e3, w9, w4]
      exact immS (F1 (Or.inr e3)) (k3 e3).1 (k3 e3).2
    rw [if_neg e3]
    by_cases e4 : f.kind = 66
    · rw [if_pos e4, w16, w18, w17, w15]
      obtain ⟨q1, q2⟩ := k4 e4
      obtain ⟨m, rfl⟩ : ∃ m, n = 2 * m := ⟨n / 2, by have := F2 e4; clear w1 w2 w3 w4 w5 w6 w7 w8 w9 w10 w11 w12 w13 w14 w15 w16 w17 w18 hk k1 k2 k3 k4 k5 k6; omega⟩
      have h2 := half m 1024 (by decide)
      have h3 := half m 16 (by decide)
      have h4 := half m 2048 (by decide)
      have h5 := half m 1 (by decide)
      simp only [Int.reduceMul, Int.ediv_one] at h2 h3 h4 h5
      rw [h2, h5] at q1
      rw [h3, h4] at q2
      have f2 := F2 e4
      exact immBr (by clear q1 q2 h2 h3 h4 h5 w1 w2 w3 w4 w5 w6 w7 w8 w9 w10 w11 w12 w13 w14 w15 w16 w17 w18 hk k1 k2 k3 k4 k5 k6; omega) q1 q2
    rw [if_neg e4]
    by_cases e5 : f.kind = 85
    · rw [if_pos e5, w11]; exact k5 e5
    rw [if_neg e5]
    by_cases e6 : f.kind = 74
    · rw [if_pos e6, w12, w13, w14, w15]
      obtain ⟨q0, q1, q2⟩ := k6 e6
      obtain ⟨m, rfl⟩ : ∃ m, n = 2 * m := ⟨n / 2, by have := F3 e6; clear w1 w2 w3 w4 w5 w6 w7 w8 w9 w10 w11 w12 w13 w14 w15 w16 w17 w18 hk k1 k2 k3 k4 k5 k6; omega⟩
      have h2 := half m 1024 (by decide)
      have h3 := half m 16 (by decide)
      have h4 := half m 2048 (by decide)
      have h5 := half m 1 (by decide)
      have h6 := half m 524288 (by decide)
      simp only [Int.reduceMul, Int.ediv_one] at h2 h3 h4 h5 h6
      rw [h4] at q0
      rw [h2, h5] at q1
      rw [h3, h6] at q2
      have f2 := F3 e6
      exact immJ (by clear q0 q1 q2 h2 h3 h4 h5 h6 w1 w2 w3 w4 w5 w6 w7 w8 w9 w10 w11 w12 w13 w14 w15 w16 w17 w18 hk k1 k2 k3 k4 k5 k6; omega) q0 q1 q2
    rw [if_neg e6]
    have := u4.resolve_left (fun u => by unfold Fm.uImm at u; exact u.elim e1 (fun u => u.elim e2 (fun u => u.elim e3 (fun u => u.elim e4 (fun u => u.elim e5 e6)))))
    exact this.symm
  · rw [w5]; exact h4
/-- Whether two forms might be told by one word. -/
def clash (f g : Fm) : Bool := f.op == g.op && (f.kind == 85 || f.kind == 74 || g.kind == 85 || g.kind == 74 || f.f3 == g.f3) && (!(f.kind == 82 || f.kind == 72) || !(g.kind == 82 || g.kind == 72) || f.f7 == g.f7)
theorem tbl_clash : (List.range 55).all (fun i => (List.range 55).all fun j => i == j || match tbl[i]?, tbl[j]? with | some f, some g => !clash f g | _, _ => true) = true := by decide +kernel
theorem sig_clash {f g : Fm} {w : Int} (hf : f.sig w) (hg : g.sig w) : clash f g = true := by
  obtain ⟨a1, a2, a3⟩ := hf
  obtain ⟨b1, b2, b3⟩ := hg
  unfold clash
  simp only [Bool.and_eq_true, Bool.or_eq_true, beq_iff_eq, Bool.not_eq_true', Bool.or_eq_false_iff, beq_eq_false_iff_ne]
  refine ⟨⟨by omega, ?_⟩, ?_⟩
  · omega
  · by_cases e1 : f.kind = 82 ∨ f.kind = 72
    · by_cases e2 : g.kind = 82 ∨ g.kind = 72
      · right
        rw [← a3 e1, ← b3 e2]
      · left; right
        omega
    · left; left
      omega
/-- A word tells one instruction's number. -/
theorem one_op {i j : Int} {f g : Fm} {w : Int} (hi : formOf i = some f) (hj : formOf j = some g) (hf : f.sig w) (hg : g.sig w) : i = j := by
  have hc := sig_clash hf hg
  obtain ⟨_, i1, i2⟩ := formOf_good hi
  obtain ⟨_, j1, j2⟩ := formOf_good hj
  unfold formOf at hi hj
  rw [if_pos ⟨i1, i2⟩] at hi
  rw [if_pos ⟨j1, j2⟩] at hj
  have h := List.all_eq_true.1 (List.all_eq_true.1 tbl_clash (i - 1).toNat (List.mem_range.2 (by omega))) (j - 1).toNat (List.mem_range.2 (by omega))
  rw [hi, hj] at h
  simp only [hc, Bool.not_true, Bool.or_false, beq_iff_eq] at h
  omega
theorem insE_form {op rd rs1 rs2 n : Int} (h : insE op rd rs1 rs2 n = 0) : ∃ f, formOf op = some f ∧ encE f rd rs1 rs2 n = 0 ∧ insW op rd rs1 rs2 n = encW f rd rs1 rs2 n := by
  unfold insE at h
  unfold insW
  cases e : formOf op with
  | none => rw [e] at h; cases h
  | some f =>
    rw [e] at h
    simp only at h
    exact ⟨f, rfl, h, by simp [h]⟩
/-- Two instructions of one word are the same. -/
theorem ins_one {op rd rs1 rs2 n op' rd' rs1' rs2' n' : Int} (h : insE op rd rs1 rs2 n = 0) (h' : insE op' rd' rs1' rs2' n' = 0) (hw : insW op rd rs1 rs2 n = insW op' rd' rs1' rs2' n') :
    op = op' ∧ rd = rd' ∧ rs1 = rs1' ∧ rs2 = rs2' ∧ n = n' := by
  obtain ⟨f, e1, e2, e3⟩ := insE_form h
  obtain ⟨g, d1, d2, d3⟩ := insE_form h'
  rw [e3, d3] at hw
  obtain ⟨_, _, a1, a2, a3, a4, as⟩ := back (formOf_good e1).1 e2
  obtain ⟨_, _, b1, b2, b3, b4, bs⟩ := back (formOf_good d1).1 d2
  rw [hw] at as
  obtain rfl := one_op e1 d1 as bs
  rw [e1] at d1
  obtain rfl := Option.some.inj d1
  rw [hw] at a1 a2 a3 a4
  exact ⟨rfl, a1.symm.trans b1, a2.symm.trans b2, a3.symm.trans b3, a4.symm.trans b4⟩
end Go.Proofs.Ytnbooljaodkedaa.PC
namespace Go.Proofs.Ytnbooljaodkedaa
open Go.RowKit Go.Proofs.Ytnbooljaodkedaa.PW
def U64 (a : Int) : Prop := 0 ≤ a ∧ a ≤ 18446744073709551615
def Byte (a : Int) : Prop := 0 ≤ a ∧ a ≤ 255
/-- The number of so many bytes from a place on, the lowest first. -/
def getN (mem : List Int) (a : Nat) : Nat → Int
  | 0 => 0
  | k + 1 => getN mem a k + mem.getD (a + k) 0 * 256 ^ k
/-- So many bytes of a number, put from a place on. -/
def putN (mem : List Int) (a : Nat) (v : Int) : Nat → List Int
  | 0 => mem
  | k + 1 => (putN mem a v k).set (a + k) (v / 256 ^ k % 256)
theorem putN_length (mem : List Int) (a : Nat) (v : Int) (k : Nat) : (putN mem a v k).length = mem.length := by
  induction k with
  | zero => rfl
  | succ k ih => rw [putN, List.length_set, ih]
theorem getD_set (l : List Int) (i j : Nat) (v : Int) : (l.set i v).getD j 0 = if i = j ∧ j < l.length then v else l.getD j 0 := by
  simp only [List.getD_eq_getElem?_getD, List.getElem?_set]
  by_cases h : i = j
  · subst h
    by_cases hl : i < l.length
    · simp [hl]
    · simp [hl]
  · simp [h]
theorem putN_getD (mem : List Int) (a : Nat) (v : Int) (k j : Nat) (h : a + k ≤ mem.length) : (putN mem a v k).getD j 0 = if a ≤ j ∧ j < a + k then v / 256 ^ (j - a) % 256 else mem.getD j 0 := by
  induction k with
  | zero => rw [if_neg (by omega)]; rfl
  | succ k ih =>
    rw [putN, getD_set, putN_length, ih (by omega)]
    by_cases e : a + k = j
    · subst e
      rw [if_pos ⟨rfl, by omega⟩, if_pos ⟨by omega, by omega⟩]
      congr 2
      rw [show a + k - a = k by omega]
    · rw [if_neg (by omega)]
      by_cases g : a ≤ j ∧ j < a + k
      · rw [if_pos g, if_pos ⟨g.1, by omega⟩]
      · rw [if_neg g, if_neg (by omega)]
theorem pow256 (k : Nat) : (0 : Int) < 256 ^ k := Int.pow_pos (by decide)
theorem pow256_succ (k : Nat) : (256 : Int) ^ (k + 1) = 256 ^ k * 256 := Int.pow_succ 256 k
theorem byte_getD {mem : List Int} (hm : ∀ b ∈ mem, Byte b) (i : Nat) : Byte (mem.getD i 0) := by
  rw [List.getD_eq_getElem?_getD]
  cases e : mem[i]? with
  | none => exact ⟨by decide, by decide⟩
  | some b => exact hm b (List.mem_of_getElem? e)
theorem byte_set {mem : List Int} (hm : ∀ b ∈ mem, Byte b) (i : Nat) {v : Int} (hv : Byte v) : ∀ b ∈ mem.set i v, Byte b := by
  intro b hb
  rcases List.mem_or_eq_of_mem_set hb with h | h
  · exact hm b h
  · rw [h]; exact hv
theorem byte_mod (v : Int) : Byte (v % 256) := by unfold Byte; omega
theorem byte_putN {mem : List Int} (hm : ∀ b ∈ mem, Byte b) (a : Nat) (v : Int) (k : Nat) : ∀ b ∈ putN mem a v k, Byte b := by
  induction k with
  | zero => exact hm
  | succ k ih => exact byte_set ih _ (byte_mod _)
theorem getN_range {mem : List Int} (hm : ∀ b ∈ mem, Byte b) (a k : Nat) : 0 ≤ getN mem a k ∧ getN mem a k < 256 ^ k := by
  induction k with
  | zero => exact ⟨Int.le_refl _, Int.pow_pos (by decide)⟩
  | succ k ih =>
    have hb := byte_getD hm (a + k)
    have hp := pow256 k
    rw [getN, pow256_succ]
    have h1 : 0 ≤ mem.getD (a + k) 0 * 256 ^ k := Int.mul_nonneg hb.1 (Int.le_of_lt hp)
    have h2 : mem.getD (a + k) 0 * 256 ^ k ≤ 255 * 256 ^ k := Int.mul_le_mul_of_nonneg_right hb.2 (Int.le_of_lt hp)
    omega
/-- What was put is got. -/
theorem getN_putN (mem : List Int) (a : Nat) (v : Int) (n : Nat) (h : a + n ≤ mem.length) (k : Nat) (hk : k ≤ n) : getN (putN mem a v n) a k = v % 256 ^ k := by
  induction k with
  | zero => rw [getN]; simp
  | succ k ih =>
    rw [getN, ih (by omega), putN_getD mem a v n (a + k) h, if_pos ⟨by omega, by omega⟩, show a + k - a = k by omega, pow256_succ]
    have hp := pow256 k
    have e1 := Int.emod_add_mul_ediv v (256 ^ k)
    have e2 := Int.emod_add_mul_ediv (v / 256 ^ k) 256
    have e3 : v / (256 ^ k * 256) = v / 256 ^ k / 256 := (Int.ediv_ediv_of_nonneg (Int.le_of_lt hp)).symm
    have e4 := Int.emod_add_mul_ediv v (256 ^ k * 256)
    rw [e3] at e4
    generalize v / 256 ^ k / 256 = q at *
    generalize v / 256 ^ k % 256 = r at *
    generalize v / 256 ^ k = d at *
    generalize (256 : Int) ^ k = P at *
    have e5 : P * d = P * r + P * (256 * q) := by rw [← e2, Int.mul_add]
    have e6 : P * 256 * q = P * (256 * q) := Int.mul_assoc ..
    have e7 : r * P = P * r := Int.mul_comm ..
    omega
/-- Elsewhere all is as it was. -/
theorem getN_apart (mem : List Int) (a : Nat) (v : Int) (n b m : Nat) (h : a + n ≤ mem.length) (hb : b + m ≤ a ∨ a + n ≤ b) : getN (putN mem a v n) b m = getN mem b m := by
  have key : ∀ k, k ≤ m → getN (putN mem a v n) b k = getN mem b k := by
    intro k
    induction k with
    | zero => intro _; rfl
    | succ k ih =>
      intro hk
      rw [getN, getN, ih (by omega), putN_getD mem a v n (b + k) h, if_neg (by omega)]
  exact key m (Nat.le_refl _)
theorem wraps_u64 (n : Int) (h₀ : 0 ≤ n) (h₁ : n < 2 ^ 64) : IntKind.u64.wrap n = n := by rw [IntKind.wrap_u64]; omega
theorem pow256_le {k : Nat} (h : k ≤ 8) : (256 : Int) ^ k ≤ 18446744073709551616 := by
  obtain rfl | rfl | rfl | rfl | rfl | rfl | rfl | rfl | rfl : k = 0 ∨ k = 1 ∨ k = 2 ∨ k = 3 ∨ k = 4 ∨ k = 5 ∨ k = 6 ∨ k = 7 ∨ k = 8 := by omega
  all_goals decide
/-- 'or' of a number and a byte above it. -/
theorem or_u64 (k : Nat) (hk : k ≤ 7) {x b : Int} (hx : 0 ≤ x ∧ x < 256 ^ k) (hb : Byte b) : bits .or .u64 x (b * 256 ^ k) = x + b * 256 ^ k := by
  have e : (256 : Int) ^ k = 2 ^ (8 * k) := by rw [Int.pow_mul]; rfl
  have hp := pow256_le (k := k + 1) (by omega)
  have hp0 := pow256 k
  rw [pow256_succ] at hp
  have h2 : b * 256 ^ k ≤ 255 * 256 ^ k := Int.mul_le_mul_of_nonneg_right hb.2 (Int.le_of_lt hp0)
  have h1 : 0 ≤ b * 256 ^ k := Int.mul_nonneg hb.1 (Int.le_of_lt hp0)
  have hm : b * 256 ^ k % 2 ^ (8 * k) = 0 := by rw [e]; exact Int.mul_emod_left ..
  have h64 : (2 : Int) ^ 64 = 18446744073709551616 := by decide
  have hj := bits_join .u64 64 (by decide) wraps_u64 (8 * k) (b * 256 ^ k) x h1 hm (by rw [h64]; omega) hx.1 (by rw [← e]; exact hx.2) (by rw [h64]; omega)
  have hc : bits .or .u64 x (b * 256 ^ k) = bits .or .u64 (b * 256 ^ k) x := by
    unfold bits
    simp only [BitVec.or_comm]
  rw [hc, hj]
  omega
theorem byte_shl (k : Nat) (hk : k ≤ 7) {b : Int} (hb : Byte b) : b * 256 ^ k % 18446744073709551616 = b * 256 ^ k := by
  have hp := pow256_le (k := k + 1) (by omega)
  have hp0 := pow256 k
  rw [pow256_succ] at hp
  have h2 : b * 256 ^ k ≤ 255 * 256 ^ k := Int.mul_le_mul_of_nonneg_right hb.2 (Int.le_of_lt hp0)
  have h1 : 0 ≤ b * 256 ^ k := Int.mul_nonneg hb.1 (Int.le_of_lt hp0)
  omega
end Go.Proofs.Ytnbooljaodkedaa
