/- Plain arithmetic of 32-bit words: what each operation of words comes to. No condition. -/
import Derived.RowKit
import Derived.OpenShut
import Derived.Laws.BitsLemmas
import Derived.WalkKit
namespace Go.Proofs.Ytgcihcgclmdolaa.PW
open Go.RowKit

/-- A word's range. -/
def U (a : Int) : Prop := 0 ≤ a ∧ a ≤ 4294967295
theorem U_of {a : Int} (h : (Lit.int .u32 a).wf = true) : U a := bounds_u32 h
def sgn (a : Int) : Int := if a ≥ 2147483648 then a - 4294967296 else a
theorem sgn_range {a : Int} (h : U a) : -2147483648 ≤ sgn a ∧ sgn a ≤ 2147483647 := by
  unfold sgn U at *; split <;> omega
theorem wrap32_sgn {a : Int} (h : U a) : wrap32 a = sgn a := by
  unfold wrap32 sgn U at *; split <;> omega
theorem sgn_mod (a : Int) : sgn a % 4294967296 = a % 4294967296 := by
  unfold sgn; split <;> omega
theorem wrap64_id {a : Int} (h : -9223372036854775808 ≤ a ∧ a ≤ 9223372036854775807) : wrap64 a = a := by
  unfold wrap64; omega
theorem wrap_u64 (x : Int) : IntKind.u64.wrap x = x % 18446744073709551616 := by simp [IntKind.wrap, IntKind.bits, IntKind.signed]
theorem U_mod (a : Int) : U (a % 4294967296) := by unfold U; omega
theorem mod_U {a : Int} (h : U a) : a % 4294967296 = a := by unfold U at h; omega

/-- The count of a shift. -/
theorem and31 {b : Int} (h : U b) : Go.bits .and .u32 b 31 = b % 32 := by
  have := bits_mask .u32 32 (by decide) (fun n h0 h1 => by rw [IntKind.wrap_u32]; omega) 5 (by decide) b h.1 (by unfold U at h; omega)
  simpa using this
/-- What an operation of words comes to. -/
def doV (op a b : Int) : Int :=
  if op = 1 then (a + b) % 4294967296 else if op = 2 then (a - b) % 4294967296
  else if op = 3 then (a * 2 ^ (b % 32).toNat) % 4294967296
  else if op = 4 then (if sgn a < sgn b then 1 else 0) else if op = 5 then (if a < b then 1 else 0)
  else if op = 6 then Go.bits .xor .u32 a b else if op = 7 then a / 2 ^ (b % 32).toNat
  else if op = 8 then (sgn a / 2 ^ (b % 32).toNat) % 4294967296
  else if op = 9 then Go.bits .or .u32 a b else if op = 10 then Go.bits .and .u32 a b
  else if op = 11 then (a * b) % 4294967296 else if op = 12 then (sgn a * sgn b / 4294967296) % 4294967296
  else if op = 13 then a * b / 4294967296
  else if op = 14 then (if b = 0 then 4294967295 else (Int.tdiv (sgn a) (sgn b)) % 4294967296)
  else if op = 15 then (if b = 0 then 4294967295 else a / b)
  else if op = 16 then (if b = 0 then a else (Int.tmod (sgn a) (sgn b)) % 4294967296)
  else if op = 17 then (if b = 0 then a else a % b) else 0
/-- Is it an operation? -/
def doE (op : Int) : Int := if 1 ≤ op ∧ op ≤ 17 then 0 else 1

theorem mul_U {a b : Int} (ha : U a) (hb : U b) : 0 ≤ a * b ∧ a * b ≤ 18446744065119617025 := by
  unfold U at *
  refine ⟨Int.mul_nonneg ha.1 hb.1, ?_⟩
  calc a * b ≤ 4294967295 * 4294967295 := Int.mul_le_mul ha.2 hb.2 hb.1 (by decide)
    _ = 18446744065119617025 := by decide
theorem mul_S {x y : Int} (hx : -2147483648 ≤ x ∧ x ≤ 2147483647) (hy : -2147483648 ≤ y ∧ y ≤ 2147483647) :
    -4611686018427387904 ≤ x * y ∧ x * y ≤ 4611686018427387904 := by
  have h1 : x.natAbs ≤ 2147483648 := by omega
  have h2 : y.natAbs ≤ 2147483648 := by omega
  have h3 : (x * y).natAbs ≤ 2147483648 * 2147483648 := by rw [Int.natAbs_mul]; exact Nat.mul_le_mul h1 h2
  omega
theorem sgn_zero {b : Int} (hb : U b) : sgn b = 0 ↔ b = 0 := by unfold sgn U at *; split <;> omega
theorem tdiv_S {x y : Int} (hx : -2147483648 ≤ x ∧ x ≤ 2147483647) : -2147483648 ≤ Int.tdiv x y ∧ Int.tdiv x y ≤ 2147483648 := by
  have h : (Int.tdiv x y).natAbs ≤ x.natAbs := by rw [Int.natAbs_tdiv]; exact Nat.div_le_self _ _
  omega
theorem tmod_S {x y : Int} (hx : -2147483648 ≤ x ∧ x ≤ 2147483647) : -2147483648 ≤ Int.tmod x y ∧ Int.tmod x y ≤ 2147483647 := by
  have h : (Int.tmod x y).natAbs ≤ x.natAbs := by rw [Int.natAbs_tmod]; exact Nat.mod_le _ _
  have h2 : 0 ≤ x → 0 ≤ Int.tmod x y := fun h => Int.tmod_nonneg _ h
  have h3 : x ≤ 0 → Int.tmod x y ≤ 0 := fun h => by
    have := Int.tmod_nonneg (a := -x) y (by omega)
    rw [Int.neg_tmod] at this
    omega
  omega
theorem tmod_pos {n m : Int} (h : 0 ≤ n) : Int.tmod n m = n % m := Int.tmod_eq_emod_of_nonneg h
theorem tdiv_pos {n m : Int} (h : 0 ≤ n) : Int.tdiv n m = n / m := Int.tdiv_eq_ediv_of_nonneg h
theorem wrap32_mod (x : Int) : wrap32 x % 4294967296 = x % 4294967296 := by unfold wrap32; omega

def zV (how x y : Int) : Int := if how = 1 ∧ x ≠ y ∨ how = 2 ∧ x + y > 0 ∨ how = 3 ∧ x + y = 2 then 1 else 0
def bitsR (how a b : Int) : Nat → Int
  | 0 => 0
  | j + 1 => (bitsR how a b j + (zV how (a / 2 ^ j % 2) (b / 2 ^ j % 2) * 2 ^ j) % 4294967296) % 4294967296
theorem bitsR_nat (how : Int) (A B N : Nat) (hb : ∀ j, zV how ((A : Int) / 2 ^ j % 2) ((B : Int) / 2 ^ j % 2) = ((N / 2 ^ j % 2 : Nat) : Int)) :
    ∀ j : Nat, j ≤ 32 → bitsR how A B j = ((N % 2 ^ j : Nat) : Int) := by
  intro j
  induction j with
  | zero => intro _; simp [bitsR, Nat.mod_one]
  | succ j ih =>
    intro hj
    have h1 : N % 2 ^ (j + 1) < 2 ^ (j + 1) := Nat.mod_lt _ (Nat.two_pow_pos _)
    have h2 : 2 ^ (j + 1) ≤ 2 ^ 32 := Nat.pow_le_pow_right (by decide) hj
    have h3 : 2 ^ j < 2 ^ 32 := Nat.pow_lt_pow_right (by decide) (by omega)
    have h4 := Nat.mod_pow_succ (x := N) (b := 2) (k := j)
    rw [bitsR, ih (by omega), hb]
    have e : ((N / 2 ^ j % 2 : Nat) : Int) * 2 ^ j = ((2 ^ j * (N / 2 ^ j % 2) : Nat) : Int) := by
      rw [Nat.mul_comm]; simp
    rw [e]
    generalize 2 ^ j * (N / 2 ^ j % 2) = x at *
    omega
theorem bit_int (A j : Nat) : (A : Int) / 2 ^ j % 2 = ((A.testBit j).toNat : Int) := by
  have : (A : Int) / 2 ^ j % 2 = ((A / 2 ^ j % 2 : Nat) : Int) := by simp
  rw [this, Nat.testBit_eq_decide_div_mod_eq]
  rcases Nat.mod_two_eq_zero_or_one (A / 2 ^ j) with h | h <;> simp [h]
theorem bit_nat (N j : Nat) : N / 2 ^ j % 2 = (N.testBit j).toNat := by
  rw [Nat.testBit_eq_decide_div_mod_eq]
  rcases Nat.mod_two_eq_zero_or_one (N / 2 ^ j) with h | h <;> simp [h]
theorem toN {a : Int} (h : U a) : ∃ A : Nat, a = A ∧ A < 2 ^ 32 := by
  obtain ⟨A, rfl⟩ := Int.eq_ofNat_of_zero_le h.1
  exact ⟨A, rfl, by have := h.2; omega⟩
theorem bits_u32_xor (A B : Nat) (hA : A < 2 ^ 32) (hB : B < 2 ^ 32) : Go.bits .xor .u32 A B = ((A ^^^ B : Nat) : Int) := by
  have h : A ^^^ B < 2 ^ 32 := Nat.xor_lt_two_pow hA hB
  have ha : A % 4294967296 = A := Nat.mod_eq_of_lt hA
  have hb : B % 4294967296 = B := Nat.mod_eq_of_lt hB
  have key : (BitVec.ofInt 32 (A : Int) ^^^ BitVec.ofInt 32 (B : Int)).toNat = A ^^^ B := by
    rw [BitVec.toNat_xor, BitVec.ofInt_natCast, BitVec.ofInt_natCast, BitVec.toNat_ofNat, BitVec.toNat_ofNat]
    simp only [Nat.reducePow, ha, hb]
  show IntKind.u32.wrap ((BitVec.ofInt 32 (A : Int) ^^^ BitVec.ofInt 32 (B : Int)).toNat : Int) = _
  rw [key, IntKind.wrap_u32]
  omega
theorem bits_u32_and (A B : Nat) (hA : A < 2 ^ 32) (hB : B < 2 ^ 32) : Go.bits .and .u32 A B = ((A &&& B : Nat) : Int) :=
  (bits_nat .u32 32 (by decide) (fun n h0 h1 => by rw [IntKind.wrap_u32]; omega) A B hA hB).1
theorem bits_u32_or (A B : Nat) (hA : A < 2 ^ 32) (hB : B < 2 ^ 32) : Go.bits .or .u32 A B = ((A ||| B : Nat) : Int) :=
  (bits_nat .u32 32 (by decide) (fun n h0 h1 => by rw [IntKind.wrap_u32]; omega) A B hA hB).2
theorem bitsR_xor {a b : Int} (ha : U a) (hb : U b) : bitsR 1 a b 32 = Go.bits .xor .u32 a b := by
  obtain ⟨A, rfl, hA⟩ := toN ha
  obtain ⟨B, rfl, hB⟩ := toN hb
  rw [bits_u32_xor A B hA hB, bitsR_nat 1 A B (A ^^^ B) _ 32 (Nat.le_refl _), Nat.mod_eq_of_lt (Nat.xor_lt_two_pow hA hB)]
  intro j
  rw [bit_int, bit_int, bit_nat, Nat.testBit_xor]
  cases A.testBit j <;> cases B.testBit j <;> decide
theorem bitsR_or {a b : Int} (ha : U a) (hb : U b) : bitsR 2 a b 32 = Go.bits .or .u32 a b := by
  obtain ⟨A, rfl, hA⟩ := toN ha
  obtain ⟨B, rfl, hB⟩ := toN hb
  rw [bits_u32_or A B hA hB, bitsR_nat 2 A B (A ||| B) _ 32 (Nat.le_refl _), Nat.mod_eq_of_lt (Nat.or_lt_two_pow hA hB)]
  intro j
  rw [bit_int, bit_int, bit_nat, Nat.testBit_or]
  cases A.testBit j <;> cases B.testBit j <;> decide
theorem bitsR_and {a b : Int} (ha : U a) (hb : U b) : bitsR 3 a b 32 = Go.bits .and .u32 a b := by
  obtain ⟨A, rfl, hA⟩ := toN ha
  obtain ⟨B, rfl, hB⟩ := toN hb
  rw [bits_u32_and A B hA hB, bitsR_nat 3 A B (A &&& B) _ 32 (Nat.le_refl _), Nat.mod_eq_of_lt (Nat.and_lt_two_pow _ hB)]
  intro j
  rw [bit_int, bit_int, bit_nat, Nat.testBit_and]
  cases A.testBit j <;> cases B.testBit j <;> decide
theorem ediv_U {a m : Int} (h : U a) (hm : 0 ≤ m) : U (a / m) := ⟨Int.ediv_nonneg h.1 hm, Int.le_trans (Int.ediv_le_self _ h.1) h.2⟩
theorem emod_U {a m : Int} (h : U m) : U (a % m) ∨ m = 0 := by
  by_cases z : m = 0
  · exact Or.inr z
  · have h1 := Int.emod_nonneg a z
    have h2 := Int.emod_lt_of_pos a (b := m) (by have := h.1; omega)
    have := h.2
    exact Or.inl ⟨h1, by omega⟩
theorem doV_U (op : Int) {a b : Int} (ha : U a) (hb : U b) : U (doV op a b) := by
  have h0 : U 0 := by unfold U; omega
  have h1 : U 1 := by unfold U; omega
  have h2 : U 4294967295 := by unfold U; omega
  have hm := mul_U ha hb
  have e : ∀ (p : Prop) [Decidable p] (x y : Int), U x → U y → U (if p then x else y) := by
    intro p _ x y hx hy
    split <;> assumption
  unfold doV
  refine e _ _ _ (U_mod _) ?_
  refine e _ _ _ (U_mod _) ?_
  refine e _ _ _ (U_mod _) ?_
  refine e _ _ _ (e _ _ _ h1 h0) ?_
  refine e _ _ _ (e _ _ _ h1 h0) ?_
  refine e _ _ _ (U_of (wf_bits _ _ _ _)) ?_
  refine e _ _ _ (ediv_U ha (Int.le_of_lt (Int.pow_pos (by decide)))) ?_
  refine e _ _ _ (U_mod _) ?_
  refine e _ _ _ (U_of (wf_bits _ _ _ _)) ?_
  refine e _ _ _ (U_of (wf_bits _ _ _ _)) ?_
  refine e _ _ _ (U_mod _) ?_
  refine e _ _ _ (U_mod _) ?_
  refine e _ _ _ ?_ ?_
  · unfold U; omega
  refine e _ _ _ (e _ _ _ h2 (U_mod _)) ?_
  refine e _ _ _ (e _ _ _ h2 (ediv_U ha hb.1)) ?_
  refine e _ _ _ (e _ _ _ ha (U_mod _)) ?_
  refine e _ _ _ ?_ h0
  split
  · exact ha
  · rcases emod_U (a := a) hb with g | g
    · exact g
    · contradiction
end Go.Proofs.Ytgcihcgclmdolaa.PW
