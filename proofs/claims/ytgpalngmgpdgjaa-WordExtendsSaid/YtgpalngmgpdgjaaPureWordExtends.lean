/- The pure statement of WordExtends: of any number of bits a word is extended as the document says; again it is the same. No condition. -/
import Derived.Test.YtgpalngmgpdgjaaPWordExtendsx2
import Derived.Test.YtgpalngmgpdgjaaPlainWord
namespace Go.Proofs.Ytgpalngmgpdgjaa.Pure
set_option linter.unusedVariables false
open Go.RowKit Go.Proofs.Ytgpalngmgpdgjaa.PWordExtends Go.Proofs.Ytgpalngmgpdgjaa.PW Go.Proofs.YtgpalngmgpdgjaaW.PrintWords Go.Proofs.YtgpalngmgpdgjaaW.PrintLast Go.Proofs.YtgpalngmgpdgjaaW.PrintMore

theorem bit_f (p : Prop) [Decidable p] : word_bit.f (decide p) = some (if p then 1 else 0) := by
  unfold word_bit.f
  by_cases h : p <;> simp [h]
theorem mul32_f {a b : Int} (ha : U a) (hb : U b) : bits_Mul32.f a b = some (a * b / 4294967296, a * b % 4294967296) := by
  have h := mul_U ha hb
  have e : IntKind.u64.wrap a = a := by rw [show IntKind.u64.wrap a = a % 18446744073709551616 by simp [IntKind.wrap, IntKind.bits, IntKind.signed]]; unfold U at ha; omega
  have f : IntKind.u64.wrap b = b := by rw [show IntKind.u64.wrap b = b % 18446744073709551616 by simp [IntKind.wrap, IntKind.bits, IntKind.signed]]; unfold U at hb; omega
  have g : IntKind.u64.wrap (a * b) = a * b := by rw [show IntKind.u64.wrap (a * b) = (a * b) % 18446744073709551616 by simp [IntKind.wrap, IntKind.bits, IntKind.signed]]; omega
  unfold bits_Mul32.f
  rw [e, f, g]
  have : a * b / 4294967296 % 4294967296 = a * b / 4294967296 := by omega
  rw [this]
theorem muls_f {k : Nat} (op : Int) {a b : Int} (hop : op = 11 ∨ op = 12 ∨ op = 13 ∨ op = 14 ∨ op = 15 ∨ op = 16 ∨ op = 17 ∨ ¬ (11 ≤ op ∧ op ≤ 17)) (ha : U a) (hb : U b) :
    word_muls.f (k + 1) op a b = some (if 11 ≤ op ∧ op ≤ 17 then doV op a b else 0, if 11 ≤ op ∧ op ≤ 17 then 0 else 1) := by
  have sa := sgn_range ha
  have sb := sgn_range hb
  have ma := mul_S sa sb
  have zb := sgn_zero hb
  unfold word_muls.f
  rw [mul32_f ha hb, wrap32_sgn ha, wrap32_sgn hb, wrap64_id (a := sgn a) (by omega), wrap64_id (a := sgn b) (by omega), wrap64_id (a := sgn a * sgn b) (by omega)]
  simp only [Option.bind_some]
  rcases hop with rfl | rfl | rfl | rfl | rfl | rfl | rfl | h
  · simp [doV]
  · simp [doV]
  · simp [doV]
  · by_cases z : b = 0
    · simp [z, word_muls.j0, doV]
    · simp [z, zb, doV, wrap32_mod]
  · by_cases z : b = 0
    · simp [z, word_muls.j0, doV]
    · have e1 : Int.tdiv a b = a / b := tdiv_pos ha.1
      have e2 : a / b % 4294967296 = a / b := by
        have h1 : 0 ≤ a / b := Int.ediv_nonneg ha.1 hb.1
        have h2 : a / b ≤ a := Int.ediv_le_self _ ha.1
        unfold U at ha
        omega
      simp [z, doV, e1, e2]
  · by_cases z : b = 0
    · simp [z, word_muls.j0, doV]
    · have e := tmod_S (y := sgn b) sa
      simp [z, zb, doV]
  · by_cases z : b = 0
    · simp [z, word_muls.j0, doV]
    · have e1 : Int.tmod a b = a % b := tmod_pos ha.1
      simp [z, doV, e1]
  · have n1 : op ≠ 11 := by omega
    have n2 : op ≠ 12 := by omega
    have n3 : op ≠ 13 := by omega
    have n4 : op ≠ 14 := by omega
    have n5 : op ≠ 15 := by omega
    have n6 : op ≠ 16 := by omega
    have n7 : op ≠ 17 := by omega
    rw [if_neg h, if_neg h]
    by_cases z : b = 0 <;> simp [n1, n2, n3, n4, n5, n6, n7, z, word_muls.j0]
theorem do_f (k : Nat) (op a b : Int) (hk : 1 ≤ k) (ha : U a) (hb : U b) : word_Do.f k op a b = some (doV op a b, doE op) := by
  obtain ⟨k, rfl⟩ : ∃ m, k = m + 1 := ⟨k - 1, by omega⟩
  have h5 : 0 ≤ b % 32 := by omega
  have h6 : b % 32 ≤ 32 := by omega
  have hop : op = 1 ∨ op = 2 ∨ op = 3 ∨ op = 4 ∨ op = 5 ∨ op = 6 ∨ op = 7 ∨ op = 8 ∨ op = 9 ∨ op = 10 ∨ (¬ (1 ≤ op ∧ op ≤ 10)) := by omega
  unfold word_Do.f
  rw [wrap32_sgn ha, wrap32_sgn hb, and31 hb, bit_f, bit_f, if_pos h5, if_pos h5, if_pos h5, shl_u32 h6, shr_u32 h6, shr_i32 h6]
  rcases hop with rfl | rfl | rfl | rfl | rfl | rfl | rfl | rfl | rfl | rfl | h
  · simp [doV, doE]
  · simp [doV, doE]
  · simp [doV, doE]
  · simp [doV, doE]
  · simp [doV, doE]
  · simp [doV, doE]
  · simp [doV, doE]
  · simp [doV, doE]
  · simp [doV, doE]
  · simp [doV, doE]
  · rw [muls_f op (by omega) ha hb]
    have n1 : op ≠ 1 := by omega
    have n2 : op ≠ 2 := by omega
    have n3 : op ≠ 3 := by omega
    have n4 : op ≠ 4 := by omega
    have n5 : op ≠ 5 := by omega
    have n6 : op ≠ 6 := by omega
    have n7 : op ≠ 7 := by omega
    have n8 : op ≠ 8 := by omega
    have n9 : op ≠ 9 := by omega
    have n10 : op ≠ 10 := by omega
    simp only [n1, n2, n3, n4, n5, n6, n7, n8, n9, n10, if_false, Option.bind_some, doE]
    by_cases z : 11 ≤ op ∧ op ≤ 17
    · rw [if_pos z, if_pos z, if_pos ⟨by omega, by omega⟩]
    · rw [if_neg z, if_neg z, if_neg (by omega)]
      have m1 : op ≠ 11 := by omega
      have m2 : op ≠ 12 := by omega
      have m3 : op ≠ 13 := by omega
      have m4 : op ≠ 14 := by omega
      have m5 : op ≠ 15 := by omega
      have m6 : op ≠ 16 := by omega
      have m7 : op ≠ 17 := by omega
      simp only [doV, n1, n2, n3, n4, n5, n6, n7, n8, n9, n10, m1, m2, m3, m4, m5, m6, m7, if_false]
theorem awake_f (k : Nat) (hk : 1 ≤ k) : solderlaw01_awake.f k = some true := by
  unfold solderlaw01_awake.f
  rw [do_f k _ _ _ hk (by unfold U; omega) (by unfold U; omega), do_f k _ _ _ hk (by unfold U; omega) (by unfold U; omega)]
  decide +kernel
theorem power_l (n : Int) (hn : n ≤ 62) (d : Nat) : ∀ (k : Nat) (i : Int), 0 ≤ i → i ≤ n → n - i = d → d < k → solderref01_power.l0 k n (2 ^ i.toNat) i = some (2 ^ n.toNat) := by
  induction d with
  | zero =>
    intro k i h0 h1 hd hk
    obtain ⟨k, rfl⟩ : ∃ m, k = m + 1 := ⟨k - 1, by omega⟩
    obtain rfl : i = n := by omega
    simp only [solderref01_power.l0]; rw [if_neg (by omega)]
  | succ d ih =>
    intro k i h0 h1 hd hk
    obtain ⟨k, rfl⟩ : ∃ m, k = m + 1 := ⟨k - 1, by omega⟩
    have hp : (2 : Int) ^ i.toNat * 2 = 2 ^ (i + 1).toNat := by
      rw [show (i + 1).toNat = i.toNat + 1 by omega, Int.pow_succ]
    have hb : (2 : Int) ^ (i + 1).toNat ≤ 2 ^ 62 := by
      have : (2 : Nat) ^ (i + 1).toNat ≤ 2 ^ 62 := Nat.pow_le_pow_right (by decide) (by omega)
      exact_mod_cast this
    have h0p : (0 : Int) < 2 ^ (i + 1).toNat := Int.pow_pos (by decide)
    simp only [solderref01_power.l0]; rw [if_pos (by omega), hp, wrap64_id (by omega), wrap64_id (a := i + 1) (by omega)]
    exact ih k (i + 1) (by omega) (by omega) (by omega) (by omega)
theorem power_f (k : Nat) (n : Int) (h0 : 0 ≤ n) (hn : n ≤ 62) (hk : n.toNat < k) : solderref01_power.f k n = some (2 ^ n.toNat) := by
  unfold solderref01_power.f
  exact power_l n hn n.toNat k 0 (by omega) h0 (by omega) hk
theorem of_f {n : Int} (h : -9223372036854775808 ≤ n ∧ n ≤ 9223372036854775807) : solderref01_Of.f n = some (n % 4294967296) := by
  unfold solderref01_Of.f
  by_cases h0 : 0 ≤ n
  · rw [tmod_pos h0, if_neg (by omega)]
    congr 1; omega
  · have e : Int.tmod n 4294967296 = - ((-n) % 4294967296) := by
      have t := Int.neg_tmod (-n) 4294967296
      rw [Int.neg_neg] at t
      rw [t, tmod_pos (n := -n) (by omega)]
    rw [e]
    by_cases h1 : -(-n % 4294967296) < 0
    · rw [if_pos h1, wrap64_id (by omega)]; congr 1; omega
    · rw [if_neg h1]; congr 1; omega
def extV (a : Int) (p : Int) (q : Int) : Int := (if a % p ≥ q then a % p - p else a % p) % 4294967296
theorem ext32 {n : Int} (h1 : 1 ≤ n) (h2 : n ≤ 32) : n = 1 ∨ n = 2 ∨ n = 3 ∨ n = 4 ∨ n = 5 ∨ n = 6 ∨ n = 7 ∨ n = 8 ∨ n = 9 ∨ n = 10 ∨ n = 11 ∨ n = 12 ∨ n = 13 ∨ n = 14 ∨ n = 15 ∨ n = 16 ∨ n = 17 ∨ n = 18 ∨ n = 19 ∨ n = 20 ∨ n = 21 ∨ n = 22 ∨ n = 23 ∨ n = 24 ∨ n = 25 ∨ n = 26 ∨ n = 27 ∨ n = 28 ∨ n = 29 ∨ n = 30 ∨ n = 31 ∨ n = 32 := by omega
theorem ext_f {a n : Int} (ha : U a) (h1 : 1 ≤ n) (h2 : n ≤ 32) : word_Extend.f a n = some (extV a (2 ^ n.toNat) (2 ^ (n - 1).toNat), 0) := by
  unfold word_Extend.f
  rw [if_neg (by omega), if_neg (by omega), wrap64_id (a := 32 - n) (by omega), if_pos (by omega), shl_u32 (by omega), shr_i32 (by omega)]
  congr 1
  refine Prod.ext ?_ rfl
  show wrap32 (a * 2 ^ (32 - n).toNat % 4294967296) / 2 ^ (32 - n).toNat % 4294967296 = extV a (2 ^ n.toNat) (2 ^ (n - 1).toNat)
  unfold U at ha
  unfold wrap32 extV
  rcases ext32 h1 h2 with rfl | rfl | rfl | rfl | rfl | rfl | rfl | rfl | rfl | rfl | rfl | rfl | rfl | rfl | rfl | rfl | rfl | rfl | rfl | rfl | rfl | rfl | rfl | rfl | rfl | rfl | rfl | rfl | rfl | rfl | rfl | rfl
  all_goals (simp only [Int.reduceSub, Int.reduceToNat, Int.reducePow]; split <;> omega)
theorem ext_again {a n : Int} (ha : U a) (h1 : 1 ≤ n) (h2 : n ≤ 32) : extV (extV a (2 ^ n.toNat) (2 ^ (n - 1).toNat)) (2 ^ n.toNat) (2 ^ (n - 1).toNat) = extV a (2 ^ n.toNat) (2 ^ (n - 1).toNat) := by
  unfold U at ha
  unfold extV
  rcases ext32 h1 h2 with rfl | rfl | rfl | rfl | rfl | rfl | rfl | rfl | rfl | rfl | rfl | rfl | rfl | rfl | rfl | rfl | rfl | rfl | rfl | rfl | rfl | rfl | rfl | rfl | rfl | rfl | rfl | rfl | rfl | rfl | rfl | rfl
  all_goals (simp only [Int.reduceSub, Int.reduceToNat, Int.reducePow]; split <;> split <;> omega)
theorem extV_U (a p q : Int) : U (extV a p q) := U_mod _
theorem rext_f (k : Nat) (hk : 34 ≤ k) {a n : Int} (ha : U a) (h1 : 1 ≤ n) (h2 : n ≤ 32) : solderref01_Extend.f k a n = some (extV a (2 ^ n.toNat) (2 ^ (n - 1).toNat), true) := by
  obtain ⟨k, rfl⟩ : ∃ m, k = m + 1 := ⟨k - 1, by omega⟩
  unfold solderref01_Extend.f
  rw [if_neg (by omega), decide_eq_false (by omega)]
  simp only [solderref01_Extend.j0]
  have hp : (0 : Int) < 2 ^ n.toNat := Int.pow_pos (by decide)
  have hb : (2 : Int) ^ n.toNat ≤ 2 ^ 32 := by
    have : (2 : Nat) ^ n.toNat ≤ 2 ^ 32 := Nat.pow_le_pow_right (by decide) (by omega)
    exact_mod_cast this
  have ha' := ha
  unfold U at ha
  rw [wrap64_id (a := n - 1) (by omega), wrap64_id (a := a) (by omega), power_f k n (by omega) (by omega) (by omega), power_f k (n - 1) (by omega) (by omega) (by omega)]
  simp only [Option.bind_some, Bool.false_eq_true, if_false]
  rw [if_neg (by omega), tmod_pos ha.1]
  have hm1 : 0 ≤ a % 2 ^ n.toNat := Int.emod_nonneg _ (by omega)
  have hm2 : a % 2 ^ n.toNat < 2 ^ n.toNat := Int.emod_lt_of_pos _ hp
  unfold extV
  by_cases c : a % 2 ^ n.toNat ≥ 2 ^ (n - 1).toNat
  · rw [if_pos c, if_pos c, wrap64_id (by omega), of_f (by omega)]; rfl
  · rw [if_neg c, if_neg c, of_f (by omega)]; rfl
theorem WordExtends : solderlaw01_WordExtends.Pure := by
  intro a n wa wn
  have ha := U_of wa
  refine ⟨40, ?_⟩
  unfold solderlaw01_WordExtends.f
  rw [awake_f 40 (by decide)]
  simp only [Option.bind_some, if_true]
  by_cases h1 : 1 ≤ n
  · by_cases h2 : n ≤ 32
    · rw [ext_f ha h1 h2, rext_f 40 (by decide) ha h1 h2]
      simp only [Option.bind_some]
      rw [ext_f (extV_U _ _ _) h1 h2, ext_again ha h1 h2]
      simp
    · have e : word_Extend.f a n = some (0, 1) := by unfold word_Extend.f; rw [if_neg (by omega), if_pos (by omega)]
      have f : solderref01_Extend.f 40 a n = some (0, false) := by unfold solderref01_Extend.f; rw [if_neg (by omega), decide_eq_true (by omega)]; rfl
      have g : word_Extend.f 0 n = some (0, 1) := by unfold word_Extend.f; rw [if_neg (by omega), if_pos (by omega)]
      rw [e, f]; simp [g]
  · have e : word_Extend.f a n = some (0, 1) := by unfold word_Extend.f; rw [if_pos (by omega)]
    have f : solderref01_Extend.f 40 a n = some (0, false) := by unfold solderref01_Extend.f; rw [if_pos (by omega)]; rfl
    have g : word_Extend.f 0 n = some (0, 1) := by unfold word_Extend.f; rw [if_pos (by omega)]
    rw [e, f]; simp [g]
end Go.Proofs.Ytgpalngmgpdgjaa.Pure
