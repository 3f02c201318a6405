/- The pure statement of WordProducts: the upper and the lower bits of a product make it, signed and unsigned. No condition. -/
import Derived.Test.YtgpalngmgpdgjaaPWordProductsx1
import Derived.Test.YtgpalngmgpdgjaaPlainWord
namespace Go.Proofs.Ytgpalngmgpdgjaa.Pure
set_option linter.unusedVariables false
open Go.RowKit Go.Proofs.Ytgpalngmgpdgjaa.PWordProducts Go.Proofs.Ytgpalngmgpdgjaa.PW Go.Proofs.YtgpalngmgpdgjaaW.PrintWords Go.Proofs.YtgpalngmgpdgjaaW.PrintLast Go.Proofs.YtgpalngmgpdgjaaW.PrintMore

theorem bit_f (p : Prop) [Decidable p] : word_bit.f (decide p) = some (if p then 1 else 0) := by
  unfold word_bit.f
  by_cases h : p <;> simp [h]
theorem mul32_f {a b : Int} (ha : U a) (hb : U b) : bits_Mul32.f a b = some (a * b / 4294967296, a * b % 4294967296) := by
  have h := mul_U ha hb
  have e : IntKind.u64.wrap a = a := by rw [show IntKind.u64.wrap a = a % 18446744073709551616 by simp [IntKind.wrap, IntKind.bits, IntKind.signed]]; unfold U at ha; omega
  have f : IntKind.u64.wrap b = b := by rw [show IntKind.u64.wrap b = b % 18446744073709551616 by simp [IntKind.wrap, IntKind.bits, IntKind.signed]]; unfold U at hb; omega
  have g : IntKind.u64.wrap (a * b) = a * b := by rw [show IntKind.u64.wrap (a * b) = (a * b) % 18446744073709551616 by simp [IntKind.wrap, IntKind.bits, IntKind.signed]]; omega
  unfold bits_Mul32.f
  rw [e, f, g]
  have : a * b / 4294967296 % 4294967296 = a * b / 4294967296 := by omega
  rw [this]
theorem muls_f {k : Nat} (op : Int) {a b : Int} (hop : op = 11 ∨ op = 12 ∨ op = 13 ∨ op = 14 ∨ op = 15 ∨ op = 16 ∨ op = 17 ∨ ¬ (11 ≤ op ∧ op ≤ 17)) (ha : U a) (hb : U b) :
    word_muls.f (k + 1) op a b = some (if 11 ≤ op ∧ op ≤ 17 then doV op a b else 0, if 11 ≤ op ∧ op ≤ 17 then 0 else 1) := by
  have sa := sgn_range ha
  have sb := sgn_range hb
  have ma := mul_S sa sb
  have zb := sgn_zero hb
  unfold word_muls.f
  rw [mul32_f ha hb, wrap32_sgn ha, wrap32_sgn hb, wrap64_id (a := sgn a) (by omega), wrap64_id (a := sgn b) (by omega), wrap64_id (a := sgn a * sgn b) (by omega)]
  simp only [Option.bind_some]
  rcases hop with rfl | rfl | rfl | rfl | rfl | rfl | rfl | h
  · simp [doV]
  · simp [doV]
  · simp [doV]
  · by_cases z : b = 0
    · simp [z, word_muls.j0, doV]
    · simp [z, zb, doV, wrap32_mod]
  · by_cases z : b = 0
    · simp [z, word_muls.j0, doV]
    · have e1 : Int.tdiv a b = a / b := tdiv_pos ha.1
      have e2 : a / b % 4294967296 = a / b := by
        have h1 : 0 ≤ a / b := Int.ediv_nonneg ha.1 hb.1
        have h2 : a / b ≤ a := Int.ediv_le_self _ ha.1
        unfold U at ha
        omega
      simp [z, doV, e1, e2]
  · by_cases z : b = 0
    · simp [z, word_muls.j0, doV]
    · have e := tmod_S (y := sgn b) sa
      simp [z, zb, doV]
  · by_cases z : b = 0
    · simp [z, word_muls.j0, doV]
    · have e1 : Int.tmod a b = a % b := tmod_pos ha.1
      simp [z, doV, e1]
  · have n1 : op ≠ 11 := by omega
    have n2 : op ≠ 12 := by omega
    have n3 : op ≠ 13 := by omega
    have n4 : op ≠ 14 := by omega
    have n5 : op ≠ 15 := by omega
    have n6 : op ≠ 16 := by omega
    have n7 : op ≠ 17 := by omega
    rw [if_neg h, if_neg h]
    by_cases z : b = 0 <;> simp [n1, n2, n3, n4, n5, n6, n7, z, word_muls.j0]
theorem do_f (k : Nat) (op a b : Int) (hk : 1 ≤ k) (ha : U a) (hb : U b) : word_Do.f k op a b = some (doV op a b, doE op) := by
  obtain ⟨k, rfl⟩ : ∃ m, k = m + 1 := ⟨k - 1, by omega⟩
  have h5 : 0 ≤ b % 32 := by omega
  have h6 : b % 32 ≤ 32 := by omega
  have hop : op = 1 ∨ op = 2 ∨ op = 3 ∨ op = 4 ∨ op = 5 ∨ op = 6 ∨ op = 7 ∨ op = 8 ∨ op = 9 ∨ op = 10 ∨ (¬ (1 ≤ op ∧ op ≤ 10)) := by omega
  unfold word_Do.f
  rw [wrap32_sgn ha, wrap32_sgn hb, and31 hb, bit_f, bit_f, if_pos h5, if_pos h5, if_pos h5, shl_u32 h6, shr_u32 h6, shr_i32 h6]
  rcases hop with rfl | rfl | rfl | rfl | rfl | rfl | rfl | rfl | rfl | rfl | h
  · simp [doV, doE]
  · simp [doV, doE]
  · simp [doV, doE]
  · simp [doV, doE]
  · simp [doV, doE]
  · simp [doV, doE]
  · simp [doV, doE]
  · simp [doV, doE]
  · simp [doV, doE]
  · simp [doV, doE]
  · rw [muls_f op (by omega) ha hb]
    have n1 : op ≠ 1 := by omega
    have n2 : op ≠ 2 := by omega
    have n3 : op ≠ 3 := by omega
    have n4 : op ≠ 4 := by omega
    have n5 : op ≠ 5 := by omega
    have n6 : op ≠ 6 := by omega
    have n7 : op ≠ 7 := by omega
    have n8 : op ≠ 8 := by omega
    have n9 : op ≠ 9 := by omega
    have n10 : op ≠ 10 := by omega
    simp only [n1, n2, n3, n4, n5, n6, n7, n8, n9, n10, if_false, Option.bind_some, doE]
    by_cases z : 11 ≤ op ∧ op ≤ 17
    · rw [if_pos z, if_pos z, if_pos ⟨by omega, by omega⟩]
    · rw [if_neg z, if_neg z, if_neg (by omega)]
      have m1 : op ≠ 11 := by omega
      have m2 : op ≠ 12 := by omega
      have m3 : op ≠ 13 := by omega
      have m4 : op ≠ 14 := by omega
      have m5 : op ≠ 15 := by omega
      have m6 : op ≠ 16 := by omega
      have m7 : op ≠ 17 := by omega
      simp only [doV, n1, n2, n3, n4, n5, n6, n7, n8, n9, n10, m1, m2, m3, m4, m5, m6, m7, if_false]
theorem awake_f (k : Nat) (hk : 1 ≤ k) : solderlaw01_awake.f k = some true := by
  unfold solderlaw01_awake.f
  rw [do_f k _ _ _ hk (by unfold U; omega) (by unfold U; omega), do_f k _ _ _ hk (by unfold U; omega) (by unfold U; omega)]
  decide +kernel
theorem dd_f (op a b : Int) (ha : U a) (hb : U b) : solderlaw01_do.f 1 op a b = some (doV op a b) := by
  unfold solderlaw01_do.f
  rw [do_f 1 op a b (Nat.le_refl _) ha hb]; rfl
theorem WordProducts : solderlaw01_WordProducts.Pure := by
  intro a b wa wb
  have ha := U_of wa
  have hb := U_of wb
  have m := mul_U ha hb
  have sa := sgn_range ha
  have sb := sgn_range hb
  have ms := mul_S sa sb
  refine ⟨1, ?_⟩
  unfold solderlaw01_WordProducts.f
  rw [awake_f 1 (Nat.le_refl _)]
  simp only [Option.bind_some, if_true]
  rw [dd_f 11 a b ha hb, dd_f 13 a b ha hb, dd_f 12 a b ha hb]
  simp only [Option.bind_some]
  have e11 : doV 11 a b = a * b % 4294967296 := by simp [doV]
  have e13 : doV 13 a b = a * b / 4294967296 := by simp [doV]
  have e12 : doV 12 a b = sgn a * sgn b / 4294967296 % 4294967296 := by simp [doV]
  have hs : sgn a * sgn b % 4294967296 = a * b % 4294967296 := by rw [Int.mul_emod, sgn_mod, sgn_mod, ← Int.mul_emod]
  rw [e11, e13, e12, wrap32_sgn ha, wrap32_sgn hb]
  rw [wrap64_id (a := sgn a) (by omega), wrap64_id (a := sgn b) (by omega)]
  generalize hx : a * b = x at *
  generalize sgn a * sgn b = y at *
  rw [if_pos]
  · have h2 : wrap32 (y / 4294967296 % 4294967296) = y / 4294967296 := by unfold wrap32; omega
    rw [h2, wrap64_id (a := y / 4294967296) (by omega), wrap64_id (a := y / 4294967296 * 4294967296) (by omega), wrap64_id (a := x % 4294967296) (by omega)]
    have h3 : y / 4294967296 * 4294967296 + x % 4294967296 = y := by omega
    rw [h3]
    simp
  · simp only [wrap_u64]
    unfold U at ha hb
    have h4 : a % 18446744073709551616 = a := by omega
    have h5 : b % 18446744073709551616 = b := by omega
    rw [h4, h5, hx]
    omega
end Go.Proofs.Ytgpalngmgpdgjaa.Pure
