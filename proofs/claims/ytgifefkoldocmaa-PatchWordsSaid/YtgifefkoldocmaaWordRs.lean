/- The reference of words: Signed, Of, walked. Condition: the arguments are words, numbers. -/
import Derived.Test.YtgifefkoldocmaaWordWalks
namespace Go.Proofs.Ytgifefkoldocmaa
open Go.RowKit Go.Proofs.Ytgifefkoldocmaa.PW
set_option linter.unusedVariables false
set_option linter.unusedSimpArgs false

theorem rSigned_calls (a : Int) (ha : U a) (w : World) : Calls Try.prog 29 #[.int .u32 a] w fun e w' => e = .returned (.int .i64 (sgn a)) ∧ Dr w w' := by
  have h0 := ha.1
  have h1 := ha.2
  by_cases h : 2147483648 ≤ a
  · have E := Aside.mk (show sgn a = a - 4294967296 by unfold sgn; rw [if_pos h])
    go_enter Try.func29, Try.ntmps29
    go_wp2
    go_ret
    exact ⟨by rw [E.out]; rfl, Dr.refl _⟩
  · have E := Aside.mk (show sgn a = a by unfold sgn; rw [if_neg h])
    go_enter Try.func29, Try.ntmps29
    go_wp2
    go_ret
    exact ⟨by rw [E.out]; rfl, Dr.refl _⟩
theorem rOf_calls (n : Int) (h0 : -9223372036854775808 ≤ n) (h1 : n ≤ 9223372036854775807) (w : World) : Calls Try.prog 30 #[.int .i64 n] w fun e w' => e = .returned (.int .u32 (n % 4294967296)) ∧ Dr w w' := by
  have hm : -4294967296 < Int.tmod n 4294967296 ∧ Int.tmod n 4294967296 < 4294967296 ∧ (Int.tmod n 4294967296) % 4294967296 = n % 4294967296 := by
    by_cases h : 0 ≤ n
    · rw [tmod_pos h]; omega
    · have e := Int.neg_tmod (-n) 4294967296
      rw [Int.neg_neg] at e
      rw [e, tmod_pos (n := -n) (by omega)]; omega
  generalize hr : Int.tmod n 4294967296 = r at hm
  obtain ⟨r0, r1, r2⟩ := hm
  have R2 := Aside.mk r2
  clear r2
  by_cases h : r < 0
  all_goals
    go_enter Try.func30, Try.ntmps30
    go_wp2
    go_ret
    refine ⟨?_, Dr.refl _⟩
    have := R2.out
    show Ending.returned (Value.int IntKind.u32 _) = _
    congr 2
    omega
end Go.Proofs.Ytgifefkoldocmaa
