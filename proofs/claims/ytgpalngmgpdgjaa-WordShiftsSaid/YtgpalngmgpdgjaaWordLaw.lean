/- The laws of layer 1 (words), walked: each call returns true. Condition: the arguments are words. -/
import Derived.Test.YtgpalngmgpdgjaaWordRef3
namespace Go.Proofs.Ytgpalngmgpdgjaa
open Go.RowKit Go.Proofs.Ytgpalngmgpdgjaa.PW
set_option linter.unusedVariables false
set_option linter.unusedSimpArgs false

theorem awake01_calls (w : World) : Calls Try.prog 11 #[] w fun e w' => e = .returned (.bool true) ∧ Dr w w' := by
  have u1 : U 7 := by unfold U; omega
  have u2 : U 0 := by unfold U; omega
  have u3 : U 2147483648 := by unfold U; omega
  have u4 : U 4 := by unfold U; omega
  have v1 : doV 14 7 0 = 4294967295 := by decide +kernel
  have v2 : doV 8 2147483648 4 = 4160749568 := by decide +kernel
  have v3 : doE 14 = 0 := by decide +kernel
  have v4 : doE 8 = 0 := by decide +kernel
  go_enter Try.func11, Try.ntmps11
  go_wp2_with (first | ((go_at_call 12); (with_reducible refine (Do_calls 14 7 0 u1 u2 _).mono ?_); (rintro e w1 ⟨rfl, hd⟩)) | ((go_at_call 12); (with_reducible refine (Do_calls 8 2147483648 4 u3 u4 _).mono ?_); (rintro e w1 ⟨rfl, hd⟩)))
  go_ret
  exact ⟨rfl, by repeat (first | exact Dr.refl _ | assumption | refine Dr.step ?_ _ | refine Dr.trans ?_ (by assumption))⟩
theorem do01_calls (op a b : Int) (ha : U a) (hb : U b) (w : World) : Calls Try.prog 14 #[.int .i64 op, .int .u32 a, .int .u32 b] w fun e w' => e = .returned (.int .u32 (doV op a b)) ∧ Dr w w' := by
  go_enter Try.func14, Try.ntmps14
  go_wp2_with ((go_at_call 12); (with_reducible refine (Do_calls op a b ha hb _).mono ?_); (rintro e w1 ⟨rfl, hd⟩))
  go_ret
  exact ⟨rfl, by repeat (first | exact Dr.refl _ | assumption | refine Dr.step ?_ _ | refine Dr.trans ?_ (by assumption))⟩
theorem wordDoes_any (op a b : Int) (ha : U a) (hb : U b) (w : World) : Calls Try.prog 3 #[.int .i64 op, .int .u32 a, .int .u32 b] w fun e w' => e = .returned (.bool true) ∧ Dr w w' := by
  by_cases h : 1 ≤ op ∧ op ≤ 17
  · have hE : doE op = 0 := by rw [doE, if_pos h]
    have hB : doB op = true := by simp [doB]; omega
    go_enter Try.func3, Try.ntmps3
    go_wp2_with (first | ((go_at_call 11); (refine (awake01_calls _).mono ?_); (rintro e w1 ⟨rfl, hd⟩)) | ((go_at_call 12); (refine (Do_calls op a b ha hb _).mono ?_); (rintro e w1 ⟨rfl, hd⟩)) | ((go_at_call 13); (refine (rDo_calls op a b ha hb _).mono ?_); (rintro e w1 ⟨rfl, hd⟩)))
    go_ret
    exact ⟨rfl, by repeat (first | exact Dr.refl _ | assumption | refine Dr.step ?_ _ | refine Dr.trans ?_ (by assumption))⟩
  · have hE : doE op = 1 := by rw [doE, if_neg h]
    have hB : doB op = false := by simp [doB]; omega
    go_enter Try.func3, Try.ntmps3
    go_wp2_with (first | ((go_at_call 11); (refine (awake01_calls _).mono ?_); (rintro e w1 ⟨rfl, hd⟩)) | ((go_at_call 12); (refine (Do_calls op a b ha hb _).mono ?_); (rintro e w1 ⟨rfl, hd⟩)) | ((go_at_call 13); (refine (rDo_calls op a b ha hb _).mono ?_); (rintro e w1 ⟨rfl, hd⟩)))
    go_ret
    exact ⟨rfl, by repeat (first | exact Dr.refl _ | assumption | refine Dr.step ?_ _ | refine Dr.trans ?_ (by assumption))⟩
theorem wordDoes_law (op a b : Int) (w0 : (Lit.int .i64 op).wf = true) (w1 : (Lit.int .u32 a).wf = true) (w2 : (Lit.int .u32 b).wf = true) (w : World) : Calls Try.prog 3 #[.int .i64 op, .int .u32 a, .int .u32 b] w fun e w' => e = .returned (.bool true) ∧ Below w.heap.size w w' :=
  (wordDoes_any op a b (U_of w1) (U_of w2) w).mono fun _ _ ⟨he, hd⟩ => ⟨he, hd.below⟩
end Go.Proofs.Ytgpalngmgpdgjaa
