/- The small functions of a form, walked. -/
import Derived.Test.YtgcihcgclmdolaaCodeK
import Derived.Test.YtgcihcgclmdolaaCodeB
namespace Go.Proofs.Ytgcihcgclmdolaa
open Go.RowKit Go.Maps Go.Proofs.Ytgcihcgclmdolaa.PC
set_option linter.unusedVariables false
set_option linter.unusedSimpArgs false
theorem good_kind {f : Fm} (h : f.good) : f.kind = 82 ∨ f.kind = 73 ∨ f.kind = 72 ∨ f.kind = 83 ∨ f.kind = 66 ∨ f.kind = 85 ∨ f.kind = 74 ∨ f.kind = 69 := by
  have := h.2.2.2.2.2.2
  omega
theorem put_calls (x f n t : Int) (hx : 0 ≤ x ∧ x ≤ 4294967295) (hf : 0 ≤ f ∧ f ≤ 31) (hn : 0 ≤ n ∧ n ≤ 31) (ht : 0 ≤ t ∧ t ≤ 31) (w : World) :
    Calls Try.prog 32 #[.int .u32 x, .int .u64 f, .int .u64 n, .int .u64 t] w fun e w' => e = .returned (.int .u32 (putV x f n t)) ∧ w' = w := by
  go_enter Try.func32, Try.ntmps32
  go_wp2
  go_ret
  exact ⟨congrArg (fun b => Ending.returned (Value.int .u32 b)) (put_val hx hn), rfl⟩
def usesV (f : Fm) : Value := .agg #[.bool (decide f.uRd), .bool (decide f.uRs1), .bool (decide f.uRs2), .bool (decide f.uImm)]
set_option maxHeartbeats 1000000 in
theorem uses_calls (f : Fm) (hf : f.good) (w : World) : Calls Try.prog 23 #[f.val] w fun e w' => e = .returned (usesV f) ∧ Kp w w' := by
  rcases good_kind hf with hk | hk | hk | hk | hk | hk | hk | hk <;> (obtain ⟨kd, op, f3, f7, r⟩ := f; simp only at hk; subst hk; simp only [PC.Fm.val, formV]) <;>
  · go_enter Try.func23, Try.ntmps23
    go_wp2
    refine bodyPost_ret (results_cell_row rfl _ _ (w.heap.size + 1) _ _ _ _ rfl (heap_alloc2_new _ _ _) Try.underlying72 rfl (by kernel_rfl)) rfl ?_
    exact ⟨by simp [usesV, PC.Fm.uRd, PC.Fm.uRs1, PC.Fm.uRs2, PC.Fm.uImm], by repeat (first | exact Kp.refl _ | assumption | exact Dr.kp (by assumption) | refine Kp.drewN ?_ _ | refine Kp.drew ?_ | refine Kp.alloc ?_ _ | refine Kp.setCell ?_ (by first | exact Nat.le_refl _ | assumption | omega) _ | refine Kp.trans ?_ (by assumption) | refine Kp.trans ?_ (Dr.kp (by assumption)))⟩
set_option maxHeartbeats 1000000 in
theorem fits_calls (f : Fm) (hf : f.good) (n : Int) (hn : -9223372036854775808 ≤ n ∧ n ≤ 9223372036854775807) (w : World) : Calls Try.prog 24 #[f.val, .int .i64 n] w fun e w' => e = .returned (.bool (decide (fitsK f.kind n))) ∧ Kp w w' := by
  rcases good_kind hf with hk | hk | hk | hk | hk | hk | hk | hk <;> (obtain ⟨kd, op, f3, f7, r⟩ := f; simp only at hk; subst hk; simp only [PC.Fm.val, formV]) <;>
  · go_enter Try.func24, Try.ntmps24
    go_wp2
    all_goals
      go_ret
      refine ⟨congrArg (fun b => Ending.returned (Value.bool b)) ?_, by repeat (first | exact Kp.refl _ | assumption | exact Dr.kp (by assumption) | refine Kp.drewN ?_ _ | refine Kp.drew ?_ | refine Kp.alloc ?_ _ | refine Kp.setCell ?_ (by first | exact Nat.le_refl _ | assumption | omega) _ | refine Kp.trans ?_ (by assumption) | refine Kp.trans ?_ (Dr.kp (by assumption)))⟩
      try rw [i64_and1]
      rw [Bool.eq_iff_iff]
      simp [fitsK]
      try omega
set_option maxHeartbeats 1000000 in
theorem imm_calls (f : Fm) (hf : f.good) (n : Int) (hn : -9223372036854775808 ≤ n ∧ n ≤ 9223372036854775807) (w : World) : Calls Try.prog 25 #[f.val, .int .i64 n] w fun e w' => e = .returned (.int .u32 (immB f.kind n)) ∧ Kp w w' := by
  rcases good_kind hf with hk | hk | hk | hk | hk | hk | hk | hk
  · obtain ⟨kd, op, f3, f7, r⟩ := f; simp only at hk; subst hk; simp only [PC.Fm.val, formV]
    go_enter Try.func25, Try.ntmps25
    go_wp2_with ((go_at_call 32); (refine Calls.mono (put_calls _ _ _ _ ?_ ?_ ?_ ?_ _) ?_); (omega); (decide); (decide); (decide); (rintro e w1 ⟨rfl, rfl⟩))
    go_ret
    refine ⟨congrArg (fun b => Ending.returned (Value.int .u32 b)) ?_, by repeat (first | exact Kp.refl _ | assumption | exact Dr.kp (by assumption) | refine Kp.drewN ?_ _ | refine Kp.drew ?_ | refine Kp.alloc ?_ _ | refine Kp.setCell ?_ (by first | exact Nat.le_refl _ | assumption | omega) _ | refine Kp.trans ?_ (by assumption) | refine Kp.trans ?_ (Dr.kp (by assumption)))⟩
    exact rfl
  · obtain ⟨kd, op, f3, f7, r⟩ := f; simp only at hk; subst hk; simp only [PC.Fm.val, formV]
    go_enter Try.func25, Try.ntmps25
    go_wp2_with ((go_at_call 32); (refine Calls.mono (put_calls _ _ _ _ ?_ ?_ ?_ ?_ _) ?_); (omega); (decide); (decide); (decide); (rintro e w1 ⟨rfl, rfl⟩))
    go_ret
    refine ⟨congrArg (fun b => Ending.returned (Value.int .u32 b)) ?_, by repeat (first | exact Kp.refl _ | assumption | exact Dr.kp (by assumption) | refine Kp.drewN ?_ _ | refine Kp.drew ?_ | refine Kp.alloc ?_ _ | refine Kp.setCell ?_ (by first | exact Nat.le_refl _ | assumption | omega) _ | refine Kp.trans ?_ (by assumption) | refine Kp.trans ?_ (Dr.kp (by assumption)))⟩
    exact imm_I _
  · obtain ⟨kd, op, f3, f7, r⟩ := f; simp only at hk; subst hk; simp only [PC.Fm.val, formV]
    go_enter Try.func25, Try.ntmps25
    go_wp2_with ((go_at_call 32); (refine Calls.mono (put_calls _ _ _ _ ?_ ?_ ?_ ?_ _) ?_); (omega); (decide); (decide); (decide); (rintro e w1 ⟨rfl, rfl⟩))
    go_ret
    refine ⟨congrArg (fun b => Ending.returned (Value.int .u32 b)) ?_, by repeat (first | exact Kp.refl _ | assumption | exact Dr.kp (by assumption) | refine Kp.drewN ?_ _ | refine Kp.drew ?_ | refine Kp.alloc ?_ _ | refine Kp.setCell ?_ (by first | exact Nat.le_refl _ | assumption | omega) _ | refine Kp.trans ?_ (by assumption) | refine Kp.trans ?_ (Dr.kp (by assumption)))⟩
    exact imm_H _
  · obtain ⟨kd, op, f3, f7, r⟩ := f; simp only at hk; subst hk; simp only [PC.Fm.val, formV]
    go_enter Try.func25, Try.ntmps25
    go_wp2_with ((go_at_call 32); (refine Calls.mono (put_calls _ _ _ _ ?_ ?_ ?_ ?_ _) ?_); (omega); (decide); (decide); (decide); (rintro e w1 ⟨rfl, rfl⟩))
    go_ret
    refine ⟨congrArg (fun b => Ending.returned (Value.int .u32 b)) ?_, by repeat (first | exact Kp.refl _ | assumption | exact Dr.kp (by assumption) | refine Kp.drewN ?_ _ | refine Kp.drew ?_ | refine Kp.alloc ?_ _ | refine Kp.setCell ?_ (by first | exact Nat.le_refl _ | assumption | omega) _ | refine Kp.trans ?_ (by assumption) | refine Kp.trans ?_ (Dr.kp (by assumption)))⟩
    exact imm_S _
  · obtain ⟨kd, op, f3, f7, r⟩ := f; simp only at hk; subst hk; simp only [PC.Fm.val, formV]
    go_enter Try.func25, Try.ntmps25
    go_wp2_with ((go_at_call 32); (refine Calls.mono (put_calls _ _ _ _ ?_ ?_ ?_ ?_ _) ?_); (omega); (decide); (decide); (decide); (rintro e w1 ⟨rfl, rfl⟩))
    go_ret
    refine ⟨congrArg (fun b => Ending.returned (Value.int .u32 b)) ?_, by repeat (first | exact Kp.refl _ | assumption | exact Dr.kp (by assumption) | refine Kp.drewN ?_ _ | refine Kp.drew ?_ | refine Kp.alloc ?_ _ | refine Kp.setCell ?_ (by first | exact Nat.le_refl _ | assumption | omega) _ | refine Kp.trans ?_ (by assumption) | refine Kp.trans ?_ (Dr.kp (by assumption)))⟩
    exact imm_B _
  · obtain ⟨kd, op, f3, f7, r⟩ := f; simp only at hk; subst hk; simp only [PC.Fm.val, formV]
    go_enter Try.func25, Try.ntmps25
    go_wp2_with ((go_at_call 32); (refine Calls.mono (put_calls _ _ _ _ ?_ ?_ ?_ ?_ _) ?_); (omega); (decide); (decide); (decide); (rintro e w1 ⟨rfl, rfl⟩))
    go_ret
    refine ⟨congrArg (fun b => Ending.returned (Value.int .u32 b)) ?_, by repeat (first | exact Kp.refl _ | assumption | exact Dr.kp (by assumption) | refine Kp.drewN ?_ _ | refine Kp.drew ?_ | refine Kp.alloc ?_ _ | refine Kp.setCell ?_ (by first | exact Nat.le_refl _ | assumption | omega) _ | refine Kp.trans ?_ (by assumption) | refine Kp.trans ?_ (Dr.kp (by assumption)))⟩
    exact imm_U _
  · obtain ⟨kd, op, f3, f7, r⟩ := f; simp only at hk; subst hk; simp only [PC.Fm.val, formV]
    go_enter Try.func25, Try.ntmps25
    go_wp2_with ((go_at_call 32); (refine Calls.mono (put_calls _ _ _ _ ?_ ?_ ?_ ?_ _) ?_); (omega); (decide); (decide); (decide); (rintro e w1 ⟨rfl, rfl⟩))
    go_ret
    refine ⟨congrArg (fun b => Ending.returned (Value.int .u32 b)) ?_, by repeat (first | exact Kp.refl _ | assumption | exact Dr.kp (by assumption) | refine Kp.drewN ?_ _ | refine Kp.drew ?_ | refine Kp.alloc ?_ _ | refine Kp.setCell ?_ (by first | exact Nat.le_refl _ | assumption | omega) _ | refine Kp.trans ?_ (by assumption) | refine Kp.trans ?_ (Dr.kp (by assumption)))⟩
    exact imm_J _
  · obtain ⟨kd, op, f3, f7, r⟩ := f; simp only at hk; subst hk; simp only [PC.Fm.val, formV]
    go_enter Try.func25, Try.ntmps25
    go_wp2_with ((go_at_call 32); (refine Calls.mono (put_calls _ _ _ _ ?_ ?_ ?_ ?_ _) ?_); (omega); (decide); (decide); (decide); (rintro e w1 ⟨rfl, rfl⟩))
    go_ret
    refine ⟨congrArg (fun b => Ending.returned (Value.int .u32 b)) ?_, by repeat (first | exact Kp.refl _ | assumption | exact Dr.kp (by assumption) | refine Kp.drewN ?_ _ | refine Kp.drew ?_ | refine Kp.alloc ?_ _ | refine Kp.setCell ?_ (by first | exact Nat.le_refl _ | assumption | omega) _ | refine Kp.trans ?_ (by assumption) | refine Kp.trans ?_ (Dr.kp (by assumption)))⟩
    exact rfl
set_option maxHeartbeats 1000000 in
theorem signed_calls (f : Fm) (hf : f.good) (n : Int) (hn : 0 ≤ n ∧ n ≤ 4294967295) (w : World) : Calls Try.prog 61 #[f.val, .int .u32 n] w fun e w' => e = .returned (.int .i64 (immOf f.kind n)) ∧ Kp w w' := by
  rcases good_kind hf with hk | hk | hk | hk | hk | hk | hk | hk
  · obtain ⟨kd, op, f3, f7, r⟩ := f; simp only at hk; subst hk; simp only [PC.Fm.val, formV]
    go_enter Try.func61, Try.ntmps61
    go_wp2
    go_ret
    refine ⟨congrArg (fun b => Ending.returned (Value.int .i64 b)) ?_, by repeat (first | exact Kp.refl _ | assumption | exact Dr.kp (by assumption) | refine Kp.drewN ?_ _ | refine Kp.drew ?_ | refine Kp.alloc ?_ _ | refine Kp.setCell ?_ (by first | exact Nat.le_refl _ | assumption | omega) _ | refine Kp.trans ?_ (by assumption) | refine Kp.trans ?_ (Dr.kp (by assumption)))⟩
    exact rfl
  · obtain ⟨kd, op, f3, f7, r⟩ := f; simp only at hk; subst hk; simp only [PC.Fm.val, formV]
    go_enter Try.func61, Try.ntmps61
    go_wp2
    go_ret
    refine ⟨congrArg (fun b => Ending.returned (Value.int .i64 b)) ?_, by repeat (first | exact Kp.refl _ | assumption | exact Dr.kp (by assumption) | refine Kp.drewN ?_ _ | refine Kp.drew ?_ | refine Kp.alloc ?_ _ | refine Kp.setCell ?_ (by first | exact Nat.le_refl _ | assumption | omega) _ | refine Kp.trans ?_ (by assumption) | refine Kp.trans ?_ (Dr.kp (by assumption)))⟩
    exact sg_I hn
  · obtain ⟨kd, op, f3, f7, r⟩ := f; simp only at hk; subst hk; simp only [PC.Fm.val, formV]
    go_enter Try.func61, Try.ntmps61
    go_wp2
    go_ret
    refine ⟨congrArg (fun b => Ending.returned (Value.int .i64 b)) ?_, by repeat (first | exact Kp.refl _ | assumption | exact Dr.kp (by assumption) | refine Kp.drewN ?_ _ | refine Kp.drew ?_ | refine Kp.alloc ?_ _ | refine Kp.setCell ?_ (by first | exact Nat.le_refl _ | assumption | omega) _ | refine Kp.trans ?_ (by assumption) | refine Kp.trans ?_ (Dr.kp (by assumption)))⟩
    exact sg_H hn
  · obtain ⟨kd, op, f3, f7, r⟩ := f; simp only at hk; subst hk; simp only [PC.Fm.val, formV]
    go_enter Try.func61, Try.ntmps61
    go_wp2
    go_ret
    refine ⟨congrArg (fun b => Ending.returned (Value.int .i64 b)) ?_, by repeat (first | exact Kp.refl _ | assumption | exact Dr.kp (by assumption) | refine Kp.drewN ?_ _ | refine Kp.drew ?_ | refine Kp.alloc ?_ _ | refine Kp.setCell ?_ (by first | exact Nat.le_refl _ | assumption | omega) _ | refine Kp.trans ?_ (by assumption) | refine Kp.trans ?_ (Dr.kp (by assumption)))⟩
    exact sg_S hn
  · obtain ⟨kd, op, f3, f7, r⟩ := f; simp only at hk; subst hk; simp only [PC.Fm.val, formV]
    go_enter Try.func61, Try.ntmps61
    go_wp2
    go_ret
    refine ⟨congrArg (fun b => Ending.returned (Value.int .i64 b)) ?_, by repeat (first | exact Kp.refl _ | assumption | exact Dr.kp (by assumption) | refine Kp.drewN ?_ _ | refine Kp.drew ?_ | refine Kp.alloc ?_ _ | refine Kp.setCell ?_ (by first | exact Nat.le_refl _ | assumption | omega) _ | refine Kp.trans ?_ (by assumption) | refine Kp.trans ?_ (Dr.kp (by assumption)))⟩
    exact sg_B hn
  · obtain ⟨kd, op, f3, f7, r⟩ := f; simp only at hk; subst hk; simp only [PC.Fm.val, formV]
    go_enter Try.func61, Try.ntmps61
    go_wp2
    go_ret
    refine ⟨congrArg (fun b => Ending.returned (Value.int .i64 b)) ?_, by repeat (first | exact Kp.refl _ | assumption | exact Dr.kp (by assumption) | refine Kp.drewN ?_ _ | refine Kp.drew ?_ | refine Kp.alloc ?_ _ | refine Kp.setCell ?_ (by first | exact Nat.le_refl _ | assumption | omega) _ | refine Kp.trans ?_ (by assumption) | refine Kp.trans ?_ (Dr.kp (by assumption)))⟩
    exact sg_U _
  · obtain ⟨kd, op, f3, f7, r⟩ := f; simp only at hk; subst hk; simp only [PC.Fm.val, formV]
    go_enter Try.func61, Try.ntmps61
    go_wp2
    go_ret
    refine ⟨congrArg (fun b => Ending.returned (Value.int .i64 b)) ?_, by repeat (first | exact Kp.refl _ | assumption | exact Dr.kp (by assumption) | refine Kp.drewN ?_ _ | refine Kp.drew ?_ | refine Kp.alloc ?_ _ | refine Kp.setCell ?_ (by first | exact Nat.le_refl _ | assumption | omega) _ | refine Kp.trans ?_ (by assumption) | refine Kp.trans ?_ (Dr.kp (by assumption)))⟩
    exact sg_J hn
  · obtain ⟨kd, op, f3, f7, r⟩ := f; simp only at hk; subst hk; simp only [PC.Fm.val, formV]
    go_enter Try.func61, Try.ntmps61
    go_wp2
    go_ret
    refine ⟨congrArg (fun b => Ending.returned (Value.int .i64 b)) ?_, by repeat (first | exact Kp.refl _ | assumption | exact Dr.kp (by assumption) | refine Kp.drewN ?_ _ | refine Kp.drew ?_ | refine Kp.alloc ?_ _ | refine Kp.setCell ?_ (by first | exact Nat.le_refl _ | assumption | omega) _ | refine Kp.trans ?_ (by assumption) | refine Kp.trans ?_ (Dr.kp (by assumption)))⟩
    exact rfl
end Go.Proofs.Ytgcihcgclmdolaa
