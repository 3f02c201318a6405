/- The law of layer 3 (code) that asks which Imm fits, walked. Condition: the arguments are numbers of their types. -/
import Derived.Test.YtkmklmpolnkkeaaCodeLawA
import Derived.Test.YtkmklmpolnkkeaaCodeRoZ
namespace Go.Proofs.Ytkmklmpolnkkeaa
open Go.RowKit Go.Maps Go.Proofs.Ytkmklmpolnkkeaa.PC
set_option linter.unusedVariables false
set_option linter.unusedSimpArgs false
theorem refOf_some {op : Int} : ∃ kd a b c d, refOf op = .agg #[.int .u8 kd, .int .i64 a, .int .i64 b, .int .i64 c, .int .i64 d] ∧ (kd = 0 ∨ kd = 82 ∨ kd = 73 ∨ kd = 72 ∨ kd = 83 ∨ kd = 66 ∨ kd = 85 ∨ kd = 74 ∨ kd = 69) ∧ ∀ n, fitsOp op n = decide (fitsK kd n) := by
  unfold refOf fitsOp
  cases hf : formOf op with
  | none => exact ⟨0, 0, 0, 0, 0, rfl, Or.inl rfl, fun n => by simp [fitsK]⟩
  | some f =>
    have hg := (formOf_good hf).1.2.2.2.2.2.2
    exact ⟨f.kind, f.op, f.f3, f.f7, _, rfl, by omega, fun n => rfl⟩
set_option maxHeartbeats 1000000 in
theorem codeFits_any (op n : Int) (h1 : I64 op) (h2 : I64 n) (w : World) :
    Calls Try.prog 5 #[.int .i64 op, .int .i64 n] w fun e w' => e = .returned (.bool true) ∧ Kp w w' := by
  obtain ⟨kd, a, b, c, d, hr, hk, hfit⟩ := refOf_some (op := op)
  have hof := fun w => Of_calls op w
  rw [hr] at hof
  have hfo := fun w => Fits_calls op n h1 h2 w
  rw [hfit n] at hfo
  have hrf := fun w => rFits_calls kd a b c d n hk h2 w
  replace hof := Aside.mk hof
  replace hfo := Aside.mk hfo
  replace hrf := Aside.mk hrf
  clear hk hr hfit h1 h2
  generalize decide (fitsK kd n) = q at *
  cases q <;>
  · go_enter Try.func5, Try.ntmps5
    go_wp2_with (first | ((go_at_call 9); (refine Calls.mono (awake03_calls _) ?_); (rintro e w1 ⟨rfl, k1⟩)) | ((go_at_call 11); (refine Calls.mono (hfo.out _) ?_); (rintro e w2 ⟨rfl, k2⟩)) | ((go_at_call 13); (refine Calls.mono (hof.out _) ?_); (rintro e w3 ⟨rfl, k3⟩)) | ((go_at_call 12); (refine Calls.mono (hrf.out _) ?_); (rintro e w4 ⟨rfl, k4⟩)))
    go_ret
    exact ⟨rfl, by repeat (with_reducible first | exact Kp.refl _ | assumption | exact Dr.kp (by assumption) | refine Kp.drewN ?_ _ | refine Kp.drew ?_ | refine Kp.alloc ?_ _ | refine Kp.setCell ?_ (by first | exact Nat.le_refl _ | assumption | omega) _ | refine Kp.trans ?_ (by assumption) | refine Kp.trans ?_ (Dr.kp (by assumption)))⟩
theorem codeFits_law (op n : Int) (w0 : (Lit.int .i64 op).wf = true) (w1 : (Lit.int .i64 n).wf = true) (w : World) : Calls Try.prog 5 #[.int .i64 op, .int .i64 n] w fun e w' => e = .returned (.bool true) ∧ Below w.heap.size w w' :=
  (codeFits_any op n (I64_of w0) (I64_of w1) w).mono fun _ _ ⟨he, hk⟩ => ⟨he, hk.out⟩
end Go.Proofs.Ytkmklmpolnkkeaa
