/- Fits and Encode, walked. -/
import Derived.Test.YtgifefkoldocmaaCodeW
namespace Go.Proofs.Ytgifefkoldocmaa
open Go.RowKit Go.Maps Go.Proofs.Ytgifefkoldocmaa.PC
set_option linter.unusedVariables false
set_option linter.unusedSimpArgs false
def zeroF : Value := .agg #[.int .u8 0, .int .u32 0, .int .u32 0, .int .u32 0, .int .i64 0]
theorem zero_form (w : World) : (zeroValue 68).run Try.prog w = .ok zeroF w := by kernel_rfl
set_option maxRecDepth 100000 in
theorem look_none {w : World} {B : Nat} (h : w.ownsMap Try.prog 3 RF B 55 tableD) {op : Int} (ho : -9223372036854775808 ≤ op ∧ op ≤ 9223372036854775807) (hf : formOf op = none) :
    (Instr.lookup 70 (.map (some B)) (.int .i64 op) true).run Try.prog w = .ok (.tuple #[zeroF, .bool false]) w := by
  obtain ⟨v, ps, hrun, hv⟩ := h.look_ok lawK Try.underlying70 (zero_form w) rfl (keyI ho)
  rw [table_has, table_at, hf] at *
  injection hv with hv
  injection hv with hv _
  injection hv with hv
  rw [hrun, hv]; rfl
set_option maxRecDepth 100000 in
theorem look_some {w : World} {B : Nat} (h : w.ownsMap Try.prog 3 RF B 55 tableD) {op : Int} (ho : -9223372036854775808 ≤ op ∧ op ≤ 9223372036854775807) {f : Fm} (hf : formOf op = some f) :
    (Instr.lookup 70 (.map (some B)) (.int .i64 op) true).run Try.prog w = .ok (.tuple #[.agg #[.int .u8 f.kind, .int .u32 f.op, .int .u32 f.f3, .int .u32 f.f7, .int .i64 f.rs2], .bool true]) w := by
  obtain ⟨v, ps, hrun, hv⟩ := h.look_ok lawK Try.underlying70 (zero_form w) rfl (keyI ho)
  rw [table_has, table_at, hf] at *
  injection hv with hv
  injection hv with hv _
  injection hv with hv
  rw [hrun, hv]; rfl
/-- What 'Fits' tells. -/
def fitsOp (op n : Int) : Bool := match formOf op with | none => false | some f => decide (fitsK f.kind n)
set_option maxHeartbeats 1000000 in
theorem Fits_calls (op n : Int) (ho : -9223372036854775808 ≤ op ∧ op ≤ 9223372036854775807) (hn : -9223372036854775808 ≤ n ∧ n ≤ 9223372036854775807) (w : World) :
    Calls Try.prog 26 #[.int .i64 op, .int .i64 n] w fun e w' => e = .returned (.bool (fitsOp op n)) ∧ Kp w w' := by
  cases hf : formOf op with
  | none =>
    replace hf := Aside.mk hf
    go_enter Try.func26, Try.ntmps26
    go_wp2_with (((go_at_call 33); (refine (forms_calls _).mono ?_); (rintro e w1 ⟨rfl, kp1, hown⟩)); (have hlk := look_none hown ho hf.out); (simp only [zeroF] at hlk))
    go_ret
    exact ⟨by simp [fitsOp, hf.out], by repeat (first | exact Kp.refl _ | assumption | exact Dr.kp (by assumption) | refine Kp.drewN ?_ _ | refine Kp.drew ?_ | refine Kp.alloc ?_ _ | refine Kp.setCell ?_ (by first | exact Nat.le_refl _ | assumption | omega) _ | refine Kp.trans ?_ (by assumption) | refine Kp.trans ?_ (Dr.kp (by assumption)))⟩
  | some f =>
    have hg := (formOf_good hf).1
    replace hf := Aside.mk hf
    go_enter Try.func26, Try.ntmps26
    go_wp2_with (first | (((go_at_call 33); (refine (forms_calls _).mono ?_); (rintro e w1 ⟨rfl, kp1, hown⟩)); (have hlk := look_some hown ho hf.out)) | ((go_at_call 35); (refine Calls.mono (fits_calls f hg n hn _) ?_); (rintro e w2 ⟨rfl, kp2⟩)))
    go_ret
    exact ⟨by simp [fitsOp, hf.out], by repeat (first | exact Kp.refl _ | assumption | exact Dr.kp (by assumption) | refine Kp.drewN ?_ _ | refine Kp.drew ?_ | refine Kp.alloc ?_ _ | refine Kp.setCell ?_ (by first | exact Nat.le_refl _ | assumption | omega) _ | refine Kp.trans ?_ (by assumption) | refine Kp.trans ?_ (Dr.kp (by assumption)))⟩
end Go.Proofs.Ytgifefkoldocmaa
