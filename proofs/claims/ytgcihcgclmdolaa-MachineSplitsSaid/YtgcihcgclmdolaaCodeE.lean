/- Fits and Encode, walked. -/
import Derived.Test.YtgcihcgclmdolaaCodeW
namespace Go.Proofs.Ytgcihcgclmdolaa
open Go.RowKit Go.Maps Go.Proofs.Ytgcihcgclmdolaa.PC
set_option linter.unusedVariables false
set_option linter.unusedSimpArgs false
def zeroF : Value := .agg #[.int .u8 0, .int .u32 0, .int .u32 0, .int .u32 0, .int .i64 0]
theorem zero_form (w : World) : (zeroValue 68).run Try.prog w = .ok zeroF w := by kernel_rfl
set_option maxRecDepth 100000 in
theorem look_none {w : World} {B : Nat} (h : w.ownsMap Try.prog 3 RF B 55 tableD) {op : Int} (ho : -9223372036854775808 ≤ op ∧ op ≤ 9223372036854775807) (hf : formOf op = none) :
    (Instr.lookup 70 (.map (some B)) (.int .i64 op) true).run Try.prog w = .ok (.tuple #[zeroF, .bool false]) w := by
  obtain ⟨v, ps, hrun, hv⟩ := h.look_ok lawK Try.underlying70 (zero_form w) rfl (keyI ho)
  rw [table_has, table_at, hf] at *
  injection hv with hv
  injection hv with hv _
  injection hv with hv
  rw [hrun, hv]; rfl
set_option maxRecDepth 100000 in
theorem look_some {w : World} {B : Nat} (h : w.ownsMap Try.prog 3 RF B 55 tableD) {op : Int} (ho : -9223372036854775808 ≤ op ∧ op ≤ 9223372036854775807) {f : Fm} (hf : formOf op = some f) :
    (Instr.lookup 70 (.map (some B)) (.int .i64 op) true).run Try.prog w = .ok (.tuple #[.agg #[.int .u8 f.kind, .int .u32 f.op, .int .u32 f.f3, .int .u32 f.f7, .int .i64 f.rs2], .bool true]) w := by
  obtain ⟨v, ps, hrun, hv⟩ := h.look_ok lawK Try.underlying70 (zero_form w) rfl (keyI ho)
  rw [table_has, table_at, hf] at *
  injection hv with hv
  injection hv with hv _
  injection hv with hv
  rw [hrun, hv]; rfl
/-- What 'Fits' tells. -/
def fitsOp (op n : Int) : Bool := match formOf op with | none => false | some f => decide (fitsK f.kind n)
end Go.Proofs.Ytgcihcgclmdolaa
