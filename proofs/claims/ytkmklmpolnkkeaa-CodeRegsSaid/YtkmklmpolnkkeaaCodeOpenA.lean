/- CodeOne's and CodeRegs' arguments, opened. -/
import Derived.Test.YtkmklmpolnkkeaaCodeOpen
import Derived.Test.YtkmklmpolnkkeaaCodeLawA
namespace Go.Proofs.Ytkmklmpolnkkeaa
open Go.RowKit Go.WideShapes Go.Deep Go.ChangeShapes Go.Joins
set_option linter.unusedVariables false
set_option linter.unusedSimpArgs false
section
variable {H : Type} {enc : TypeId × Value → H} {W : World} {base : Nat}
theorem bytes3_open {v : Value} {d : DataW H} {p : List MemPlace} (hv : Value.okWide Try.prog W .any base 30 v) (h : DataW.Trod enc Try.prog W 0 (fun _ => true) true 30 v d p) :
    ∃ a b c : Int, v = .agg #[.int .u8 a, .int .u8 b, .int .u8 c] ∧ (0 ≤ a ∧ a ≤ 255) ∧ (0 ≤ b ∧ b ≤ 255) ∧ (0 ≤ c ∧ c ≤ 255) := by
  have hu := Try.underlying30
  obtain ⟨cs, rfl, hsz⟩ : ∃ cs, v = .agg cs ∧ cs.size = Try.prog.cellsOf 30 := by
    simp only [Value.okWide, hu] at hv
    obtain ⟨cs, h1, h2, _⟩ := hv
    exact ⟨cs, h1, h2⟩
  have hC : Try.prog.cellsOf 30 = 3 := by kernel_rfl
  have hC1 : Try.prog.cellsOf 5 = 1 := by kernel_rfl
  obtain ⟨l⟩ := cs
  match l, hsz.trans hC with
  | [c0, c1, c2], _ =>
    obtain ⟨fuel, hf⟩ := h
    obtain ⟨y0, y1, y2, n, _, g0, g1, g2⟩ := trod_array3 hu hC1 hf
    obtain ⟨r1, f0, _, u0⟩ := DataW.trod_int Try.underlying5 g0
    obtain ⟨r2, f1, _, u1⟩ := DataW.trod_int Try.underlying5 g1
    obtain ⟨r3, f2, _, u2⟩ := DataW.trod_int Try.underlying5 g2
    simp only [List.cons.injEq, and_true] at f0 f1 f2
    subst f0 f1 f2
    exact ⟨r1, r2, r3, rfl, bounds_u8 u0, bounds_u8 u1, bounds_u8 u2⟩
theorem codeOne_law {v0 v1 : Value} {d0 d1 : DataW H} {p0 p1 : List MemPlace} (hv0 : Value.okWide Try.prog W .any base 23 v0) (h0 : DataW.Trod enc Try.prog W 0 (fun _ => true) true 23 v0 d0 p0)
    (hv1 : Value.okWide Try.prog W .any base 23 v1) (h1 : DataW.Trod enc Try.prog W 0 (fun _ => true) true 23 v1 d1 p1) :
    Calls Try.prog 3 #[v0, v1] W fun e w' => e = .returned (.bool true) ∧ Below W.heap.size W w' := by
  obtain ⟨op, rd, rs1, rs2, n, rfl, i0, i1, i2, i3, i4⟩ := instr_open hv0 h0
  obtain ⟨op', rd', rs1', rs2', n', rfl, j0, j1, j2, j3, j4⟩ := instr_open hv1 h1
  exact (codeOne_any op rd rs1 rs2 n op' rd' rs1' rs2' n' i0 i4 j0 j4 W).mono fun _ _ ⟨he, hk⟩ => ⟨he, hk.out⟩
theorem codeRegs_law (a0 : Int) (w0 : (Lit.int .i64 a0).wf = true) {v1 : Value} {d1 : DataW H} {p1 : List MemPlace} (hv1 : Value.okWide Try.prog W .any base 30 v1) (h1 : DataW.Trod enc Try.prog W 0 (fun _ => true) true 30 v1 d1 p1) (a2 : Int) (w2 : (Lit.int .u8 a2).wf = true) :
    Calls Try.prog 4 #[.int .i64 a0, v1, .int .u8 a2] W fun e w' => e = .returned (.bool true) ∧ Below W.heap.size W w' := by
  obtain ⟨a, b, c, rfl, ha, hb, hc⟩ := bytes3_open hv1 h1
  exact (codeRegs_any a0 a b c a2 (I64_of w0) ha hb hc (bounds_u8 w2) W).mono fun _ _ ⟨he, hk⟩ => ⟨he, hk.out⟩
end
end Go.Proofs.Ytkmklmpolnkkeaa
