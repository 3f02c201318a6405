/- PatchWords' arguments, opened. -/
import Derived.Test.YtgifefkoldocmaaPatLaw
import Derived.Lib.SmallJoins
import Derived.ChangeOld
import Derived.Carry
import Derived.OpenShut
namespace Go.Proofs.Ytgifefkoldocmaa
open Go.RowKit Go.WideShapes Go.Deep Go.ChangeShapes Go.Proofs.Ytgifefkoldocmaa.PW
set_option linter.unusedVariables false
set_option linter.unusedSimpArgs false
section
variable {H : Type} {enc : TypeId × Value → H} {W : World} {base : Nat}
set_option maxRecDepth 100000 in
theorem words2_open {v : Value} {d : DataW H} {p : List MemPlace} (hv : Value.okWide Try.prog W .any base 23 v) (h : DataW.Trod enc Try.prog W 0 (fun _ => true) true 23 v d p) :
    ∃ a b : Int, v = .agg #[.int .u32 a, .int .u32 b] ∧ U a ∧ U b := by
  have hu := Try.underlying23
  obtain ⟨cs, rfl, hsz⟩ : ∃ cs, v = .agg cs ∧ cs.size = Try.prog.cellsOf 23 := by
    simp only [Value.okWide, hu] at hv
    obtain ⟨cs, h1, h2, _⟩ := hv
    exact ⟨cs, h1, h2⟩
  have hC : Try.prog.cellsOf 23 = 2 := by kernel_rfl
  have hC1 : Try.prog.cellsOf 22 = 1 := by kernel_rfl
  obtain ⟨l⟩ := cs
  match l, hsz.trans hC with
  | [c0, c1], _ =>
    obtain ⟨fuel, hf⟩ := h
    obtain ⟨ys, q, _, _, _, hyl, hel⟩ := DataW.trod_array hu hf
    have g0 := hel 0 (by omega)
    have g1 := hel 1 (by omega)
    rw [hC1] at g0 g1
    simp only [Value.cells, Nat.zero_mul, List.drop_zero, Nat.one_mul, List.take_succ_cons, List.take_zero, List.drop_succ_cons] at g0 g1
    have y0 : ys[0]? = some (ys[0]'(by omega)) := List.getElem?_eq_getElem (by omega)
    have y1 : ys[1]? = some (ys[1]'(by omega)) := List.getElem?_eq_getElem (by omega)
    rw [y0] at g0
    rw [y1] at g1
    obtain ⟨r1, f0, _, u0⟩ := DataW.trod_int Try.underlying22 g0
    obtain ⟨r2, f1, _, u1⟩ := DataW.trod_int Try.underlying22 g1
    simp only [List.cons.injEq, and_true] at f0 f1
    subst f0 f1
    exact ⟨r1, r2, rfl, U_of u0, U_of u1⟩
set_option maxRecDepth 100000 in
theorem patchWords_law (k : Int) (w0 : (Lit.int .i64 k).wf = true) (x : Int) (w1 : (Lit.int .u32 x).wf = true) {v2 : Value} {d2 : DataW H} {p2 : List MemPlace} (hv2 : Value.okWide Try.prog W .any base 23 v2) (h2 : DataW.Trod enc Try.prog W 0 (fun _ => true) true 23 v2 d2 p2) :
    Calls Try.prog 3 #[.int .i64 k, .int .u32 x, v2] W fun e w' => e = .returned (.bool true) ∧ Below W.heap.size W w' := by
  obtain ⟨a, b, rfl, ha, hb⟩ := words2_open hv2 h2
  exact (patchWords_any k x a b (U_of w1) ha hb W).mono fun _ _ ⟨he, hk⟩ => ⟨he, hk.out⟩
end
end Go.Proofs.Ytgifefkoldocmaa
