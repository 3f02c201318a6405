/- LayoutApart: its argument, opened. -/
import Derived.Test.YtnaabjopheejbaaLayAp
import Derived.Test.YtnaabjopheejbaaLayOpen
namespace Go.Proofs.Ytnaabjopheejbaa
open Go.RowKit Go.WideShapes Go.Deep Go.ChangeShapes
set_option linter.unusedVariables false
set_option linter.unusedSimpArgs false
section
variable {H : Type} {enc : TypeId × Value → H} {W : World} {base : Nat}
theorem layoutApart_law {v : Value} {d : DataW H} {p : List MemPlace} (hv : Value.okWide Try.prog W .any base 22 v) (h : DataW.Trod enc Try.prog W 0 (fun _ => true) true 22 v d p) :
    Calls Try.prog 4 #[v] W fun e w' => e = .returned (.bool true) ∧ Below W.heap.size W w' := by
  obtain ⟨A, n, c, t, e, rfl, hs⟩ := sizes_open hv h
  exact (apart_any A n c t e W hs).mono fun _ _ ⟨he, hk⟩ => ⟨he, hk.out⟩
end
end Go.Proofs.Ytnaabjopheejbaa
