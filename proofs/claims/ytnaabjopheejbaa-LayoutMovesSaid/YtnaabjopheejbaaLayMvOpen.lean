/- LayoutMoves: its arguments, opened. -/
import Derived.Test.YtnaabjopheejbaaLayMv
import Derived.Test.YtnaabjopheejbaaLayOpen
namespace Go.Proofs.Ytnaabjopheejbaa
open Go.RowKit Go.WideShapes Go.Deep Go.ChangeShapes
set_option linter.unusedVariables false
set_option linter.unusedSimpArgs false
section
variable {H : Type} {enc : TypeId × Value → H} {W : World} {base : Nat}
theorem pair_open {v : Value} {d : DataW H} {p : List MemPlace} (hv : Value.okWide Try.prog W .any base 45 v) (h : DataW.Trod enc Try.prog W 0 (fun _ => true) true 45 v d p) :
    ∃ x y : Nat, v = .agg #[.int .u16 x, .int .u16 y] ∧ x ≤ 65535 ∧ y ≤ 65535 := by
  have hC : Try.prog.cellsOf 45 = 2 := by kernel_rfl
  have hC1 : Try.prog.cellsOf 44 = 1 := by kernel_rfl
  simp only [Value.okWide, Try.underlying45] at hv
  obtain ⟨cs, rfl, hsz, _⟩ := hv
  rw [hC] at hsz
  obtain ⟨l⟩ := cs
  obtain ⟨fuel, hf⟩ := h
  obtain ⟨ys, q, _, _, _, hyl, hel⟩ := DataW.trod_array Try.underlying45 hf
  match l, hsz with
  | [c0, c1], _ =>
    have g0 := hel 0 (by omega)
    have g1 := hel 1 (by omega)
    rw [hC1] at g0 g1
    simp only [Value.cells, Nat.zero_mul, List.drop_zero, Nat.one_mul, List.take_succ_cons, List.take_zero, List.drop_succ_cons] at g0 g1
    have y0 : ys[0]? = some (ys[0]'(by omega)) := List.getElem?_eq_getElem (by omega)
    have y1 : ys[1]? = some (ys[1]'(by omega)) := List.getElem?_eq_getElem (by omega)
    rw [y0] at g0
    rw [y1] at g1
    obtain ⟨x, hx, _, wx⟩ := DataW.trod_int Try.underlying44 g0
    obtain ⟨y, hy, _, wy⟩ := DataW.trod_int Try.underlying44 g1
    have bx := bounds_u16 wx
    have by' := bounds_u16 wy
    simp at hx hy
    subst hx hy
    refine ⟨x.toNat, y.toNat, ?_, by omega, by omega⟩
    have ex : ((x.toNat : Nat) : Int) = x := by omega
    have ey : ((y.toNat : Nat) : Int) = y := by omega
    rw [ex, ey]
theorem layoutMoves_law {v0 v1 : Value} {d0 d1 : DataW H} {p0 p1 : List MemPlace}
    (hv0 : Value.okWide Try.prog W .any base 22 v0) (h0 : DataW.Trod enc Try.prog W 0 (fun _ => true) true 22 v0 d0 p0)
    (hv1 : Value.okWide Try.prog W .any base 45 v1) (h1 : DataW.Trod enc Try.prog W 0 (fun _ => true) true 45 v1 d1 p1) :
    Calls Try.prog 5 #[v0, v1] W fun e w' => e = .returned (.bool true) ∧ Below W.heap.size W w' := by
  obtain ⟨A, n, c, t, e, rfl, hs⟩ := sizes_open hv0 h0
  obtain ⟨x, y, rfl, hx, hy⟩ := pair_open hv1 h1
  exact (moves_any A n c t e x y hx hy W hs).mono fun _ _ ⟨he, hk⟩ => ⟨he, hk.out⟩
end
end Go.Proofs.Ytnaabjopheejbaa
