/- LayoutAddresses: its arguments, opened. -/
import Derived.Test.YtnaabjopheejbaaLayA
import Derived.Lib.SmallJoins
import Derived.ChangeOld
import Derived.Carry
namespace Go.Proofs.Ytnaabjopheejbaa
open Go.RowKit Go.WideShapes Go.Deep Go.ChangeShapes Go.Joins
set_option linter.unusedVariables false
section
variable {H : Type} {enc : TypeId × Value → H} {P : Program} {w : World} {base : Nat} {spare : Nat → Bool} {held : Bool}
theorem open_agg5 {r : Reach} {b0 : Nat} {t : TypeId} {f0 f1 f2 f3 f4 : Field} {v : Value} {d : DataW H} {p : List MemPlace} (hs : P.underlying t = some (.struct #[f0, f1, f2, f3, f4])) (hone : oneCellFields P #[f0, f1, f2, f3, f4] = true) (hC : P.cellsOf t = 5)
    (hv : Value.okWide P w r b0 t v) (h : DataW.Trod enc P w base spare held t v d p) :
    ∃ (v0 v1 v2 v3 v4 : Value) (y0 y1 y2 y3 y4 : DataW H × List MemPlace) (n : Nat), v = .agg #[v0, v1, v2, v3, v4] ∧ d = .agg [y0.1, y1.1, y2.1, y3.1, y4.1] ∧ p = y0.2 ++ (y1.2 ++ (y2.2 ++ (y3.2 ++ y4.2))) ∧
      DataW.trod enc P w base spare held n f0.type [v0] = some y0 ∧ DataW.trod enc P w base spare held n f1.type [v1] = some y1 ∧ DataW.trod enc P w base spare held n f2.type [v2] = some y2 ∧ DataW.trod enc P w base spare held n f3.type [v3] = some y3 ∧ DataW.trod enc P w base spare held n f4.type [v4] = some y4 := by
  obtain ⟨cs, rfl, hsz⟩ := okWide_struct hs hv
  obtain ⟨l⟩ := cs
  match l, hsz.trans hC with
  | [c0, c1, c2, c3, c4], _ =>
    obtain ⟨fuel, hf⟩ := h
    obtain ⟨xs, n, _, hx, _, hlen, hg⟩ := DataW.trod_struct hs hf
    obtain ⟨o0, k0⟩ := hone_of hone 0 f0 rfl
    obtain ⟨o1, k1⟩ := hone_of hone 1 f1 rfl
    obtain ⟨o2, k2⟩ := hone_of hone 2 f2 rfl
    obtain ⟨o3, k3⟩ := hone_of hone 3 f3 rfl
    obtain ⟨o4, k4⟩ := hone_of hone 4 f4 rfl
    match xs, hlen with
    | [y0, y1, y2, y3, y4], _ =>
      simp only [Prod.mk.injEq] at hx
      exact ⟨c0, c1, c2, c3, c4, y0, y1, y2, y3, y4, n, rfl, by simpa using hx.1, by simpa using hx.2, by simpa [Value.cells, o0, k0] using hg 0 f0 rfl, by simpa [Value.cells, o1, k1] using hg 1 f1 rfl, by simpa [Value.cells, o2, k2] using hg 2 f2 rfl, by simpa [Value.cells, o3, k3] using hg 3 f3 rfl, by simpa [Value.cells, o4, k4] using hg 4 f4 rfl⟩
end
section
variable {H : Type} {enc : TypeId × Value → H} {W : World} {base : Nat}
theorem layoutAddresses_law {v0 v1 v2 : Value} {d0 d1 d2 : DataW H} {p0 p1 p2 : List MemPlace}
    (hv0 : Value.okWide Try.prog W .any base 35 v0) (h0 : DataW.Trod enc Try.prog W 0 (fun _ => true) true 35 v0 d0 p0)
    (hv1 : Value.okWide Try.prog W .any base 48 v1) (h1 : DataW.Trod enc Try.prog W 0 (fun _ => true) true 48 v1 d1 p1)
    (hv2 : Value.okWide Try.prog W .any base 50 v2) (h2 : DataW.Trod enc Try.prog W 0 (fun _ => true) true 50 v2 d2 p2) :
    Calls Try.prog 7 #[v0, v1, v2] W fun e w' => e = .returned (.bool true) ∧ Below W.heap.size W w' := by
  obtain ⟨a0, a1, y0, y1, m, rfl, _, _, g0, g1⟩ := open_agg2 Try.underlying35 (by kernel_rfl) (by kernel_rfl) hv0 h0
  obtain ⟨pt, e0, _, w0⟩ := DataW.trod_int Try.underlying3 g0
  obtain ⟨pd, e1, _, w1⟩ := DataW.trod_int Try.underlying3 g1
  obtain ⟨b0, b1, b2, b3, b4, z0, z1, z2, z3, z4, m1, rfl, _, _, k0, k1, k2, k3, k4⟩ := open_agg5 Try.underlying48 (by kernel_rfl) (by kernel_rfl) hv1 h1
  obtain ⟨nm, e2, _⟩ := DataW.trod_string Try.underlying9 k0
  obtain ⟨s1, e3, _, _⟩ := DataW.trod_int Try.underlying3 k1
  obtain ⟨s2, e4, _, w4⟩ := DataW.trod_int Try.underlying3 k2
  obtain ⟨s3, e5, _, _⟩ := DataW.trod_int Try.underlying3 k3
  obtain ⟨gl, e6, _⟩ := DataW.trod_bool Try.underlying4 k4
  obtain ⟨c0, c1, c2, c3, c4, x0, x1, x2, x3, x4, m2, rfl, _, _, q0, q1, q2, q3, q4⟩ := open_agg5 Try.underlying50 (by kernel_rfl) (by kernel_rfl) hv2 h2
  obtain ⟨r1, f0, _, _⟩ := DataW.trod_int Try.underlying3 q0
  obtain ⟨r2, f1, _, u1⟩ := DataW.trod_int Try.underlying3 q1
  obtain ⟨r3, f2, _, _⟩ := DataW.trod_int Try.underlying3 q2
  obtain ⟨r4, f3, _, _⟩ := DataW.trod_int Try.underlying3 q3
  obtain ⟨r5, f4, _, _⟩ := DataW.trod_int Try.underlying3 q4
  simp only [List.cons.injEq, and_true] at e0 e1 e2 e3 e4 e5 e6 f0 f1 f2 f3 f4
  subst e0 e1 e2 e3 e4 e5 e6 f0 f1 f2 f3 f4
  have B0 := bounds_i64 w0
  have B1 := bounds_i64 w1
  have B4 := bounds_i64 w4
  have U1 := bounds_i64 u1
  exact (addresses_any pt pd nm s1 s2 s3 gl r1 r2 r3 r4 r5 B0.1 B0.2 B1.1 B1.2 B4.1 B4.2 U1.1 U1.2 W).mono fun _ _ ⟨he, hk⟩ => ⟨he, hk.out⟩
end
end Go.Proofs.Ytnaabjopheejbaa
