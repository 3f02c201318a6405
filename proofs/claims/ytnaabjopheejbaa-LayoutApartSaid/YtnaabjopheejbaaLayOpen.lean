/- Layout's laws: an argument of sizes, opened. -/
import Derived.Test.YtnaabjopheejbaaLayP
import Derived.Test.YtnaabjopheejbaaLayS
import Derived.Deep.Slices
import Derived.ChangeOld
import Derived.Carry
namespace Go.Proofs.Ytnaabjopheejbaa
open Go.RowKit Go.WideShapes Go.Deep Go.ChangeShapes
set_option linter.unusedVariables false
set_option linter.unusedSimpArgs false
section
variable {H : Type} {enc : TypeId × Value → H} {W : World} {base : Nat}
/-- The number of 16 bits in a cell. -/
def num16 (W : World) (a : Addr) : Nat := match W.cell? a with | some (.int _ n) => n.toNat | _ => 0
theorem sizes_open {v : Value} {d : DataW H} {p : List MemPlace} (hv : Value.okWide Try.prog W .any base 22 v) (h : DataW.Trod enc Try.prog W 0 (fun _ => true) true 22 v d p) :
    ∃ A n c t e, v = .slice A n c ∧ Sizes W A n c t e := by
  obtain ⟨A, n, c, rfl⟩ := okWide_slice Try.underlying22 hv
  obtain ⟨fuel, hf⟩ := h
  rcases open_slice Try.underlying22 hf with ⟨hcs, _⟩ | ⟨a, len, cap, m, k, D, Pl, hcs, _, hl, hm, hmm, _, hi⟩
  · simp [Value.cells] at hcs
    obtain ⟨rfl, rfl, rfl⟩ := hcs
    exact ⟨none, 0, 0, fun _ => 0, fun _ => 0, rfl, ⟨fun hn => absurd hn (by omega), fun i hi => absurd hi (by omega), fun i hi => absurd hi (by omega), fun _ => ⟨rfl, rfl⟩⟩⟩
  · simp [Value.cells] at hcs
    obtain ⟨rfl, rfl, rfl⟩ := hcs
    have hC : Try.prog.cellsOf 45 = 2 := by kernel_rfl
    have hC1 : Try.prog.cellsOf 44 = 1 := by kernel_rfl
    simp only [if_true] at hmm
    subst hmm
    have key : ∀ i, i < n → ∃ x y : Int, W.cell? (a.add (i * 2)) = some (.int .u16 x) ∧ W.cell? ((a.add (i * 2)).add 1) = some (.int .u16 y) ∧ 0 ≤ x ∧ x ≤ 65535 ∧ 0 ≤ y ∧ y ≤ 65535 := by
      intro i hin
      obtain ⟨cs, hc, ht⟩ := hi i (by omega)
      rw [hC] at hc
      obtain ⟨_, hlen, hat⟩ := World.cells?_some hc
      obtain ⟨ys, q, _, _, _, hyl, hel⟩ := DataW.trod_array Try.underlying45 ht
      match cs, hlen with
      | [c0, c1], _ =>
        have g0 := hel 0 (by omega)
        have g1 := hel 1 (by omega)
        rw [hC1] at g0 g1
        simp only [Nat.zero_mul, List.drop_zero, Nat.one_mul, List.take_succ_cons, List.take_zero, List.drop_succ_cons] at g0 g1
        have y0 : ys[0]? = some (ys[0]'(by omega)) := List.getElem?_eq_getElem (by omega)
        have y1 : ys[1]? = some (ys[1]'(by omega)) := List.getElem?_eq_getElem (by omega)
        rw [y0] at g0
        rw [y1] at g1
        obtain ⟨x, hx, _, wx⟩ := DataW.trod_int Try.underlying44 g0
        obtain ⟨y, hy, _, wy⟩ := DataW.trod_int Try.underlying44 g1
        have bx := bounds_u16 wx
        have by' := bounds_u16 wy
        have h0 := hat 0 (by omega)
        have h1 := hat 1 (by omega)
        simp at hx hy h0 h1
        subst hx hy
        refine ⟨x, y, ?_, by simpa using h1, bx.1, bx.2, by'.1, by'.2⟩
        have : (a.add (i * 2)).add 0 = a.add (i * 2) := by simp [Addr.add]
        rw [← this]
        simpa using h0
    refine ⟨some a, n, _, fun i => num16 W (a.add (i * 2)), fun i => num16 W ((a.add (i * 2)).add 1), rfl, ⟨fun hn => ?_, fun i hin => ?_, fun i hin => ?_, fun e => by cases e⟩⟩
    · obtain ⟨x, y, hx, _⟩ := key 0 hn
      rw [Nat.zero_mul, addr_add0] at hx
      obtain ⟨b, off, rfl, hlt⟩ := cell_some hx
      refine ⟨b, off, rfl, hlt, fun i hin => ?_⟩
      obtain ⟨x, y, hx, hy, x0, x1, y0, y1⟩ := key i hin
      simp only [addr_add] at hx hy
      simp only [num16, addr_add, hx, hy]
      have ex : ((x.toNat : Nat) : Int) = x := by omega
      have ey : ((y.toNat : Nat) : Int) = y := by omega
      rw [ex, ey]
      exact ⟨rfl, rfl⟩
    · obtain ⟨x, y, hx, hy, x0, x1, y0, y1⟩ := key i hin
      simp only [num16, hx]; omega
    · obtain ⟨x, y, hx, hy, x0, x1, y0, y1⟩ := key i hin
      simp only [num16, hy]; omega
theorem layoutPlaces_law {v : Value} {d : DataW H} {p : List MemPlace} (hv : Value.okWide Try.prog W .any base 22 v) (h : DataW.Trod enc Try.prog W 0 (fun _ => true) true 22 v d p) :
    Calls Try.prog 3 #[v] W fun e w' => e = .returned (.bool true) ∧ Below W.heap.size W w' := by
  obtain ⟨A, n, c, t, e, rfl, hs⟩ := sizes_open hv h
  exact (places_any A n c t e W hs).mono fun _ _ ⟨he, hk⟩ => ⟨he, hk.out⟩
theorem layoutSums_law {v : Value} {d : DataW H} {p : List MemPlace} (hv : Value.okWide Try.prog W .any base 22 v) (h : DataW.Trod enc Try.prog W 0 (fun _ => true) true 22 v d p) :
    Calls Try.prog 6 #[v] W fun e w' => e = .returned (.bool true) ∧ Below W.heap.size W w' := by
  obtain ⟨A, n, c, t, e, rfl, hs⟩ := sizes_open hv h
  exact (sums_any A n c t e W hs).mono fun _ _ ⟨he, hk⟩ => ⟨he, hk.out⟩
end
end Go.Proofs.Ytnaabjopheejbaa
