/- A function that was just made. No condition. -/
import Derived.Test.YtkianddaccoeiaaLivA
namespace Go.Proofs.Ytkianddaccoeiaa
open Go.RowKit Go.Maps Go.Proofs.Ytkianddaccoeiaa.PL
set_option linter.unusedVariables false
set_option linter.unusedSimpArgs false
theorem InsC.cells_len (y : InsC) : y.cells.length = 9 := rfl
theorem cells9_at : ∀ (L : List InsC) (n j : Nat), j < 9 → (L.flatMap InsC.cells)[n * 9 + j]? = (L[n]?).bind fun y => y.cells[j]?
  | [], n, j, hj => by simp
  | y :: L, 0, j, hj => by
    show (y.cells ++ L.flatMap InsC.cells)[0 * 9 + j]? = _
    rw [Nat.zero_mul, Nat.zero_add, List.getElem?_append_left (by rw [y.cells_len]; exact hj)]
    rfl
  | y :: L, n + 1, j, hj => by
    show (y.cells ++ L.flatMap InsC.cells)[(n + 1) * 9 + j]? = _
    rw [List.getElem?_append_right (by rw [y.cells_len]; omega), y.cells_len, show (n + 1) * 9 + j - 9 = n * 9 + j by omega, cells9_at L n j hj]
    rfl
/-- Instructions without Args. -/
def bare (l : List InsV) : List InsC := l.map fun i => ⟨i, none, 0⟩
theorem bare_i (l : List InsV) : (bare l).map (·.i) = l := by
  unfold bare
  rw [List.map_map]
  exact List.map_id _
/-- A function that stands in two blocks of its own. -/
theorem mk_funAt {w : World} {gk gc : Nat} {f : FunV} {tk tc : TypeId} {fk fc : Nat × Nat} (hp : f.params = []) (hs : f.slots = []) (ha : ∀ i ∈ f.code, i.args = []) (hk : w.heap[gk]? = some (.cells (f.kinds.map (Value.int .i64)).toArray tk fk)) (hc : w.heap[gc]? = some (.cells ((bare f.code).flatMap InsC.cells).toArray tc fc)) (ck cc : Nat) (hck : f.kinds.length ≤ ck) (hcc : f.code.length ≤ cc) :
    FunAt w ⟨f, none, 0, some ⟨gk, 0, none⟩, ck, none, 0, some ⟨gc, 0, none⟩, cc, bare f.code⟩ where
  params h := absurd hp h
  kinds _ := ⟨gk, 0, rfl, (Array.getElem?_eq_some_iff.1 hk).1, fun i hi => by
    have hi' : i < f.kinds.length := hi
    rw [Nat.zero_add]
    simp only [World.cell?, hk]
    simp [List.getD_eq_getElem?_getD, List.getElem?_eq_getElem hi']⟩
  slots h := absurd hs h
  code _ := ⟨gc, 0, rfl, (Array.getElem?_eq_some_iff.1 hc).1, fun n y hy j hj => by
    rw [Nat.zero_add]
    simp only [World.cell?, hc]
    simp only [Option.isSome_none, Bool.false_eq_true, if_false, List.getElem?_toArray]
    rw [cells9_at _ n j hj]
    have hy' : (bare f.code)[n]? = some y := hy
    rw [hy']
    rfl⟩
  list := bare_i f.code
  ins y hy := by
    obtain ⟨i, hi, rfl⟩ := List.mem_map.1 hy
    have := ha i hi
    exact ⟨fun h => absurd this h, by simp only [this]; exact ⟨Nat.le_refl _, fun _ => ⟨rfl, rfl⟩⟩⟩
  slP := ⟨by simp [hp], fun _ => ⟨by simp [hp], rfl⟩⟩
  slK := ⟨hck, fun h => by cases h⟩
  slS := ⟨by simp [hs], fun _ => ⟨by simp [hs], rfl⟩⟩
  slC := ⟨hcc, fun h => by cases h⟩
end Go.Proofs.Ytkianddaccoeiaa
