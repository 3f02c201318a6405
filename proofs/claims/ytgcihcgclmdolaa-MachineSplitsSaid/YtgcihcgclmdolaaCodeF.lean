/- The table of forms: the closure that fills it, and the whole, walked. -/
import Derived.Test.YtgcihcgclmdolaaProg
import Derived.Test.YtgcihcgclmdolaaBase
import Derived.Test.YtgcihcgclmdolaaPush
import Derived.Test.YtgcihcgclmdolaaPlainCode
import Derived.Maps.OwnSet
import Derived.Maps.RangeWalk
import Derived.Maps.OwnOps
namespace Go.Proofs.Ytgcihcgclmdolaa
open Go.RowKit Go.Maps
set_option linter.unusedVariables false
set_option linter.unusedSimpArgs false
/-- An element of the map, as it stands. -/
def RF : Value → Option (DataW Value × List MemPlace) := fun v => some (.held v, [])
def formV (kd op f3 f7 rs2 : Int) : Value := .agg #[.int .u8 kd, .int .u32 op, .int .u32 f3, .int .u32 f7, .int .i64 rs2]
def putF (D : DataW Value) (k : Int) (v : Value) : DataW Value := D.put (.int .i64 k) (.held v)
def puts (D : DataW Value) (kd op : Int) (L : List (Int × Int × Int)) : DataW Value := L.foldl (fun D x => putF D x.1 (formV kd op x.2.1 x.2.2 (-1))) D
theorem puts_snoc (D : DataW Value) (kd op : Int) (L : List (Int × Int × Int)) (x : Int × Int × Int) : puts D kd op (L ++ [x]) = putF (puts D kd op L) x.1 (formV kd op x.2.1 x.2.2 (-1)) := by
  simp [puts, List.foldl_append]
def fcells (L : List (Int × Int × Int)) : Array Value := (L.flatMap fun x => [.int .u32 x.1, .int .u32 x.2.1, .int .u32 x.2.2]).toArray
theorem fcells_at (L : List (Int × Int × Int)) (j : Nat) (x : Int × Int × Int) (h : L[j]? = some x) : (fcells L)[j * 3]? = some (.int .u32 x.1) ∧ (fcells L)[j * 3 + 1]? = some (.int .u32 x.2.1) ∧ (fcells L)[j * 3 + 2]? = some (.int .u32 x.2.2) := by
  unfold fcells
  simp only [List.getElem?_toArray]
  induction L generalizing j with
  | nil => simp at h
  | cons y r ih =>
    cases j with
    | zero =>
      simp at h
      subst h
      simp
    | succ j =>
      have := ih j (by simpa using h)
      simp only [List.flatMap_cons, List.cons_append, List.nil_append]
      have e1 : (j + 1) * 3 = j * 3 + 3 := by omega
      rw [e1]
      simpa [Nat.add_right_comm] using this
theorem lawK : Keyed Try.prog 3 := int_keyed Try.underlying3
theorem keyI {x : Int} (h : -9223372036854775808 ≤ x ∧ x ≤ 9223372036854775807) : keyOf Try.prog 3 (.int .i64 x) = some (.int .i64 x) := keyOf_int_mk Try.underlying3 (WalkArith.wf_i64 (by omega))
set_option maxRecDepth 100000 in
set_option maxHeartbeats 1000000 in
theorem many_calls (kd op : Int) (G c Bm B n len : Nat) (L : List (Int × Int × Int)) (D : DataW Value) (w : World) (ty : TypeId) (hlen : L.length = len) (h0 : 0 < len) (hn : n + len < 100000) (hr : ∀ x ∈ L, 0 ≤ x.1 ∧ x.1 ≤ 4294967295)
    (hG : w.heap[G]? = some (.cells (fcells L) ty)) (hm : w.cell? ⟨Bm, 0, none⟩ = some (.map (some B))) (hown : w.ownsMap Try.prog 3 RF B n D) :
    Calls Try.prog 31 #[.int .u8 kd, .int .u32 op, .slice (some ⟨G, 0, none⟩) len c, .pointer (some ⟨Bm, 0, none⟩)] w fun e w' => e = .returned (.tuple #[]) ∧ w'.ownsMap Try.prog 3 RF B (n + len) (puts D kd op L) ∧ w.grownBy w' (some B) := by
  have hcell : ∀ j x, L[j]? = some x → w.cell? ⟨G, j * 3, none⟩ = some (.int .u32 x.1) ∧ w.cell? ⟨G, j * 3 + 1, none⟩ = some (.int .u32 x.2.1) ∧ w.cell? ⟨G, j * 3 + 2, none⟩ = some (.int .u32 x.2.2) := by
    intro j x hx
    obtain ⟨a, b, c⟩ := fcells_at L j x hx
    simp only [World.cell?, hG]
    exact ⟨a, b, c⟩
  have hGB : some G ≠ some B := by
    obtain ⟨es, cl, hb, _⟩ := hown
    intro e
    cases e
    rw [hb] at hG
    cases hG
  have hMB : some Bm ≠ some B := by
    obtain ⟨es, cl, hb, _⟩ := hown
    intro e
    cases e
    simp [World.cell?, hb] at hm
  have hGl : G < w.heap.size := (Array.getElem?_eq_some_iff.1 hG).1
  obtain ⟨_, _, hMe, hMl⟩ := cell_some hm
  cases hMe
  replace hcell := Aside.mk hcell
  replace hm := Aside.mk hm
  replace hown := Aside.mk hown
  replace hr := Aside.mk hr
  clear hG
  go_enter Try.func31, Try.ntmps31
  go_wp2
  go_loopw [11] (fun i wr => ∃ k : Nat, k ≤ len ∧ i = .int .i64 k ∧ wr.ownsMap Try.prog 3 RF B (n + k) (puts D kd op (L.take k)) ∧ w.grownBy wr (some B)) (fun i _ => len - (intOf i).toNat)
  case atStart => exact ⟨0, Nat.zero_le _, rfl, by simpa [puts] using hown.out, World.grownBy.refl _ _⟩
  case round =>
    obtain ⟨k, hk, rfl, hw, hg⟩ := hrel
    by_cases hlt : k < len
    · obtain ⟨x, hx⟩ : ∃ x, L[k]? = some x := ⟨_, List.getElem?_eq_getElem (by omega)⟩
      obtain ⟨c1, c2, c3⟩ := hcell.out k x hx
      have b1 := hr.out x (List.mem_of_getElem? hx)
      have e0 := hg.cell hm.out hMB
      have e1 := hg.cell c1 hGB
      have e2 := hg.cell c2 hGB
      have e3 := hg.cell c3 hGB
      have ht : L.take (k + 1) = L.take k ++ [x] := by rw [List.take_add_one, hx]; rfl
      replace ht := Aside.mk ht
      clear c1 c2 c3 hx
      have hsz := hg.size
      have hm2 : Bm < wr.heap.size := by omega
      have hm3 := Nat.ne_of_lt hm2
      go_wp2_with (at_mapUpdate; refine wpList_mapUpdate_own _ rfl _ _ _ 70 rfl 3 68 lawK Try.underlying70 RF B (n + k) _ rfl (hw.alloc _) (by unfold maxLen; omega) _ _ _ rfl rfl (keyI (by omega)) _ [] rfl ?_; intro w1 hw1 hg1)
      have hgg := (hg.andThen (World.grownBy_alloc wr _ none) (by simp)).andThen hg1 (fun j hj => Or.inr hj)
      go_roundw
      case rel => exact ⟨k + 1, by omega, by go_num, by rw [ht.out, puts_snoc]; exact hw1, hgg⟩
      case measure => simp [intOf]; omega
    · obtain rfl : len = k := by omega
      go_wp2
      first | go_end0 | refine bodyPost_ret (results_none rfl _ _ _) rfl ?_
      rw [← hlen, List.take_length] at hw
      rw [← hlen]
      exact ⟨rfl, hw, hg⟩
end Go.Proofs.Ytgcihcgclmdolaa
