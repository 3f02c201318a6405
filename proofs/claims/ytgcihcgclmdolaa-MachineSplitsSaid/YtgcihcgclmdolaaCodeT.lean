/- The table of forms, made whole. -/
import Derived.Test.YtgcihcgclmdolaaCodeF
namespace Go.Proofs.Ytgcihcgclmdolaa
open Go.RowKit Go.Maps
set_option linter.unusedVariables false
set_option linter.unusedSimpArgs false
/-- Threes of a list of cells. -/
def unf : List Value → List (Int × Int × Int)
  | .int _ a :: .int _ b :: .int _ c :: r => (a, b, c) :: unf r
  | _ => []
/-- The table under way. -/
structure FT (w0 w : World) (n : Nat) (D : DataW Value) : Prop where
  own : w.ownsMap Try.prog 3 RF w0.heap.size n D
  cell : w.cell? ⟨w0.heap.size + 1, 0, none⟩ = some (.map (some w0.heap.size))
  kp : Kp w0 w
theorem FT.lt {w0 w : World} {n : Nat} {D : DataW Value} (h : FT w0 w n D) : w0.heap.size + 1 < w.heap.size := by
  obtain ⟨_, _, e, hl⟩ := cell_some h.cell
  cases e
  exact hl
theorem FT.start (w : World) (ty : TypeId) : FT w ((w.alloc (.map #[] 0)).alloc (.cells #[.map (some w.heap.size)] ty)) 0 (.map []) := by
  refine ⟨(World.ownsMap_made w _ _ _).alloc _, ?_, ((Kp.refl w).alloc _).alloc _⟩
  rw [cell_new' _ _ _ _ _ (by rw [World.size_alloc])]
  rfl
theorem FT.grown {w0 w w' : World} {n n' : Nat} {D D' : DataW Value} (h : FT w0 w n D) (hg : w.grownBy w' (some w0.heap.size)) (ho : w'.ownsMap Try.prog 3 RF w0.heap.size n' D') : FT w0 w' n' D' :=
  ⟨ho, hg.cell h.cell (by simp), Kp.grown h.kp hg (fun k hk => by cases hk; exact Nat.le_refl _)⟩
theorem many_at {w0 w : World} {n : Nat} {D : DataW Value} (kd op : Int) (G c len : Nat) (cs : Array Value) (ty : TypeId) (h : FT w0 w n D) (hG : w.heap.size = G) (hcs : fcells (unf cs.toList) = cs) (hlen : (unf cs.toList).length = len) (h0 : 0 < len) (hn : n + len < 100000)
    (hr : ∀ x ∈ unf cs.toList, 0 ≤ x.1 ∧ x.1 ≤ 4294967295) :
    Calls Try.prog 31 #[.int .u8 kd, .int .u32 op, .slice (some ⟨G, 0, none⟩) len c, .pointer (some ⟨w0.heap.size + 1, 0, none⟩)] (w.alloc (.cells cs ty)) fun e w' => e = .returned (.tuple #[]) ∧ FT w0 w' (n + len) (puts D kd op (unf cs.toList)) := by
  have hl := h.lt
  refine (many_calls kd op G c (w0.heap.size + 1) w0.heap.size n len (unf cs.toList) D _ ty hlen h0 hn hr ?_ ?_ (h.own.alloc _)).mono ?_
  · rw [hcs]; exact heap_new hG
  · rw [cell_kept _ _ hl]; exact h.cell
  · rintro e w' ⟨he, ho, hg⟩
    exact ⟨he, h.grown ((World.grownBy_alloc w _ (some w0.heap.size)).andThen hg (fun j hj => Or.inr hj)) ho⟩
theorem FT.put {w0 w w' : World} {n : Nat} {D : DataW Value} (h : FT w0 w n D) {k : Int} {v : Value} (ho : w'.ownsMap Try.prog 3 RF w0.heap.size (n + 1) (D.put (.int .i64 k) (.held v))) (hg : w.grownBy w' (some w0.heap.size)) : FT w0 w' (n + 1) (putF D k v) := h.grown hg ho
/-- The table. -/
def tableD : DataW Value := putF (putF (putF (putF
  (puts (puts (puts (puts (puts (puts (puts (puts (puts (puts (puts (puts (puts (puts (puts (.map [])
  82 51 [(1, 0, 0), (2, 0, 32), (3, 1, 0), (4, 2, 0), (5, 3, 0), (6, 4, 0), (7, 5, 0), (8, 5, 32), (9, 6, 0), (10, 7, 0)])
  82 51 [(11, 0, 1), (12, 1, 1), (13, 3, 1), (14, 4, 1), (15, 5, 1), (16, 6, 1), (17, 7, 1)])
  73 19 [(18, 0, 0), (19, 2, 0), (20, 3, 0), (21, 4, 0), (22, 6, 0), (23, 7, 0)])
  72 19 [(24, 1, 0), (25, 5, 0), (26, 5, 32)])
  73 3 [(27, 0, 0), (29, 2, 0), (28, 4, 0)])
  73 103 [(41, 0, 0)])
  73 7 [(43, 3, 0)])
  83 35 [(30, 0, 0), (31, 2, 0)])
  83 39 [(44, 3, 0)])
  66 99 [(32, 0, 0), (33, 1, 0), (34, 4, 0), (35, 5, 0), (36, 6, 0), (37, 7, 0)])
  85 55 [(38, 0, 0)])
  85 23 [(39, 0, 0)])
  74 111 [(40, 0, 0)])
  69 115 [(42, 0, 0)])
  82 83 [(45, 0, 1), (46, 0, 5), (47, 0, 9), (48, 0, 13), (51, 2, 81), (52, 1, 81), (53, 0, 81)])
  49 (formV 82 83 0 17 32)) 50 (formV 82 83 1 17 32)) 54 (formV 82 83 1 97 0)) 55 (formV 82 83 0 105 0)
set_option maxRecDepth 100000 in
set_option maxHeartbeats 1000000 in
theorem forms_calls (w : World) : Calls Try.prog 22 #[] w fun e w' => e = .returned (.map (some w.heap.size)) ∧ Kp w w' ∧ w'.ownsMap Try.prog 3 RF w.heap.size 55 tableD := by
  have hmm := @run_makeMap Try.prog
  have hmf : ∀ (fn : Fn) (first cap : Array Value) (w : World), (Instr.makeFunc fn first cap).run Try.prog w = .ok (.func fn first cap) w := fun _ _ _ _ => rfl
  have hft := FT.start w 70
  go_enter Try.func22, Try.ntmps22
  go_wp2_with (first
    | (go_at_call 31; ((refine Calls.mono (many_at _ _ _ _ _ _ _ hft ?_ ?_ ?_ ?_ ?_ ?_) ?_); (first | (exact rfl) | (simp only [World.size_alloc])); (kernel_rfl); (kernel_rfl); (decide); (decide); (decide); (clear hft); (rintro e w1 ⟨rfl, hft⟩); (have hM := hft.cell)))
    | (at_mapUpdate; refine wpList_mapUpdate_own _ rfl _ _ _ 70 rfl 3 68 lawK Try.underlying70 RF _ _ _ rfl hft.own (by decide) _ _ _ rfl rfl (keyI (by decide)) _ [] rfl ?_; intro w2 hw2 hg2; have hft2 := hft.put hw2 hg2; clear hft hw2 hg2; have hft := hft2; clear hft2; have hM := hft.cell))
  go_ret
  exact ⟨rfl, hft.kp, hft.own⟩
end Go.Proofs.Ytgcihcgclmdolaa
