/- Layout's laws: what is kept, and the places' cells. -/
import Derived.Test.YtnaabjopheejbaaLayRef
namespace Go.Proofs.Ytnaabjopheejbaa
open Go.RowKit
set_option linter.unusedVariables false
set_option linter.unusedSimpArgs false
theorem Kp.own {w w' : World} {b : Nat} {e : TypeId} {size n : Nat} {v : Value} {xs : List Value} (h : w.ownsRow b e size v n xs) (k : Kp w w') : w'.ownsRow b e size v n xs := by
  obtain ⟨h1, h2⟩ := h
  refine ⟨h1, ?_⟩
  rcases h2 with h2 | ⟨g, cap, cur, hv, hb, hg, r⟩
  · exact Or.inl h2
  · exact Or.inr ⟨g, cap, cur, hv, hb, by rw [k.block (Array.getElem?_eq_some_iff.1 hg).1]; exact hg, r⟩
theorem Kp.row {w w' : World} {b : Nat} {ty : TypeId} {n : Nat} {f : Nat → Value} (h : w.rowIs b ty n f) (k : Kp w w') : w'.rowIs b ty n f := h.of_block (k.block h.lt)
theorem lay2_even (t d : Nat → Nat) (n k : Nat) (hk : k < n) : lay2 t d n n (k * 2) = .int .i64 ((12 + 4 * sumTo t k : Nat) : Int) := by
  unfold lay2 lay1
  rw [if_neg (by omega), if_pos ⟨by omega, by omega⟩, show k * 2 / 2 = k by omega]
theorem lay2_odd (t d : Nat → Nat) (n k : Nat) (hk : k < n) : lay2 t d n n (k * 2 + 1) = .int .i64 ((base t n + sumTo d k : Nat) : Int) := by
  unfold lay2
  rw [if_pos ⟨by omega, by omega⟩, show (k * 2 + 1) / 2 = k by omega]
theorem rcells_length (t d : Nat → Nat) (n m : Nat) : (rcells t d n m).length = m * 2 := by
  induction m with
  | zero => rfl
  | succ m ih => simp [rcells, ih]; omega
theorem rcells_at (t d : Nat → Nat) (n m k : Nat) (hk : k < m) : (rcells t d n m)[k * 2]? = some (.int .i64 ((12 + 4 * sumTo t k : Nat) : Int)) ∧ (rcells t d n m)[k * 2 + 1]? = some (.int .i64 ((base t n + sumTo d k : Nat) : Int)) := by
  induction m with
  | zero => omega
  | succ m ih =>
    have hl := rcells_length t d n m
    by_cases e : k = m
    · subst e
      refine ⟨?_, ?_⟩
      · rw [rcells, List.getElem?_append_right (by omega), hl]; simp
      · rw [rcells, List.getElem?_append_right (by omega), hl]; simp
    · have := ih (by omega)
      refine ⟨?_, ?_⟩
      · rw [rcells, List.getElem?_append_left (by omega)]; exact this.1
      · rw [rcells, List.getElem?_append_left (by omega)]; exact this.2
theorem lay_one {W : World} {N : Nat} {a1 a2 a3 a4 : Option Addr} {c1 c2 c3 c4 m3 m4 : Nat} {ty : TypeId}
    (hb : W.heap[N]? = some (.cells #[.slice a1 2 c1, .slice a2 8 c2, .slice a3 m3 c3, .slice a4 m4 c4] ty)) :
    Calls Try.prog 10 #[.slice (some ⟨N, 0, none⟩) 1 1] W fun e w' => e = .returned (.tuple #[.slice (some ⟨W.heap.size, 0, none⟩) 1 1, .int .i64 32, .int .i64 0]) ∧
      Kp W w' ∧ w'.cell? ⟨W.heap.size, 0, none⟩ = some (.int .i64 12) ∧ w'.cell? ⟨W.heap.size, 1, none⟩ = some (.int .i64 24) := by
  refine (lay_calls (some ⟨N, 0, none⟩) N 1 1 (fun _ => rfl) (fun _ => 2) (fun _ => 8) W (by omega) (fun _ => (Array.getElem?_eq_some_iff.1 hb).1) (fun _ i hi => ?_) (by decide) (by decide)).mono ?_
  · obtain rfl : i = 0 := by omega
    exact ⟨a1, c1, a2, c2, a3, m3, c3, a4, m4, c4, by simp [World.cell?, hb], by simp [World.cell?, hb], by simp [World.cell?, hb], by simp [World.cell?, hb]⟩
  · intro e w1 hr
    obtain ⟨he, kp, hrow⟩ := lay_short hr (by decide)
    exact ⟨he, kp, hrow.cell (i := 0) (by decide), hrow.cell (i := 1) (by decide)⟩
set_option maxRecDepth 100000 in
set_option maxHeartbeats 1000000 in
theorem awake07_calls (w : World) : Calls Try.prog 8 #[] w fun e w' => e = .returned (.bool true) ∧ Kp w w' := by
  have hm1 := make_words .i64 2 (by omega) (by omega)
  have hm2 := make_bytes .i64 8 (by omega) (by omega)
  go_enter Try.func8, Try.ntmps8
  go_wp2_with fail
  go_region_with ((go_at_call 10); (refine Calls.mono (lay_one (heap_new (by simp))) ?_); (rintro e w1 ⟨rfl, kp1, f1, f2⟩); (simp only [World.size_alloc, World.size_drew] at f1 f2))
  all_goals
    go_wp2
    go_ret
    exact ⟨rfl, by repeat (first | exact Kp.refl _ | assumption | exact Dr.kp (by assumption) | refine Kp.drewN ?_ _ | refine Kp.drew ?_ | refine Kp.alloc ?_ _ | refine Kp.setCell ?_ (by first | exact Nat.le_refl _ | assumption | omega) _ | refine Kp.trans ?_ (by assumption) | refine Kp.trans ?_ (Dr.kp (by assumption)))⟩
end Go.Proofs.Ytnaabjopheejbaa
