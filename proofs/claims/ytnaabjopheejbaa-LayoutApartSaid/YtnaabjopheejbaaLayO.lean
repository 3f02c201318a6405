/- Layout's laws: the objects of some sizes. -/
import Derived.Test.YtnaabjopheejbaaLayW
import Derived.Test.YtnaabjopheejbaaPush
namespace Go.Proofs.Ytnaabjopheejbaa
open Go.RowKit
set_option linter.unusedVariables false
set_option linter.unusedSimpArgs false
theorem info_words : ∃ i, Try.prog.info? 51 = some i ∧ i.zero = some (.int .u32 0) ∧ i.size = 1 ∧ i.bytes = 4 := ⟨_, rfl, rfl, rfl, rfl⟩
theorem info_bytes : ∃ i, Try.prog.info? 5 = some i ∧ i.zero = some (.int .u8 0) ∧ i.size = 1 ∧ i.bytes = 1 := ⟨_, rfl, rfl, rfl, rfl⟩
theorem info_object : ∃ i z, Try.prog.info? 43 = some i ∧ i.zero = some z ∧ i.size = 4 ∧ i.bytes = 96 ∧ z.cells.size = 4 := ⟨_, _, rfl, rfl, rfl, rfl, rfl⟩
theorem make_words (k : IntKind) (n : Int) (h0 : 0 ≤ n) (hn : n ≤ 1000000) (w : World) : (Instr.makeSlice 38 (.int k n) (.int k n)).run Try.prog w = .ok (.slice (some ⟨w.heap.size, 0, none⟩) n.toNat n.toNat) (w.alloc (.cells (madeCells #[.int .u32 0] n.toNat) 51)) := by
  obtain ⟨i, hi, hz, hs, hb⟩ := info_words
  have h := run_make (P := Try.prog) w 38 51 i _ Try.underlying38 hi hz k k n n h0 (Int.le_refl _) (by rw [hb]; omega) (by omega)
  simp only [hs, Nat.mul_one] at h
  exact h
theorem make_bytes (k : IntKind) (n : Int) (h0 : 0 ≤ n) (hn : n ≤ 1000000) (w : World) : (Instr.makeSlice 39 (.int k n) (.int k n)).run Try.prog w = .ok (.slice (some ⟨w.heap.size, 0, none⟩) n.toNat n.toNat) (w.alloc (.cells (madeCells #[.int .u8 0] n.toNat) 5)) := by
  obtain ⟨i, hi, hz, hs, hb⟩ := info_bytes
  have h := run_make (P := Try.prog) w 39 5 i _ Try.underlying39 hi hz k k n n h0 (Int.le_refl _) (by rw [hb]; omega) (by omega)
  simp only [hs, Nat.mul_one] at h
  exact h
/-- A list of objects' cells, with so many words and bytes. -/
def ObjList (t d : Nat → Nat) (k : Nat) (xs : List Value) : Prop :=
  xs.length = k * 4 ∧ ∀ i, i < k → ∃ a1 c1 a2 c2, xs[i * 4]? = some (.slice a1 (t i) c1) ∧ xs[i * 4 + 1]? = some (.slice a2 (d i) c2) ∧ xs[i * 4 + 2]? = some (.slice none 0 0) ∧ xs[i * 4 + 3]? = some (.slice none 0 0)
theorem obj_snoc {t d : Nat → Nat} {k : Nat} {xs ys : List Value} (h : ObjList t d k xs) {a1 a2 : Option Addr} {c1 c2 : Nat} (hy : ys = [.slice a1 (t k) c1, .slice a2 (d k) c2, .slice none 0 0, .slice none 0 0]) : ObjList t d (k + 1) (xs ++ ys) := by
  subst hy
  refine ⟨by simp [h.1]; omega, fun i hi => ?_⟩
  have hl := h.1
  by_cases e : i = k
  · subst e
    exact ⟨a1, c1, a2, c2, by rw [List.getElem?_append_right (by omega), hl]; simp, by rw [List.getElem?_append_right (by omega), hl]; simp, by rw [List.getElem?_append_right (by omega), hl]; simp, by rw [List.getElem?_append_right (by omega), hl]; simp⟩
  · obtain ⟨b1, e1, b2, e2, q1, q2, q3, q4⟩ := h.2 i (by omega)
    exact ⟨b1, e1, b2, e2, by rw [List.getElem?_append_left (by omega)]; exact q1, by rw [List.getElem?_append_left (by omega)]; exact q2, by rw [List.getElem?_append_left (by omega)]; exact q3, by rw [List.getElem?_append_left (by omega)]; exact q4⟩
/-- What 'objects' comes to. -/
def ObjR (w : World) (n : Nat) (t d : Nat → Nat) (e : Ending) (w' : World) : Prop :=
  ∃ v xs, e = .returned v ∧ Kp w w' ∧ w'.ownsRow w.heap.size 43 4 v n xs ∧ ObjList t d n xs
set_option maxRecDepth 100000 in
set_option maxHeartbeats 1000000 in
theorem obj_calls (A : Option Addr) (g o n c : Nat) (hA : 0 < n → A = some ⟨g, o, none⟩) (t d : Nat → Nat) (w : World) (hn : n ≤ 1000) (hg : 0 < n → g < w.heap.size)
    (h1 : ∀ i, i < n → w.cell? ⟨g, o + i * 2, none⟩ = some (.int .u16 (t i)))
    (h2 : ∀ i, i < n → w.cell? ⟨g, o + i * 2 + 1, none⟩ = some (.int .u16 (d i)))
    (ht : ∀ i, i < n → t i ≤ 65535) (hd : ∀ i, i < n → d i ≤ 65535) :
    Calls Try.prog 9 #[.slice A n c] w (ObjR w n t d) := by
  replace hA := Aside.mk hA
  replace hg := Aside.mk hg
  replace h1 := Aside.mk h1
  replace h2 := Aside.mk h2
  replace ht := Aside.mk ht
  replace hd := Aside.mk hd
  go_enter Try.func9, Try.ntmps9
  go_wp2
  skip
  go_loopw [3, 8] (fun v i wr => ∃ (k : Nat) (xs : List Value), k ≤ n ∧ i = .int .i64 k ∧ Kp w wr ∧ wr.ownsRow w.heap.size 43 4 v k xs ∧ ObjList t d k xs) (fun _ i _ => n - (intOf i).toNat)
  case atStart => exact ⟨0, [], Nat.zero_le _, rfl, Kp.refl _, World.ownsRow_nil _ _ _ _, rfl, fun i hi => absurd hi (by omega)⟩
  case round =>
    obtain ⟨k, xs, hk, rfl, kp, hown, hobj⟩ := hrel
    by_cases hlt : k < n
    · obtain rfl := hA.out (by omega)
      have hg := hg.out (by omega)
      have e1 := (kp.cell (p := ⟨g, o + k * 2, none⟩) hg).trans (h1.out k hlt)
      have e2 := (kp.cell (p := ⟨g, o + k * 2 + 1, none⟩) hg).trans (h2.out k hlt)
      have e3 := ht.out k hlt
      have e4 := hd.out k hlt
      go_wp2
      generalize hW : wr.alloc (Obj.cells #[Value.int IntKind.u16 ↑(t k), Value.int IntKind.u16 ↑(d k)] 45) = W
      have a1 : W.cell? ⟨wr.heap.size, 0, none⟩ = some (.int .u16 (t k)) := by rw [← hW]; simp
      have a2 : W.cell? ⟨wr.heap.size, 1, none⟩ = some (.int .u16 (d k)) := by rw [← hW]; simp
      have a3 : wr.heap.size < W.heap.size := by rw [← hW]; simp
      have kpW : Kp w W := by rw [← hW]; exact kp.alloc _
      have hownW : W.ownsRow w.heap.size 43 4 u3 k xs := by rw [← hW]; exact hown.alloc _
      have szW := kpW.size
      clear hW e1 e2
      have hm1 := make_words .u16 (t k) (by omega) (by omega)
      have hm2 := make_bytes .u16 (d k) (by omega) (by omega)
      simp only [Int.toNat_natCast] at hm1 hm2
      go_region_law ((refine step_push rfl (.tmp 12) (.tmp 20) (.tmp 19) 24 rfl w.heap.size 43 4 96 Try.underlying24 info_object (by decide) u3 k xs ?_ ?_ ?_ ?_ ?_ ?_ ?_ ?_ ?_ ?_ ?_ ?_ ?_); (rfl); (focus repeat (first | assumption | refine World.ownsRow.drew ?_ | refine World.ownsRow.alloc ?_ _)); (rotate_left 2); (rfl); (rfl); (exact heap_new (by simp)); (rfl); (simp [Value.oneCell']); (omega); (omega); (simp; omega); (intro g' cap' w' hown' hgrow' hor' hlt'))
      all_goals
        go_wp2
        go_roundw
        case rel =>
          exact ⟨k + 1, _, by omega, by go_num, Kp.grown (by repeat (first | exact Kp.refl _ | assumption | exact Dr.kp (by assumption) | refine Kp.drewN ?_ _ | refine Kp.drew ?_ | refine Kp.alloc ?_ _ | refine Kp.setCell ?_ (by first | exact Nat.le_refl _ | assumption | omega) _ | refine Kp.trans ?_ (by assumption) | refine Kp.trans ?_ (Dr.kp (by assumption)))) hgrow' (own_ge hownW), hown', obj_snoc hobj rfl⟩
        case measure => simp [intOf]; omega
    · obtain rfl : n = k := by omega
      go_wp2
      go_ret
      exact ⟨_, xs, rfl, kp, hown, hobj⟩
/-- The objects' value, opened. -/
theorem objs_form {w : World} {base n : Nat} {t d : Nat → Nat} {v : Value} {xs : List Value} (h : w.ownsRow base 43 4 v n xs) (ho : ObjList t d n xs) :
    ∃ A g c, v = .slice A n c ∧ (0 < n → A = some ⟨g, 0, none⟩) ∧ (0 < n → g < w.heap.size) ∧ (0 < n → ObjCells w g n t d) := by
  rcases h.2 with ⟨hv, hn⟩ | ⟨g, cap, cur, hv, hb, hg, _⟩
  · exact ⟨none, 0, 0, by rw [hv, hn], fun hn' => absurd hn' (by omega), fun hn' => absurd hn' (by omega), fun hn' => absurd hn' (by omega)⟩
  · refine ⟨some ⟨g, 0, none⟩, g, cap, hv, fun _ => rfl, fun _ => (Array.getElem?_eq_some_iff.1 hg).1, fun _ i hi => ?_⟩
    obtain ⟨a1, c1, a2, c2, q1, q2, q3, q4⟩ := ho.2 i hi
    subst hv
    have hc := fun j hj => h.cellAt (g := g) (cap := cap) j hj
    exact ⟨a1, c1, a2, c2, none, 0, 0, none, 0, 0, by rw [hc _ (by omega)]; exact q1, by rw [hc _ (by omega)]; exact q2, by rw [hc _ (by omega)]; exact q3, by rw [hc _ (by omega)]; exact q4⟩
theorem lay_own {w : World} {base n : Nat} {t d : Nat → Nat} {v : Value} {xs : List Value} (h : w.ownsRow base 43 4 v n xs) (ho : ObjList t d n xs) (hn : n ≤ 1000) (ht : sumTo t n ≤ 281474976710656) (hd : sumTo d n ≤ 281474976710656) :
    Calls Try.prog 10 #[v] w (LayR w n t d) := by
  obtain ⟨A, g, c, rfl, h1, h2, h3⟩ := objs_form h ho
  exact lay_calls A g n c h1 t d w hn h2 h3 ht hd
end Go.Proofs.Ytnaabjopheejbaa
