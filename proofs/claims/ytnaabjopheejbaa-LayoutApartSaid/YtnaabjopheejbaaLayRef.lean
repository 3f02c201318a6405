/- Layout's reference, walked. -/
import Derived.Test.YtnaabjopheejbaaLayO
namespace Go.Proofs.Ytnaabjopheejbaa
open Go.RowKit
set_option linter.unusedVariables false
set_option linter.unusedSimpArgs false
theorem info_rplace : ∃ i z, Try.prog.info? 34 = some i ∧ i.zero = some z ∧ i.size = 2 ∧ i.bytes = 16 ∧ z.cells.size = 2 := ⟨_, _, rfl, rfl, rfl, rfl, rfl⟩
/-- The reference's places. -/
def rcells (t d : Nat → Nat) (n : Nat) : Nat → List Value
  | 0 => []
  | k + 1 => rcells t d n k ++ [.int .i64 ((12 + 4 * sumTo t k : Nat) : Int), .int .i64 ((base t n + sumTo d k : Nat) : Int)]
def RefR (w : World) (n : Nat) (t d : Nat → Nat) (e : Ending) (w' : World) : Prop :=
  Kp w w' ∧ ((2097152 < base t n + sumTo d n ∧ e = .returned (.tuple #[.slice none 0 0, .int .i64 0, .bool false])) ∨
    (base t n + sumTo d n ≤ 2097152 ∧ ∃ v, e = .returned (.tuple #[v, .int .i64 ((base t n + sumTo d n : Nat) : Int), .bool true]) ∧
      w'.ownsRow w.heap.size 34 2 v n (rcells t d n n)))
set_option maxRecDepth 100000 in
set_option maxHeartbeats 1000000 in
theorem ref_calls (A : Option Addr) (g n c : Nat) (hA : 0 < n → A = some ⟨g, 0, none⟩) (t d : Nat → Nat) (w : World) (hn : n ≤ 1000) (hg : 0 < n → g < w.heap.size)
    (h : 0 < n → ObjCells w g n t d)
    (ht : sumTo t n ≤ 281474976710656) (hd : sumTo d n ≤ 281474976710656) :
    Calls Try.prog 11 #[.slice A n c] w (RefR w n t d) := by
  replace hA := Aside.mk hA
  replace hg := Aside.mk hg
  replace h := Aside.mk h
  go_enter Try.func11, Try.ntmps11
  go_wp2
  go_loopw [6, 13] (fun v i wr => ∃ k : Nat, k ≤ n ∧ i = .int .i64 k ∧ v = .int .i64 ((3 + sumTo t k : Nat) : Int) ∧ Kp w wr) (fun _ i _ => n - (intOf i).toNat)
  case atStart => exact ⟨0, Nat.zero_le _, rfl, rfl, Kp.refl _⟩
  case round =>
    obtain ⟨k, hk, rfl, rfl, kp⟩ := hrel
    by_cases hlt : k < n
    · obtain rfl := hA.out (by omega)
      have hg := hg.out (by omega)
      obtain ⟨a1, k1, a2, k2, a3, m3, k3, a4, m4, k4, q1, q2, q3, q4⟩ := h.out (by omega) k hlt
      have e1 := (kp.cell (p := ⟨g, k * 4, none⟩) hg).trans q1
      clear q1 q2 q3 q4
      have b1 : sumTo t k + t k ≤ 281474976710656 := Nat.le_trans (sumTo_mono t (show k + 1 ≤ n by omega)) ht
      go_wp2
      go_roundw
      case rel => exact ⟨k + 1, by omega, by go_num, by simp only [sumTo]; go_num, by repeat (first | exact Kp.refl _ | assumption | exact Dr.kp (by assumption) | refine Kp.drewN ?_ _ | refine Kp.drew ?_ | refine Kp.alloc ?_ _ | refine Kp.setCell ?_ (by first | exact Nat.le_refl _ | assumption | omega) _ | refine Kp.trans ?_ (by assumption) | refine Kp.trans ?_ (Dr.kp (by assumption)))⟩
      case measure => simp [intOf]; omega
    · obtain rfl : n = k := by omega
      have hb : base t n = (12 + 4 * sumTo t n + 7) / 8 * 8 := rfl
      have HB := Aside.mk hb
      clear hb
      go_wp2
      have cast : ((4 * (3 + (sumTo t n : Int)) + 7) / 8 * 8) = ((base t n : Nat) : Int) := by rw [HB.out]; omega
      have hb : base t n ≤ 12 + 4 * sumTo t n + 7 := by rw [HB.out]; omega
      rw [cast]
      clear cast
      generalize hwo : wr = wo
      rw [hwo] at kp
      have kpo := kp
      clear hwo kp
      go_loopw [5, 8, 9, 32] (fun v tx da i wr => ∃ k : Nat, k ≤ n ∧ i = .int .i64 k ∧ tx = .int .i64 ((12 + 4 * sumTo t k : Nat) : Int) ∧ da = .int .i64 ((base t n + sumTo d k : Nat) : Int) ∧ Kp w wr ∧ wr.ownsRow w.heap.size 34 2 v k (rcells t d n k)) (fun _ _ _ i _ => n - (intOf i).toNat)
      case atStart => exact ⟨0, Nat.zero_le _, rfl, rfl, rfl, kpo, World.ownsRow_nil _ _ _ _⟩
      case round =>
        obtain ⟨k, hk, rfl, rfl, rfl, kp, hown⟩ := hrel
        by_cases hlt : k < n
        · obtain rfl := hA.out (by omega)
          have hg := hg.out (by omega)
          obtain ⟨a1, k1, a2, k2, a3, m3, k3, a4, m4, k4, q1, q2, q3, q4⟩ := h.out (by omega) k hlt
          have e1 := (kp.cell (p := ⟨g, k * 4, none⟩) hg).trans q1
          have e2 := (kp.cell (p := ⟨g, k * 4 + 1, none⟩) hg).trans q2
          replace q1 := Aside.mk q1
          replace q2 := Aside.mk q2
          clear q3 q4
          have b1 : sumTo t k + t k ≤ 281474976710656 := Nat.le_trans (sumTo_mono t (show k + 1 ≤ n by omega)) ht
          have b2 : sumTo d k + d k ≤ 281474976710656 := Nat.le_trans (sumTo_mono d (show k + 1 ≤ n by omega)) hd
          have s1 := kp.size
          go_wp2_with ((at_builtin); (refine wpList_push rfl (.tmp 35) (.tmp 39) (.tmp 38) 30 rfl w.heap.size 34 2 16 Try.underlying30 info_rplace (by decide) u5 k (rcells t d n k) ?_ ?_ ?_ ?_ ?_ ?_ ?_ ?_ ?_ ?_ ?_ ?_ ?_); (rfl); (focus repeat (first | assumption | refine World.ownsRow.drew ?_ | refine World.ownsRow.alloc ?_ _)); (rotate_left 2); (rfl); (rfl); (exact heap_new (by simp)); (rfl); (simp [Value.oneCell']); (omega); (omega); (simp; omega); (intro g' cap' w' hown' hgrow' hor' hlt'); (have kpn := Aside.mk (show Kp w w' from Kp.grown (by repeat (first | exact Kp.refl _ | assumption | exact Dr.kp (by assumption) | refine Kp.drewN ?_ _ | refine Kp.drew ?_ | refine Kp.alloc ?_ _ | refine Kp.setCell ?_ (by first | exact Nat.le_refl _ | assumption | omega) _ | refine Kp.trans ?_ (by assumption) | refine Kp.trans ?_ (Dr.kp (by assumption)))) hgrow' (own_ge hown))); (have f1 := (kpn.out.cell (p := ⟨g, k * 4, none⟩) hg).trans q1.out); (have f2 := (kpn.out.cell (p := ⟨g, k * 4 + 1, none⟩) hg).trans q2.out))
          go_roundw
          case rel => ((repeat apply Exists.intro); exact ⟨⟨k + 1, by omega, by go_num, by simp only [sumTo]; go_num, by simp only [sumTo]; go_num, kpn.out, by simp only [rcells]; exact hown'⟩, ⟨rfl, rfl, rfl, rfl, rfl⟩⟩)
          case measure => simp [intOf]; omega
        · obtain rfl : n = k := by omega
          by_cases hlong : 2097152 < base t n + sumTo d n
          · go_wp2
            go_ret3
            exact ⟨kp, Or.inl ⟨hlong, rfl⟩⟩
          · go_wp2
            go_ret3
            exact ⟨kp, Or.inr ⟨by omega, _, rfl, hown⟩⟩
theorem ref_own {w : World} {b n : Nat} {t d : Nat → Nat} {v : Value} {xs : List Value} (h : w.ownsRow b 43 4 v n xs) (ho : ObjList t d n xs) (hn : n ≤ 1000) (ht : sumTo t n ≤ 281474976710656) (hd : sumTo d n ≤ 281474976710656) :
    Calls Try.prog 11 #[v] w (RefR w n t d) := by
  obtain ⟨A, g, c, rfl, h1, h2, h3⟩ := objs_form h ho
  exact ref_calls A g n c h1 t d w hn h2 h3 ht hd
end Go.Proofs.Ytnaabjopheejbaa
