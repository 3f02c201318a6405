/- LayoutAddresses, walked. -/
import Derived.Test.YtnaabjopheejbaaLayM
namespace Go.Proofs.Ytnaabjopheejbaa
open Go.RowKit
set_option linter.unusedVariables false
theorem wof_calls (n : Int) (w : World) : Calls Try.prog 18 #[.int .i64 n] w fun e w' => e = .returned (.int .u32 (n % 4294967296)) ∧ Dr w w' := by
  go_enter Try.func18, Try.ntmps18
  go_wp2
  go_ret
  exact ⟨rfl, Dr.refl _⟩
theorem tmod_pos {n m : Int} (h : 0 ≤ n) : Int.tmod n m = n % m := Int.tmod_eq_emod_of_nonneg h
theorem rOf_calls (n : Int) (h0 : -9223372036854775808 ≤ n) (h1 : n ≤ 9223372036854775807) (w : World) : Calls Try.prog 16 #[.int .i64 n] w fun e w' => e = .returned (.int .u32 (n % 4294967296)) ∧ Dr w w' := by
  have hm : -4294967296 < Int.tmod n 4294967296 ∧ Int.tmod n 4294967296 < 4294967296 ∧ (Int.tmod n 4294967296) % 4294967296 = n % 4294967296 := by
    by_cases h : 0 ≤ n
    · rw [tmod_pos h]; omega
    · have e := Int.neg_tmod (-n) 4294967296
      rw [Int.neg_neg] at e
      rw [e, tmod_pos (n := -n) (by omega)]; omega
  generalize hr : Int.tmod n 4294967296 = r at hm
  obtain ⟨r0, r1, r2⟩ := hm
  have R2 := Aside.mk r2
  clear r2
  by_cases h : r < 0
  all_goals
    go_enter Try.func16, Try.ntmps16
    go_wp2
    go_ret
    refine ⟨?_, Dr.refl _⟩
    have := R2.out
    show Ending.returned (Value.int IntKind.u32 _) = _
    congr 2
    omega
theorem add_calls (a b : Int) (a0 : 0 ≤ a) (a1 : a ≤ 4294967295) (b0 : 0 ≤ b) (b1 : b ≤ 4294967295) (w : World) : Calls Try.prog 17 #[.int .u32 a, .int .u32 b] w fun e w' => e = .returned (.int .u32 ((a + b) % 4294967296)) ∧ Dr w w' := by
  go_enter Try.func17, Try.ntmps17
  go_wp2_with ((go_at_call 16); (refine (rOf_calls _ (by omega) (by omega) _).mono ?_); (rintro e w1 ⟨rfl, hd⟩))
  go_ret
  exact ⟨rfl, by repeat (first | exact Dr.refl _ | assumption | refine Dr.step ?_ _ | refine Dr.trans ?_ (by assumption))⟩
/-- An address. -/
def addrV (pt pd sect n : Int) : Int := if sect = 1 then (pt + 4 * n) % 4294967296 else if sect = 2 then (pd + n) % 4294967296 else 0
theorem address_calls (pt pd sect n : Int) (w : World) : Calls Try.prog 15 #[.agg #[.int .i64 pt, .int .i64 pd], .int .i64 sect, .int .i64 n] w fun e w' => e = .returned (.int .u32 (addrV pt pd sect n)) ∧ Kp w w' := by
  have cases3 : sect = 1 ∨ sect = 2 ∨ (sect ≠ 1 ∧ sect ≠ 2) := by omega
  rcases cases3 with rfl | rfl | ⟨h1, h2⟩
  · go_enter Try.func15, Try.ntmps15
    go_wp2_with ((go_at_call 18); (refine (wof_calls _ _).mono ?_); (rintro e w1 ⟨rfl, hd⟩))
    go_ret
    refine ⟨?_, by repeat (first | exact Kp.refl _ | assumption | exact Dr.kp (by assumption) | refine Kp.drewN ?_ _ | refine Kp.drew ?_ | refine Kp.alloc ?_ _ | refine Kp.setCell ?_ (by first | exact Nat.le_refl _ | assumption | omega) _ | refine Kp.trans ?_ (by assumption) | refine Kp.trans ?_ (Dr.kp (by assumption)))⟩
    show Ending.returned (Value.int IntKind.u32 _) = _
    congr 2
    simp only [addrV]
    simp
    omega
  · go_enter Try.func15, Try.ntmps15
    go_wp2_with ((go_at_call 18); (refine (wof_calls _ _).mono ?_); (rintro e w1 ⟨rfl, hd⟩))
    go_ret
    refine ⟨?_, by repeat (first | exact Kp.refl _ | assumption | exact Dr.kp (by assumption) | refine Kp.drewN ?_ _ | refine Kp.drew ?_ | refine Kp.alloc ?_ _ | refine Kp.setCell ?_ (by first | exact Nat.le_refl _ | assumption | omega) _ | refine Kp.trans ?_ (by assumption) | refine Kp.trans ?_ (Dr.kp (by assumption)))⟩
    show Ending.returned (Value.int IntKind.u32 _) = _
    congr 2
    simp only [addrV]
    simp
  · have g1 : (sect == 1) = false := beq_eq_false_iff_ne.2 h1
    have g2 : (sect == 2) = false := beq_eq_false_iff_ne.2 h2
    go_enter Try.func15, Try.ntmps15
    go_wp2_with ((go_at_call 18); (refine (wof_calls _ _).mono ?_); (rintro e w1 ⟨rfl, hd⟩))
    go_ret
    exact ⟨by simp [addrV, h1, h2], by repeat (first | exact Kp.refl _ | assumption | exact Dr.kp (by assumption) | refine Kp.drewN ?_ _ | refine Kp.drew ?_ | refine Kp.alloc ?_ _ | refine Kp.setCell ?_ (by first | exact Nat.le_refl _ | assumption | omega) _ | refine Kp.trans ?_ (by assumption) | refine Kp.trans ?_ (Dr.kp (by assumption)))⟩
theorem Address_calls (pt pd : Int) (nm : ByteArray) (sect n fr : Int) (gl : Bool) (w : World) : Calls Try.prog 12 #[.agg #[.int .i64 pt, .int .i64 pd], .agg #[.string nm, .int .i64 sect, .int .i64 n, .int .i64 fr, .bool gl]] w fun e w' => e = .returned (.int .u32 (addrV pt pd sect n)) ∧ Kp w w' := by
  go_enter Try.func12, Try.ntmps12
  go_wp2_with ((go_at_call 15); (refine (address_calls _ _ _ _ _).mono ?_); (rintro e w1 ⟨rfl, hk⟩))
  go_ret
  exact ⟨rfl, by repeat (first | exact Kp.refl _ | assumption | exact Dr.kp (by assumption) | refine Kp.drewN ?_ _ | refine Kp.drew ?_ | refine Kp.alloc ?_ _ | refine Kp.setCell ?_ (by first | exact Nat.le_refl _ | assumption | omega) _ | refine Kp.trans ?_ (by assumption) | refine Kp.trans ?_ (Dr.kp (by assumption)))⟩
theorem Where_calls (pt pd : Int) (sect n k1 k2 k3 : Int) (w : World) : Calls Try.prog 14 #[.agg #[.int .i64 pt, .int .i64 pd], .agg #[.int .i64 sect, .int .i64 n, .int .i64 k1, .int .i64 k2, .int .i64 k3]] w fun e w' => e = .returned (.int .u32 (addrV pt pd sect n)) ∧ Kp w w' := by
  go_enter Try.func14, Try.ntmps14
  go_wp2_with ((go_at_call 15); (refine (address_calls _ _ _ _ _).mono ?_); (rintro e w1 ⟨rfl, hk⟩))
  go_ret
  exact ⟨rfl, by repeat (first | exact Kp.refl _ | assumption | exact Dr.kp (by assumption) | refine Kp.drewN ?_ _ | refine Kp.drew ?_ | refine Kp.alloc ?_ _ | refine Kp.setCell ?_ (by first | exact Nat.le_refl _ | assumption | omega) _ | refine Kp.trans ?_ (by assumption) | refine Kp.trans ?_ (Dr.kp (by assumption)))⟩
theorem At_calls (pt pd sect n : Int) (p0 : -9223372036854775808 ≤ pt) (p1 : pt ≤ 9223372036854775807) (q0 : -9223372036854775808 ≤ pd) (q1 : pd ≤ 9223372036854775807) (n0 : -9223372036854775808 ≤ n) (n1 : n ≤ 9223372036854775807) (w : World) :
    Calls Try.prog 13 #[.agg #[.int .i64 pt, .int .i64 pd], .int .i64 sect, .int .i64 n] w fun e w' => e = .returned (.int .u32 (addrV pt pd sect n)) ∧ Kp w w' := by
  have cases3 : sect = 1 ∨ sect = 2 ∨ (sect ≠ 1 ∧ sect ≠ 2) := by omega
  rcases cases3 with rfl | rfl | ⟨h1, h2⟩
  · go_enter Try.func13, Try.ntmps13
    go_wp2_with (first | ((go_at_call 16); (refine (rOf_calls _ (by omega) (by omega) _).mono ?_); (rintro e w1 ⟨rfl, hd⟩); (have c0 : w1.cell? ⟨w.heap.size, 0, none⟩ = some (.int .i64 pt) := by rw [hd.cell]; first | assumption | simp); (have c1 : w1.cell? ⟨w.heap.size, 1, none⟩ = some (.int .i64 pd) := by rw [hd.cell]; first | assumption | simp)) | ((go_at_call 17); (refine (add_calls _ _ (by omega) (by omega) (by omega) (by omega) _).mono ?_); (rintro e w1 ⟨rfl, hd⟩); (have c0 : w1.cell? ⟨w.heap.size, 0, none⟩ = some (.int .i64 pt) := by rw [hd.cell]; first | assumption | simp); (have c1 : w1.cell? ⟨w.heap.size, 1, none⟩ = some (.int .i64 pd) := by rw [hd.cell]; first | assumption | simp)))
    go_ret
    refine ⟨?_, by repeat (first | exact Kp.refl _ | assumption | exact Dr.kp (by assumption) | refine Kp.drewN ?_ _ | refine Kp.drew ?_ | refine Kp.alloc ?_ _ | refine Kp.setCell ?_ (by first | exact Nat.le_refl _ | assumption | omega) _ | refine Kp.trans ?_ (by assumption) | refine Kp.trans ?_ (Dr.kp (by assumption)))⟩
    show Ending.returned (Value.int IntKind.u32 _) = _
    first | rfl | (congr 2; done) | (congr 2; simp only [addrV]; first | (simp; done) | (simp; omega))
  · go_enter Try.func13, Try.ntmps13
    go_wp2_with (first | ((go_at_call 16); (refine (rOf_calls _ (by omega) (by omega) _).mono ?_); (rintro e w1 ⟨rfl, hd⟩); (have c0 : w1.cell? ⟨w.heap.size, 0, none⟩ = some (.int .i64 pt) := by rw [hd.cell]; first | assumption | simp); (have c1 : w1.cell? ⟨w.heap.size, 1, none⟩ = some (.int .i64 pd) := by rw [hd.cell]; first | assumption | simp)) | ((go_at_call 17); (refine (add_calls _ _ (by omega) (by omega) (by omega) (by omega) _).mono ?_); (rintro e w1 ⟨rfl, hd⟩); (have c0 : w1.cell? ⟨w.heap.size, 0, none⟩ = some (.int .i64 pt) := by rw [hd.cell]; first | assumption | simp); (have c1 : w1.cell? ⟨w.heap.size, 1, none⟩ = some (.int .i64 pd) := by rw [hd.cell]; first | assumption | simp)))
    go_ret
    refine ⟨?_, by repeat (first | exact Kp.refl _ | assumption | exact Dr.kp (by assumption) | refine Kp.drewN ?_ _ | refine Kp.drew ?_ | refine Kp.alloc ?_ _ | refine Kp.setCell ?_ (by first | exact Nat.le_refl _ | assumption | omega) _ | refine Kp.trans ?_ (by assumption) | refine Kp.trans ?_ (Dr.kp (by assumption)))⟩
    show Ending.returned (Value.int IntKind.u32 _) = _
    first | rfl | (congr 2; done) | (congr 2; simp only [addrV]; first | (simp; done) | (simp; omega))
  · have g1 : (sect == 1) = false := beq_eq_false_iff_ne.2 h1
    have g2 : (sect == 2) = false := beq_eq_false_iff_ne.2 h2
    go_enter Try.func13, Try.ntmps13
    go_wp2_with (first | ((go_at_call 16); (refine (rOf_calls _ (by omega) (by omega) _).mono ?_); (rintro e w1 ⟨rfl, hd⟩)) | ((go_at_call 17); (refine (add_calls _ _ (by omega) (by omega) (by omega) (by omega) _).mono ?_); (rintro e w1 ⟨rfl, hd⟩)))
    go_ret
    exact ⟨by simp [addrV, h1, h2], by repeat (first | exact Kp.refl _ | assumption | exact Dr.kp (by assumption) | refine Kp.drewN ?_ _ | refine Kp.drew ?_ | refine Kp.alloc ?_ _ | refine Kp.setCell ?_ (by first | exact Nat.le_refl _ | assumption | omega) _ | refine Kp.trans ?_ (by assumption) | refine Kp.trans ?_ (Dr.kp (by assumption)))⟩
theorem cells_kept {W w1 : World} {B : Nat} {pt pd s1 s2 s3 r1 r2 r3 r4 r5 : Int} {nm : ByteArray} {gl : Bool} (hk : Kp W w1) (h : W.cell? ⟨B, 0, none⟩ = some (.int .i64 pt) ∧ W.cell? ⟨B, 1, none⟩ = some (.int .i64 pd) ∧ W.cell? ⟨B + 1, 0, none⟩ = some (.string nm) ∧ W.cell? ⟨B + 1, 1, none⟩ = some (.int .i64 s1) ∧ W.cell? ⟨B + 1, 2, none⟩ = some (.int .i64 s2) ∧ W.cell? ⟨B + 1, 3, none⟩ = some (.int .i64 s3) ∧ W.cell? ⟨B + 1, 4, none⟩ = some (.bool gl) ∧ W.cell? ⟨B + 1 + 1, 0, none⟩ = some (.int .i64 r1) ∧ W.cell? ⟨B + 1 + 1, 1, none⟩ = some (.int .i64 r2) ∧ W.cell? ⟨B + 1 + 1, 2, none⟩ = some (.int .i64 r3) ∧ W.cell? ⟨B + 1 + 1, 3, none⟩ = some (.int .i64 r4) ∧ W.cell? ⟨B + 1 + 1, 4, none⟩ = some (.int .i64 r5)) : w1.cell? ⟨B, 0, none⟩ = some (.int .i64 pt) ∧ w1.cell? ⟨B, 1, none⟩ = some (.int .i64 pd) ∧ w1.cell? ⟨B + 1, 0, none⟩ = some (.string nm) ∧ w1.cell? ⟨B + 1, 1, none⟩ = some (.int .i64 s1) ∧ w1.cell? ⟨B + 1, 2, none⟩ = some (.int .i64 s2) ∧ w1.cell? ⟨B + 1, 3, none⟩ = some (.int .i64 s3) ∧ w1.cell? ⟨B + 1, 4, none⟩ = some (.bool gl) ∧ w1.cell? ⟨B + 1 + 1, 0, none⟩ = some (.int .i64 r1) ∧ w1.cell? ⟨B + 1 + 1, 1, none⟩ = some (.int .i64 r2) ∧ w1.cell? ⟨B + 1 + 1, 2, none⟩ = some (.int .i64 r3) ∧ w1.cell? ⟨B + 1 + 1, 3, none⟩ = some (.int .i64 r4) ∧ w1.cell? ⟨B + 1 + 1, 4, none⟩ = some (.int .i64 r5) := by
  obtain ⟨h1, h2, h3, h4, h5, h6, h7, h8, h9, h10, h11, h12⟩ := h
  have key : ∀ {b o : Nat} {v : Value}, W.cell? ⟨b, o, none⟩ = some v → w1.cell? ⟨b, o, none⟩ = some v := by
    intro b o v hv
    obtain ⟨b', o', e, hlt⟩ := cell_some hv
    have : b = b' := by injection e
    subst this
    exact (hk.cell hlt).trans hv
  exact ⟨key h1, key h2, key h3, key h4, key h5, key h6, key h7, key h8, key h9, key h10, key h11, key h12⟩
set_option maxRecDepth 100000 in
set_option maxHeartbeats 1000000 in
theorem addresses_any (pt pd : Int) (nm : ByteArray) (s1 s2 s3 : Int) (gl : Bool) (r1 r2 r3 r4 r5 : Int) (p0 : -9223372036854775808 ≤ pt) (p1 : pt ≤ 9223372036854775807) (q0 : -9223372036854775808 ≤ pd) (q1 : pd ≤ 9223372036854775807)
    (n0 : -9223372036854775808 ≤ s2) (n1 : s2 ≤ 9223372036854775807) (m0 : -9223372036854775808 ≤ r2) (m1 : r2 ≤ 9223372036854775807) (w : World) :
    Calls Try.prog 7 #[.agg #[.int .i64 pt, .int .i64 pd], .agg #[.string nm, .int .i64 s1, .int .i64 s2, .int .i64 s3, .bool gl], .agg #[.int .i64 r1, .int .i64 r2, .int .i64 r3, .int .i64 r4, .int .i64 r5]] w
      fun e w' => e = .returned (.bool true) ∧ Kp w w' := by
  go_enter Try.func7, Try.ntmps7
  go_wp2_with fail
  generalize hW : ((w.alloc (Obj.cells #[Value.int IntKind.i64 pt, Value.int IntKind.i64 pd] 35)).alloc (Obj.cells #[Value.string nm, Value.int IntKind.i64 s1, Value.int IntKind.i64 s2, Value.int IntKind.i64 s3, Value.bool gl] 48)).alloc (Obj.cells #[Value.int IntKind.i64 r1, Value.int IntKind.i64 r2, Value.int IntKind.i64 r3, Value.int IntKind.i64 r4, Value.int IntKind.i64 r5] 50) = W
  have kpW : Kp w W := by rw [← hW]; exact by repeat (first | exact Kp.refl _ | assumption | exact Dr.kp (by assumption) | refine Kp.drewN ?_ _ | refine Kp.drew ?_ | refine Kp.alloc ?_ _ | refine Kp.setCell ?_ (by first | exact Nat.le_refl _ | assumption | omega) _ | refine Kp.trans ?_ (by assumption) | refine Kp.trans ?_ (Dr.kp (by assumption)))
  have S0 : W.cell? ⟨w.heap.size, 0, none⟩ = some (.int .i64 pt) ∧ W.cell? ⟨w.heap.size, 1, none⟩ = some (.int .i64 pd) ∧ W.cell? ⟨w.heap.size + 1, 0, none⟩ = some (.string nm) ∧ W.cell? ⟨w.heap.size + 1, 1, none⟩ = some (.int .i64 s1) ∧ W.cell? ⟨w.heap.size + 1, 2, none⟩ = some (.int .i64 s2) ∧ W.cell? ⟨w.heap.size + 1, 3, none⟩ = some (.int .i64 s3) ∧ W.cell? ⟨w.heap.size + 1, 4, none⟩ = some (.bool gl) ∧ W.cell? ⟨w.heap.size + 1 + 1, 0, none⟩ = some (.int .i64 r1) ∧ W.cell? ⟨w.heap.size + 1 + 1, 1, none⟩ = some (.int .i64 r2) ∧ W.cell? ⟨w.heap.size + 1 + 1, 2, none⟩ = some (.int .i64 r3) ∧ W.cell? ⟨w.heap.size + 1 + 1, 3, none⟩ = some (.int .i64 r4) ∧ W.cell? ⟨w.heap.size + 1 + 1, 4, none⟩ = some (.int .i64 r5) := by
    rw [← hW]
    refine ⟨?_, ?_, ?_, ?_, ?_, ?_, ?_, ?_, ?_, ?_, ?_, ?_⟩
    · rw [cell_kept _ _ (by simp only [World.size_alloc]; omega), cell_kept _ _ (by simp only [World.size_alloc]; omega), cell_new]; rfl
    · rw [cell_kept _ _ (by simp only [World.size_alloc]; omega), cell_kept _ _ (by simp only [World.size_alloc]; omega), cell_new]; rfl
    · rw [cell_kept _ _ (by simp only [World.size_alloc]; omega), cell_new' _ _ _ _ _ (by simp)]; rfl
    · rw [cell_kept _ _ (by simp only [World.size_alloc]; omega), cell_new' _ _ _ _ _ (by simp)]; rfl
    · rw [cell_kept _ _ (by simp only [World.size_alloc]; omega), cell_new' _ _ _ _ _ (by simp)]; rfl
    · rw [cell_kept _ _ (by simp only [World.size_alloc]; omega), cell_new' _ _ _ _ _ (by simp)]; rfl
    · rw [cell_kept _ _ (by simp only [World.size_alloc]; omega), cell_new' _ _ _ _ _ (by simp)]; rfl
    · rw [cell_new' _ _ _ _ _ (by simp)]; rfl
    · rw [cell_new' _ _ _ _ _ (by simp)]; rfl
    · rw [cell_new' _ _ _ _ _ (by simp)]; rfl
    · rw [cell_new' _ _ _ _ _ (by simp)]; rfl
    · rw [cell_new' _ _ _ _ _ (by simp)]; rfl
  clear hW
  obtain ⟨c1, c2, c3, c4, c5, c6, c7, c8, c9, c10, c11, c12⟩ := S0
  go_region_held3 (fun w' => w'.cell? ⟨w.heap.size, 0, none⟩ = some (.int .i64 pt) ∧ w'.cell? ⟨w.heap.size, 1, none⟩ = some (.int .i64 pd) ∧ w'.cell? ⟨w.heap.size + 1, 0, none⟩ = some (.string nm) ∧ w'.cell? ⟨w.heap.size + 1, 1, none⟩ = some (.int .i64 s1) ∧ w'.cell? ⟨w.heap.size + 1, 2, none⟩ = some (.int .i64 s2) ∧ w'.cell? ⟨w.heap.size + 1, 3, none⟩ = some (.int .i64 s3) ∧ w'.cell? ⟨w.heap.size + 1, 4, none⟩ = some (.bool gl) ∧ w'.cell? ⟨w.heap.size + 1 + 1, 0, none⟩ = some (.int .i64 r1) ∧ w'.cell? ⟨w.heap.size + 1 + 1, 1, none⟩ = some (.int .i64 r2) ∧ w'.cell? ⟨w.heap.size + 1 + 1, 2, none⟩ = some (.int .i64 r3) ∧ w'.cell? ⟨w.heap.size + 1 + 1, 3, none⟩ = some (.int .i64 r4) ∧ w'.cell? ⟨w.heap.size + 1 + 1, 4, none⟩ = some (.int .i64 r5)) ((first | (simp; done) | (refine cells_kept hk ?_; simp [*]; done) | (simp [*]; done)))
    (first | ((go_at_call 8); (refine (awake07_calls _).mono ?_); (rintro e w1 ⟨rfl, hk⟩)) | ((go_at_call 12); (refine (Address_calls _ _ _ _ _ _ _ _).mono ?_); (rintro e w1 ⟨rfl, hk⟩)) | ((go_at_call 14); (refine (Where_calls _ _ _ _ _ _ _ _).mono ?_); (rintro e w1 ⟨rfl, hk⟩)) | ((go_at_call 13); (refine (At_calls _ _ _ _ (by assumption) (by assumption) (by assumption) (by assumption) (by assumption) (by assumption) _).mono ?_); (rintro e w1 ⟨rfl, hk⟩)))
  all_goals
    go_wp2
    go_ret
    exact ⟨rfl, by repeat (first | exact Kp.refl _ | assumption | exact Dr.kp (by assumption) | refine Kp.drewN ?_ _ | refine Kp.drew ?_ | refine Kp.alloc ?_ _ | refine Kp.setCell ?_ (by first | exact Nat.le_refl _ | assumption | omega) _ | refine Kp.trans ?_ (by assumption) | refine Kp.trans ?_ (Dr.kp (by assumption)))⟩
end Go.Proofs.Ytnaabjopheejbaa
