/- Layout's walks. · Places of objects and addresses, walked. Condition: the objects lie in memory. -/
import Derived.Test.YtnbooljaodkedaaProg
import Derived.Test.YtnbooljaodkedaaReg
import Derived.Test.YtnbooljaodkedaaPlainMach
import Derived.Test.YtnbooljaodkedaaMachE
namespace Go.Proofs.Ytnbooljaodkedaa
open Go.RowKit
set_option linter.unusedVariables false
set_option linter.unusedSimpArgs false
set_option maxRecDepth 100000 in
theorem info_place : ∃ i, Try.prog.info? 98 = some i ∧ i.zero = some (.agg #[.int .i64 0, .int .i64 0]) ∧ i.size = 2 ∧ i.bytes = 16 := ⟨_, rfl, rfl, rfl, rfl⟩
theorem make_places (n : Nat) (hn : n ≤ 1000000) (w : World) : (Instr.makeSlice 68 (.int .i64 (n : Int)) (.int .i64 (n : Int))).run Try.prog w = .ok (.slice (some ⟨w.heap.size, 0, none⟩) n n) (w.alloc (.cells (madeCells #[.int .i64 0, .int .i64 0] (n * 2)) 98)) := by
  obtain ⟨i, hi, hz, hs, hb⟩ := info_place
  have h := run_make (P := Try.prog) w 68 98 i _ Try.underlying68 hi hz .i64 .i64 n n (by omega) (Int.le_refl _) (by rw [hb]; omega) (by omega)
  simp only [Int.toNat_natCast, hs] at h
  exact h
/-- What the places' block holds behind k rounds of the first loop. -/
def lay1 (t : Nat → Nat) (k j : Nat) : Value := if j % 2 = 0 ∧ j / 2 < k then .int .i64 ((12 + 4 * sumTo t (j / 2) : Nat) : Int) else .int .i64 0
theorem lay1_zero (t : Nat → Nat) : lay1 t 0 = fun _ => .int .i64 0 := by funext j; simp [lay1]
theorem lay1_set (t : Nat → Nat) (k : Nat) : (fun j => if j = k * 2 then Value.int .i64 ((12 + 4 * sumTo t k : Nat) : Int) else lay1 t k j) = lay1 t (k + 1) := by
  funext j
  unfold lay1
  by_cases e : j = k * 2
  · subst e
    rw [if_pos rfl, if_pos ⟨by omega, by omega⟩, show k * 2 / 2 = k by omega]
  · rw [if_neg e]
    by_cases c : j % 2 = 0 ∧ j / 2 < k
    · rw [if_pos c, if_pos ⟨c.1, by omega⟩]
    · rw [if_neg c, if_neg (by omega)]
theorem made_two (w : World) (n : Nat) (ty : TypeId) : (w.alloc (.cells (madeCells #[.int .i64 0, .int .i64 0] (n * 2)) ty)).rowIs w.heap.size ty (n * 2) (fun _ => .int .i64 0) := by
  have h := World.rowIs_alloc w (madeCells #[.int .i64 0, .int .i64 0] (n * 2)) ty (fun _ => .int .i64 0) (fun i hi => by
    rw [size_madeCells] at hi
    simp only [madeCells, Array.getElem?_map, Array.getElem?_range, hi, if_true, Option.map_some]
    congr 1
    rcases Nat.mod_two_eq_zero_or_one i with e | e <;> simp [e])
  rwa [size_madeCells] at h
/-- Where the data begin. -/
def base (t : Nat → Nat) (n : Nat) : Nat := (12 + 4 * sumTo t n + 7) / 8 * 8
/-- What the places' block holds behind k rounds of the second loop. -/
def lay2 (t d : Nat → Nat) (n k j : Nat) : Value := if j % 2 = 1 ∧ j / 2 < k then .int .i64 ((base t n + sumTo d (j / 2) : Nat) : Int) else lay1 t n j
theorem lay2_zero (t d : Nat → Nat) (n : Nat) : lay2 t d n 0 = lay1 t n := by funext j; simp [lay2]
theorem lay2_set (t d : Nat → Nat) (n k : Nat) : (fun j => if j = k * 2 + 1 then Value.int .i64 ((base t n + sumTo d k : Nat) : Int) else lay2 t d n k j) = lay2 t d n (k + 1) := by
  funext j
  unfold lay2
  by_cases e : j = k * 2 + 1
  · subst e
    rw [if_pos rfl, if_pos ⟨by omega, by omega⟩, show (k * 2 + 1) / 2 = k by omega]
  · rw [if_neg e]
    by_cases c : j % 2 = 1 ∧ j / 2 < k
    · rw [if_pos c, if_pos ⟨c.1, by omega⟩]
    · rw [if_neg c, if_neg (by omega)]
/-- A block's cells are those of n objects, with so many words and bytes. -/
def ObjCells (w : World) (g n : Nat) (t d : Nat → Nat) : Prop :=
  ∀ i, i < n → ∃ a1 c1 a2 c2 a3 m3 c3 a4 m4 c4, w.cell? ⟨g, i * 4, none⟩ = some (.slice a1 (t i) c1) ∧ w.cell? ⟨g, i * 4 + 1, none⟩ = some (.slice a2 (d i) c2) ∧ w.cell? ⟨g, i * 4 + 2, none⟩ = some (.slice a3 m3 c3) ∧ w.cell? ⟨g, i * 4 + 3, none⟩ = some (.slice a4 m4 c4)
/-- What Layout comes to. -/
def LayR (w : World) (n : Nat) (t d : Nat → Nat) (e : Ending) (w' : World) : Prop :=
  Kp w w' ∧ ((2097152 < base t n + sumTo d n ∧ e = .returned (.tuple #[.slice none 0 0, .int .i64 0, .int .i64 6])) ∨
    (base t n + sumTo d n ≤ 2097152 ∧ e = .returned (.tuple #[.slice (some ⟨w.heap.size, 0, none⟩) n n, .int .i64 ((base t n + sumTo d n : Nat) : Int), .int .i64 0]) ∧
      w'.rowIs w.heap.size 98 (n * 2) (lay2 t d n n)))
set_option maxRecDepth 100000 in
set_option maxHeartbeats 1000000 in
theorem lay_calls (A : Option Addr) (g n c : Nat) (hA : 0 < n → A = some ⟨g, 0, none⟩) (t d : Nat → Nat) (w : World) (hn : n ≤ 1000) (hg : 0 < n → g < w.heap.size)
    (h : 0 < n → ObjCells w g n t d)
    (ht : sumTo t n ≤ 281474976710656) (hd : sumTo d n ≤ 281474976710656) :
    Calls Try.prog 19 #[.slice A n c] w (LayR w n t d) := by
  have hmk := make_places n (by omega)
  replace hA := Aside.mk hA
  replace hg := Aside.mk hg
  replace h := Aside.mk h
  go_enter Try.func19, Try.ntmps19
  go_wp2
  go_loopw [6, 16] (fun at' i wr => ∃ k : Nat, k ≤ n ∧ i = .int .i64 k ∧ at' = .int .i64 ((12 + 4 * sumTo t k : Nat) : Int) ∧ Kp w wr ∧ wr.rowIs w.heap.size 98 (n * 2) (lay1 t k)) (fun _ i _ => n - (intOf i).toNat)
  case atStart => exact ⟨0, Nat.zero_le _, rfl, rfl, by repeat (first | exact Kp.refl _ | assumption | exact Dr.kp (by assumption) | refine Kp.drewN ?_ _ | refine Kp.drew ?_ | refine Kp.alloc ?_ _ | refine Kp.setCell ?_ (by first | exact Nat.le_refl _ | assumption | omega) _ | refine Kp.trans ?_ (by assumption) | refine Kp.trans ?_ (Dr.kp (by assumption))), by rw [lay1_zero]; exact made_two w n _⟩
  case round =>
    obtain ⟨k, hk, rfl, rfl, kp, hrow⟩ := hrel
    by_cases hlt : k < n
    · obtain rfl := hA.out (by omega)
      have hg := hg.out (by omega)
      obtain ⟨a1, k1, a2, k2, a3, m3, k3, a4, m4, k4, q1, q2, q3, q4⟩ := h.out (by omega) k hlt
      have e1 := (kp.cell (p := ⟨g, k * 4, none⟩) hg).trans q1
      have e2 := (kp.cell (p := ⟨g, k * 4 + 1, none⟩) hg).trans q2
      have e3 := (kp.cell (p := ⟨g, k * 4 + 2, none⟩) hg).trans q3
      have e4 := (kp.cell (p := ⟨g, k * 4 + 3, none⟩) hg).trans q4
      clear q1 q2 q3 q4
      have e5 := hrow.cell (i := k * 2) (by omega)
      have e6 := hrow.frozen (k * 2)
      have e7 := hrow.lt
      have b1 : sumTo t k + t k ≤ 281474976710656 := Nat.le_trans (sumTo_mono t (show k + 1 ≤ n by omega)) ht
      go_wp2
      go_roundw
      case rel =>
        refine ⟨k + 1, by omega, by go_num, ?_, by repeat (first | exact Kp.refl _ | assumption | exact Dr.kp (by assumption) | refine Kp.drewN ?_ _ | refine Kp.drew ?_ | refine Kp.alloc ?_ _ | refine Kp.setCell ?_ (by first | exact Nat.le_refl _ | assumption | omega) _ | refine Kp.trans ?_ (by assumption) | refine Kp.trans ?_ (Dr.kp (by assumption))), ?_⟩
        · simp only [sumTo]; go_num
        · rw [← lay1_set]
          exact ((hrow.set (k * 2) _).alloc _).congr (fun i _ => by split <;> simp)
      case measure => simp [intOf]; omega
    · obtain rfl : n = k := by omega
      have ha : Go.bits .andNot .i64 (12 + 4 * (sumTo t n : Int) + 7) 7 = ((base t n : Nat) : Int) := by
        have h := andnot7 (12 + 4 * sumTo t n + 7) (by omega)
        rw [base, ← h]
        congr 1
      have hb : base t n ≤ 12 + 4 * sumTo t n + 7 := by unfold base; omega
      go_wp2
      obtain ⟨wo, hwo⟩ : ∃ wo : World, wo = wr := ⟨_, rfl⟩
      have kpo := kp
      rw [← hwo] at kpo ⊢
      replace hrow := hrow
      rw [← hwo] at hrow
      clear hwo kp
      go_loopw [6, 38] (fun at' i wr => ∃ k : Nat, k ≤ n ∧ i = .int .i64 k ∧ at' = .int .i64 ((base t n + sumTo d k : Nat) : Int) ∧ Kp w wr ∧ wr.rowIs w.heap.size 98 (n * 2) (lay2 t d n k)) (fun _ i _ => n - (intOf i).toNat)
      case atStart => exact ⟨0, Nat.zero_le _, rfl, rfl, kpo, by rw [lay2_zero]; exact hrow⟩
      case round =>
        obtain ⟨k, hk, rfl, rfl, kp, hrow⟩ := hrel
        by_cases hlt : k < n
        · obtain rfl := hA.out (by omega)
          have hg := hg.out (by omega)
          obtain ⟨a1, k1, a2, k2, a3, m3, k3, a4, m4, k4, q1, q2, q3, q4⟩ := h.out (by omega) k hlt
          have e1 := (kp.cell (p := ⟨g, k * 4, none⟩) hg).trans q1
          have e2 := (kp.cell (p := ⟨g, k * 4 + 1, none⟩) hg).trans q2
          have e3 := (kp.cell (p := ⟨g, k * 4 + 2, none⟩) hg).trans q3
          have e4 := (kp.cell (p := ⟨g, k * 4 + 3, none⟩) hg).trans q4
          clear q1 q2 q3 q4
          have e5 := hrow.cell (i := k * 2 + 1) (by omega)
          have e6 := hrow.frozen (k * 2 + 1)
          have e7 := hrow.lt
          have b1 : sumTo d k + d k ≤ 281474976710656 := Nat.le_trans (sumTo_mono d (show k + 1 ≤ n by omega)) hd
          go_wp2
          go_roundw
          case rel =>
            refine ⟨k + 1, by omega, by go_num, ?_, by repeat (first | exact Kp.refl _ | assumption | exact Dr.kp (by assumption) | refine Kp.drewN ?_ _ | refine Kp.drew ?_ | refine Kp.alloc ?_ _ | refine Kp.setCell ?_ (by first | exact Nat.le_refl _ | assumption | omega) _ | refine Kp.trans ?_ (by assumption) | refine Kp.trans ?_ (Dr.kp (by assumption))), ?_⟩
            · simp only [sumTo]; go_num
            · rw [← lay2_set]
              exact ((hrow.set (k * 2 + 1) _).alloc _).congr (fun i _ => by split <;> simp)
          case measure => simp [intOf]; omega
        · obtain rfl : n = k := by omega
          by_cases hlong : 2097152 < base t n + sumTo d n
          · go_wp2
            go_ret3
            exact ⟨kp, Or.inl ⟨hlong, rfl⟩⟩
          · go_wp2
            go_ret3
            exact ⟨kp, Or.inr ⟨by omega, rfl, hrow⟩⟩
theorem lay_long {w : World} {n : Nat} {t d : Nat → Nat} {e : Ending} {w' : World} (h : LayR w n t d e w') (hl : 2097152 < base t n + sumTo d n) : e = .returned (.tuple #[.slice none 0 0, .int .i64 0, .int .i64 6]) ∧ Kp w w' := by
  obtain ⟨kp, ⟨_, he⟩ | ⟨hs, _⟩⟩ := h
  · exact ⟨he, kp⟩
  · omega
theorem lay_short {w : World} {n : Nat} {t d : Nat → Nat} {e : Ending} {w' : World} (h : LayR w n t d e w') (hl : base t n + sumTo d n ≤ 2097152) :
    e = .returned (.tuple #[.slice (some ⟨w.heap.size, 0, none⟩) n n, .int .i64 ((base t n + sumTo d n : Nat) : Int), .int .i64 0]) ∧ Kp w w' ∧ w'.rowIs w.heap.size 98 (n * 2) (lay2 t d n n) := by
  obtain ⟨kp, ⟨hs, he⟩ | ⟨_, he, hr⟩⟩ := h
  · omega
  · exact ⟨he, kp, hr⟩
end Go.Proofs.Ytnbooljaodkedaa
namespace Go.Proofs.Ytnbooljaodkedaa
open Go.RowKit Go.Proofs.Ytnbooljaodkedaa.PW
set_option linter.unusedVariables false
set_option linter.unusedSimpArgs false
/-- An address. -/
def addrV (pt pd sect n : Int) : Int := if sect = 1 then (pt + 4 * n) % 4294967296 else if sect = 2 then (pd + n) % 4294967296 else 0
theorem address_calls (pt pd sect n : Int) (w : World) : Calls Try.prog 56 #[.agg #[.int .i64 pt, .int .i64 pd], .int .i64 sect, .int .i64 n] w fun e w' => e = .returned (.int .u32 (addrV pt pd sect n)) ∧ Kp w w' := by
  have cases3 : sect = 1 ∨ sect = 2 ∨ (sect ≠ 1 ∧ sect ≠ 2) := by omega
  rcases cases3 with rfl | rfl | ⟨h1, h2⟩
  · go_enter Try.func56, Try.ntmps56
    go_wp2_with ((go_at_call 59); (refine (wof_calls _ _).mono ?_); (rintro e w1 ⟨rfl, hd⟩))
    go_ret
    refine ⟨?_, by repeat (first | exact Kp.refl _ | assumption | exact Dr.kp (by assumption) | refine Kp.drewN ?_ _ | refine Kp.drew ?_ | refine Kp.alloc ?_ _ | refine Kp.setCell ?_ (by first | exact Nat.le_refl _ | assumption | omega) _ | refine Kp.trans ?_ (by assumption) | refine Kp.trans ?_ (Dr.kp (by assumption)))⟩
    show Ending.returned (Value.int IntKind.u32 _) = _
    congr 2
    simp only [addrV]
    simp
    omega
  · go_enter Try.func56, Try.ntmps56
    go_wp2_with ((go_at_call 59); (refine (wof_calls _ _).mono ?_); (rintro e w1 ⟨rfl, hd⟩))
    go_ret
    refine ⟨?_, by repeat (first | exact Kp.refl _ | assumption | exact Dr.kp (by assumption) | refine Kp.drewN ?_ _ | refine Kp.drew ?_ | refine Kp.alloc ?_ _ | refine Kp.setCell ?_ (by first | exact Nat.le_refl _ | assumption | omega) _ | refine Kp.trans ?_ (by assumption) | refine Kp.trans ?_ (Dr.kp (by assumption)))⟩
    show Ending.returned (Value.int IntKind.u32 _) = _
    congr 2
    simp only [addrV]
    simp
  · have g1 : (sect == 1) = false := beq_eq_false_iff_ne.2 h1
    have g2 : (sect == 2) = false := beq_eq_false_iff_ne.2 h2
    go_enter Try.func56, Try.ntmps56
    go_wp2_with ((go_at_call 59); (refine (wof_calls _ _).mono ?_); (rintro e w1 ⟨rfl, hd⟩))
    go_ret
    exact ⟨by simp [addrV, h1, h2], by repeat (first | exact Kp.refl _ | assumption | exact Dr.kp (by assumption) | refine Kp.drewN ?_ _ | refine Kp.drew ?_ | refine Kp.alloc ?_ _ | refine Kp.setCell ?_ (by first | exact Nat.le_refl _ | assumption | omega) _ | refine Kp.trans ?_ (by assumption) | refine Kp.trans ?_ (Dr.kp (by assumption)))⟩
theorem Address_calls (pt pd : Int) (nm : ByteArray) (sect n fr : Int) (gl : Bool) (w : World) : Calls Try.prog 55 #[.agg #[.int .i64 pt, .int .i64 pd], .agg #[.string nm, .int .i64 sect, .int .i64 n, .int .i64 fr, .bool gl]] w fun e w' => e = .returned (.int .u32 (addrV pt pd sect n)) ∧ Kp w w' := by
  go_enter Try.func55, Try.ntmps55
  go_wp2_with ((go_at_call 56); (refine (address_calls _ _ _ _ _).mono ?_); (rintro e w1 ⟨rfl, hk⟩))
  go_ret
  exact ⟨rfl, by repeat (first | exact Kp.refl _ | assumption | exact Dr.kp (by assumption) | refine Kp.drewN ?_ _ | refine Kp.drew ?_ | refine Kp.alloc ?_ _ | refine Kp.setCell ?_ (by first | exact Nat.le_refl _ | assumption | omega) _ | refine Kp.trans ?_ (by assumption) | refine Kp.trans ?_ (Dr.kp (by assumption)))⟩
theorem Where_calls (pt pd : Int) (sect n k1 k2 k3 : Int) (w : World) : Calls Try.prog 35 #[.agg #[.int .i64 pt, .int .i64 pd], .agg #[.int .i64 sect, .int .i64 n, .int .i64 k1, .int .i64 k2, .int .i64 k3]] w fun e w' => e = .returned (.int .u32 (addrV pt pd sect n)) ∧ Kp w w' := by
  go_enter Try.func35, Try.ntmps35
  go_wp2_with ((go_at_call 56); (refine (address_calls _ _ _ _ _).mono ?_); (rintro e w1 ⟨rfl, hk⟩))
  go_ret
  exact ⟨rfl, by repeat (first | exact Kp.refl _ | assumption | exact Dr.kp (by assumption) | refine Kp.drewN ?_ _ | refine Kp.drew ?_ | refine Kp.alloc ?_ _ | refine Kp.setCell ?_ (by first | exact Nat.le_refl _ | assumption | omega) _ | refine Kp.trans ?_ (by assumption) | refine Kp.trans ?_ (Dr.kp (by assumption)))⟩
/-- A block's cells are those of n objects, with so many words and bytes. -/
def ObjCellsO (w : World) (g o n : Nat) (t d : Nat → Nat) : Prop :=
  ∀ i, i < n → ∃ a1 c1 a2 c2 a3 m3 c3 a4 m4 c4, w.cell? ⟨g, o + i * 4, none⟩ = some (.slice a1 (t i) c1) ∧ w.cell? ⟨g, o + i * 4 + 1, none⟩ = some (.slice a2 (d i) c2) ∧ w.cell? ⟨g, o + i * 4 + 2, none⟩ = some (.slice a3 m3 c3) ∧ w.cell? ⟨g, o + i * 4 + 3, none⟩ = some (.slice a4 m4 c4)
set_option maxRecDepth 100000 in
set_option maxHeartbeats 1000000 in
theorem layo_calls (A : Option Addr) (g o n c : Nat) (hA : 0 < n → A = some ⟨g, o, none⟩) (t d : Nat → Nat) (w : World) (hn : n ≤ 1000) (hg : 0 < n → g < w.heap.size)
    (h : 0 < n → ObjCellsO w g o n t d)
    (ht : sumTo t n ≤ 281474976710656) (hd : sumTo d n ≤ 281474976710656) :
    Calls Try.prog 19 #[.slice A n c] w (LayR w n t d) := by
  have hmk := make_places n (by omega)
  replace hA := Aside.mk hA
  replace hg := Aside.mk hg
  replace h := Aside.mk h
  go_enter Try.func19, Try.ntmps19
  go_wp2
  go_loopw [6, 16] (fun at' i wr => ∃ k : Nat, k ≤ n ∧ i = .int .i64 k ∧ at' = .int .i64 ((12 + 4 * sumTo t k : Nat) : Int) ∧ Kp w wr ∧ wr.rowIs w.heap.size 98 (n * 2) (lay1 t k)) (fun _ i _ => n - (intOf i).toNat)
  case atStart => exact ⟨0, Nat.zero_le _, rfl, rfl, by repeat (first | exact Kp.refl _ | assumption | exact Dr.kp (by assumption) | refine Kp.drewN ?_ _ | refine Kp.drew ?_ | refine Kp.alloc ?_ _ | refine Kp.setCell ?_ (by first | exact Nat.le_refl _ | assumption | omega) _ | refine Kp.trans ?_ (by assumption) | refine Kp.trans ?_ (Dr.kp (by assumption))), by rw [lay1_zero]; exact made_two w n _⟩
  case round =>
    obtain ⟨k, hk, rfl, rfl, kp, hrow⟩ := hrel
    by_cases hlt : k < n
    · obtain rfl := hA.out (by omega)
      have hg := hg.out (by omega)
      obtain ⟨a1, k1, a2, k2, a3, m3, k3, a4, m4, k4, q1, q2, q3, q4⟩ := h.out (by omega) k hlt
      have e1 := (kp.cell (p := ⟨g, o + k * 4, none⟩) hg).trans q1
      have e2 := (kp.cell (p := ⟨g, o + k * 4 + 1, none⟩) hg).trans q2
      have e3 := (kp.cell (p := ⟨g, o + k * 4 + 2, none⟩) hg).trans q3
      have e4 := (kp.cell (p := ⟨g, o + k * 4 + 3, none⟩) hg).trans q4
      clear q1 q2 q3 q4
      have e5 := hrow.cell (i := k * 2) (by omega)
      have e6 := hrow.frozen (k * 2)
      have e7 := hrow.lt
      have b1 : sumTo t k + t k ≤ 281474976710656 := Nat.le_trans (sumTo_mono t (show k + 1 ≤ n by omega)) ht
      go_wp2
      go_roundw
      case rel =>
        refine ⟨k + 1, by omega, by go_num, ?_, by repeat (first | exact Kp.refl _ | assumption | exact Dr.kp (by assumption) | refine Kp.drewN ?_ _ | refine Kp.drew ?_ | refine Kp.alloc ?_ _ | refine Kp.setCell ?_ (by first | exact Nat.le_refl _ | assumption | omega) _ | refine Kp.trans ?_ (by assumption) | refine Kp.trans ?_ (Dr.kp (by assumption))), ?_⟩
        · simp only [sumTo]; go_num
        · rw [← lay1_set]
          exact ((hrow.set (k * 2) _).alloc _).congr (fun i _ => by split <;> simp)
      case measure => simp [intOf]; omega
    · obtain rfl : n = k := by omega
      have ha : Go.bits .andNot .i64 (12 + 4 * (sumTo t n : Int) + 7) 7 = ((base t n : Nat) : Int) := by
        have h := andnot7 (12 + 4 * sumTo t n + 7) (by omega)
        rw [base, ← h]
        congr 1
      have hb : base t n ≤ 12 + 4 * sumTo t n + 7 := by unfold base; omega
      go_wp2
      obtain ⟨wo, hwo⟩ : ∃ wo : World, wo = wr := ⟨_, rfl⟩
      have kpo := kp
      rw [← hwo] at kpo ⊢
      replace hrow := hrow
      rw [← hwo] at hrow
      clear hwo kp
      go_loopw [6, 38] (fun at' i wr => ∃ k : Nat, k ≤ n ∧ i = .int .i64 k ∧ at' = .int .i64 ((base t n + sumTo d k : Nat) : Int) ∧ Kp w wr ∧ wr.rowIs w.heap.size 98 (n * 2) (lay2 t d n k)) (fun _ i _ => n - (intOf i).toNat)
      case atStart => exact ⟨0, Nat.zero_le _, rfl, rfl, kpo, by rw [lay2_zero]; exact hrow⟩
      case round =>
        obtain ⟨k, hk, rfl, rfl, kp, hrow⟩ := hrel
        by_cases hlt : k < n
        · obtain rfl := hA.out (by omega)
          have hg := hg.out (by omega)
          obtain ⟨a1, k1, a2, k2, a3, m3, k3, a4, m4, k4, q1, q2, q3, q4⟩ := h.out (by omega) k hlt
          have e1 := (kp.cell (p := ⟨g, o + k * 4, none⟩) hg).trans q1
          have e2 := (kp.cell (p := ⟨g, o + k * 4 + 1, none⟩) hg).trans q2
          have e3 := (kp.cell (p := ⟨g, o + k * 4 + 2, none⟩) hg).trans q3
          have e4 := (kp.cell (p := ⟨g, o + k * 4 + 3, none⟩) hg).trans q4
          clear q1 q2 q3 q4
          have e5 := hrow.cell (i := k * 2 + 1) (by omega)
          have e6 := hrow.frozen (k * 2 + 1)
          have e7 := hrow.lt
          have b1 : sumTo d k + d k ≤ 281474976710656 := Nat.le_trans (sumTo_mono d (show k + 1 ≤ n by omega)) hd
          go_wp2
          go_roundw
          case rel =>
            refine ⟨k + 1, by omega, by go_num, ?_, by repeat (first | exact Kp.refl _ | assumption | exact Dr.kp (by assumption) | refine Kp.drewN ?_ _ | refine Kp.drew ?_ | refine Kp.alloc ?_ _ | refine Kp.setCell ?_ (by first | exact Nat.le_refl _ | assumption | omega) _ | refine Kp.trans ?_ (by assumption) | refine Kp.trans ?_ (Dr.kp (by assumption))), ?_⟩
            · simp only [sumTo]; go_num
            · rw [← lay2_set]
              exact ((hrow.set (k * 2 + 1) _).alloc _).congr (fun i _ => by split <;> simp)
          case measure => simp [intOf]; omega
        · obtain rfl : n = k := by omega
          by_cases hlong : 2097152 < base t n + sumTo d n
          · go_wp2
            go_ret3
            exact ⟨kp, Or.inl ⟨hlong, rfl⟩⟩
          · go_wp2
            go_ret3
            exact ⟨kp, Or.inr ⟨by omega, rfl, hrow⟩⟩
end Go.Proofs.Ytnbooljaodkedaa
