/- Symbols of objects, walked. Conditions stand at each. · Relocations of objects, walked. Conditions stand at each. · Relocations of objects, walked: the whole. Conditions stand at each. · Two places compared; names seen; an object in memory. Conditions stand at each. -/
import Derived.Test.YtnbooljaodkedaaLnkA
import Derived.Test.YtnbooljaodkedaaPlainLnkB
import Derived.Test.YtnbooljaodkedaaReg
import Derived.Maps.Own
import Derived.Maps.OwnOps
import Derived.Defers
import Derived.Recover
import Derived.Tactics2
import Derived.Laws.Pointers
namespace Go.Proofs.Ytnbooljaodkedaa
open Go.RowKit Go.Proofs.Ytnbooljaodkedaa.PC Go.Proofs.Ytnbooljaodkedaa.PW
set_option linter.unusedVariables false
set_option linter.unusedSimpArgs false
/-- An object's value. -/
def objA (A : Option Addr) (nt ct : Nat) (B : Option Addr) (nd cd : Nat) (v3 v4 : Value) : Value := .agg #[.slice A nt ct, .slice B nd cd, v3, v4]
set_option maxHeartbeats 1000000 in
theorem symbol_ok (A : Option Addr) (nt ct : Nat) (B : Option Addr) (nd cd : Nat) (C : Option Addr) (n3 c3 : Nat) (D : Option Addr) (n4 c4 : Nat) (s : SymV) (h : symOk nt nd s = true) (w : World) :
    Calls Try.prog 69 #[.agg #[.slice A nt ct, .slice B nd cd, .slice C n3 c3, .slice D n4 c4], .agg s.cs.toArray] w fun e w' => e = .returned (.tuple #[]) ∧ Kp w w' := by
  obtain ⟨nm, sect, val, frame, glob⟩ := s
  simp only [symOk] at h
  simp only [SymV.cs]
  split at h
  · rename_i h0
    simp only [Bool.and_eq_true, decide_eq_true_eq] at h
    obtain ⟨⟨rfl, rfl⟩, rfl⟩ := h
    subst h0
    (go_enter Try.func69, Try.ntmps69; go_wp2_with ((go_at_call 67); (refine (need_ok _).mono ?_); (rintro e w1 ⟨rfl, rfl⟩)); (first | go_end0 | refine bodyPost_ret (results_none rfl _ _ _) rfl ?_); exact ⟨rfl, by repeat (with_reducible first | exact Kp.refl _ | assumption | exact Dr.kp (by assumption) | refine Kp.drewN ?_ _ | refine Kp.drew ?_ | refine Kp.alloc ?_ _ | refine Kp.setCell ?_ (by first | exact Nat.le_refl _ | assumption | omega) _ | refine Kp.trans ?_ (by assumption) | refine Kp.trans ?_ (Dr.kp (by assumption)))⟩)
  split at h
  · rename_i _ h1
    simp only [decide_eq_true_eq] at h
    obtain ⟨a1, a2, a3, a4, a5⟩ := h
    subst h1
    have g5 : (frame % 16 == 0) = true := by simp [a5]
    replace a5 := Aside.mk a5
    (go_enter Try.func69, Try.ntmps69; go_wp2_with ((go_at_call 67); (refine (need_ok _).mono ?_); (rintro e w1 ⟨rfl, rfl⟩)); (first | go_end0 | refine bodyPost_ret (results_none rfl _ _ _) rfl ?_); exact ⟨rfl, by repeat (with_reducible first | exact Kp.refl _ | assumption | exact Dr.kp (by assumption) | refine Kp.drewN ?_ _ | refine Kp.drew ?_ | refine Kp.alloc ?_ _ | refine Kp.setCell ?_ (by first | exact Nat.le_refl _ | assumption | omega) _ | refine Kp.trans ?_ (by assumption) | refine Kp.trans ?_ (Dr.kp (by assumption)))⟩)
  split at h
  · rename_i _ _ h2
    simp only [decide_eq_true_eq] at h
    obtain ⟨a1, a2, rfl⟩ := h
    subst h2
    (go_enter Try.func69, Try.ntmps69; go_wp2_with ((go_at_call 67); (refine (need_ok _).mono ?_); (rintro e w1 ⟨rfl, rfl⟩)); (first | go_end0 | refine bodyPost_ret (results_none rfl _ _ _) rfl ?_); exact ⟨rfl, by repeat (with_reducible first | exact Kp.refl _ | assumption | exact Dr.kp (by assumption) | refine Kp.drewN ?_ _ | refine Kp.drew ?_ | refine Kp.alloc ?_ _ | refine Kp.setCell ?_ (by first | exact Nat.le_refl _ | assumption | omega) _ | refine Kp.trans ?_ (by assumption) | refine Kp.trans ?_ (Dr.kp (by assumption)))⟩)
  · cases h
set_option maxHeartbeats 4000000 in
theorem symbol_no (A : Option Addr) (nt ct : Nat) (B : Option Addr) (nd cd : Nat) (C : Option Addr) (n3 c3 : Nat) (D : Option Addr) (n4 c4 : Nat) (s : SymV) (h : symOk nt nd s = false) (w : World) :
    Calls Try.prog 69 #[.agg #[.slice A nt ct, .slice B nd cd, .slice C n3 c3, .slice D n4 c4], .agg s.cs.toArray] w fun e w' => e = .panicked thrownF ∧ Kp w w' := by
  obtain ⟨nm, sect, val, frame, glob⟩ := s
  simp only [symOk] at h
  simp only [SymV.cs]
  split at h
  · rename_i h0
    subst h0
    by_cases v0 : val = 0
    · subst v0
      by_cases f0 : frame = 0
      · subst f0
        have hg : glob = false := by simpa using h
        subst hg
        clear h
        (go_enter Try.func69, Try.ntmps69; go_wp2_with ((go_at_call 67); (refine (need_no _).mono ?_); (rintro e w1 ⟨rfl, rfl⟩)); exact ⟨rfl, rfl, by repeat (with_reducible first | exact Kp.refl _ | assumption | exact Dr.kp (by assumption) | refine Kp.drewN ?_ _ | refine Kp.drew ?_ | refine Kp.alloc ?_ _ | refine Kp.setCell ?_ (by first | exact Nat.le_refl _ | assumption | omega) _ | refine Kp.trans ?_ (by assumption) | refine Kp.trans ?_ (Dr.kp (by assumption)))⟩)
      · have g : (frame == 0) = false := beq_eq_false_iff_ne.2 f0
        clear h f0
        (go_enter Try.func69, Try.ntmps69; go_wp2_with ((go_at_call 67); (refine (need_no _).mono ?_); (rintro e w1 ⟨rfl, rfl⟩)); exact ⟨rfl, rfl, by repeat (with_reducible first | exact Kp.refl _ | assumption | exact Dr.kp (by assumption) | refine Kp.drewN ?_ _ | refine Kp.drew ?_ | refine Kp.alloc ?_ _ | refine Kp.setCell ?_ (by first | exact Nat.le_refl _ | assumption | omega) _ | refine Kp.trans ?_ (by assumption) | refine Kp.trans ?_ (Dr.kp (by assumption)))⟩)
    · have g : (val == 0) = false := beq_eq_false_iff_ne.2 v0
      clear h v0
      (go_enter Try.func69, Try.ntmps69; go_wp2_with ((go_at_call 67); (refine (need_no _).mono ?_); (rintro e w1 ⟨rfl, rfl⟩)); exact ⟨rfl, rfl, by repeat (with_reducible first | exact Kp.refl _ | assumption | exact Dr.kp (by assumption) | refine Kp.drewN ?_ _ | refine Kp.drew ?_ | refine Kp.alloc ?_ _ | refine Kp.setCell ?_ (by first | exact Nat.le_refl _ | assumption | omega) _ | refine Kp.trans ?_ (by assumption) | refine Kp.trans ?_ (Dr.kp (by assumption)))⟩)
  split at h
  · rename_i _ h1
    subst h1
    have h' := of_decide_eq_false h
    clear h
    by_cases a1 : 0 ≤ val
    · by_cases a2 : val ≤ nt
      · by_cases a3 : 0 ≤ frame
        · by_cases a4 : frame ≤ 1048576
          · have a5 : ¬frame % 16 = 0 := fun e => h' ⟨a1, a2, a3, a4, e⟩
            have g5 : (frame % 16 == 0) = false := beq_eq_false_iff_ne.2 a5
            clear a5 h'
            (go_enter Try.func69, Try.ntmps69; go_wp2_with ((go_at_call 67); (refine (need_no _).mono ?_); (rintro e w1 ⟨rfl, rfl⟩)); exact ⟨rfl, rfl, by repeat (with_reducible first | exact Kp.refl _ | assumption | exact Dr.kp (by assumption) | refine Kp.drewN ?_ _ | refine Kp.drew ?_ | refine Kp.alloc ?_ _ | refine Kp.setCell ?_ (by first | exact Nat.le_refl _ | assumption | omega) _ | refine Kp.trans ?_ (by assumption) | refine Kp.trans ?_ (Dr.kp (by assumption)))⟩)
          · clear h'
            (go_enter Try.func69, Try.ntmps69; go_wp2_with ((go_at_call 67); (refine (need_no _).mono ?_); (rintro e w1 ⟨rfl, rfl⟩)); exact ⟨rfl, rfl, by repeat (with_reducible first | exact Kp.refl _ | assumption | exact Dr.kp (by assumption) | refine Kp.drewN ?_ _ | refine Kp.drew ?_ | refine Kp.alloc ?_ _ | refine Kp.setCell ?_ (by first | exact Nat.le_refl _ | assumption | omega) _ | refine Kp.trans ?_ (by assumption) | refine Kp.trans ?_ (Dr.kp (by assumption)))⟩)
        · clear h'
          (go_enter Try.func69, Try.ntmps69; go_wp2_with ((go_at_call 67); (refine (need_no _).mono ?_); (rintro e w1 ⟨rfl, rfl⟩)); exact ⟨rfl, rfl, by repeat (with_reducible first | exact Kp.refl _ | assumption | exact Dr.kp (by assumption) | refine Kp.drewN ?_ _ | refine Kp.drew ?_ | refine Kp.alloc ?_ _ | refine Kp.setCell ?_ (by first | exact Nat.le_refl _ | assumption | omega) _ | refine Kp.trans ?_ (by assumption) | refine Kp.trans ?_ (Dr.kp (by assumption)))⟩)
      · clear h'
        (go_enter Try.func69, Try.ntmps69; go_wp2_with ((go_at_call 67); (refine (need_no _).mono ?_); (rintro e w1 ⟨rfl, rfl⟩)); exact ⟨rfl, rfl, by repeat (with_reducible first | exact Kp.refl _ | assumption | exact Dr.kp (by assumption) | refine Kp.drewN ?_ _ | refine Kp.drew ?_ | refine Kp.alloc ?_ _ | refine Kp.setCell ?_ (by first | exact Nat.le_refl _ | assumption | omega) _ | refine Kp.trans ?_ (by assumption) | refine Kp.trans ?_ (Dr.kp (by assumption)))⟩)
    · clear h'
      (go_enter Try.func69, Try.ntmps69; go_wp2_with ((go_at_call 67); (refine (need_no _).mono ?_); (rintro e w1 ⟨rfl, rfl⟩)); exact ⟨rfl, rfl, by repeat (with_reducible first | exact Kp.refl _ | assumption | exact Dr.kp (by assumption) | refine Kp.drewN ?_ _ | refine Kp.drew ?_ | refine Kp.alloc ?_ _ | refine Kp.setCell ?_ (by first | exact Nat.le_refl _ | assumption | omega) _ | refine Kp.trans ?_ (by assumption) | refine Kp.trans ?_ (Dr.kp (by assumption)))⟩)
  split at h
  · rename_i _ _ h2
    subst h2
    have h' := of_decide_eq_false h
    clear h
    by_cases a1 : 0 ≤ val
    · by_cases a2 : val ≤ nd
      · have a3 : ¬frame = 0 := fun e => h' ⟨a1, a2, e⟩
        have g5 : (frame == 0) = false := beq_eq_false_iff_ne.2 a3
        clear a3 h'
        (go_enter Try.func69, Try.ntmps69; go_wp2_with ((go_at_call 67); (refine (need_no _).mono ?_); (rintro e w1 ⟨rfl, rfl⟩)); exact ⟨rfl, rfl, by repeat (with_reducible first | exact Kp.refl _ | assumption | exact Dr.kp (by assumption) | refine Kp.drewN ?_ _ | refine Kp.drew ?_ | refine Kp.alloc ?_ _ | refine Kp.setCell ?_ (by first | exact Nat.le_refl _ | assumption | omega) _ | refine Kp.trans ?_ (by assumption) | refine Kp.trans ?_ (Dr.kp (by assumption)))⟩)
      · clear h'
        (go_enter Try.func69, Try.ntmps69; go_wp2_with ((go_at_call 67); (refine (need_no _).mono ?_); (rintro e w1 ⟨rfl, rfl⟩)); exact ⟨rfl, rfl, by repeat (with_reducible first | exact Kp.refl _ | assumption | exact Dr.kp (by assumption) | refine Kp.drewN ?_ _ | refine Kp.drew ?_ | refine Kp.alloc ?_ _ | refine Kp.setCell ?_ (by first | exact Nat.le_refl _ | assumption | omega) _ | refine Kp.trans ?_ (by assumption) | refine Kp.trans ?_ (Dr.kp (by assumption)))⟩)
    · clear h'
      (go_enter Try.func69, Try.ntmps69; go_wp2_with ((go_at_call 67); (refine (need_no _).mono ?_); (rintro e w1 ⟨rfl, rfl⟩)); exact ⟨rfl, rfl, by repeat (with_reducible first | exact Kp.refl _ | assumption | exact Dr.kp (by assumption) | refine Kp.drewN ?_ _ | refine Kp.drew ?_ | refine Kp.alloc ?_ _ | refine Kp.setCell ?_ (by first | exact Nat.le_refl _ | assumption | omega) _ | refine Kp.trans ?_ (by assumption) | refine Kp.trans ?_ (Dr.kp (by assumption)))⟩)
  · rename_i h0 h1 h2
    have g0 : (sect == 0) = false := beq_eq_false_iff_ne.2 h0
    have g1 : (sect == 1) = false := beq_eq_false_iff_ne.2 h1
    have g2 : (sect == 2) = false := beq_eq_false_iff_ne.2 h2
    clear h h0 h1 h2
    (go_enter Try.func69, Try.ntmps69; go_wp2_with ((go_at_call 67); (refine (need_no _).mono ?_); (rintro e w1 ⟨rfl, rfl⟩)); exact ⟨rfl, rfl, by repeat (with_reducible first | exact Kp.refl _ | assumption | exact Dr.kp (by assumption) | refine Kp.drewN ?_ _ | refine Kp.drew ?_ | refine Kp.alloc ?_ _ | refine Kp.setCell ?_ (by first | exact Nat.le_refl _ | assumption | omega) _ | refine Kp.trans ?_ (by assumption) | refine Kp.trans ?_ (Dr.kp (by assumption)))⟩)
end Go.Proofs.Ytnbooljaodkedaa
namespace Go.Proofs.Ytnbooljaodkedaa
open Go.RowKit Go.Proofs.Ytnbooljaodkedaa.PC Go.Proofs.Ytnbooljaodkedaa.PW
set_option linter.unusedVariables false
set_option linter.unusedSimpArgs false
/-- The instructions that a kind may be of. -/
def kindsL (k : Int) : List Int := if k = 1 then [38] else if k = 2 then [18, 19, 20, 21, 22, 23, 27, 28, 29, 41, 43] else if k = 3 then [30, 31, 44] else if k = 4 then [40] else if k = 5 then [32, 33, 34, 35, 36, 37] else []
theorem kindsL_ofK (k op : Int) : op ∈ kindsL k ↔ ofK k op := by
  unfold kindsL ofK
  split
  · simp; omega
  split
  · simp; omega
  split
  · simp; omega
  split
  · simp; omega
  split
  · simp; omega
  · simp; omega
/-- A row of numbers, readable. -/
def IntsAt (w : World) (A : Option Addr) (xs : List Int) : Prop := xs ≠ [] → ∃ g off, A = some ⟨g, off, none⟩ ∧ g < w.heap.size ∧ ∀ i, i < xs.length → w.cell? ⟨g, off + i, none⟩ = some (.int .i64 (xs.getD i 0))
set_option maxHeartbeats 1000000 in
theorem Index_calls {w : World} {A : Option Addr} {n c : Nat} (xs : List Int) (v : Int) (hn : xs.length = n) (hl : n ≤ 1000000) (h : IntsAt w A xs) :
    Calls Try.prog 97 #[.slice A n c, .int .i64 v] w fun e w' => ∃ r : Int, e = .returned (.int .i64 r) ∧ w = w' ∧ (0 ≤ r ↔ v ∈ xs) := by
  have hmem : ∀ j, j < n → xs.getD j 0 ∈ xs := by
    intro j hj
    rw [List.getD_eq_getElem?_getD, List.getElem?_eq_getElem (by omega)]
    exact List.getElem_mem _
  have hno : (∀ j, j < n → v ≠ xs.getD j 0) → v ∉ xs := by
    intro hj hv
    obtain ⟨j, hj', e⟩ := List.mem_iff_getElem.1 hv
    refine hj j (by omega) ?_
    rw [List.getD_eq_getElem?_getD, List.getElem?_eq_getElem hj', e]
    rfl
  replace hmem := Aside.mk hmem
  replace hno := Aside.mk hno
  replace h := Aside.mk h
  replace hn := Aside.mk hn
  go_enter Try.func97, Try.ntmps97
  go_wp2
  go_loop [8] (fun i => ∃ k : Nat, k ≤ n ∧ i = .int .i64 k ∧ Aside (∀ j, j < k → v ≠ xs.getD j 0)) (fun i => n - (intOf i).toNat)
  case atStart => exact ⟨0, Nat.zero_le _, rfl, ⟨fun j h => absurd h (by omega)⟩⟩
  case round =>
    obtain ⟨k, hk, rfl, hall⟩ := hrel
    by_cases hlt : k < n
    · obtain ⟨g, off, rfl, hg, hc⟩ := h.out (fun e => by have := hn.out; rw [e] at this; simp at this; omega)
      have hc := hc k (by have := hn.out; omega)
      have hm := Aside.mk (hmem.out k hlt)
      generalize hx : xs.getD k 0 = x at *
      by_cases e : v = x
      · replace hx := Aside.mk hx
        subst e
        go_wp2
        go_ret
        exact ⟨k, rfl, rfl, ⟨fun _ => hm.out, fun _ => by omega⟩⟩
      · have e1 : (v == x) = false := beq_eq_false_iff_ne.2 e
        have hall2 : Aside (∀ j, j < k + 1 → v ≠ xs.getD j 0) := ⟨fun j hj => by
          by_cases e2 : j < k
          · exact hall.out j e2
          · obtain rfl : j = k := by omega
            rw [hx]; exact e⟩
        replace hx := Aside.mk hx
        clear e
        go_wp2
        go_round
        case rel => exact ⟨k + 1, by omega, by go_num, hall2⟩
        case measure => simp [intOf]; omega
    · obtain rfl : k = n := by omega
      go_wp2
      go_ret
      exact ⟨-1, rfl, rfl, ⟨fun h => absurd h (by decide), fun h => absurd h (hno.out hall.out)⟩⟩
theorem Contains_yes {w : World} {A : Option Addr} {n c : Nat} (xs : List Int) (v : Int) (hn : xs.length = n) (hl : n ≤ 1000000) (h : IntsAt w A xs) (hv : v ∈ xs) :
    Calls Try.prog 88 #[.slice A n c, .int .i64 v] w fun e w' => e = .returned (.bool true) ∧ w = w' := by
  have hc := Aside.mk (Index_calls (c := c) xs v hn hl h)
  replace hn := Aside.mk hn
  replace h := Aside.mk h
  go_enter Try.func88, Try.ntmps88
  go_wp2_with ((go_at_call 97); (refine Calls.mono hc.out ?_); (rintro e w1 ⟨r, rfl, rfl, hr⟩); (have hr' : 0 ≤ r := hr.2 hv); (clear hr))
  go_ret
  exact ⟨rfl, rfl⟩
theorem Contains_no {w : World} {A : Option Addr} {n c : Nat} (xs : List Int) (v : Int) (hn : xs.length = n) (hl : n ≤ 1000000) (h : IntsAt w A xs) (hv : ¬v ∈ xs) :
    Calls Try.prog 88 #[.slice A n c, .int .i64 v] w fun e w' => e = .returned (.bool false) ∧ w = w' := by
  have hc := Aside.mk (Index_calls (c := c) xs v hn hl h)
  replace hn := Aside.mk hn
  replace h := Aside.mk h
  go_enter Try.func88, Try.ntmps88
  go_wp2_with ((go_at_call 97); (refine Calls.mono hc.out ?_); (rintro e w1 ⟨r, rfl, rfl, hr⟩); (have hr' : r < 0 := Int.not_le.1 (fun h => hv (hr.1 h))); (clear hr))
  go_ret
  refine ⟨?_, rfl⟩
  show Ending.returned (.bool (decide (0 ≤ r))) = _
  rw [decide_eq_false (by omega)]
theorem blk_ints {w : World} {g : Nat} {cs : Array Value} {ty : TypeId} (hb : Blk w g cs ty) (xs : List Int) (hc : cs = (xs.map (Value.int .i64)).toArray) : IntsAt w (some ⟨g, 0, none⟩) xs := by
  intro _
  refine ⟨g, 0, rfl, hb.lt, fun i hi => ?_⟩
  rw [Nat.zero_add, hb.cell i, hc]
  simp [List.getD_eq_getElem?_getD, List.getElem?_eq_getElem hi]
theorem kinds_calls (k : Int) (w : World) : Calls Try.prog 89 #[.int .i64 k] w fun e w' => ∃ A n c, e = .returned (.slice A n c) ∧ Kp w w' ∧ (kindsL k).length = n ∧ n ≤ 1000000 ∧ IntsAt w' A (kindsL k) := by
  by_cases h1 : k = 1
  · subst h1
    go_enter Try.func89, Try.ntmps89
    go_wp2
    go_ret
    exact ⟨_, _, _, rfl, by repeat (with_reducible first | exact Kp.refl _ | assumption | exact Dr.kp (by assumption) | refine Kp.drewN ?_ _ | refine Kp.drew ?_ | refine Kp.alloc ?_ _ | refine Kp.setCell ?_ (by first | exact Nat.le_refl _ | assumption | omega) _ | refine Kp.trans ?_ (by assumption) | refine Kp.trans ?_ (Dr.kp (by assumption))), rfl, by decide, blk_ints (Blk.new _ _ _) _ rfl⟩
  by_cases h2 : k = 2
  · subst h2
    go_enter Try.func89, Try.ntmps89
    go_wp2
    go_ret
    exact ⟨_, _, _, rfl, by repeat (with_reducible first | exact Kp.refl _ | assumption | exact Dr.kp (by assumption) | refine Kp.drewN ?_ _ | refine Kp.drew ?_ | refine Kp.alloc ?_ _ | refine Kp.setCell ?_ (by first | exact Nat.le_refl _ | assumption | omega) _ | refine Kp.trans ?_ (by assumption) | refine Kp.trans ?_ (Dr.kp (by assumption))), rfl, by decide, blk_ints (Blk.new _ _ _) _ rfl⟩
  by_cases h3 : k = 3
  · subst h3
    go_enter Try.func89, Try.ntmps89
    go_wp2
    go_ret
    exact ⟨_, _, _, rfl, by repeat (with_reducible first | exact Kp.refl _ | assumption | exact Dr.kp (by assumption) | refine Kp.drewN ?_ _ | refine Kp.drew ?_ | refine Kp.alloc ?_ _ | refine Kp.setCell ?_ (by first | exact Nat.le_refl _ | assumption | omega) _ | refine Kp.trans ?_ (by assumption) | refine Kp.trans ?_ (Dr.kp (by assumption))), rfl, by decide, blk_ints (Blk.new _ _ _) _ rfl⟩
  by_cases h4 : k = 4
  · subst h4
    go_enter Try.func89, Try.ntmps89
    go_wp2
    go_ret
    exact ⟨_, _, _, rfl, by repeat (with_reducible first | exact Kp.refl _ | assumption | exact Dr.kp (by assumption) | refine Kp.drewN ?_ _ | refine Kp.drew ?_ | refine Kp.alloc ?_ _ | refine Kp.setCell ?_ (by first | exact Nat.le_refl _ | assumption | omega) _ | refine Kp.trans ?_ (by assumption) | refine Kp.trans ?_ (Dr.kp (by assumption))), rfl, by decide, blk_ints (Blk.new _ _ _) _ rfl⟩
  by_cases h5 : k = 5
  · subst h5
    go_enter Try.func89, Try.ntmps89
    go_wp2
    go_ret
    exact ⟨_, _, _, rfl, by repeat (with_reducible first | exact Kp.refl _ | assumption | exact Dr.kp (by assumption) | refine Kp.drewN ?_ _ | refine Kp.drew ?_ | refine Kp.alloc ?_ _ | refine Kp.setCell ?_ (by first | exact Nat.le_refl _ | assumption | omega) _ | refine Kp.trans ?_ (by assumption) | refine Kp.trans ?_ (Dr.kp (by assumption))), rfl, by decide, blk_ints (Blk.new _ _ _) _ rfl⟩
  · have g1 : (k == 1) = false := beq_eq_false_iff_ne.2 h1
    have g2 : (k == 2) = false := beq_eq_false_iff_ne.2 h2
    have g3 : (k == 3) = false := beq_eq_false_iff_ne.2 h3
    have g4 : (k == 4) = false := beq_eq_false_iff_ne.2 h4
    have g5 : (k == 5) = false := beq_eq_false_iff_ne.2 h5
    have hk : Aside (kindsL k = []) := ⟨by simp [kindsL, h1, h2, h3, h4, h5]⟩
    clear h1 h2 h3 h4 h5
    go_enter Try.func89, Try.ntmps89
    go_wp2
    go_ret
    exact ⟨_, _, _, rfl, by repeat (with_reducible first | exact Kp.refl _ | assumption | exact Dr.kp (by assumption) | refine Kp.drewN ?_ _ | refine Kp.drew ?_ | refine Kp.alloc ?_ _ | refine Kp.setCell ?_ (by first | exact Nat.le_refl _ | assumption | omega) _ | refine Kp.trans ?_ (by assumption) | refine Kp.trans ?_ (Dr.kp (by assumption))), by rw [hk.out]; rfl, by decide, fun hne => absurd hk.out hne⟩
end Go.Proofs.Ytnbooljaodkedaa
namespace Go.Proofs.Ytnbooljaodkedaa
open Go.RowKit Go.Proofs.Ytnbooljaodkedaa.PC Go.Proofs.Ytnbooljaodkedaa.PW
set_option linter.unusedVariables false
set_option linter.unusedSimpArgs false
theorem ofW_dec {k x op rd rs1 rs2 n er : Int} (h : DecR x op rd rs1 rs2 n er) : ofW k x ↔ er = 0 ∧ n = 0 ∧ ofK k op := by
  constructor
  · rintro ⟨o, a, b, c, h1, h2, h3⟩
    rw [← h2] at h
    obtain ⟨e1, e2, e3, e4, e5, e6⟩ := decR_of h1 h
    exact ⟨e1, e6, by rw [e2]; exact h3⟩
  · rintro ⟨rfl, rfl, h3⟩
    rcases h with ⟨_, h1, h2⟩ | ⟨h1, _⟩
    · exact ⟨op, rd, rs1, rs2, h1, h2, h3⟩
    · cases h1
/-- A row of words, readable. -/
def WordsAt (w : World) (A : Option Addr) (xs : List Int) : Prop := xs ≠ [] → ∃ g off, A = some ⟨g, off, none⟩ ∧ g < w.heap.size ∧ ∀ i, i < xs.length → w.cell? ⟨g, off + i, none⟩ = some (.int .u32 (xs.getD i 0))
/-- Where a relocation may be. -/
def relAt (text : List Int) (nd : Nat) (r : RelV) : Prop :=
  r.sect = 2 ∧ r.kind = 6 ∧ 0 ≤ r.at_ ∧ r.at_ % 4 = 0 ∧ r.at_ ≤ (nd : Int) - 4 ∨ r.sect = 1 ∧ 0 ≤ r.at_ ∧ r.at_ < text.length ∧ ofW r.kind (text.getD r.at_.toNat 0)
section
variable (A : Option Addr) (ct : Nat) (B : Option Addr) (nd cd : Nat) (C : Option Addr) (n3 c3 : Nat) (D : Option Addr) (n4 c4 : Nat)
set_option maxRecDepth 100000 in
set_option maxHeartbeats 2000000 in
theorem rel2_ok (nt : Nat) (hnd : nd ≤ 140737488355328) (kind at_ sym add : Int) (h1 : kind = 6) (h2 : 0 ≤ at_) (h3 : at_ % 4 = 0) (h4 : at_ ≤ (nd : Int) - 4) (w : World) :
    Calls Try.prog 71 #[.agg #[.slice A nt ct, .slice B nd cd, .slice C n3 c3, .slice D n4 c4], .agg #[.int .i64 2, .int .i64 at_, .int .i64 kind, .int .i64 sym, .int .i64 add]] w fun e w' => e = .returned (.tuple #[]) ∧ Kp w w' := by
  subst h1
  have g3 : (at_ % 4 == 0) = true := by simp [h3]
  have g4 : decide (at_ ≤ (nd : Int) - 4) = true := decide_eq_true h4
  replace h4 := Aside.mk h4
  replace h3 := Aside.mk h3
  (go_enter Try.func71, Try.ntmps71; go_wp2_with ((go_at_call 67); (refine (need_ok _).mono ?_); (rintro e w1 ⟨rfl, rfl⟩)); (first | go_end0 | refine bodyPost_ret (results_none rfl _ _ _) rfl ?_); exact ⟨rfl, by repeat (with_reducible first | exact Kp.refl _ | assumption | exact Dr.kp (by assumption) | refine Kp.drewN ?_ _ | refine Kp.drew ?_ | refine Kp.alloc ?_ _ | refine Kp.setCell ?_ (by first | exact Nat.le_refl _ | assumption | omega) _ | refine Kp.trans ?_ (by assumption) | refine Kp.trans ?_ (Dr.kp (by assumption)))⟩)
set_option maxRecDepth 100000 in
set_option maxHeartbeats 2000000 in
theorem rel2_no (nt : Nat) (hnd : nd ≤ 140737488355328) (kind at_ sym add : Int) (h : ¬(kind = 6 ∧ 0 ≤ at_ ∧ at_ % 4 = 0 ∧ at_ ≤ (nd : Int) - 4)) (w : World) :
    Calls Try.prog 71 #[.agg #[.slice A nt ct, .slice B nd cd, .slice C n3 c3, .slice D n4 c4], .agg #[.int .i64 2, .int .i64 at_, .int .i64 kind, .int .i64 sym, .int .i64 add]] w fun e w' => e = .panicked thrownF ∧ Kp w w' := by
  by_cases h1 : kind = 6
  · subst h1
    by_cases h2 : 0 ≤ at_
    · by_cases h3 : at_ % 4 = 0
      · have h4 : (nd : Int) - 4 < at_ := by omega
        have g3 : (at_ % 4 == 0) = true := by simp [h3]
        have g4 : decide (at_ ≤ (nd : Int) - 4) = false := decide_eq_false (by omega)
        replace h4 := Aside.mk h4
        replace h3 := Aside.mk h3
        clear h
        (go_enter Try.func71, Try.ntmps71; go_wp2_with ((go_at_call 67); (refine (need_no _).mono ?_); (rintro e w1 ⟨rfl, rfl⟩)); exact ⟨rfl, rfl, by repeat (with_reducible first | exact Kp.refl _ | assumption | exact Dr.kp (by assumption) | refine Kp.drewN ?_ _ | refine Kp.drew ?_ | refine Kp.alloc ?_ _ | refine Kp.setCell ?_ (by first | exact Nat.le_refl _ | assumption | omega) _ | refine Kp.trans ?_ (by assumption) | refine Kp.trans ?_ (Dr.kp (by assumption)))⟩)
      · have g3 : (at_ % 4 == 0) = false := beq_eq_false_iff_ne.2 h3
        clear h h3
        (go_enter Try.func71, Try.ntmps71; go_wp2_with ((go_at_call 67); (refine (need_no _).mono ?_); (rintro e w1 ⟨rfl, rfl⟩)); exact ⟨rfl, rfl, by repeat (with_reducible first | exact Kp.refl _ | assumption | exact Dr.kp (by assumption) | refine Kp.drewN ?_ _ | refine Kp.drew ?_ | refine Kp.alloc ?_ _ | refine Kp.setCell ?_ (by first | exact Nat.le_refl _ | assumption | omega) _ | refine Kp.trans ?_ (by assumption) | refine Kp.trans ?_ (Dr.kp (by assumption)))⟩)
    · clear h
      (go_enter Try.func71, Try.ntmps71; go_wp2_with ((go_at_call 67); (refine (need_no _).mono ?_); (rintro e w1 ⟨rfl, rfl⟩)); exact ⟨rfl, rfl, by repeat (with_reducible first | exact Kp.refl _ | assumption | exact Dr.kp (by assumption) | refine Kp.drewN ?_ _ | refine Kp.drew ?_ | refine Kp.alloc ?_ _ | refine Kp.setCell ?_ (by first | exact Nat.le_refl _ | assumption | omega) _ | refine Kp.trans ?_ (by assumption) | refine Kp.trans ?_ (Dr.kp (by assumption)))⟩)
  · have g1 : (kind == 6) = false := beq_eq_false_iff_ne.2 h1
    clear h h1
    (go_enter Try.func71, Try.ntmps71; go_wp2_with ((go_at_call 67); (refine (need_no _).mono ?_); (rintro e w1 ⟨rfl, rfl⟩)); exact ⟨rfl, rfl, by repeat (with_reducible first | exact Kp.refl _ | assumption | exact Dr.kp (by assumption) | refine Kp.drewN ?_ _ | refine Kp.drew ?_ | refine Kp.alloc ?_ _ | refine Kp.setCell ?_ (by first | exact Nat.le_refl _ | assumption | omega) _ | refine Kp.trans ?_ (by assumption) | refine Kp.trans ?_ (Dr.kp (by assumption)))⟩)
set_option maxRecDepth 100000 in
set_option maxHeartbeats 2000000 in
theorem rel1_no (nt : Nat) (sect kind at_ sym add : Int) (hs : sect ≠ 2) (h : ¬(sect = 1 ∧ 0 ≤ at_ ∧ at_ < nt)) (w : World) :
    Calls Try.prog 71 #[.agg #[.slice A nt ct, .slice B nd cd, .slice C n3 c3, .slice D n4 c4], .agg #[.int .i64 sect, .int .i64 at_, .int .i64 kind, .int .i64 sym, .int .i64 add]] w fun e w' => e = .panicked thrownF ∧ Kp w w' := by
  by_cases h1 : sect = 1
  · subst h1
    clear hs
    by_cases h2 : 0 ≤ at_
    · have h3 : decide (at_ < (nt : Int)) = false := decide_eq_false (by omega)
      clear h
      (go_enter Try.func71, Try.ntmps71; go_wp2_with ((go_at_call 67); (refine (need_no _).mono ?_); (rintro e w1 ⟨rfl, rfl⟩)); exact ⟨rfl, rfl, by repeat (with_reducible first | exact Kp.refl _ | assumption | exact Dr.kp (by assumption) | refine Kp.drewN ?_ _ | refine Kp.drew ?_ | refine Kp.alloc ?_ _ | refine Kp.setCell ?_ (by first | exact Nat.le_refl _ | assumption | omega) _ | refine Kp.trans ?_ (by assumption) | refine Kp.trans ?_ (Dr.kp (by assumption)))⟩)
    · clear h
      (go_enter Try.func71, Try.ntmps71; go_wp2_with ((go_at_call 67); (refine (need_no _).mono ?_); (rintro e w1 ⟨rfl, rfl⟩)); exact ⟨rfl, rfl, by repeat (with_reducible first | exact Kp.refl _ | assumption | exact Dr.kp (by assumption) | refine Kp.drewN ?_ _ | refine Kp.drew ?_ | refine Kp.alloc ?_ _ | refine Kp.setCell ?_ (by first | exact Nat.le_refl _ | assumption | omega) _ | refine Kp.trans ?_ (by assumption) | refine Kp.trans ?_ (Dr.kp (by assumption)))⟩)
  · have g1 : (sect == 1) = false := beq_eq_false_iff_ne.2 h1
    have g2 : (sect == 2) = false := beq_eq_false_iff_ne.2 hs
    clear h h1 hs
    (go_enter Try.func71, Try.ntmps71; go_wp2_with ((go_at_call 67); (refine (need_no _).mono ?_); (rintro e w1 ⟨rfl, rfl⟩)); exact ⟨rfl, rfl, by repeat (with_reducible first | exact Kp.refl _ | assumption | exact Dr.kp (by assumption) | refine Kp.drewN ?_ _ | refine Kp.drew ?_ | refine Kp.alloc ?_ _ | refine Kp.setCell ?_ (by first | exact Nat.le_refl _ | assumption | omega) _ | refine Kp.trans ?_ (by assumption) | refine Kp.trans ?_ (Dr.kp (by assumption)))⟩)
set_option maxRecDepth 100000 in
set_option maxHeartbeats 4000000 in
theorem rel1_ok {nt : Nat} {text : List Int} {w : World} (hA : WordsAt w A text) (hnt : text.length = nt) (kind at_ sym add : Int) (h0 : 0 ≤ at_) (h1 : at_ < nt) (hx : U (text.getD at_.toNat 0)) (hof : ofW kind (text.getD at_.toNat 0)) :
    Calls Try.prog 71 #[.agg #[.slice A nt ct, .slice B nd cd, .slice C n3 c3, .slice D n4 c4], .agg #[.int .i64 1, .int .i64 at_, .int .i64 kind, .int .i64 sym, .int .i64 add]] w fun e w' => e = .returned (.tuple #[]) ∧ Kp w w' := by
  (obtain ⟨g, off, rfl, hg, hc⟩ := hA (by rintro rfl; simp at hnt; omega)); (obtain ⟨a, rfl⟩ := Int.eq_ofNat_of_zero_le h0); (have hat : a < nt := by omega); (have hc := hc a (by omega)); (simp only [Int.toNat_natCast] at hx hof); (generalize text.getD a 0 = x at *); (clear hA); (replace hnt := Aside.mk hnt)
  have hx' : 0 ≤ x ∧ x ≤ 4294967295 := hx
  replace hof := Aside.mk hof
  go_enter Try.func71, Try.ntmps71
  go_wp2_with (first | ((go_at_call 67); (refine (need_ok _).mono ?_); (rintro e w1 ⟨rfl, rfl⟩)) | ((go_at_call 49); (refine Calls.mono (Decode_calls x hx _) ?_); (rintro e w1 ⟨op, rd, rs1, rs2, n, er, rfl, k1, hd⟩); (have bR := Aside.mk ((Blk.new (w.alloc (.cells #[.slice (some ⟨g, off, none⟩) nt ct, .slice B nd cd, .slice C n3 c3, .slice D n4 c4] 38)) #[.int .i64 1, .int .i64 a, .int .i64 kind, .int .i64 sym, .int .i64 add] 46).kp k1)); (have kw1 : Aside (Kp w w1) := ⟨(((Kp.refl w).alloc _).alloc _).trans k1⟩); (clear k1); (replace hd := Aside.mk hd)))
  obtain ⟨rfl, rfl, hk⟩ := (ofW_dec hd.out).1 hof.out
  have hin := Aside.mk ((kindsL_ofK kind op).2 hk)
  have bI := Blk.new w1 #[.int .i64 op, .int .i64 rd, .int .i64 rs1, .int .i64 rs2, .int .i64 0] 40
  have bR2 := bR.out.alloc (.cells #[.int .i64 op, .int .i64 rd, .int .i64 rs1, .int .i64 rs2, .int .i64 0] 40)
  have kw2 : Kp w (w1.alloc (.cells #[.int .i64 op, .int .i64 rd, .int .i64 rs1, .int .i64 rs2, .int .i64 0] 40)) := kw1.out.alloc _
  rw [World.size_alloc] at bR2
  generalize w1.alloc (.cells #[.int .i64 op, .int .i64 rd, .int .i64 rs1, .int .i64 rs2, .int .i64 0] 40) = W at *
  have ten : Aside (∀ V, Kp W V → (V.cell? ⟨w1.heap.size, 4, none⟩ = some (.int .i64 0) ∧ V.cell? ⟨w1.heap.size, 0, none⟩ = some (.int .i64 op) ∧ V.cell? ⟨w.heap.size + 1, 2, none⟩ = some (.int .i64 kind))) :=
    ⟨fun V hV => ⟨(bI.kp hV).cell 4, (bI.kp hV).cell 0, (bR2.kp hV).cell 2⟩⟩
  replace kw2 := Aside.mk kw2
  clear bI bR2 hk
  refine wp_hide (fun Q0 hQ0 => ?_)
  refine wp_region_held_drew (S := fun w' => w'.cell? ⟨w1.heap.size, 4, none⟩ = some (.int .i64 0) ∧ w'.cell? ⟨w1.heap.size, 0, none⟩ = some (.int .i64 op) ∧ w'.cell? ⟨w.heap.size + 1, 2, none⟩ = some (.int .i64 kind)) (by kernel_rfl) ?hS0a (fun hHeld => ?_)
  case hS0a => exact (ten.out _ (Kp.refl W).drew)
  refine wpAnyH_takeL (i := 0) (v := ?v0a) rfl (by kernel_rfl) (by kernel_rfl) (by kernel_rfl) (fun _ _ _ h => h) (Or.inl ⟨by kernel_rfl, ?hy0a⟩) (by assumption) ?rest0a
  case hy0a => (intro w hSw; (try dsimp only at hSw); go_simp; (try with_reducible rfl))
  try simp only [Act.put, List.setIfInBounds_toArray, List.set_cons_zero, List.set_cons_succ]
  refine wpAnyH_takeL (i := 1) (v := ?v1a) rfl (by kernel_rfl) (by kernel_rfl) (by kernel_rfl) (fun _ _ _ h => h) (Or.inl ⟨by kernel_rfl, ?hy1a⟩) (by assumption) ?rest1a
  case hy1a => (intro w hSw; (try dsimp only at hSw); go_simp; (try with_reducible rfl))
  try simp only [Act.put, List.setIfInBounds_toArray, List.set_cons_zero, List.set_cons_succ]
  refine wpAnyH_takeL (i := 2) (v := ?v2a) rfl (by kernel_rfl) (by kernel_rfl) (by kernel_rfl) (fun _ _ _ h => h) (Or.inl ⟨by kernel_rfl, ?hy2a⟩) (by assumption) ?rest2a
  case hy2a => (intro w hSw; (try dsimp only at hSw); go_simp; (try with_reducible rfl))
  try simp only [Act.put, List.setIfInBounds_toArray, List.set_cons_zero, List.set_cons_succ]
  refine wpAnyH_takeL (i := 3) (v := ?v3a) rfl (by kernel_rfl) (by kernel_rfl) (by kernel_rfl) (fun _ _ _ h => h) (Or.inl ⟨by kernel_rfl, ?hy3a⟩) (by assumption) ?rest3a
  case hy3a => (intro w hSw; (try dsimp only at hSw); go_simp; (try with_reducible rfl))
  try simp only [Act.put, List.setIfInBounds_toArray, List.set_cons_zero, List.set_cons_succ]
  refine wpAnyH_takeL (i := 4) (v := ?v4a) rfl (by kernel_rfl) (by kernel_rfl) (by kernel_rfl) (fun _ _ _ h => h) (Or.inl ⟨by kernel_rfl, ?hy4a⟩) (by assumption) ?rest4a
  case hy4a => (intro w hSw; (try dsimp only at hSw); go_simp; (try with_reducible rfl))
  try simp only [Act.put, List.setIfInBounds_toArray, List.set_cons_zero, List.set_cons_succ]
  refine wpAnyH_takeL (i := 5) (v := ?v5a) rfl (by kernel_rfl) (by kernel_rfl) (by kernel_rfl) (fun _ _ _ h => h) (Or.inl ⟨by kernel_rfl, ?hy5a⟩) (by assumption) ?rest5a
  case hy5a => (intro w hSw; (try dsimp only at hSw); go_simp; (try with_reducible rfl))
  try simp only [Act.put, List.setIfInBounds_toArray, List.set_cons_zero, List.set_cons_succ]
  refine wpAnyH_takeL (i := 6) (v := ?v6a) rfl (by kernel_rfl) (by kernel_rfl) (by kernel_rfl) (fun _ _ _ h => h) (Or.inl ⟨by kernel_rfl, ?hy6a⟩) (by assumption) ?rest6a
  case hy6a => (intro w hSw; (try dsimp only at hSw); go_simp; (try with_reducible rfl))
  try simp only [Act.put, List.setIfInBounds_toArray, List.set_cons_zero, List.set_cons_succ]
  refine wpAnyH_takeL (i := 7) (v := ?v7a) rfl (by kernel_rfl) (by kernel_rfl) (by kernel_rfl) (fun _ _ _ h => h) (Or.inl ⟨by kernel_rfl, ?hy7a⟩) (by assumption) ?rest7a
  case hy7a => (intro w hSw; (try dsimp only at hSw); go_simp; (try with_reducible rfl))
  try simp only [Act.put, List.setIfInBounds_toArray, List.set_cons_zero, List.set_cons_succ]
  refine wpAnyH_takeL (i := 8) (v := ?v8a) rfl (by kernel_rfl) (by kernel_rfl) (by kernel_rfl) (fun _ _ _ h => h) (Or.inl ⟨by kernel_rfl, ?hy8a⟩) (by assumption) ?rest8a
  case hy8a => (intro w hSw; (try dsimp only at hSw); go_simp; (try with_reducible rfl))
  try simp only [Act.put, List.setIfInBounds_toArray, List.set_cons_zero, List.set_cons_succ]
  refine wpAnyH_takeL (i := 9) (v := ?v9a) rfl (by kernel_rfl) (by kernel_rfl) (by kernel_rfl) (fun _ _ _ h => h) (Or.inl ⟨by kernel_rfl, ?hy9a⟩) (by assumption) ?rest9a
  case hy9a => (intro w hSw; (try dsimp only at hSw); go_simp; (try with_reducible rfl))
  try simp only [Act.put, List.setIfInBounds_toArray, List.set_cons_zero, List.set_cons_succ]
  refine wpAnyH_takeL (i := 11) (v := ?v11a) rfl (by kernel_rfl) (by kernel_rfl) (by kernel_rfl) (fun _ _ _ h => h) (Or.inl ⟨by kernel_rfl, ?hy11a⟩) (by assumption) ?rest11a
  case hy11a => (intro w hSw; (try dsimp only at hSw); go_simp; (try with_reducible rfl))
  try simp only [Act.put, List.setIfInBounds_toArray, List.set_cons_zero, List.set_cons_succ]
  refine wpAnyH_takeL (i := 12) (v := ?v12a) rfl (by kernel_rfl) (by kernel_rfl) (by kernel_rfl) (fun _ _ _ h => h) (Or.inl ⟨by kernel_rfl, ?hy12a⟩) (by assumption) ?rest12a
  case hy12a => (intro w hSw; (try dsimp only at hSw); go_simp; (try with_reducible rfl))
  try simp only [Act.put, List.setIfInBounds_toArray, List.set_cons_zero, List.set_cons_succ]
  refine wpAnyH_ready (rs := [10]) (by kernel_rfl) (by simp) ?_
  refine AllReadyH.consL rfl (fun Kx hKx => ?_) AllReadyH.nil
  go_simp
  refine Calls.mono (kinds_calls kind _) ?_
  rintro e w2 ⟨A2, n2, c2, rfl, k2, q1, q2, q3⟩
  have k2' : Kp W w2 := ((Kp.refl W).drew).trans k2
  refine hKx.out _ _ (ten.out _ k2') (fun hHeld => ?_)
  clear hKx
  try simp only [Act.put, List.setIfInBounds_toArray, List.set_cons_zero, List.set_cons_succ]
  refine wpAnyH_ready (rs := [13]) (by kernel_rfl) (by simp) ?_
  refine AllReadyH.consL rfl (fun Kx hKx => ?_) AllReadyH.nil
  go_simp
  refine Calls.mono (Contains_yes (kindsL kind) op q1 q2 q3 hin.out) ?_
  rintro e w3 ⟨rfl, rfl⟩
  refine hKx.out _ _ (ten.out _ k2') (fun hHeld => ?_)
  clear hKx
  try simp only [Act.put, List.setIfInBounds_toArray, List.set_cons_zero, List.set_cons_succ]
  refine wpAnyH_takeL (i := 14) (v := ?v14a) rfl (by kernel_rfl) (by kernel_rfl) (by kernel_rfl) (fun _ _ _ h => h) (Or.inl ⟨by kernel_rfl, ?hy14a⟩) (by assumption) ?rest14a
  case hy14a => (intro w hSw; (try dsimp only at hSw); go_simp; (try with_reducible rfl))
  try simp only [Act.put, List.setIfInBounds_toArray, List.set_cons_zero, List.set_cons_succ]
  refine wpAnyH_ready (rs := [15]) (by kernel_rfl) (by simp) ?_
  refine AllReadyH.consL rfl (fun Kx hKx => ?_) AllReadyH.nil
  go_simp
  refine Calls.mono (need_ok _) ?_
  rintro e w3 ⟨rfl, rfl⟩
  refine hKx.out _ _ (ten.out _ k2') (fun hHeld => ?_)
  clear hKx
  try simp only [Act.put, List.setIfInBounds_toArray, List.set_cons_zero, List.set_cons_succ]
  refine wpAnyH_done (by kernel_rfl) (hQ0.out _ _ ?_) _
  go_wp2
  first | go_end0 | refine bodyPost_ret (results_none rfl _ _ _) rfl ?_
  exact ⟨rfl, kw2.out.trans k2'⟩
set_option maxRecDepth 100000 in
set_option maxHeartbeats 4000000 in
theorem rel1_bad {nt : Nat} {text : List Int} {w : World} (hA : WordsAt w A text) (hnt : text.length = nt) (kind at_ sym add : Int) (h0 : 0 ≤ at_) (h1 : at_ < nt) (hx : U (text.getD at_.toNat 0)) (hof : ¬ofW kind (text.getD at_.toNat 0)) :
    Calls Try.prog 71 #[.agg #[.slice A nt ct, .slice B nd cd, .slice C n3 c3, .slice D n4 c4], .agg #[.int .i64 1, .int .i64 at_, .int .i64 kind, .int .i64 sym, .int .i64 add]] w fun e w' => e = .panicked thrownF ∧ Kp w w' := by
  (obtain ⟨g, off, rfl, hg, hc⟩ := hA (by rintro rfl; simp at hnt; omega)); (obtain ⟨a, rfl⟩ := Int.eq_ofNat_of_zero_le h0); (have hat : a < nt := by omega); (have hc := hc a (by omega)); (simp only [Int.toNat_natCast] at hx hof); (generalize text.getD a 0 = x at *); (clear hA); (replace hnt := Aside.mk hnt)
  have hx' : 0 ≤ x ∧ x ≤ 4294967295 := hx
  replace hof := Aside.mk hof
  go_enter Try.func71, Try.ntmps71
  go_wp2_with (first | ((go_at_call 67); (refine (need_ok _).mono ?_); (rintro e w1 ⟨rfl, rfl⟩)) | ((go_at_call 49); (refine Calls.mono (Decode_calls x hx _) ?_); (rintro e w1 ⟨op, rd, rs1, rs2, n, er, rfl, k1, hd⟩); (have bR := Aside.mk ((Blk.new (w.alloc (.cells #[.slice (some ⟨g, off, none⟩) nt ct, .slice B nd cd, .slice C n3 c3, .slice D n4 c4] 38)) #[.int .i64 1, .int .i64 a, .int .i64 kind, .int .i64 sym, .int .i64 add] 46).kp k1)); (have kw1 : Aside (Kp w w1) := ⟨(((Kp.refl w).alloc _).alloc _).trans k1⟩); (clear k1); (replace hd := Aside.mk hd)))
  have hno := fun h => hof.out ((ofW_dec hd.out).2 h)
  have bI := Blk.new w1 #[.int .i64 op, .int .i64 rd, .int .i64 rs1, .int .i64 rs2, .int .i64 n] 40
  have bR2 := bR.out.alloc (.cells #[.int .i64 op, .int .i64 rd, .int .i64 rs1, .int .i64 rs2, .int .i64 n] 40)
  have kw2 : Kp w (w1.alloc (.cells #[.int .i64 op, .int .i64 rd, .int .i64 rs1, .int .i64 rs2, .int .i64 n] 40)) := kw1.out.alloc _
  rw [World.size_alloc] at bR2
  generalize w1.alloc (.cells #[.int .i64 op, .int .i64 rd, .int .i64 rs1, .int .i64 rs2, .int .i64 n] 40) = W at *
  have ten : Aside (∀ V, Kp W V → (V.cell? ⟨w1.heap.size, 4, none⟩ = some (.int .i64 n) ∧ V.cell? ⟨w1.heap.size, 0, none⟩ = some (.int .i64 op) ∧ V.cell? ⟨w.heap.size + 1, 2, none⟩ = some (.int .i64 kind))) :=
    ⟨fun V hV => ⟨(bI.kp hV).cell 4, (bI.kp hV).cell 0, (bR2.kp hV).cell 2⟩⟩
  replace kw2 := Aside.mk kw2
  clear bI bR2
  by_cases e0 : er = 0
  · subst e0
    by_cases n0 : n = 0
    · subst n0
      have hin := Aside.mk (fun h => hno ⟨rfl, rfl, (kindsL_ofK kind op).1 h⟩)
      replace hno := Aside.mk hno
      refine wp_region_held_drew (S := fun w' => w'.cell? ⟨w1.heap.size, 4, none⟩ = some (.int .i64 0) ∧ w'.cell? ⟨w1.heap.size, 0, none⟩ = some (.int .i64 op) ∧ w'.cell? ⟨w.heap.size + 1, 2, none⟩ = some (.int .i64 kind)) (by kernel_rfl) ?hS0b (fun hHeld => ?_)
      case hS0b => exact (ten.out _ (Kp.refl W).drew)
      refine wpAnyH_takeL (i := 0) (v := ?v0b) rfl (by kernel_rfl) (by kernel_rfl) (by kernel_rfl) (fun _ _ _ h => h) (Or.inl ⟨by kernel_rfl, ?hy0b⟩) (by assumption) ?rest0b
      case hy0b => (intro w hSw; (try dsimp only at hSw); go_simp; (try with_reducible rfl))
      try simp only [Act.put, List.setIfInBounds_toArray, List.set_cons_zero, List.set_cons_succ]
      refine wpAnyH_takeL (i := 1) (v := ?v1b) rfl (by kernel_rfl) (by kernel_rfl) (by kernel_rfl) (fun _ _ _ h => h) (Or.inl ⟨by kernel_rfl, ?hy1b⟩) (by assumption) ?rest1b
      case hy1b => (intro w hSw; (try dsimp only at hSw); go_simp; (try with_reducible rfl))
      try simp only [Act.put, List.setIfInBounds_toArray, List.set_cons_zero, List.set_cons_succ]
      refine wpAnyH_takeL (i := 2) (v := ?v2b) rfl (by kernel_rfl) (by kernel_rfl) (by kernel_rfl) (fun _ _ _ h => h) (Or.inl ⟨by kernel_rfl, ?hy2b⟩) (by assumption) ?rest2b
      case hy2b => (intro w hSw; (try dsimp only at hSw); go_simp; (try with_reducible rfl))
      try simp only [Act.put, List.setIfInBounds_toArray, List.set_cons_zero, List.set_cons_succ]
      refine wpAnyH_takeL (i := 3) (v := ?v3b) rfl (by kernel_rfl) (by kernel_rfl) (by kernel_rfl) (fun _ _ _ h => h) (Or.inl ⟨by kernel_rfl, ?hy3b⟩) (by assumption) ?rest3b
      case hy3b => (intro w hSw; (try dsimp only at hSw); go_simp; (try with_reducible rfl))
      try simp only [Act.put, List.setIfInBounds_toArray, List.set_cons_zero, List.set_cons_succ]
      refine wpAnyH_takeL (i := 4) (v := ?v4b) rfl (by kernel_rfl) (by kernel_rfl) (by kernel_rfl) (fun _ _ _ h => h) (Or.inl ⟨by kernel_rfl, ?hy4b⟩) (by assumption) ?rest4b
      case hy4b => (intro w hSw; (try dsimp only at hSw); go_simp; (try with_reducible rfl))
      try simp only [Act.put, List.setIfInBounds_toArray, List.set_cons_zero, List.set_cons_succ]
      refine wpAnyH_takeL (i := 5) (v := ?v5b) rfl (by kernel_rfl) (by kernel_rfl) (by kernel_rfl) (fun _ _ _ h => h) (Or.inl ⟨by kernel_rfl, ?hy5b⟩) (by assumption) ?rest5b
      case hy5b => (intro w hSw; (try dsimp only at hSw); go_simp; (try with_reducible rfl))
      try simp only [Act.put, List.setIfInBounds_toArray, List.set_cons_zero, List.set_cons_succ]
      refine wpAnyH_takeL (i := 6) (v := ?v6b) rfl (by kernel_rfl) (by kernel_rfl) (by kernel_rfl) (fun _ _ _ h => h) (Or.inl ⟨by kernel_rfl, ?hy6b⟩) (by assumption) ?rest6b
      case hy6b => (intro w hSw; (try dsimp only at hSw); go_simp; (try with_reducible rfl))
      try simp only [Act.put, List.setIfInBounds_toArray, List.set_cons_zero, List.set_cons_succ]
      refine wpAnyH_takeL (i := 7) (v := ?v7b) rfl (by kernel_rfl) (by kernel_rfl) (by kernel_rfl) (fun _ _ _ h => h) (Or.inl ⟨by kernel_rfl, ?hy7b⟩) (by assumption) ?rest7b
      case hy7b => (intro w hSw; (try dsimp only at hSw); go_simp; (try with_reducible rfl))
      try simp only [Act.put, List.setIfInBounds_toArray, List.set_cons_zero, List.set_cons_succ]
      refine wpAnyH_takeL (i := 8) (v := ?v8b) rfl (by kernel_rfl) (by kernel_rfl) (by kernel_rfl) (fun _ _ _ h => h) (Or.inl ⟨by kernel_rfl, ?hy8b⟩) (by assumption) ?rest8b
      case hy8b => (intro w hSw; (try dsimp only at hSw); go_simp; (try with_reducible rfl))
      try simp only [Act.put, List.setIfInBounds_toArray, List.set_cons_zero, List.set_cons_succ]
      refine wpAnyH_takeL (i := 9) (v := ?v9b) rfl (by kernel_rfl) (by kernel_rfl) (by kernel_rfl) (fun _ _ _ h => h) (Or.inl ⟨by kernel_rfl, ?hy9b⟩) (by assumption) ?rest9b
      case hy9b => (intro w hSw; (try dsimp only at hSw); go_simp; (try with_reducible rfl))
      try simp only [Act.put, List.setIfInBounds_toArray, List.set_cons_zero, List.set_cons_succ]
      refine wpAnyH_takeL (i := 11) (v := ?v11b) rfl (by kernel_rfl) (by kernel_rfl) (by kernel_rfl) (fun _ _ _ h => h) (Or.inl ⟨by kernel_rfl, ?hy11b⟩) (by assumption) ?rest11b
      case hy11b => (intro w hSw; (try dsimp only at hSw); go_simp; (try with_reducible rfl))
      try simp only [Act.put, List.setIfInBounds_toArray, List.set_cons_zero, List.set_cons_succ]
      refine wpAnyH_takeL (i := 12) (v := ?v12b) rfl (by kernel_rfl) (by kernel_rfl) (by kernel_rfl) (fun _ _ _ h => h) (Or.inl ⟨by kernel_rfl, ?hy12b⟩) (by assumption) ?rest12b
      case hy12b => (intro w hSw; (try dsimp only at hSw); go_simp; (try with_reducible rfl))
      try simp only [Act.put, List.setIfInBounds_toArray, List.set_cons_zero, List.set_cons_succ]
      refine wpAnyH_ready (rs := [10]) (by kernel_rfl) (by simp) ?_
      refine AllReadyH.consL rfl (fun Kx hKx => ?_) AllReadyH.nil
      go_simp
      refine Calls.mono (kinds_calls kind _) ?_
      rintro e w2 ⟨A2, n2, c2, rfl, k2, q1, q2, q3⟩
      have k2' : Kp W w2 := ((Kp.refl W).drew).trans k2
      refine hKx.out _ _ (ten.out _ k2') (fun hHeld => ?_)
      clear hKx
      try simp only [Act.put, List.setIfInBounds_toArray, List.set_cons_zero, List.set_cons_succ]
      refine wpAnyH_ready (rs := [13]) (by kernel_rfl) (by simp) ?_
      refine AllReadyH.consL rfl (fun Kx hKx => ?_) AllReadyH.nil
      go_simp
      refine Calls.mono (Contains_no (kindsL kind) op q1 q2 q3 hin.out) ?_
      rintro e w3 ⟨rfl, rfl⟩
      refine hKx.out _ _ (ten.out _ k2') (fun hHeld => ?_)
      clear hKx
      try simp only [Act.put, List.setIfInBounds_toArray, List.set_cons_zero, List.set_cons_succ]
      refine wpAnyH_takeL (i := 14) (v := ?v14b) rfl (by kernel_rfl) (by kernel_rfl) (by kernel_rfl) (fun _ _ _ h => h) (Or.inl ⟨by kernel_rfl, ?hy14b⟩) (by assumption) ?rest14b
      case hy14b => (intro w hSw; (try dsimp only at hSw); go_simp; (try with_reducible rfl))
      try simp only [Act.put, List.setIfInBounds_toArray, List.set_cons_zero, List.set_cons_succ]
      refine wpAnyH_ready (rs := [15]) (by kernel_rfl) (by simp) ?_
      refine AllReadyH.consL rfl (fun Kx hKx => ?_) AllReadyH.nil
      go_simp
      refine Calls.mono (need_no _) ?_
      rintro e w3 ⟨rfl, rfl⟩
      exact ⟨rfl, rfl, kw2.out.trans k2'⟩
    · have gn : (n == 0) = false := beq_eq_false_iff_ne.2 n0
      replace hno := Aside.mk hno
      clear n0
      refine wp_region_held_drew (S := fun w' => w'.cell? ⟨w1.heap.size, 4, none⟩ = some (.int .i64 n) ∧ w'.cell? ⟨w1.heap.size, 0, none⟩ = some (.int .i64 op) ∧ w'.cell? ⟨w.heap.size + 1, 2, none⟩ = some (.int .i64 kind)) (by kernel_rfl) ?hS0c (fun hHeld => ?_)
      case hS0c => exact (ten.out _ (Kp.refl W).drew)
      refine wpAnyH_takeL (i := 0) (v := ?v0c) rfl (by kernel_rfl) (by kernel_rfl) (by kernel_rfl) (fun _ _ _ h => h) (Or.inl ⟨by kernel_rfl, ?hy0c⟩) (by assumption) ?rest0c
      case hy0c => (intro w hSw; (try dsimp only at hSw); go_simp; (try with_reducible rfl))
      try simp only [Act.put, List.setIfInBounds_toArray, List.set_cons_zero, List.set_cons_succ]
      refine wpAnyH_takeL (i := 1) (v := ?v1c) rfl (by kernel_rfl) (by kernel_rfl) (by kernel_rfl) (fun _ _ _ h => h) (Or.inl ⟨by kernel_rfl, ?hy1c⟩) (by assumption) ?rest1c
      case hy1c => (intro w hSw; (try dsimp only at hSw); go_simp; (try with_reducible rfl))
      try simp only [Act.put, List.setIfInBounds_toArray, List.set_cons_zero, List.set_cons_succ]
      refine wpAnyH_takeL (i := 2) (v := ?v2c) rfl (by kernel_rfl) (by kernel_rfl) (by kernel_rfl) (fun _ _ _ h => h) (Or.inl ⟨by kernel_rfl, ?hy2c⟩) (by assumption) ?rest2c
      case hy2c => (intro w hSw; (try dsimp only at hSw); go_simp; (try with_reducible rfl))
      try simp only [Act.put, List.setIfInBounds_toArray, List.set_cons_zero, List.set_cons_succ]
      refine wpAnyH_takeL (i := 3) (v := ?v3c) rfl (by kernel_rfl) (by kernel_rfl) (by kernel_rfl) (fun _ _ _ h => h) (Or.inl ⟨by kernel_rfl, ?hy3c⟩) (by assumption) ?rest3c
      case hy3c => (intro w hSw; (try dsimp only at hSw); go_simp; (try with_reducible rfl))
      try simp only [Act.put, List.setIfInBounds_toArray, List.set_cons_zero, List.set_cons_succ]
      refine wpAnyH_takeL (i := 4) (v := ?v4c) rfl (by kernel_rfl) (by kernel_rfl) (by kernel_rfl) (fun _ _ _ h => h) (Or.inl ⟨by kernel_rfl, ?hy4c⟩) (by assumption) ?rest4c
      case hy4c => (intro w hSw; (try dsimp only at hSw); go_simp; (try with_reducible rfl))
      try simp only [Act.put, List.setIfInBounds_toArray, List.set_cons_zero, List.set_cons_succ]
      refine wpAnyH_takeL (i := 5) (v := ?v5c) rfl (by kernel_rfl) (by kernel_rfl) (by kernel_rfl) (fun _ _ _ h => h) (Or.inl ⟨by kernel_rfl, ?hy5c⟩) (by assumption) ?rest5c
      case hy5c => (intro w hSw; (try dsimp only at hSw); go_simp; (try with_reducible rfl))
      try simp only [Act.put, List.setIfInBounds_toArray, List.set_cons_zero, List.set_cons_succ]
      refine wpAnyH_takeL (i := 6) (v := ?v6c) rfl (by kernel_rfl) (by kernel_rfl) (by kernel_rfl) (fun _ _ _ h => h) (Or.inl ⟨by kernel_rfl, ?hy6c⟩) (by assumption) ?rest6c
      case hy6c => (intro w hSw; (try dsimp only at hSw); go_simp; (try with_reducible rfl))
      try simp only [Act.put, List.setIfInBounds_toArray, List.set_cons_zero, List.set_cons_succ]
      refine wpAnyH_takeL (i := 7) (v := ?v7c) rfl (by kernel_rfl) (by kernel_rfl) (by kernel_rfl) (fun _ _ _ h => h) (Or.inl ⟨by kernel_rfl, ?hy7c⟩) (by assumption) ?rest7c
      case hy7c => (intro w hSw; (try dsimp only at hSw); go_simp; (try with_reducible rfl))
      try simp only [Act.put, List.setIfInBounds_toArray, List.set_cons_zero, List.set_cons_succ]
      refine wpAnyH_takeL (i := 8) (v := undef) rfl (by kernel_rfl) (by kernel_rfl) (by kernel_rfl) (fun _ _ _ h => h) (Or.inr ⟨by kernel_rfl, rfl⟩) (by assumption) ?rest8c
      try simp only [Act.put, List.setIfInBounds_toArray, List.set_cons_zero, List.set_cons_succ]
      refine wpAnyH_takeL (i := 9) (v := undef) rfl (by kernel_rfl) (by kernel_rfl) (by kernel_rfl) (fun _ _ _ h => h) (Or.inr ⟨by kernel_rfl, rfl⟩) (by assumption) ?rest9c
      try simp only [Act.put, List.setIfInBounds_toArray, List.set_cons_zero, List.set_cons_succ]
      refine wpAnyH_takeL (i := 10) (v := undef) rfl (by kernel_rfl) (by kernel_rfl) (by kernel_rfl) (fun _ _ _ h => h) (Or.inr ⟨by kernel_rfl, rfl⟩) (by assumption) ?rest10c
      try simp only [Act.put, List.setIfInBounds_toArray, List.set_cons_zero, List.set_cons_succ]
      refine wpAnyH_takeL (i := 11) (v := undef) rfl (by kernel_rfl) (by kernel_rfl) (by kernel_rfl) (fun _ _ _ h => h) (Or.inr ⟨by kernel_rfl, rfl⟩) (by assumption) ?rest11c
      try simp only [Act.put, List.setIfInBounds_toArray, List.set_cons_zero, List.set_cons_succ]
      refine wpAnyH_takeL (i := 12) (v := undef) rfl (by kernel_rfl) (by kernel_rfl) (by kernel_rfl) (fun _ _ _ h => h) (Or.inr ⟨by kernel_rfl, rfl⟩) (by assumption) ?rest12c
      try simp only [Act.put, List.setIfInBounds_toArray, List.set_cons_zero, List.set_cons_succ]
      refine wpAnyH_takeL (i := 13) (v := undef) rfl (by kernel_rfl) (by kernel_rfl) (by kernel_rfl) (fun _ _ _ h => h) (Or.inr ⟨by kernel_rfl, rfl⟩) (by assumption) ?rest13c
      try simp only [Act.put, List.setIfInBounds_toArray, List.set_cons_zero, List.set_cons_succ]
      refine wpAnyH_takeL (i := 14) (v := ?v14c) rfl (by kernel_rfl) (by kernel_rfl) (by kernel_rfl) (fun _ _ _ h => h) (Or.inl ⟨by kernel_rfl, ?hy14c⟩) (by assumption) ?rest14c
      case hy14c => (intro w hSw; (try dsimp only at hSw); go_simp; (try with_reducible rfl))
      try simp only [Act.put, List.setIfInBounds_toArray, List.set_cons_zero, List.set_cons_succ]
      refine wpAnyH_ready (rs := [15]) (by kernel_rfl) (by simp) ?_
      refine AllReadyH.consL rfl (fun Kx hKx => ?_) AllReadyH.nil
      go_simp
      refine Calls.mono (need_no _) ?_
      rintro e w3 ⟨rfl, rfl⟩
      exact ⟨rfl, rfl, kw2.out.trans (Kp.refl W).drew⟩
  · have ge : (er == 0) = false := beq_eq_false_iff_ne.2 e0
    replace hno := Aside.mk hno
    clear e0
    refine wp_region_held_drew (S := fun w' => w'.cell? ⟨w1.heap.size, 4, none⟩ = some (.int .i64 n) ∧ w'.cell? ⟨w1.heap.size, 0, none⟩ = some (.int .i64 op) ∧ w'.cell? ⟨w.heap.size + 1, 2, none⟩ = some (.int .i64 kind)) (by kernel_rfl) ?hS0d (fun hHeld => ?_)
    case hS0d => exact (ten.out _ (Kp.refl W).drew)
    refine wpAnyH_takeL (i := 0) (v := ?v0d) rfl (by kernel_rfl) (by kernel_rfl) (by kernel_rfl) (fun _ _ _ h => h) (Or.inl ⟨by kernel_rfl, ?hy0d⟩) (by assumption) ?rest0d
    case hy0d => (intro w hSw; (try dsimp only at hSw); go_simp; (try with_reducible rfl))
    try simp only [Act.put, List.setIfInBounds_toArray, List.set_cons_zero, List.set_cons_succ]
    refine wpAnyH_takeL (i := 1) (v := ?v1d) rfl (by kernel_rfl) (by kernel_rfl) (by kernel_rfl) (fun _ _ _ h => h) (Or.inl ⟨by kernel_rfl, ?hy1d⟩) (by assumption) ?rest1d
    case hy1d => (intro w hSw; (try dsimp only at hSw); go_simp; (try with_reducible rfl))
    try simp only [Act.put, List.setIfInBounds_toArray, List.set_cons_zero, List.set_cons_succ]
    refine wpAnyH_takeL (i := 2) (v := ?v2d) rfl (by kernel_rfl) (by kernel_rfl) (by kernel_rfl) (fun _ _ _ h => h) (Or.inl ⟨by kernel_rfl, ?hy2d⟩) (by assumption) ?rest2d
    case hy2d => (intro w hSw; (try dsimp only at hSw); go_simp; (try with_reducible rfl))
    try simp only [Act.put, List.setIfInBounds_toArray, List.set_cons_zero, List.set_cons_succ]
    refine wpAnyH_takeL (i := 3) (v := undef) rfl (by kernel_rfl) (by kernel_rfl) (by kernel_rfl) (fun _ _ _ h => h) (Or.inr ⟨by kernel_rfl, rfl⟩) (by assumption) ?rest3d
    try simp only [Act.put, List.setIfInBounds_toArray, List.set_cons_zero, List.set_cons_succ]
    refine wpAnyH_takeL (i := 4) (v := undef) rfl (by kernel_rfl) (by kernel_rfl) (by kernel_rfl) (fun _ _ _ h => h) (Or.inr ⟨by kernel_rfl, rfl⟩) (by assumption) ?rest4d
    try simp only [Act.put, List.setIfInBounds_toArray, List.set_cons_zero, List.set_cons_succ]
    refine wpAnyH_takeL (i := 5) (v := undef) rfl (by kernel_rfl) (by kernel_rfl) (by kernel_rfl) (fun _ _ _ h => h) (Or.inr ⟨by kernel_rfl, rfl⟩) (by assumption) ?rest5d
    try simp only [Act.put, List.setIfInBounds_toArray, List.set_cons_zero, List.set_cons_succ]
    refine wpAnyH_takeL (i := 6) (v := ?v6d) rfl (by kernel_rfl) (by kernel_rfl) (by kernel_rfl) (fun _ _ _ h => h) (Or.inl ⟨by kernel_rfl, ?hy6d⟩) (by assumption) ?rest6d
    case hy6d => (intro w hSw; (try dsimp only at hSw); go_simp; (try with_reducible rfl))
    try simp only [Act.put, List.setIfInBounds_toArray, List.set_cons_zero, List.set_cons_succ]
    refine wpAnyH_takeL (i := 7) (v := ?v7d) rfl (by kernel_rfl) (by kernel_rfl) (by kernel_rfl) (fun _ _ _ h => h) (Or.inl ⟨by kernel_rfl, ?hy7d⟩) (by assumption) ?rest7d
    case hy7d => (intro w hSw; (try dsimp only at hSw); go_simp; (try with_reducible rfl))
    try simp only [Act.put, List.setIfInBounds_toArray, List.set_cons_zero, List.set_cons_succ]
    refine wpAnyH_takeL (i := 8) (v := undef) rfl (by kernel_rfl) (by kernel_rfl) (by kernel_rfl) (fun _ _ _ h => h) (Or.inr ⟨by kernel_rfl, rfl⟩) (by assumption) ?rest8d
    try simp only [Act.put, List.setIfInBounds_toArray, List.set_cons_zero, List.set_cons_succ]
    refine wpAnyH_takeL (i := 9) (v := undef) rfl (by kernel_rfl) (by kernel_rfl) (by kernel_rfl) (fun _ _ _ h => h) (Or.inr ⟨by kernel_rfl, rfl⟩) (by assumption) ?rest9d
    try simp only [Act.put, List.setIfInBounds_toArray, List.set_cons_zero, List.set_cons_succ]
    refine wpAnyH_takeL (i := 10) (v := undef) rfl (by kernel_rfl) (by kernel_rfl) (by kernel_rfl) (fun _ _ _ h => h) (Or.inr ⟨by kernel_rfl, rfl⟩) (by assumption) ?rest10d
    try simp only [Act.put, List.setIfInBounds_toArray, List.set_cons_zero, List.set_cons_succ]
    refine wpAnyH_takeL (i := 11) (v := undef) rfl (by kernel_rfl) (by kernel_rfl) (by kernel_rfl) (fun _ _ _ h => h) (Or.inr ⟨by kernel_rfl, rfl⟩) (by assumption) ?rest11d
    try simp only [Act.put, List.setIfInBounds_toArray, List.set_cons_zero, List.set_cons_succ]
    refine wpAnyH_takeL (i := 12) (v := undef) rfl (by kernel_rfl) (by kernel_rfl) (by kernel_rfl) (fun _ _ _ h => h) (Or.inr ⟨by kernel_rfl, rfl⟩) (by assumption) ?rest12d
    try simp only [Act.put, List.setIfInBounds_toArray, List.set_cons_zero, List.set_cons_succ]
    refine wpAnyH_takeL (i := 13) (v := undef) rfl (by kernel_rfl) (by kernel_rfl) (by kernel_rfl) (fun _ _ _ h => h) (Or.inr ⟨by kernel_rfl, rfl⟩) (by assumption) ?rest13d
    try simp only [Act.put, List.setIfInBounds_toArray, List.set_cons_zero, List.set_cons_succ]
    refine wpAnyH_takeL (i := 14) (v := ?v14d) rfl (by kernel_rfl) (by kernel_rfl) (by kernel_rfl) (fun _ _ _ h => h) (Or.inl ⟨by kernel_rfl, ?hy14d⟩) (by assumption) ?rest14d
    case hy14d => (intro w hSw; (try dsimp only at hSw); go_simp; (try with_reducible rfl))
    try simp only [Act.put, List.setIfInBounds_toArray, List.set_cons_zero, List.set_cons_succ]
    refine wpAnyH_ready (rs := [15]) (by kernel_rfl) (by simp) ?_
    refine AllReadyH.consL rfl (fun Kx hKx => ?_) AllReadyH.nil
    go_simp
    refine Calls.mono (need_no _) ?_
    rintro e w3 ⟨rfl, rfl⟩
    exact ⟨rfl, rfl, kw2.out.trans (Kp.refl W).drew⟩
end
end Go.Proofs.Ytnbooljaodkedaa
namespace Go.Proofs.Ytnbooljaodkedaa
open Go.RowKit Go.Maps Go.Proofs.Ytnbooljaodkedaa.PC Go.Proofs.Ytnbooljaodkedaa.PW
set_option linter.unusedVariables false
set_option linter.unusedSimpArgs false
def cmpI (a b : Int) : Int := if a < b then -1 else if b < a then 1 else 0
theorem isNaNi_calls (a : Int) (w : World) : Calls Try.prog 96 #[.int .i64 a] w fun e w' => e = .returned (.bool false) ∧ w = w' := by
  go_enter Try.func96, Try.ntmps96
  go_wp2
  go_ret
  exact ⟨by simp, rfl⟩
theorem cmp_calls (a b : Int) (w : World) : Calls Try.prog 87 #[.int .i64 a, .int .i64 b] w fun e w' => e = .returned (.int .i64 (cmpI a b)) ∧ w = w' := by
  unfold cmpI
  by_cases h : a < b
  · rw [if_pos h]
    go_enter Try.func87, Try.ntmps87
    go_wp2_with ((go_at_call 96); (refine (isNaNi_calls _ _).mono ?_); (rintro e w1 ⟨rfl, rfl⟩))
    go_ret
    exact ⟨rfl, rfl⟩
  rw [if_neg h]
  by_cases h2 : b < a
  · rw [if_pos h2]
    go_enter Try.func87, Try.ntmps87
    go_wp2_with ((go_at_call 96); (refine (isNaNi_calls _ _).mono ?_); (rintro e w1 ⟨rfl, rfl⟩))
    go_ret
    exact ⟨rfl, rfl⟩
  · rw [if_neg h2]
    go_enter Try.func87, Try.ntmps87
    go_wp2_with ((go_at_call 96); (refine (isNaNi_calls _ _).mono ?_); (rintro e w1 ⟨rfl, rfl⟩))
    go_ret
    exact ⟨rfl, rfl⟩
set_option maxHeartbeats 2000000 in
theorem Compare_calls {w : World} {g h c d : Nat} (a0 a1 b0 b1 : Int) (ha0 : w.cell? ⟨g, 0, none⟩ = some (.int .i64 a0)) (ha1 : w.cell? ⟨g, 1, none⟩ = some (.int .i64 a1)) (hb0 : w.cell? ⟨h, 0, none⟩ = some (.int .i64 b0)) (hb1 : w.cell? ⟨h, 1, none⟩ = some (.int .i64 b1)) :
    Calls Try.prog 70 #[.slice (some ⟨g, 0, none⟩) 2 c, .slice (some ⟨h, 0, none⟩) 2 d] w fun e w' => ∃ r : Int, e = .returned (.int .i64 r) ∧ w = w' ∧ (r < 0 ↔ relLt (a0, a1) (b0, b1)) := by
  go_enter Try.func70, Try.ntmps70
  go_wp2
  go_loop [11] (fun i => ∃ k : Nat, k ≤ 2 ∧ i = .int .i64 k ∧ Aside (1 ≤ k → a0 = b0) ∧ Aside (2 ≤ k → a1 = b1)) (fun i => 2 - (intOf i).toNat)
  case atStart => exact ⟨0, by omega, rfl, ⟨fun h => absurd h (by omega)⟩, ⟨fun h => absurd h (by omega)⟩⟩
  case round =>
    obtain ⟨k, hk, rfl, e0, e1⟩ := hrel
    by_cases h2 : k = 2
    · subst h2
      go_wp2
      go_ret
      refine ⟨0, rfl, rfl, ?_⟩
      have := e0.out (by omega)
      have := e1.out (by omega)
      unfold relLt
      simp only
      omega
    obtain ⟨x, y, hx, hy, hcase⟩ : ∃ x y : Int, w.cell? ⟨g, k, none⟩ = some (.int .i64 x) ∧ w.cell? ⟨h, k, none⟩ = some (.int .i64 y) ∧ Aside (k = 0 ∧ x = a0 ∧ y = b0 ∨ k = 1 ∧ x = a1 ∧ y = b1) := by
      rcases (by omega : k = 0 ∨ k = 1) with rfl | rfl
      · exact ⟨a0, b0, ha0, hb0, ⟨Or.inl ⟨rfl, rfl, rfl⟩⟩⟩
      · exact ⟨a1, b1, ha1, hb1, ⟨Or.inr ⟨rfl, rfl, rfl⟩⟩⟩
    have hlt : k < 2 := by omega
    clear h2 ha0 ha1 hb0 hb1
    by_cases hxy : x = y
    · have hz : cmpI x y = 0 := by unfold cmpI; rw [if_neg (by omega), if_neg (by omega)]
      replace hxy := Aside.mk hxy
      go_wp2_with ((go_at_call 87); (refine (cmp_calls _ _ _).mono ?_); (rintro e w1 ⟨rfl, rfl⟩))
      go_round
      case rel =>
        refine ⟨k + 1, by omega, by go_num, ⟨fun _ => ?_⟩, ⟨fun h => ?_⟩⟩
        · rcases hcase.out with ⟨rfl, rfl, rfl⟩ | ⟨rfl, rfl, rfl⟩
          · exact hxy.out
          · exact e0.out (by omega)
        · rcases hcase.out with ⟨rfl, rfl, rfl⟩ | ⟨rfl, rfl, rfl⟩
          · omega
          · exact hxy.out
      case measure => simp [intOf]; omega
    · have hz : (cmpI x y != 0) = true := by
        rw [bne_iff_ne]
        unfold cmpI
        split
        · omega
        split
        · omega
        · omega
      have hs := Aside.mk (show (cmpI x y < 0 ↔ relLt (a0, a1) (b0, b1)) by
        have h0 := e0.out
        have e : cmpI x y < 0 ↔ x < y := by unfold cmpI; split; omega; split <;> omega
        rw [e]
        unfold relLt
        simp only
        rcases hcase.out with ⟨rfl, rfl, rfl⟩ | ⟨rfl, rfl, rfl⟩
        · omega
        · have := h0 (by omega)
          omega)
      have hz0 := Aside.mk hxy
      clear hxy
      go_wp2_with ((go_at_call 87); (refine (cmp_calls _ _ _).mono ?_); (rintro e w1 ⟨rfl, rfl⟩))
      go_ret
      exact ⟨cmpI x y, rfl, rfl, hs.out⟩
end Go.Proofs.Ytnbooljaodkedaa
