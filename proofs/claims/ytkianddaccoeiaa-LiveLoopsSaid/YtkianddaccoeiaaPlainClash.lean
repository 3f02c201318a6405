/- Which registers clash, by value. No condition. -/
import Derived.Test.YtkianddaccoeiaaPlainPair
namespace Go.Proofs.Ytkianddaccoeiaa.PL
set_option linter.unusedVariables false
set_option linter.unusedSimpArgs false
/-- A register's kind. -/
def kdV (f : FunV) (r : Int) : Int := f.kinds.getD r.toNat 0
/-- It is live at the beginning, or a parameter. -/
def firstP (f : FunV) (a : Int) : Prop := liveB f 0 a = true ∨ a ∈ f.params
/-- One is written where another one is live behind, or both are there at the beginning. -/
def srcP (f : FunV) (a b : Int) : Prop := (∃ n i, f.code[n]? = some i ∧ i.writes = a ∧ behindB f n i b = true ∧ (i.op ≠ 3 ∨ b ≠ i.a)) ∨ (firstP f a ∧ firstP f b)
/-- Two registers clash, the lower one first. -/
def clashP (f : FunV) (x y : Int) : Prop := inK f x ∧ inK f y ∧ x < y ∧ kdV f x = kdV f y ∧ (srcP f x y ∨ srcP f y x)
open Classical in
noncomputable def clashB (f : FunV) (x y : Int) : Bool := decide (clashP f x y)
theorem clashB_iff {f : FunV} {x y : Int} : clashB f x y = true ↔ clashP f x y := by simp [clashB]
theorem clashB_low {f : FunV} : ∀ x y, clashB f x y = true → (0 ≤ x ∧ x < f.kinds.length) ∧ 0 ≤ y ∧ y < f.kinds.length := fun x y h => by
  obtain ⟨h1, h2, -⟩ := clashB_iff.1 h
  exact ⟨h1, h2⟩
/-- A pair more. -/
def putP (S : Int → Int → Bool) (a b : Int) : Int → Int → Bool := fun x y => decide (x = a ∧ y = b) || S x y
theorem putP_iff {S : Int → Int → Bool} {a b x y : Int} : putP S a b x y = true ↔ (x = a ∧ y = b) ∨ S x y = true := by simp [putP]
/-- What a pair of registers adds. -/
def addP (f : FunV) (S : Int → Int → Bool) (a b : Int) : Int → Int → Bool := if a ≠ b ∧ kdV f a = kdV f b then putP S (min a b) (max a b) else S
theorem addP_old {f : FunV} {S : Int → Int → Bool} (a b : Int) {x y : Int} (h : S x y = true) : addP f S a b x y = true := by
  unfold addP
  split
  · exact putP_iff.2 (Or.inr h)
  · exact h
/-- A pair is there, if it may be. -/
def HasP (f : FunV) (S : Int → Int → Bool) (a b : Int) : Prop := a ≠ b → kdV f a = kdV f b → S (min a b) (max a b) = true
theorem addP_has (f : FunV) (S : Int → Int → Bool) (a b : Int) : HasP f (addP f S a b) a b := fun h1 h2 => by
  unfold addP
  rw [if_pos ⟨h1, h2⟩]
  exact putP_iff.2 (Or.inl ⟨rfl, rfl⟩)
theorem HasP.more {f : FunV} {S T : Int → Int → Bool} {a b : Int} (h : HasP f S a b) (hm : ∀ x y, S x y = true → T x y = true) : HasP f T a b := fun h1 h2 => hm _ _ (h h1 h2)
/-- Pairs that clash. -/
def SndP (f : FunV) (S : Int → Int → Bool) : Prop := ∀ x y, S x y = true → clashP f x y
theorem SndP.add {f : FunV} {S : Int → Int → Bool} (h : SndP f S) {a b : Int} (ha : inK f a) (hb : inK f b) (hs : srcP f a b) : SndP f (addP f S a b) := fun x y hxy => by
  unfold addP at hxy
  split at hxy
  · rename_i hc
    rcases putP_iff.1 hxy with ⟨rfl, rfl⟩ | hxy
    · rcases Int.lt_or_gt_of_ne hc.1 with hl | hl
      · rw [Int.min_eq_left (by omega), Int.max_eq_right (by omega)]
        exact ⟨ha, hb, hl, hc.2, Or.inl hs⟩
      · rw [Int.min_eq_right (by omega), Int.max_eq_left (by omega)]
        exact ⟨hb, ha, hl, hc.2.symm, Or.inr hs⟩
    · exact h x y hxy
  · exact h x y hxy
/-- All pairs that must be there are, and no others: they are those that clash. -/
theorem clash_eq {f : FunV} {S : Int → Int → Bool} (h : SndP f S) (hc : ∀ a b, inK f a → inK f b → srcP f a b → HasP f S a b) : ∀ x y, S x y = clashB f x y := by
  intro x y
  rw [Bool.eq_iff_iff, clashB_iff]
  refine ⟨h x y, fun hxy => ?_⟩
  obtain ⟨hx, hy, hl, hk, hs⟩ := hxy
  rcases hs with hs | hs
  · have := hc x y hx hy hs (by omega) hk
    rwa [Int.min_eq_left (by omega), Int.max_eq_right (by omega)] at this
  · have := hc y x hy hx hs (by omega) hk.symm
    rwa [Int.min_eq_right (by omega), Int.max_eq_left (by omega)] at this
/-- A register is live across a call. -/
def acrossP (f : FunV) (r : Int) : Prop := ∃ n i, f.code[n]? = some i ∧ i.op = 16 ∧ behindB f n i r = true ∧ r ≠ i.dst
open Classical in
noncomputable def acrossB (f : FunV) (r : Int) : Bool := decide (acrossP f r)
theorem acrossB_iff {f : FunV} {r : Int} : acrossB f r = true ↔ acrossP f r := by simp [acrossB]
end Go.Proofs.Ytkianddaccoeiaa.PL
