/- Pairs of numbers in order. No condition. -/
import Derived.Test.YtkianddaccoeiaaPlainLive
namespace Go.Proofs.Ytkianddaccoeiaa.PL
set_option linter.unusedVariables false
set_option linter.unusedSimpArgs false
/-- The order of pairs. -/
def leP (p q : Int × Int) : Bool := decide (p.1 < q.1 ∨ p.1 = q.1 ∧ p.2 ≤ q.2)
theorem leP_trans (p q r : Int × Int) (h1 : leP p q = true) (h2 : leP q r = true) : leP p r = true := by
  unfold leP at *
  simp only [decide_eq_true_eq] at *
  omega
theorem leP_total (p q : Int × Int) : (leP p q || leP q p) = true := by
  unfold leP
  simp only [Bool.or_eq_true, decide_eq_true_eq]
  omega
theorem leP_anti {p q : Int × Int} (h1 : leP p q = true) (h2 : leP q p = true) : p = q := by
  unfold leP at *
  simp only [decide_eq_true_eq] at *
  exact Prod.ext (by omega) (by omega)
/-- The pairs of a set of pairs, in order. -/
def listP (K : Nat) (S : Int → Int → Bool) : List (Int × Int) := (List.range K).flatMap fun a : Nat => ((List.range K).filter fun b : Nat => S (a : Int) (b : Int)).map fun b : Nat => ((a : Int), (b : Int))
theorem mem_listP {K : Nat} {S : Int → Int → Bool} (h : ∀ x y, S x y = true → (0 ≤ x ∧ x < K) ∧ 0 ≤ y ∧ y < K) (p : Int × Int) : p ∈ listP K S ↔ S p.1 p.2 = true := by
  unfold listP
  simp only [List.mem_flatMap, List.mem_range, List.mem_map, List.mem_filter]
  constructor
  · rintro ⟨a, ha, b, ⟨hb, hs⟩, rfl⟩
    exact hs
  · intro hs
    obtain ⟨h1, h2⟩ := h _ _ hs
    refine ⟨p.1.toNat, by omega, p.2.toNat, ⟨by omega, ?_⟩, Prod.ext (by simp only; omega) (by simp only; omega)⟩
    rw [show ((p.1.toNat : Nat) : Int) = p.1 by omega, show ((p.2.toNat : Nat) : Int) = p.2 by omega]
    exact hs
theorem listP_strict (K : Nat) (S : Int → Int → Bool) : (listP K S).Pairwise (fun p q => p.1 < q.1 ∨ p.1 = q.1 ∧ p.2 < q.2) := by
  unfold listP
  rw [List.pairwise_flatMap]
  refine ⟨fun a _ => ?_, ?_⟩
  · rw [List.pairwise_map]
    exact List.Pairwise.imp (fun {x y} h => Or.inr ⟨rfl, by simp only; omega⟩) (List.Pairwise.filter _ List.pairwise_lt_range)
  · refine List.Pairwise.imp (fun {x y} h => ?_) List.pairwise_lt_range
    intro p hp q hq
    obtain ⟨b, -, rfl⟩ := List.mem_map.1 hp
    obtain ⟨c, -, rfl⟩ := List.mem_map.1 hq
    exact Or.inl (by simp only; omega)
theorem listP_nodup (K : Nat) (S : Int → Int → Bool) : (listP K S).Nodup := by
  rw [List.nodup_iff_pairwise_ne]
  refine List.Pairwise.imp (fun {p q} h e => ?_) (listP_strict K S)
  subst e
  omega
theorem listP_sorted (K : Nat) (S : Int → Int → Bool) : (listP K S).Pairwise (fun p q => leP p q = true) := by
  refine List.Pairwise.imp (fun {p q} h => ?_) (listP_strict K S)
  unfold leP
  rw [decide_eq_true_eq]
  omega
/-- What is sorted of all pairs of a set is its list. -/
theorem sort_listP {K : Nat} {S : Int → Int → Bool} {ps : List (Int × Int)} (h : ps.Perm (listP K S)) : ps.mergeSort leP = listP K S := by
  refine List.Perm.eq_of_pairwise (le := fun p q => leP p q = true) (fun p q _ _ h1 h2 => leP_anti h1 h2) ?_ (listP_sorted K S) ((List.mergeSort_perm ps leP).trans h)
  exact List.pairwise_mergeSort (le := leP) leP_trans leP_total ps
end Go.Proofs.Ytkianddaccoeiaa.PL
