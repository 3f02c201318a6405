/- LinkCalls: four rows of one's own, and objects beside them. Conditions stand at each. -/
import Derived.Test.YtnbooljaodkedaaCalN
namespace Go.Proofs.Ytnbooljaodkedaa
open Go.RowKit Go.Maps Go.Proofs.Ytnbooljaodkedaa.PC Go.Proofs.Ytnbooljaodkedaa.PW
set_option linter.unusedVariables false
set_option linter.unusedSimpArgs false
structure Row where
  v : Value
  ty : TypeId
  sz : Nat
  n : Nat
  xs : List Value
def Row.own (R : Row) (w : World) (b : Nat) : Prop := w.ownsRow b R.ty R.sz R.v R.n R.xs
def mk4 (a b c d : Row) : Fin 4 → Row
  | 0 => a
  | 1 => b
  | 2 => c
  | 3 => d
/-- An object whose text and symbols lie apart from the rows. -/
def CalB (w : World) (R : Fin 4 → Row) (y : ObjC) : Prop := ∃ t q, y.A = some ⟨t, 0, none⟩ ∧ y.C = some ⟨q, 0, none⟩ ∧ t < w.heap.size ∧ q < w.heap.size ∧ (∀ i, (R i).v.ownBlock ≠ some t ∧ (R i).v.ownBlock ≠ some q) ∧ ObjG w y ∧ y.o.data = [] ∧ y.o.rels = []
structure CSt (w : World) (b : Nat) (R : Fin 4 → Row) (Lc : List ObjC) : Prop where
  own : ∀ i, (R i).own w b
  ap : ∀ i j, i ≠ j → ∀ k, (R i).v.ownBlock = some k → (R j).v.ownBlock ≠ some k
  c : ∀ y ∈ Lc, CalB w R y
theorem objG_keep {w w' : World} {y : ObjC} {t q : Nat} (h : ObjG w y) (hA : y.A = some ⟨t, 0, none⟩) (hC : y.C = some ⟨q, 0, none⟩) (hd : y.o.data = []) (hr : y.o.rels = []) (ht : w'.heap[t]? = w.heap[t]?) (hq : w'.heap[q]? = w.heap[q]?) (hs : w.heap.size ≤ w'.heap.size) : ObjG w' y := by
  obtain ⟨ha, s1, s2⟩ := h
  refine ⟨⟨ha.nt, ha.nd, ha.ns, ha.nr, fun hne => ?_, fun hne => absurd hd hne, fun hne => ?_, fun hne => absurd hr hne⟩, s1, s2⟩
  · obtain ⟨g, off, e, hg, hc⟩ := ha.text hne
    rw [hA] at e
    injection e with e
    injection e with e1 e2
    subst e1 e2
    exact ⟨t, 0, hA, Nat.lt_of_lt_of_le hg hs, fun i hi => (World.cell?_of_block ht).trans (hc i hi)⟩
  · obtain ⟨g, off, e, hg, hc⟩ := ha.syms hne
    rw [hC] at e
    injection e with e
    injection e with e1 e2
    subst e1 e2
    refine ⟨q, 0, hC, Nat.lt_of_lt_of_le hg hs, fun i s hi => ?_⟩
    obtain ⟨q0, q1, q2, q3, q4⟩ := hc i s hi
    exact ⟨(World.cell?_of_block hq).trans q0, (World.cell?_of_block hq).trans q1, (World.cell?_of_block hq).trans q2, (World.cell?_of_block hq).trans q3, (World.cell?_of_block hq).trans q4⟩
section
variable {w w' : World} {b : Nat} {R R' : Fin 4 → Row} {Lc : List ObjC}
theorem CSt.kp (h : CSt w b R Lc) (k : Kp w w') : CSt w' b R Lc := by
  refine ⟨fun i => row_at (h.own i) (fun j _ hj => k.block hj), h.ap, fun y hy => ?_⟩
  obtain ⟨t, q, e1, e2, e3, e4, e5, e6, e7, e8⟩ := h.c y hy
  exact ⟨t, q, e1, e2, Nat.lt_of_lt_of_le e3 k.size, Nat.lt_of_lt_of_le e4 k.size, e5, e6.kp k, e7, e8⟩
/-- One row is changed. -/
theorem CSt.push (h : CSt w b R Lc) (i : Fin 4) (h1 : ∀ j, j ≠ i → R' j = R j) (hg : w.grownBy w' (R i).v.ownBlock) (h2 : (R' i).own w' b) (hb : (R' i).v.ownBlock = (R i).v.ownBlock ∨ (R' i).v.ownBlock = some w.heap.size) : CSt w' b R' Lc := by
  have hlt : ∀ j k, (R j).v.ownBlock = some k → k < w.heap.size := fun j k e => ownL_lt (h.own j) k e
  refine ⟨fun j => ?_, fun j k hjk c hc => ?_, fun y hy => ?_⟩
  · by_cases e : j = i
    · subst e; exact h2
    · rw [h1 j e]
      refine World.ownsRow.kept (h.own j) hg ?_
      cases hv : (R j).v.ownBlock with
      | none => exact Or.inl rfl
      | some c => exact Or.inr (fun e2 => h.ap j i e c hv e2.symm)
  · by_cases ej : j = i
    · subst ej
      rw [h1 k (fun e => hjk e.symm)]
      rcases hb with hb | hb
      · rw [hb] at hc
        exact h.ap j k hjk c hc
      · rw [hb] at hc
        obtain rfl := Option.some.inj hc
        intro e
        exact absurd (hlt k _ e) (Nat.lt_irrefl _)
    · rw [h1 j ej] at hc
      by_cases ek : k = i
      · subst ek
        rcases hb with hb | hb
        · rw [hb]
          exact h.ap j k hjk c hc
        · rw [hb]
          intro e
          obtain rfl := Option.some.inj e
          exact absurd (hlt j _ hc) (Nat.lt_irrefl _)
      · rw [h1 k ek]
        exact h.ap j k hjk c hc
  · obtain ⟨t, q, e1, e2, e3, e4, e5, e6, e7, e8⟩ := h.c y hy
    refine ⟨t, q, e1, e2, Nat.lt_of_lt_of_le e3 hg.size, Nat.lt_of_lt_of_le e4 hg.size, fun j => ?_, objG_keep e6 e1 e2 e7 e8 (hg.block t e3 (e5 i).1.symm) (hg.block q e4 (e5 i).2.symm) hg.size, e7, e8⟩
    by_cases e : j = i
    · subst e
      rcases hb with hb | hb
      · rw [hb]; exact e5 j
      · rw [hb]
        exact ⟨fun e => by injection e with e; omega, fun e => by injection e with e; omega⟩
    · rw [h1 j e]
      exact e5 j
theorem CSt.add (h : CSt w b R Lc) {y : ObjC} (hy : CalB w R y) : CSt w b R (Lc ++ [y]) := ⟨h.own, h.ap, fun z hz => by
  rcases List.mem_append.1 hz with hz | hz
  · exact h.c z hz
  · obtain rfl := List.mem_singleton.1 hz
    exact hy⟩
theorem CSt.lt (h : CSt w b R Lc) (i : Fin 4) {k : Nat} (e : (R i).v.ownBlock = some k) : k < w.heap.size := ownL_lt (h.own i) k e
end
theorem own_set {w : World} {b g n cap k sz : Nat} {t : TypeId} {xs : List Value} (h : w.ownsRow b t sz (.slice (some ⟨g, 0, none⟩) n cap) n xs) (u : Value) (hk : k < n * sz) : (w.setCell ⟨g, k, none⟩ u).ownsRow b t sz (.slice (some ⟨g, 0, none⟩) n cap) n (xs.set k u) := by
  refine ⟨by rw [List.length_set]; exact h.1, ?_⟩
  rcases h.2 with ⟨h1, _⟩ | ⟨g', cap', cur, h1, h2, h3, h4, h5, h6, h7⟩
  · cases h1
  · injection h1 with e1 e2 e3
    injection e1 with e1
    injection e1 with e1
    subst e1 e3
    refine Or.inr ⟨g, cap, cur.setIfInBounds k u, rfl, h2, heap_setCell_same w g k cur t u h3, h4, h5, by simpa using h6, ?_⟩
    rw [← h7]
    simp [List.take_set]
theorem grown_set (w : World) (g k : Nat) (u : Value) : w.grownBy (w.setCell ⟨g, k, none⟩ u) (some g) := by
  have b : Below 0 w (w.setCell ⟨g, k, none⟩ u) := (Below.refl 0 w).setCell (Nat.zero_le _) u
  exact ⟨b.os, b.tape, b.output, b.size, fun j _ hj => heap_setCell_other w ⟨g, k, none⟩ j u (fun e => hj (by rw [e]))⟩
theorem own_form {w : World} {base : Nat} {t : TypeId} {sz n : Nat} {v : Value} {xs : List Value} (h0 : 0 < n) (h : w.ownsRow base t sz v n xs) : ∃ g c, v = .slice (some ⟨g, 0, none⟩) n c ∧ base ≤ g ∧ g < w.heap.size ∧ n ≤ c ∧ ∀ (i : Nat) (x : Value), xs[i]? = some x → w.cell? ⟨g, i, none⟩ = some x ∧ w.frozen? ⟨g, i, none⟩ = false := by
  rcases h.2 with ⟨_, h2⟩ | ⟨g, cap, cur, h1, hb, h3, h4, _, _, h7⟩
  · omega
  · refine ⟨g, cap, h1, hb, (Array.getElem?_eq_some_iff.1 h3).1, h4, fun i x hx => ?_⟩
    rw [← h7, List.getElem?_take] at hx
    split at hx
    · have : cur[i]? = some x := by simpa using hx
      exact ⟨by simp [World.cell?, h3, this], Blk.frozen h3 i⟩
    · cases hx
end Go.Proofs.Ytnbooljaodkedaa
