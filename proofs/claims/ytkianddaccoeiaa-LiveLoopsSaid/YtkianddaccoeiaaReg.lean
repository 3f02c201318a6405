/- A region that draws its order, by hand: the way behind it kept shut; its operations as a list. No condition. -/
import Derived.Test.YtkianddaccoeiaaBase
import Derived.Deep.RegionHeld3
namespace Go.Proofs.Ytkianddaccoeiaa
open Go.RowKit
/-- What follows a region that does not panic. -/
def NQ (R : Act → World → Prop) : Exit → Act → World → Prop
  | .normal, a, w => R a w
  | _, _, _ => False
/-- The way behind a region is kept shut while it is walked; it must not panic. -/
theorem wp_hide {P : Program} {id : Nat} {ops : Array Oper} {b : Bool} {Q : Exit → Act → World → Prop} {a : Act} {w : World}
    (h : ∀ R : Act → World → Prop, Shut (∀ a w, Q .normal a w → R a w) → (Code.region id ops b).wp P (NQ R) a w) : (Code.region id ops b).wp P Q a w := by
  refine Code.wp_mono (fun e a w hq => ?_) (h (Q .normal) (fun _ _ h => h))
  cases e <;> first | exact hq | exact (hq : False).elim
/-- What follows a region that panics in a function that defers: a slot, the deferred calls, and what is known of the world. -/
def TQ (n : Nat) (V : Value) (D : List Deferred) (R : List PanicEntry → World → Prop) : Exit → Act → World → Prop
  | .panic c, a, w => (a.tmps.getD n undef = V ∧ a.defers = D) ∧ R c w
  | _, _, _ => False
theorem wp_throw {P : Program} {id : Nat} {ops : Array Oper} {b : Bool} {Q : Exit → Act → World → Prop} {a : Act} {w : World} (n : Nat) (V : Value) (D : List Deferred) (R : List PanicEntry → World → Prop)
    (hq : ∀ c a' w', a'.tmps.getD n undef = V → a'.defers = D → R c w' → Q (.panic c) a' w') (h : (Code.region id ops b).wp P (TQ n V D R) a w) : (Code.region id ops b).wp P Q a w := by
  refine Code.wp_mono (fun e a w hh => ?_) h
  cases e <;> first | exact (hh : False).elim | exact hq _ _ _ hh.1.1 hh.1.2 hh.2
theorem tq_keep {n : Nat} {V : Value} {D : List Deferred} {R : List PanicEntry → World → Prop} {c : List PanicEntry} {a : Act} {w : World} {d : Option Tmp} {v : Value} (hd : d ≠ some n) (h : TQ n V D R (.panic c) (a.put d v) w) : TQ n V D R (.panic c) a w := by
  obtain ⟨⟨h1, h2⟩, h3⟩ := h
  cases d with
  | none => exact ⟨⟨h1, h2⟩, h3⟩
  | some t =>
    refine ⟨⟨?_, h2⟩, h3⟩
    have hne : t ≠ n := fun e => hd (by rw [e])
    rw [← h1]
    simp [Act.put, Array.getElem?_setIfInBounds_ne hne]
section
variable {P : Program} {ops : Array Oper} {Q : Exit → Act → World → Prop} {md : Region.Mode} {S : World → Prop}
theorem wpAnyH_takeL {i : Nat} {oi : Oper} {v : Value} {fuel : Nat} {listed : Array Bool} {a : Act} {w : World} (hi : ops.toList[i]? = some oi)
    (hs : Region.noSelect ops = true) (hf : Region.free md ops listed i = true) (hr : (Region.ready md ops listed).contains i = true)
    (hQ : ∀ c a w, Q (.panic c) (a.put oi.dst v) w → Q (.panic c) a w) (hy : YieldsIf P ops S oi v a) (hS : S w)
    (h : wpAnyH P md ops Q S fuel (listed.setIfInBounds i true) (a.put oi.dst v) w) : wpAnyH P md ops Q S (fuel + 1) listed a w :=
  wpAnyH_take (by simpa using hi) hs hf hr hQ hy hS h
theorem AllReadyH.consL {fuel : Nat} {listed : Array Bool} {a : Act} {w : World} {i : Nat} {o : Oper} {rs : List Nat} (ho : ops.toList[i]? = some o)
    (h : ∀ K' : Act → World → Prop, Shut (∀ a w, S w → (S w → wpAnyH P md ops Q S fuel (listed.setIfInBounds i true) a w) → K' a w) → if Region.wanted o (yielded ops a.tmps) = true then Oper.wp P o a w K' Q else K' (a.put o.dst undef) w)
    (hs : AllReadyH P md ops Q S fuel listed a w rs) : AllReadyH P md ops Q S fuel listed a w (i :: rs) := AllReadyH.cons (by simpa using ho) h hs
end
end Go.Proofs.Ytkianddaccoeiaa
