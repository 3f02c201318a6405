/- The reference's rows: what the walk goes by. -/
import Derived.Test.YtgcihcgclmdolaaCodeRo
import Derived.Test.YtgcihcgclmdolaaCodeDb
import Derived.Deep.DeepCutAuto
import Derived.Deep.MidRow
import Derived.Deep.RegionHeld3
namespace Go.Proofs.Ytgcihcgclmdolaa
open Go.RowKit Go.Maps Go.Proofs.Ytgcihcgclmdolaa.PC
set_option linter.unusedVariables false
set_option linter.unusedSimpArgs false
theorem Kp.setCells {w0 : World} {b : Nat} (hb : w0.heap.size ≤ b) : ∀ (vs : List Value) (o : Nat) (w : World), Kp w0 w → Kp w0 (w.setCells b o vs)
  | [], _, _, h => h
  | v :: vs, o, w, h => Kp.setCells hb vs (o + 1) _ (h.setCell hb v)
theorem Blk.setCells {b b' : Nat} {cs : Array Value} {ty : TypeId} (hne : b' ≠ b) : ∀ (vs : List Value) (o : Nat) (w : World), Blk w b' cs ty → Blk (w.setCells b o vs) b' cs ty
  | [], _, _, h => h
  | v :: vs, o, w, h => Blk.setCells hne vs (o + 1) _ (h.far hne v)
theorem there_new (w : World) (zs : Array Value) (ty : TypeId) {b n : Nat} (hb : w.heap.size = b) (hn : zs.size = n) : (w.alloc (.cells zs ty)).there b 0 n := by
  subst hb hn
  intro j hj
  have hB := Blk.new w zs ty
  refine ⟨?_, ?_⟩
  · rw [hB.cell, Nat.zero_add, Array.getElem?_eq_getElem hj]; rfl
  · exact hB.frozen _
/-- The world behind a part: the result's block is there. -/
def OfW (w : World) (wx : World) : Prop := Kp w wx ∧ Blk wx w.heap.size #[.int .u8 0, .int .i64 0, .int .i64 0, .int .i64 0, .int .i64 0] 93
theorem OfW.start (w : World) : OfW w (w.alloc (.cells #[.int .u8 0, .int .i64 0, .int .i64 0, .int .i64 0, .int .i64 0] 93)) := ⟨(Kp.refl w).alloc _, Blk.new _ _ _⟩
theorem OfW.stored {w wx : World} {b : Nat} (h : OfW w wx) (zs : Array Value) (ty : TypeId) (cs : List Value) (hb : wx.heap.size = b) (hl : zs.size = cs.length) :
    OfW w ((wx.alloc (.cells zs ty)).setCells b 0 cs) ∧ w.heap.size < b ∧ ((wx.alloc (.cells zs ty)).setCells b 0 cs).rangeAt b 0 cs := by
  have h1 := h.2.lt
  subst hb
  exact ⟨⟨Kp.setCells h.1.size _ _ _ (h.1.alloc _), Blk.setCells (by omega) _ _ _ (h.2.alloc _)⟩, h1, World.rangeAt_setCells_same _ _ _ _ (by rw [← hl]; exact there_new wx zs ty rfl rfl)⟩
end Go.Proofs.Ytgcihcgclmdolaa
