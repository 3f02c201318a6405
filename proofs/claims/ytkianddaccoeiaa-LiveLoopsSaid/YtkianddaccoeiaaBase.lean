/- The base of this seat's walks: a world that is the old one but for orders that were drawn. No condition. -/
import Derived.Below
import Derived.Deep.Draws
import Derived.Deep.AppendLies
import Derived.Maps.AppendAt
import Derived.OwnWalk
import Derived.Laws.BytesArg
import Derived.Laws.MakeOwn
import Derived.Laws.OwnMore
import Derived.Deep.OwnRows
import Derived.Tactics
import Derived.Laws.Slices
import Derived.WalkKit
import Derived.KernelRfl
import Derived.RowKit3
import Derived.Deep.LoopGhost
import Derived.Deep.QuietTactic
import Derived.BigQuiet
import Derived.WideLaws
import Derived.Deep.DeepCutAuto
import Derived.Deep.CutBlock
import Derived.Deep.RegionHeld3
import Derived.Laws.Rows
import Derived.ArgAppend
import Derived.Laws.BitsLemmas
import Derived.Outline
import Derived.BigRegion
import Derived.Deep.RegionLaw
import Derived.Deep.RegionWith
import Derived.WalkSpells
import Derived.RowKit
import Derived.OpenShut
namespace Go.Proofs.Ytkianddaccoeiaa
open Go.RowKit
/-- The world is the old one, some orders having been drawn. -/
structure Dr (w w' : World) : Prop where mk :: (out : ∃ n, w' = w.drewN n)
theorem Dr.refl (w : World) : Dr w w := ⟨⟨0, rfl⟩⟩
theorem Dr.step {w w' : World} (h : Dr w w') (n : Nat) : Dr w (w'.drewN n) := by
  obtain ⟨m, rfl⟩ := h
  exact ⟨⟨m + n, World.drewN_drewN ..⟩⟩
theorem Dr.trans {w w' w'' : World} (h : Dr w w') (g : Dr w' w'') : Dr w w'' := by
  obtain ⟨n, rfl⟩ := g
  exact h.step n
theorem Dr.below {w w' : World} (h : Dr w w') : Below w.heap.size w w' := by
  obtain ⟨n, rfl⟩ := h
  induction n with
  | zero => exact Below.refl _ _
  | succ n ih => rw [← World.drew_drewN]; exact ih.drew
theorem Dr.more {w w' : World} {n : Nat} (h : Dr (w.drewN n) w') : ∃ m, w' = w.drewN m := by
  obtain ⟨m, rfl⟩ := h
  exact ⟨n + m, World.drewN_drewN ..⟩
/-- A quiet callee inside a region that draws its order. -/
theorem quiet_dr {P : Program} {f : FuncId} {args : Array Value} {w : World} {n : Nat} {v : Value} (h : Calls P f args (w.drewN n) fun e w' => e = .returned v ∧ Dr (w.drewN n) w') :
    Calls P f args (w.drewN n) fun e w'' => e = .returned v ∧ ∃ m, w'' = w.drewN m :=
  h.mono fun _ _ ⟨he, hm⟩ => ⟨he, hm.more⟩
/-- A fact that the walk does not look into. -/
structure Aside (p : Prop) : Prop where mk :: (out : p)
/-- What was there is as it was: there may be new memory, and orders that were drawn. -/
structure Kp (w w' : World) : Prop where mk :: (out : Below w.heap.size w w')
theorem Kp.refl (w : World) : Kp w w := ⟨Below.refl _ _⟩
theorem Kp.size {w w' : World} (h : Kp w w') : w.heap.size ≤ w'.heap.size := h.out.size
theorem Kp.trans {w w' w'' : World} (h : Kp w w') (g : Kp w' w'') : Kp w w'' := ⟨h.out.trans (g.out.mono h.size)⟩
theorem Kp.drew {w w' : World} (h : Kp w w') : Kp w w'.drew := ⟨h.out.drew⟩
theorem Kp.drewN {w w' : World} (h : Kp w w') (n : Nat) : Kp w (w'.drewN n) := by
  induction n generalizing w' with
  | zero => exact h
  | succ n ih => rw [← World.drew_drewN]; exact (ih h).drew
theorem Dr.kp {w w' : World} (h : Dr w w') : Kp w w' := ⟨h.below⟩
theorem Dr.heap {w w' : World} (h : Dr w w') : w'.heap = w.heap := by
  obtain ⟨n, rfl⟩ := h
  rfl
theorem Dr.cell {w w' : World} (h : Dr w w') (a : Addr) : w'.cell? a = w.cell? a := by simp [World.cell?, h.heap]
theorem Dr.frozen {w w' : World} (h : Dr w w') (a : Addr) : w'.frozen? a = w.frozen? a := by simp [World.frozen?, h.heap]
theorem Dr.size {w w' : World} (h : Dr w w') : w'.heap.size = w.heap.size := by rw [h.heap]
theorem Kp.alloc {w w' : World} (h : Kp w w') (o : Obj) : Kp w (w'.alloc o) := ⟨h.out.alloc h.size o⟩
theorem Kp.setCell {w w' : World} (h : Kp w w') {p : Addr} (hp : w.heap.size ≤ p.block) (u : Value) : Kp w (w'.setCell p u) := ⟨h.out.setCell hp u⟩
theorem Kp.grown {w w' w'' : World} {row : Option Nat} (h : Kp w w') (hg : w'.grownBy w'' row) (hr : ∀ k, row = some k → w.heap.size ≤ k) : Kp w w'' := ⟨h.out.grown hg h.size hr⟩
theorem Kp.cell {w w' : World} (h : Kp w w') {p : Addr} (hp : p.block < w.heap.size) : w'.cell? p = w.cell? p := h.out.cell hp
theorem Kp.frozen {w w' : World} (h : Kp w w') {p : Addr} (hp : p.block < w.heap.size) : w'.frozen? p = w.frozen? p := h.out.frozen hp
theorem Kp.block {w w' : World} (h : Kp w w') {k : Nat} (hk : k < w.heap.size) : w'.heap[k]? = w.heap[k]? := h.out.block k hk
/-- All old cells read as before: two rules for the walk. -/
theorem Kp.bcell {w w' : World} (h : Kp w w') : (∀ b o, b < w.heap.size → w'.cell? ⟨b, o, none⟩ = w.cell? ⟨b, o, none⟩) ∧ (∀ b o, b < w.heap.size → w'.frozen? ⟨b, o, none⟩ = w.frozen? ⟨b, o, none⟩) :=
  ⟨fun b o hb => h.cell (p := ⟨b, o, none⟩) hb, fun b o hb => h.frozen (p := ⟨b, o, none⟩) hb⟩
theorem cell_new (w : World) (cs : Array Value) (ty : TypeId) (i : Nat) : (w.alloc (.cells cs ty)).cell? ⟨w.heap.size, i, none⟩ = cs[i]? := by
  show (match (w.heap.push (Obj.cells cs ty))[w.heap.size]? with | some (.cells c _ _) => if (none : Option Nat).isSome then none else c[i]? | _ => none) = _
  simp
theorem cell_kept (w : World) (o : Obj) {b i : Nat} (h : b < w.heap.size) : (w.alloc o).cell? ⟨b, i, none⟩ = w.cell? ⟨b, i, none⟩ := ((Kp.refl w).alloc o).cell h
theorem cell_new' (w : World) (cs : Array Value) (ty : TypeId) (b i : Nat) (h : w.heap.size = b) : (w.alloc (.cells cs ty)).cell? ⟨b, i, none⟩ = cs[i]? := by
  subst h
  exact cell_new w cs ty i
theorem addr_add (b off j : Nat) : (⟨b, off, none⟩ : Addr).add j = ⟨b, off + j, none⟩ := by
  unfold Addr.add
  by_cases h : j = 0 <;> simp [h]
theorem addr_add0 (a : Addr) : a.add 0 = a := by simp [Addr.add]
/-- A cell that is there lies at a plain address of a block that is there. -/
theorem cell_some {w : World} {a : Addr} {v : Value} (h : w.cell? a = some v) : ∃ b off, a = ⟨b, off, none⟩ ∧ b < w.heap.size := by
  unfold World.cell? at h
  split at h
  · rename_i hb
    split at h
    · cases h
    · rename_i hs
      obtain ⟨b, off, sp⟩ := a
      have : sp = none := by simpa using hs
      subst this
      exact ⟨b, off, rfl, (Array.getElem?_eq_some_iff.1 hb).1⟩
  · cases h
end Go.Proofs.Ytkianddaccoeiaa
