/- live.Live, walked. Conditions stand at the theorem. -/
import Derived.Test.YtkianddaccoeiaaLivN
namespace Go.Proofs.Ytkianddaccoeiaa
open Go.RowKit Go.Maps Go.Proofs.Ytkianddaccoeiaa.PL
set_option linter.unusedVariables false
set_option linter.unusedSimpArgs false
/-- The cells of a row of lists, the first of which are there. -/
def rowsC (N k : Nat) (H : Nat → Option Addr × Nat) (L : Nat → List Int) : Array Value := ((List.range N).map fun n => if n < k then Value.slice (H n).1 (L n).length (H n).2 else .slice none 0 0).toArray
structure RowsAt (w : World) (g B N k : Nat) (H : Nat → Option Addr × Nat) (L : Nat → List Int) : Prop where
  row : Blk w g (rowsC N k H L) 22
  own : ∀ n, n < k → w.ownsRow B 3 1 (.slice (H n).1 (L n).length (H n).2) (L n).length ((L n).map (Value.int .i64))
  apart : ∀ i j a b, i < j → j < k → (H i).1 = some a → (H j).1 = some b → a.block ≠ b.block
theorem rowsC_at {N k n : Nat} {H : Nat → Option Addr × Nat} {L : Nat → List Int} (hn : n < N) : (rowsC N k H L)[n]? = some (if n < k then .slice (H n).1 (L n).length (H n).2 else .slice none 0 0) := by
  unfold rowsC
  simp [hn]
/-- One list more. -/
def updH (H : Nat → Option Addr × Nat) (k : Nat) (A : Option Addr) (c : Nat) : Nat → Option Addr × Nat := fun n => if n = k then (A, c) else H n
theorem rowsC_set {N k : Nat} {H : Nat → Option Addr × Nat} {L : Nat → List Int} (hk : k < N) (A : Option Addr) (c : Nat) : (rowsC N k H L).setIfInBounds k (.slice A (L k).length c) = rowsC N (k + 1) (updH H k A c) L := by
  apply Array.ext_getElem?
  intro i
  rw [Array.getElem?_setIfInBounds]
  have hs : (rowsC N k H L).size = N := by simp [rowsC]
  by_cases e : k = i
  · subst e
    rw [if_pos rfl, if_pos (by rw [hs]; exact hk), rowsC_at hk]
    simp [updH]
  · rw [if_neg e]
    by_cases hi : i < N
    · rw [rowsC_at hi, rowsC_at hi]
      by_cases h1 : i < k
      · simp [updH, h1, show i < k + 1 by omega, show ¬i = k by omega]
      · simp [h1, show ¬i < k + 1 by omega]
    · have h2 : (rowsC N (k + 1) (updH H k A c) L).size = N := by simp [rowsC]
      rw [Array.getElem?_eq_none (by omega), Array.getElem?_eq_none (by omega)]
theorem ownsRow_kp {w w' : World} {base : Nat} {e : TypeId} {z n : Nat} {v : Value} {xs : List Value} (h : w.ownsRow base e z v n xs) (k : Kp w w') : w'.ownsRow base e z v n xs := by
  refine ⟨h.1, ?_⟩
  rcases h.2 with h2 | ⟨g, cap, cur, h1, h2, h3, h4⟩
  · exact Or.inl h2
  · exact Or.inr ⟨g, cap, cur, h1, h2, (k.block (Array.getElem?_eq_some_iff.1 h3).1).trans h3, h4⟩
theorem RowsAt.kp {w w' : World} {g B N k : Nat} {H : Nat → Option Addr × Nat} {L : Nat → List Int} (h : RowsAt w g B N k H L) (kk : Kp w w') : RowsAt w' g B N k H L :=
  ⟨h.row.kp kk, fun n hn => ownsRow_kp (h.own n hn) kk, h.apart⟩
/-- The list is there too, behind a store of it. -/
theorem RowsAt.put {w : World} {g B N k : Nat} {H : Nat → Option Addr × Nat} {L : Nat → List Int} (h : RowsAt w g B N k H L) (hk : k < N) {A : Option Addr} {c : Nat} (ho : w.ownsRow B 3 1 (.slice A (L k).length c) (L k).length ((L k).map (Value.int .i64))) (ha : ∀ i a b, i < k → (H i).1 = some a → A = some b → a.block ≠ b.block) :
    RowsAt (w.setCell ⟨g, k, none⟩ (.slice A (L k).length c)) g B N (k + 1) (updH H k A c) L := by
  have hg := grown_set w g k (.slice A (L k).length c)
  have hne : ∀ (A' : Option Addr) (m c' : Nat) (xs : List Value), w.ownsRow B 3 1 (.slice A' m c') m xs → (Value.slice A' m c').ownBlock = none ∨ (Value.slice A' m c').ownBlock ≠ some g := fun A' m c' xs ho' => by
    rcases ho'.2 with ⟨h1, _⟩ | ⟨g', cap, cur, h1, h2, h3, _⟩
    · rw [h1]
      exact Or.inl rfl
    · refine Or.inr (fun e => ?_)
      rw [h1] at e
      have : g' = g := by simpa [Value.ownBlock] using e
      subst this
      have := h.row
      unfold Blk at this
      rw [h3] at this
      injection this with this
      injection this with _ this _
      exact absurd this (by decide)
  refine ⟨by rw [← rowsC_set hk]; exact h.row.set _, fun n hn => ?_, fun i j a b hij hj hi hjj => ?_⟩
  · by_cases e : n = k
    · subst e
      rw [show updH H n A c n = (A, c) by simp [updH]]
      exact ho.kept hg (hne _ _ _ _ ho)
    · rw [show updH H k A c n = H n by simp [updH, e]]
      exact (h.own n (by omega)).kept hg (hne _ _ _ _ (h.own n (by omega)))
  · rw [show updH H k A c i = H i by simp [updH, show i ≠ k by omega]] at hi
    by_cases e : j = k
    · subst e
      rw [show updH H j A c j = (A, c) by simp [updH]] at hjj
      exact ha i a b hij hi hjj
    · rw [show updH H k A c j = H j by simp [updH, e]] at hjj
      exact h.apart i j a b hij (by omega) hi hjj
/-- What live.Live hands back. -/
def LivesR (w : World) (f : FunV) (e : Ending) (w' : World) : Prop := ∃ g H, e = .returned (.slice (some ⟨g, 0, none⟩) f.code.length f.code.length) ∧ w.heap.size ≤ g ∧ RowsAt w' g w.heap.size f.code.length f.code.length H (fun n => listI f.kinds.length (liveB f n)) ∧ Kp w w'
set_option maxRecDepth 100000 in
theorem make_rows (T : Nat) (hT : T ≤ 100000) (x : Int) (hx : x = T) (W : World) : (Instr.makeSlice 28 (.int .i64 x) (.int .i64 x)).run Try.prog W = .ok (.slice (some ⟨W.heap.size, 0, none⟩) T T) (W.alloc (.cells (List.replicate T (Value.slice none 0 0)).toArray 22)) := by
  subst hx
  obtain ⟨i, hi, hz, h1, h2⟩ : ∃ i, Try.prog.info? 22 = some i ∧ i.zero = some (Value.slice none 0 0) ∧ i.size = 1 ∧ i.bytes = 24 := ⟨_, rfl, rfl, rfl, rfl⟩
  have hr := run_make (P := Try.prog) W 28 22 i _ Try.underlying28 hi hz .i64 .i64 T T (by omega) (by omega) (by rw [h2]; omega) (by omega)
  rw [hr]
  have e : madeCells (Value.slice none 0 0).cells ((T : Int).toNat * i.size) = (List.replicate T (Value.slice none 0 0)).toArray := by
    rw [h1]
    apply Array.ext
    · simp [madeCells]
    · intro j a b
      simp [madeCells, Value.cells, Nat.mod_one]
  rw [e]
  simp
theorem rowsC_start (N : Nat) (H : Nat → Option Addr × Nat) (L : Nat → List Int) : Array.replicate N (Value.slice none 0 0) = rowsC N 0 H L := by
  apply Array.ext_getElem?
  intro i
  by_cases hi : i < N
  · rw [rowsC_at hi]
    simp [hi]
  · rw [Array.getElem?_eq_none (by simp; omega), Array.getElem?_eq_none (by simp [rowsC]; omega)]
set_option maxRecDepth 100000 in
set_option maxHeartbeats 4000000 in
theorem Live_calls (x : FunC) (w : World) (h : FunAt w x) (hf : x.f.ok) (hl1 : x.f.code.length ≤ 10000) (hl2 : x.f.kinds.length ≤ 10000) (hl3 : ∀ i ∈ x.f.code, i.args.length ≤ 10000) : Calls Try.prog 8 #[.agg x.cells] w (LivesR w x.f) := by
  have hk0 := Aside.mk ((Kp.refl w).alloc (.cells x.cells 25))
  have hb0 := Blk.new w x.cells 25
  have hs0 : Aside ((w.alloc (.cells x.cells 25)).heap.size = w.heap.size + 1) := ⟨by simp⟩
  have hfl := Aside.mk (fun (V : World) (kV : Kp w V) => flowLive_calls x V (h.kp kV) hf hl1 hl2 hl3)
  have hmk := make_rows x.f.code.length (by omega) (x.f.code.length : Int) rfl
  obtain ⟨f, P, cp, Q, ck, R, cs, C, cc, L⟩ := x
  simp only [FunC.cells] at *
  replace hf := Aside.mk hf
  replace hl3 := Aside.mk hl3
  clear h
  generalize hW0 : w.alloc (.cells #[.string f.name, .bool f.static, .slice P f.params.length cp, .slice Q f.kinds.length ck, .slice R f.slots.length cs, .slice C f.code.length cc] 25) = W0 at *
  replace hW0 := Aside.mk hW0
  obtain ⟨q, b0, b1, b2, b3, b4, b5⟩ := hb0.six
  rw [← hW0.out] at b0 b1 b2 b3 b4 b5
  replace hb0 := Aside.mk hb0
  go_enter Try.func8, Try.ntmps8
  go_upto_region 2 with fail
  rw [hW0.out]
  clear b0 b1 b2 b3 b4 b5 q hmk
  have hrow := Blk.new W0 (Array.replicate f.code.length (Value.slice none 0 0)) 22
  have kp1 := (Kp.refl W0).alloc (.cells (Array.replicate f.code.length (Value.slice none 0 0)) 22)
  generalize W0.alloc (.cells (Array.replicate f.code.length (Value.slice none 0 0)) 22) = W1 at *
  rw [hs0.out, rowsC_start f.code.length (fun _ => (none, 0)) (fun n => listI f.kinds.length (liveB f n))] at hrow
  obtain ⟨q, b0, b1, b2, b3, b4, b5⟩ := (hb0.out.kp kp1).six
  have hgl0 := Aside.mk hrow.lt
  replace hrow := Aside.mk hrow
  have kw1 := Aside.mk (hk0.out.trans kp1)
  replace kp1 := Aside.mk kp1
  go_wp2_with fail
  refine Calls.mono (hfl.out _ kw1.out) ?_
  clear b0 b1 b2 b3 b4 b5 q
  rintro e W2 ⟨g, bs, rfl, hbl, hgl, hbl2, hS2, k2⟩
  simp only at hbl hS2
  have hR0 := Aside.mk (show RowsAt W2 (w.heap.size + 1) w.heap.size f.code.length 0 (fun _ => (none, 0)) (fun n => listI f.kinds.length (liveB f n)) from ⟨hrow.out.kp k2, fun n h => absurd h (by omega), fun i j a b _ h => absurd h (by omega)⟩)
  have kw2 := Aside.mk (kw1.out.trans k2)
  have hW2 : Aside (w.heap.size + 1 < W1.heap.size) := hgl0
  have hW12 := Aside.mk k2.size
  replace hbl := Aside.mk hbl
  replace hgl := Aside.mk hgl
  replace hbl2 := Aside.mk hbl2
  replace hS2 := Aside.mk hS2
  clear k2 hrow kw1 kp1 hfl
  go_wp2_with fail
  go_loopw [14] (fun i wr => ∃ (k : Nat) (H : Nat → Option Addr × Nat), k ≤ f.code.length ∧ i = .int .i64 k ∧ Aside (RowsAt wr (w.heap.size + 1) w.heap.size f.code.length k H (fun n => listI f.kinds.length (liveB f n)) ∧ ∀ i a, i < k → (H i).1 = some a → a.block < wr.heap.size) ∧ Aside (Kb (fun j => j = w.heap.size + 1) W2 wr)) (fun i _ => f.code.length - (intOf i).toNat)
  case atStart => exact ⟨0, _, Nat.zero_le _, rfl, ⟨hR0.out, fun i a h => absurd h (by omega)⟩, ⟨Kb.refl _ _⟩⟩
  case round =>
    clear hR0
    obtain ⟨k, H, hk, rfl, hR, kb⟩ := hrel
    by_cases hlt : k < f.code.length
    · obtain ⟨bz, hbz⟩ : ∃ bz, Aside (bs[k]? = some bz) := ⟨_, ⟨List.getElem?_eq_getElem (by have := hbl.out; omega)⟩⟩
      have hSS := hS2.out.kb kb.out (by have := hgl.out; have := hW2.out; omega) (fun b hb => by have := hbl2.out b hb; have := hW2.out; omega)
      have hcz := hSS.cell hbz.out
      have hset := Aside.mk (hSS.set k bz hbz.out)
      have hk1 : k < f.code.length + 1 := by omega
      clear hSS
      go_wp2_with fail
      refine Calls.mono (keysI2_calls bz _ hset.out.lt) ?_
      rintro e w3 ⟨rfl, k3, hc3⟩
      have hsc := Aside.mk (sortedI_calls (hset.out.kp k3) hl2 hc3)
      replace k3 := Aside.mk k3
      clear hc3 hcz
      go_wp2_with fail
      refine Calls.mono hsc.out ?_
      rintro e w4 ⟨A, c, rfl, hA, hAg, hown, k4⟩
      have k34 := Aside.mk (k3.out.trans k4)
      have hR4 := hR.out.1.kp k34.out
      have hfz := hR4.row.frozen k
      have hcl := hR4.row.cell k
      rw [rowsC_at hlt] at hcl
      simp only [Nat.lt_irrefl, if_false] at hcl
      have hown2 : w4.ownsRow w.heap.size 3 1 (.slice A (listI f.kinds.length (liveB f k)).length c) (listI f.kinds.length (liveB f k)).length ((listI f.kinds.length (liveB f k)).map (Value.int .i64)) := Go.Proofs.ownsRow_base_a hown (by have h1 := k3.out.size; have h2 := kb.out.size; have h3 := hW12.out; have h4 := hW2.out; omega)
      have hR5 := Aside.mk (hR4.put hlt hown2 (fun i a b hi h1 h2 => by
        have h3 := hR.out.2 i a hi h1
        obtain ⟨bb, bo, bs⟩ := b
        cases bs with
        | none => have := hAg bb bo h2; have := k3.out.size; simp only; omega
        | some s => 
          rcases hown.2 with ⟨e, _⟩ | ⟨g', cap, cur, e, _⟩
          · rw [h2] at e; cases e
          · rw [h2] at e; cases e))
      have hlts : Aside (∀ a, A = some a → a.block < w4.heap.size) := ⟨fun a h => by
        rcases hown.2 with ⟨e, _⟩ | ⟨g', cap, cur, e, _, h3, _⟩
        · rw [h] at e; cases e
        · rw [h] at e; cases e; exact (Array.getElem?_eq_some_iff.1 h3).1⟩
      have kb4 := Aside.mk (kb.out.kp k34.out)
      replace hown := Aside.mk hown
      replace hown2 := Aside.mk hown2
      have hR4g := Aside.mk hR4.row.lt
      replace hR4 := Aside.mk hR4
      clear k4 hA hAg
      go_wp2_with fail
      go_roundw
      case rel =>
        refine ⟨k + 1, _, by omega, by go_num, ⟨hR5.out, fun i a hi ha => ?_⟩, ⟨kb4.out.grown (grown_set _ _ _ _) (fun j e => by cases e; exact Or.inl rfl)⟩⟩
        have hsz : (w4.setCell ⟨w.heap.size + 1, k, none⟩ (.slice A (listI f.kinds.length (liveB f k)).length c)).heap.size = w4.heap.size := by simp [World.setCell]
        rw [hsz]
        unfold updH at ha
        split at ha
        · exact hlts.out a ha
        · have := hR.out.2 i a (by omega) ha
          have := k34.out.size
          omega
      case measure => simp [intOf]; omega
    · obtain rfl : k = f.code.length := by omega
      go_wp2
      go_ret
      exact ⟨w.heap.size + 1, H, rfl, by omega, hR.out.1, kw2.out.kb kb.out (fun j hj => by rw [hj]; omega)⟩
end Go.Proofs.Ytkianddaccoeiaa
