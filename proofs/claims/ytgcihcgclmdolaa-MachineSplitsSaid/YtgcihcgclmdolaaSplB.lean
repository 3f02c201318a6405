/- A region that draws its order, by hand: the way behind it kept shut; its operations as a list. No condition. · The reference's Events on like rows, walked. Condition: the rows are like. · MachineSplits, walked. Condition: the arguments are of their types. -/
import Derived.Test.YtgcihcgclmdolaaBase
import Derived.Deep.RegionHeld3
import Derived.Test.YtgcihcgclmdolaaLawEc
import Derived.Test.YtgcihcgclmdolaaMachTo
import Derived.Test.YtgcihcgclmdolaaMachZ
import Derived.Test.YtgcihcgclmdolaaMachY
import Derived.Deep.DeepCutAuto
namespace Go.Proofs.Ytgcihcgclmdolaa
open Go.RowKit
/-- What follows a region that does not panic. -/
def NQ (R : Act → World → Prop) : Exit → Act → World → Prop
  | .normal, a, w => R a w
  | _, _, _ => False
/-- The way behind a region is kept shut while it is walked; it must not panic. -/
theorem wp_hide {P : Program} {id : Nat} {ops : Array Oper} {b : Bool} {Q : Exit → Act → World → Prop} {a : Act} {w : World}
    (h : ∀ R : Act → World → Prop, Shut (∀ a w, Q .normal a w → R a w) → (Code.region id ops b).wp P (NQ R) a w) : (Code.region id ops b).wp P Q a w := by
  refine Code.wp_mono (fun e a w hq => ?_) (h (Q .normal) (fun _ _ h => h))
  cases e <;> first | exact hq | exact (hq : False).elim
/-- What follows a region that panics in a function that defers: a slot, the deferred calls, and what is known of the world. -/
def TQ (n : Nat) (V : Value) (D : List Deferred) (R : List PanicEntry → World → Prop) : Exit → Act → World → Prop
  | .panic c, a, w => (a.tmps.getD n undef = V ∧ a.defers = D) ∧ R c w
  | _, _, _ => False
theorem wp_throw {P : Program} {id : Nat} {ops : Array Oper} {b : Bool} {Q : Exit → Act → World → Prop} {a : Act} {w : World} (n : Nat) (V : Value) (D : List Deferred) (R : List PanicEntry → World → Prop)
    (hq : ∀ c a' w', a'.tmps.getD n undef = V → a'.defers = D → R c w' → Q (.panic c) a' w') (h : (Code.region id ops b).wp P (TQ n V D R) a w) : (Code.region id ops b).wp P Q a w := by
  refine Code.wp_mono (fun e a w hh => ?_) h
  cases e <;> first | exact (hh : False).elim | exact hq _ _ _ hh.1.1 hh.1.2 hh.2
theorem tq_keep {n : Nat} {V : Value} {D : List Deferred} {R : List PanicEntry → World → Prop} {c : List PanicEntry} {a : Act} {w : World} {d : Option Tmp} {v : Value} (hd : d ≠ some n) (h : TQ n V D R (.panic c) (a.put d v) w) : TQ n V D R (.panic c) a w := by
  obtain ⟨⟨h1, h2⟩, h3⟩ := h
  cases d with
  | none => exact ⟨⟨h1, h2⟩, h3⟩
  | some t =>
    refine ⟨⟨?_, h2⟩, h3⟩
    have hne : t ≠ n := fun e => hd (by rw [e])
    rw [← h1]
    simp [Act.put, Array.getElem?_setIfInBounds_ne hne]
section
variable {P : Program} {ops : Array Oper} {Q : Exit → Act → World → Prop} {md : Region.Mode} {S : World → Prop}
theorem wpAnyH_takeL {i : Nat} {oi : Oper} {v : Value} {fuel : Nat} {listed : Array Bool} {a : Act} {w : World} (hi : ops.toList[i]? = some oi)
    (hs : Region.noSelect ops = true) (hf : Region.free md ops listed i = true) (hr : (Region.ready md ops listed).contains i = true)
    (hQ : ∀ c a w, Q (.panic c) (a.put oi.dst v) w → Q (.panic c) a w) (hy : YieldsIf P ops S oi v a) (hS : S w)
    (h : wpAnyH P md ops Q S fuel (listed.setIfInBounds i true) (a.put oi.dst v) w) : wpAnyH P md ops Q S (fuel + 1) listed a w :=
  wpAnyH_take (by simpa using hi) hs hf hr hQ hy hS h
theorem AllReadyH.consL {fuel : Nat} {listed : Array Bool} {a : Act} {w : World} {i : Nat} {o : Oper} {rs : List Nat} (ho : ops.toList[i]? = some o)
    (h : ∀ K' : Act → World → Prop, Shut (∀ a w, S w → (S w → wpAnyH P md ops Q S fuel (listed.setIfInBounds i true) a w) → K' a w) → if Region.wanted o (yielded ops a.tmps) = true then Oper.wp P o a w K' Q else K' (a.put o.dst undef) w)
    (hs : AllReadyH P md ops Q S fuel listed a w rs) : AllReadyH P md ops Q S fuel listed a w (i :: rs) := AllReadyH.cons (by simpa using ho) h hs
end
end Go.Proofs.Ytgcihcgclmdolaa
namespace Go.Proofs.Ytgcihcgclmdolaa
open Go.RowKit Go.Maps Go.Proofs.Ytgcihcgclmdolaa.PC Go.Proofs.Ytgcihcgclmdolaa.PW
set_option linter.unusedVariables false
set_option linter.unusedSimpArgs false
/-- A row of events, readable. -/
def EvIn (w : World) (A : Option Addr) (n : Nat) (ev : List Ev) : Prop := ev.length = n ∧ (0 < n → ∃ g, A = some ⟨g, 0, none⟩ ∧ g < w.heap.size ∧ ∀ (i : Nat) (x : Value), (evC ev)[i]? = some x → w.cell? ⟨g, i, none⟩ = some x)
theorem EvIn.kp {w w' : World} {A : Option Addr} {n : Nat} {ev : List Ev} (h : EvIn w A n ev) (hk : Kp w w') : EvIn w' A n ev := by
  refine ⟨h.1, fun hn => ?_⟩
  obtain ⟨g, e, hl, hc⟩ := h.2 hn
  exact ⟨g, e, Nat.lt_of_lt_of_le hl hk.size, fun i x hx => (hk.cell (p := ⟨g, i, none⟩) hl).trans (hc i x hx)⟩
theorem evC_at : ∀ (ev : List Ev) (i j : Nat), i < ev.length → j < 3 → ∃ a b c, ev[i]? = some ⟨a, b, c⟩ ∧ (evC ev)[i * 3 + j]? = [Value.int .i64 a, .int .u32 b, .int .u64 c][j]?
  | [], i, j, h, _ => by simp at h
  | e :: ev, 0, j, _, hj => by
    refine ⟨e.kind, e.word, e.real, rfl, ?_⟩
    rw [Nat.zero_mul, Nat.zero_add]
    show ([Value.int .i64 e.kind, .int .u32 e.word, .int .u64 e.real] ++ evC ev)[j]? = _
    rw [List.getElem?_append_left (by simpa using hj)]
  | e :: ev, i + 1, j, h, hj => by
    obtain ⟨a, b, c, h1, h2⟩ := evC_at ev i j (by simpa using h) hj
    refine ⟨a, b, c, by simpa using h1, ?_⟩
    rw [← h2]
    show ([Value.int .i64 e.kind, .int .u32 e.word, .int .u64 e.real] ++ evC ev)[(i + 1) * 3 + j]? = _
    rw [List.getElem?_append_right (by simp; omega)]
    congr 1
    simp
    omega
theorem EvIn.three {w : World} {A : Option Addr} {n k : Nat} {ev : List Ev} (h : EvIn w A n ev) (hk : k < n) : ∃ g a b c, A = some ⟨g, 0, none⟩ ∧ g < w.heap.size ∧ ev[k]? = some ⟨a, b, c⟩ ∧ w.cell? ⟨g, k * 3, none⟩ = some (.int .i64 a) ∧ w.cell? ⟨g, k * 3 + 1, none⟩ = some (.int .u32 b) ∧ w.cell? ⟨g, k * 3 + 2, none⟩ = some (.int .u64 c) := by
  obtain ⟨g, rfl, hl, hc⟩ := h.2 (by omega)
  have hk' : k < ev.length := by rw [h.1]; exact hk
  obtain ⟨a, b, c, e0, q0⟩ := evC_at ev k 0 hk' (by decide)
  obtain ⟨a1, b1, c1, e1, q1⟩ := evC_at ev k 1 hk' (by decide)
  obtain ⟨a2, b2, c2, e2, q2⟩ := evC_at ev k 2 hk' (by decide)
  rw [e0] at e1 e2
  injection e1 with e1
  injection e2 with e2
  injection e1 with x1 x2 x3
  injection e2 with y1 y2 y3
  subst x1 x2 x3 y1 y2 y3
  exact ⟨g, a, b, c, rfl, hl, e0, hc _ _ q0, hc _ _ q1, hc _ _ q2⟩
set_option maxRecDepth 100000 in
set_option maxHeartbeats 1000000 in
theorem Events_same {w : World} {A B : Option Addr} {n c d : Nat} (ev : List Ev) (hn : n ≤ 140737488355328) (hA : EvIn w A n ev) (hB : EvIn w B n ev) :
    Calls Try.prog 19 #[.slice A n c, .slice B n d] w fun e w' => e = .returned (.bool true) ∧ Kp w w' := by
  replace hA := Aside.mk hA
  replace hB := Aside.mk hB
  go_enter Try.func19, Try.ntmps19
  go_wp2_with fail
  go_loopw [13] (fun i wr => ∃ k : Nat, k ≤ n ∧ i = .int .i64 k ∧ Kp w wr) (fun i _ => n - (intOf i).toNat)
  case atStart => exact ⟨0, Nat.zero_le _, rfl, by repeat (first | exact Kp.refl _ | assumption | exact Dr.kp (by assumption) | refine Kp.drewN ?_ _ | refine Kp.drew ?_ | refine Kp.alloc ?_ _ | refine Kp.setCell ?_ (by first | exact Nat.le_refl _ | assumption | omega) _ | refine Kp.trans ?_ (by assumption) | refine Kp.trans ?_ (Dr.kp (by assumption)))⟩
  case round =>
    obtain ⟨k, hk, rfl, kr⟩ := hrel
    by_cases hlt : k < n
    · obtain ⟨g, x, y, z, rfl, gl, e0, c0, c1, c2⟩ := (hA.out.kp kr).three hlt
      obtain ⟨g', x', y', z', rfl, gl', e0', d0, d1, d2⟩ := (hB.out.kp kr).three hlt
      rw [e0] at e0'
      injection e0' with e0'
      injection e0' with x1 x2 x3
      subst x1 x2 x3
      replace kr := Aside.mk kr
      clear e0
      go_wp2_with fail
      go_quiet (fail)
      go_wp2_with fail
      all_goals go_roundw
      case rel => exact ⟨k + 1, by omega, by go_num, (by have := kr.out; exact (by repeat (first | exact Kp.refl _ | assumption | exact Dr.kp (by assumption) | refine Kp.drewN ?_ _ | refine Kp.drew ?_ | refine Kp.alloc ?_ _ | refine Kp.setCell ?_ (by first | exact Nat.le_refl _ | assumption | omega) _ | refine Kp.trans ?_ (by assumption) | refine Kp.trans ?_ (Dr.kp (by assumption)))))⟩
      case measure => simp [intOf]; omega
    · obtain rfl : k = n := by omega
      go_wp2_with fail
      all_goals go_ret
      all_goals exact ⟨rfl, kr⟩
end Go.Proofs.Ytgcihcgclmdolaa
namespace Go.Proofs.Ytgcihcgclmdolaa
open Go.RowKit Go.Maps Go.Proofs.Ytgcihcgclmdolaa.PC Go.Proofs.Ytgcihcgclmdolaa.PW
set_option linter.unusedVariables false
set_option linter.unusedSimpArgs false
theorem loop_eq (tx : ByteArray) : ∀ (n i : Nat) (r : List UInt8), tx.size - i = n → ByteArray.toList.loop tx i r = r.reverse ++ tx.data.toList.drop i := by
  intro n
  induction n with
  | zero =>
    intro i r h
    unfold ByteArray.toList.loop
    rw [if_neg (by omega), List.drop_eq_nil_of_le (by simp; have : tx.data.size = tx.size := rfl; omega)]
    simp
  | succ n ih =>
    intro i r h
    unfold ByteArray.toList.loop
    have hi : i < tx.size := by omega
    have hi' : i < tx.data.toList.length := by simpa using hi
    rw [if_pos hi, ih (i + 1) _ (by omega)]
    rw [List.reverse_cons, List.append_assoc]
    congr 1
    rw [List.drop_eq_getElem_cons hi']
    simp [ByteArray.get!]
    rw [getElem!_pos tx.data i (by simpa using hi')]
theorem toList_data' (tx : ByteArray) : tx.toList = tx.data.toList := by
  unfold ByteArray.toList
  rw [loop_eq tx _ 0 [] rfl]
  simp
theorem not_text {tx : ByteArray} (h : ¬tx = (⟨#[115, 0, 0, 0]⟩ : ByteArray)) : ¬tx.toList = [115, 0, 0, 0] := by
  intro e
  rw [toList_data'] at e
  apply h
  obtain ⟨d⟩ := tx
  simp only at e
  congr
  exact Array.toList_inj.1 (by rw [e])
/-- Bytes, readable. -/
structure InC (w : World) (A : Option Addr) (l : List Int) : Prop where
  byte : ∀ b ∈ l, Byte b
  at_ : l ≠ [] → ∃ I off, A = some ⟨I, off, none⟩ ∧ I < w.heap.size ∧ ∀ i, i < l.length → w.cell? ⟨I, off + i, none⟩ = some (.int .u8 (l.getD i 0))
theorem InC.load {w : World} {A : Option Addr} {c : Nat} {l : List Int} (h : InC w A l) (hl : l.length ≤ 2000) {n : Nat} (hn : l.length = n) {s0 : MS} (hs : loadS 0 l (upV l.length) (upV (upV l.length + 256)) = s0) (W : World) (hW : Kp w W) :
    Calls Try.prog 10 #[.agg #[.int .i64 0, .slice A n c], .int .i64 256] W fun e w' => ∃ M B K, e = .returned (.tuple #[.pointer (some ⟨M, 0, none⟩), .int .i64 0]) ∧ (W.heap.size ≤ M ∧ W.heap.size ≤ B ∧ W.heap.size ≤ K) ∧ Kp W w' ∧ Mac w' M B K s0 0 := by
  subst hs
  refine LoadO_calls 0 256 256 rfl hn.symm (fun h0 => ?_) h.byte (by unfold U; decide) (by decide) (by unfold upV; omega) (by omega)
  obtain ⟨I, off, e, hI, hc⟩ := h.at_ (fun e => by rw [e] at hn; simp at hn; omega)
  refine ⟨I, off, e, Nat.lt_of_lt_of_le hI hW.size, fun j x hx => ?_⟩
  have hj : j < l.length := by
    rcases Nat.lt_or_ge j l.length with h | h
    · exact h
    · rw [byV, List.getElem?_eq_none (by simpa using h)] at hx; cases hx
  rw [hW.cell (p := ⟨I, off + j, none⟩) hI, hc j hj, ← hx, byV, List.getElem?_map, List.getD_eq_getElem?_getD, List.getElem?_eq_getElem hj]
  rfl
theorem InW.words {w W : World} {A : Option Addr} {c n : Nat} {l : List Int} (h : InW w A c l) (hk : Kp w W) (hn : l.length = n) (hl : n ≤ 100) {b1 M B K : Nat} (hb : w.heap.size ≤ b1) (hM : w.heap.size ≤ M) (hB : w.heap.size ≤ B) (hK : w.heap.size ≤ K) : Words W b1 M B K (.slice A n c) l := by
  subst hn
  refine ⟨⟨A, c, rfl, h.c, fun hne => ?_⟩, h.u, by omega⟩
  obtain ⟨I, off, e1, e2, e3⟩ := h.at_ hne
  exact ⟨I, off, e1, by omega, by omega, by omega, by omega, fun i hi => (hk.cell (p := ⟨I, off + i, none⟩) e2).trans (e3 i hi)⟩
theorem u8_is {b : Int} (hb : Byte b) (n : Nat) (hn : n < 256) : UInt8.ofNat b.toNat = UInt8.ofNat n ↔ b = n := by
  unfold Byte at hb
  constructor
  · intro h
    have h2 := congrArg UInt8.toNat h
    simp only [UInt8.toNat_ofNat'] at h2
    omega
  · rintro rfl; rfl
theorem four_of {mem : List Int} {a : Nat} (h : a + 4 ≤ mem.length) : (mem.drop a).take 4 = [mem.getD a 0, mem.getD (a + 1) 0, mem.getD (a + 2) 0, mem.getD (a + 3) 0] := by
  apply List.ext_getElem?
  intro i
  rw [List.getElem?_take, List.getElem?_drop]
  match i with
  | 0 => rw [if_pos (by decide), Nat.add_zero]; simp [List.getD_eq_getElem?_getD, show a < mem.length by omega]
  | 1 => rw [if_pos (by decide)]; simp [List.getD_eq_getElem?_getD, show a + 1 < mem.length by omega]
  | 2 => rw [if_pos (by decide)]; simp [List.getD_eq_getElem?_getD, show a + 2 < mem.length by omega]
  | 3 => rw [if_pos (by decide)]; simp [List.getD_eq_getElem?_getD, show a + 3 < mem.length by omega]
  | i + 4 => rw [if_neg (by omega)]; simp
theorem text_is {mem : List Int} {a : Nat} (hb : ∀ b ∈ mem, Byte b) (h : a + 4 ≤ mem.length) : strOfNums ((mem.drop a).take 4) = (⟨#[115, 0, 0, 0]⟩ : ByteArray) ↔ getN mem a 4 = 115 := by
  rw [four_of h]
  have b0 := byte_getD hb a
  have b1 := byte_getD hb (a + 1)
  have b2 := byte_getD hb (a + 2)
  have b3 := byte_getD hb (a + 3)
  have e : getN mem a 4 = mem.getD a 0 + 256 * mem.getD (a + 1) 0 + 65536 * mem.getD (a + 2) 0 + 16777216 * mem.getD (a + 3) 0 := by
    simp only [getN, Nat.add_zero, Int.pow_zero]
    rw [show (256 : Int) ^ 1 = 256 from rfl, show (256 : Int) ^ 2 = 65536 from rfl, show (256 : Int) ^ 3 = 16777216 from rfl]
    generalize mem.getD a 0 = x0 at *
    generalize mem.getD (a + 1) 0 = x1 at *
    generalize mem.getD (a + 2) 0 = x2 at *
    generalize mem.getD (a + 3) 0 = x3 at *
    omega
  rw [e]
  generalize mem.getD a 0 = x0 at *
  generalize mem.getD (a + 1) 0 = x1 at *
  generalize mem.getD (a + 2) 0 = x2 at *
  generalize mem.getD (a + 3) 0 = x3 at *
  have g0 := u8_is b0 115 (by decide)
  have g1 := u8_is b1 0 (by decide)
  have g2 := u8_is b2 0 (by decide)
  have g3 := u8_is b3 0 (by decide)
  unfold Byte at b0 b1 b2 b3
  have r : strOfNums [x0, x1, x2, x3] = (⟨#[115, 0, 0, 0]⟩ : ByteArray) ↔ UInt8.ofNat x0.toNat = UInt8.ofNat 115 ∧ UInt8.ofNat x1.toNat = UInt8.ofNat 0 ∧ UInt8.ofNat x2.toNat = UInt8.ofNat 0 ∧ UInt8.ofNat x3.toNat = UInt8.ofNat 0 := by
    constructor
    · intro h
      have h2 := congrArg ByteArray.data h
      have h3 := congrArg Array.toList h2
      simpa [strOfNums] using h3
    · rintro ⟨h0, h1, h2, h3⟩
      simp only [strOfNums, List.map_cons, List.map_nil, h0, h1, h2, h3]
      rfl
  rw [r, g0, g1, g2, g3]
  omega
/-- A row of events, readable, no block below one. -/
structure EvB (w : World) (b : Nat) (A : Option Addr) (n c : Nat) (ev : List Ev) : Prop where
  ev : EvIn w A n ev
  nil : A = none → n = 0 ∧ c = 0
  ge : ∀ g off, A = some ⟨g, off, none⟩ → b ≤ g
theorem EvB.of {w : World} {base : Nat} {A : Option Addr} {n c : Nat} {ev : List Ev} (hn : ev.length = n) (h : w.ownsRow base 45 3 (.slice A n c) n (evC ev)) : EvB w base A n c ev := by
  obtain ⟨A', c', e, hc⟩ := own_cells h
  injection e with e1 e2 e3
  subst e1 e3
  refine ⟨⟨hn, hc⟩, fun e => ?_, fun g off e => ?_⟩
  · rcases h.2 with ⟨h1, h2⟩ | ⟨g, cap, cur, h1, _⟩
    · injection h1 with _ h3 h4
      exact ⟨h2, h4⟩
    · injection h1 with h3
      rw [e] at h3
      cases h3
  · rcases h.2 with ⟨h1, h2⟩ | ⟨g', cap, cur, h1, h2, _⟩
    · injection h1 with h3
      rw [e] at h3
      cases h3
    · injection h1 with h3
      rw [e] at h3
      injection h3 with h3
      injection h3 with h3
      subst h3
      exact h2
theorem EvB.keep {w w' : World} {b : Nat} {A : Option Addr} {n c : Nat} {ev : List Ev} {S : Nat → Prop} (h : EvB w b A n c ev) (hm : Mod S w w') (hS : ∀ j, b ≤ j → j < w.heap.size → ¬S j) : EvB w' b A n c ev := by
  refine ⟨⟨h.ev.1, fun hn => ?_⟩, h.nil, h.ge⟩
  obtain ⟨g, e, hl, hc⟩ := h.ev.2 hn
  refine ⟨g, e, Nat.lt_of_lt_of_le hl hm.size, fun i x hx => ?_⟩
  rw [World.cell?_of_block (w := w) (hm.block g hl (hS g (h.ge _ _ e) hl))]
  exact hc i x hx
theorem EvB.kp {w w' : World} {b : Nat} {A : Option Addr} {n c : Nat} {ev : List Ev} (h : EvB w b A n c ev) (hk : Kp w w') : EvB w' b A n c ev := ⟨h.ev.kp hk, h.nil, h.ge⟩
theorem evC_length (ev : List Ev) : (evC ev).length = ev.length * 3 := by
  induction ev with
  | nil => rfl
  | cons e ev ih =>
    show ([Value.int .i64 e.kind, .int .u32 e.word, .int .u64 e.real] ++ evC ev).length = _
    rw [List.length_append, ih]
    simp
    omega
theorem evC_one (ev : List Ev) : ∀ u ∈ evC ev, u.oneCell' = true := by
  intro u hu
  simp only [evC, List.mem_flatMap, List.mem_cons, List.not_mem_nil, or_false] at hu
  obtain ⟨e, _, h | h | h⟩ := hu
  all_goals rw [h]; rfl
theorem evC_append (a b : List Ev) : evC (a ++ b) = evC a ++ evC b := by simp [evC]
theorem EvB.news {w : World} {b : Nat} {A : Option Addr} {n c : Nat} {ev : List Ev} (h : EvB w b A n c ev) {W : World} (hk : Kp w W) : ∀ ad, A = some ad → ∀ j u, (evC ev)[j]? = some u → W.cell? (ad.add j) = some u := by
  intro ad e j u hu
  have hj : j < (evC ev).length := by
    rcases Nat.lt_or_ge j (evC ev).length with h | h
    · exact h
    · rw [List.getElem?_eq_none h] at hu; cases hu
  rw [evC_length, h.ev.1] at hj
  obtain ⟨g, e2, hl, hc⟩ := (h.kp hk).ev.2 (by omega)
  rw [e] at e2
  cases e2
  rw [addr_add, Nat.zero_add]
  exact hc j u hu
section
variable {P : Program} {ops : Array Oper} {o : Oper} {a : Act} {w : World} {K : Act → World → Prop} {Q : Exit → Act → World → Prop} {E : Prop}
/-- A whole slice behind a row of the call's own, in a region that draws its order, where the guard holds. -/
theorem step_appG (hw : Region.wanted o (yielded ops a.tmps) = true) (s x : Operand) (t : TypeId) (ho : o.op = .call { callee := .builtin .append, args := #[s, x], argTypes := #[t, t] })
    (base : Nat) (e : TypeId) (size bytes : Nat) (ht : P.underlying t = some (.slice e)) (hinfo : ∃ i z, P.info? e = some i ∧ i.zero = some z ∧ i.size = size ∧ i.bytes = bytes ∧ z.cells.size = size) (hsz : 0 < size)
    (v : Value) (n : Nat) (xs : List Value) (hs : a.eval s = v) (hown : w.ownsRow base e size v n xs)
    (A : Option Addr) (m c : Nat) (news : List Value) (hx : a.eval x = .slice A m c) (hA : A = none → m = 0 ∧ c = 0) (hl : news.length = m * size) (hnews : ∀ ad, A = some ad → ∀ j u, news[j]? = some u → w.cell? (ad.add j) = some u) (h1 : ∀ u ∈ news, u.oneCell' = true)
    (hbytes : (n + m) * bytes ≤ 140737488355328) (hmax : n + m ≤ 140737488355328) (hbase : base ≤ w.heap.size)
    (h : ∀ v' w', w'.ownsRow base e size v' (n + m) (xs ++ news) → w.grownBy w' v.ownBlock → K (a.put o.dst v') w') :
    if Region.wanted o (yielded ops a.tmps) = true then Oper.wp P o a w K Q else E := by
  obtain ⟨i, z, hi, hz, hsize, hby, hzs⟩ := hinfo
  rw [if_pos hw]
  cases A with
  | some ad =>
    obtain ⟨v', w', hrun, r1, r2, _⟩ := run_append_own (P := P) w base t o.type e i z size bytes ht hi hz hsize hby hzs hsz v n xs hown ad m c news hl (hnews ad rfl) h1 (by unfold maxLen; omega) hbytes hbase
    unfold Oper.wp
    simp [execOp, ho, resolve, invoke, builtin, hs, hx, hrun, Result.andThen]
    exact h v' w' r1 r2
  | none =>
    obtain ⟨rfl, rfl⟩ := hA rfl
    obtain rfl : news = [] := List.eq_nil_of_length_eq_zero (by simpa using hl)
    have hrun := run_append_owned_none (P := P) (w := w) base t o.type e i size ht hi v n xs hown
    unfold Oper.wp
    simp [execOp, ho, resolve, invoke, builtin, hs, hx, hrun, Result.andThen]
    exact h v w (by simpa using hown) ⟨rfl, rfl, rfl, Nat.le_refl _, fun _ _ _ => rfl⟩
end
theorem own_lit {V W : World} (e : W.heap.size = V.heap.size) : (W.alloc (.cells #[] 45)).ownsRow V.heap.size 45 3 (.slice (some ⟨V.heap.size, 0, none⟩) 0 0) 0 [] := by
  have h := World.ownsRow_lit (base := W.heap.size) (e := 45) (size := 3) W #[] 0 (Nat.le_refl _) (by decide) rfl
  rw [e] at h
  exact h
theorem step_appE {ops : Array Oper} {o : Oper} {a : Act} {w : World} {K : Act → World → Prop} {Q : Exit → Act → World → Prop} {E : Prop} (V : World) (hw : Region.wanted o (yielded ops a.tmps) = true) (s x : Operand) (ho : o.op = .call { callee := .builtin .append, args := #[s, x], argTypes := #[39, 39] })
    (v : Value) (n : Nat) (xs : List Value) (hs : a.eval s = v) (A : Option Addr) (m c : Nat) (ev : List Ev) (hx : a.eval x = .slice A m c) (hA : A = none → m = 0 ∧ c = 0) (hl : (evC ev).length = m * 3) (hn : n ≤ 1000) (hm : m ≤ 1000)
    (hown : w.ownsRow V.heap.size 45 3 v n xs) (hk : Kp V w) (hnews : ∀ W, Kp V W → ∀ ad, A = some ad → ∀ j u, (evC ev)[j]? = some u → W.cell? (ad.add j) = some u)
    (h : ∀ X cx w', Kp V w' → w'.ownsRow V.heap.size 45 3 (.slice X (n + m) cx) (n + m) (xs ++ evC ev) → K (a.put o.dst (.slice X (n + m) cx)) w') :
    if Region.wanted o (yielded ops a.tmps) = true then Oper.wp Try.prog o a w K Q else E := by
  refine step_appG hw s x 39 ho V.heap.size 45 3 24 Try.underlying39 info_event (by decide) v n xs hs hown A m c (evC ev) hx hA hl (hnews w hk) (evC_one _) (by omega) (by omega) hk.size ?_
  intro v' w' h1 h2
  obtain ⟨X, cx, rfl, -⟩ := own_cells h1
  exact h X cx w' (Kp.grown hk h2 (own_ge hown)) h1
theorem evin_join {w : World} {X : Option Addr} {n cx b L1 L2 : Nat} {e1 e2 : List Ev} (hn : (e1 ++ e2).length = n) (hl : n = 0 + L1 + L2) (h : w.ownsRow b 45 3 (.slice X (0 + L1 + L2) cx) (0 + L1 + L2) (([] ++ evC e1) ++ evC e2)) : EvIn w X (0 + L1 + L2) (e1 ++ e2) := by
  subst hl
  obtain ⟨A', c', e, hc⟩ := own_cells h
  injection e with f1 f2 f3
  subst f1
  refine ⟨hn, fun h0 => ?_⟩
  obtain ⟨g, q1, q2, q3⟩ := hc h0
  refine ⟨g, q1, q2, fun i x hx => q3 i x ?_⟩
  rw [evC_append] at hx
  simpa using hx
theorem Words.wide {W : World} {b b1 M B K : Nat} {v : Value} {l : List Int} (h : Words W b b b b v l) (h1 : b ≤ b1) (h2 : b ≤ M) (h3 : b ≤ B) (h4 : b ≤ K) : Words W b1 M B K v l := by
  obtain ⟨⟨A, c, hv, hc, hA⟩, hu, hl⟩ := h
  refine ⟨⟨A, c, hv, hc, fun hne => ?_⟩, hu, hl⟩
  obtain ⟨I, off, e, g1, g2, g3, g4, hcell⟩ := hA hne
  exact ⟨I, off, e, by omega, by omega, by omega, by omega, hcell⟩
set_option maxRecDepth 100000 in
set_option maxHeartbeats 40000000 in
theorem splits_good {w : World} {A C : Option Addr} {c d : Nat} {l q : List Int} (hA : InC w A l) (hq : InW w C d q) (n0 n1 : Nat) (h0 : n0 ≤ 255) (h1 : n1 ≤ 255) (hl : l.length ≤ 2000) (hql : q.length ≤ 100) :
    Calls Try.prog 6 #[.slice A l.length c, .slice C q.length d, .agg #[.int .u8 n0, .int .u8 n1]] w fun e w' => e = .returned (.bool true) ∧ Kp w w' := by
  obtain ⟨nb, hnb⟩ : ∃ n, Aside (l.length = n) := ⟨_, ⟨rfl⟩⟩
  obtain ⟨m, hm⟩ : ∃ m, Aside (q.length = m) := ⟨_, ⟨rfl⟩⟩
  obtain ⟨s0, hs0⟩ : ∃ s, Aside (loadS 0 l (upV l.length) (upV (upV l.length + 256)) = s) := ⟨_, ⟨rfl⟩⟩
  have lc := Aside.mk (fun W (hW : Kp w W) => hA.load (c := c) hl hnb.out hs0.out W hW)
  have qw := Aside.mk (fun W (hW : Kp w W) (b1 M B K : Nat) => hq.words (W := W) (b1 := b1) (M := M) (B := B) (K := K) hW hm.out (by have := hm.out; omega))
  obtain ⟨s1, i1, e1, k1, R1⟩ := run_total n0 s0 q
  obtain ⟨s2, i2, e2, k2, R2⟩ := run_total n1 s1 i1
  have R3 := Aside.mk (R1.append R2)
  have v1 := R1.evs
  have v2 := R2.evs
  replace R1 := Aside.mk R1
  replace R2 := Aside.mk R2
  rw [hnb.out] at hl ⊢
  rw [hm.out] at hql ⊢
  replace hA := Aside.mk hA
  replace hq := Aside.mk hq
  have bX := Aside.mk (Blk.new w #[.int .u8 n0, .int .u8 n1] 53)
  have kI : Aside (Kp w (w.alloc (.cells #[.int .u8 n0, .int .u8 n1] 53))) := ⟨(Kp.refl w).alloc _⟩
  go_enter Try.func6, Try.ntmps6
  go_wp2_with fail
  refine Calls.mono (awake04_calls _) ?_
  rintro e w1 ⟨rfl, k1'⟩
  have bX1 := Aside.mk (bX.out.kp k1')
  replace kI : Aside (Kp w w1) := ⟨kI.out.trans k1'⟩
  clear k1' bX
  have lx := bX1.out.lt
  go_wp2_with fail
  refine Calls.mono (lc.out _ kI.out) ?_
  rintro e w2 ⟨M1, B1, K1, rfl, ⟨gM1, gB1, gK1⟩, k2', ma1⟩
  have bX2 := Aside.mk (bX1.out.kp k2')
  have gw := Aside.mk kI.out.size
  replace kI : Aside (Kp w w2) := ⟨kI.out.trans k2'⟩
  have lM1 := ma1.m.lt
  have lB1 := ma1.b.lt
  have lK1 := ma1.kl
  replace ma1 := Aside.mk ma1
  clear k2' bX1 lx
  have lx := bX2.out.lt
  go_wp2_with fail
  refine Calls.mono (lc.out _ kI.out) ?_
  rintro e w3 ⟨M2, B2, K2, rfl, ⟨gM2, gB2, gK2⟩, k3', ma2⟩
  have bX3 := Aside.mk (bX2.out.kp k3')
  have s23 := k3'.size
  have gw2 := Aside.mk kI.out.size
  replace kI : Aside (Kp w w3) := ⟨kI.out.trans k3'⟩
  replace ma1 := Aside.mk (ma1.out.kp k3')
  have lM2 := ma2.m.lt
  have lB2 := ma2.b.lt
  have lK2 := ma2.kl
  have x0 : w3.cell? ⟨w.heap.size, 0, none⟩ = some (.int .u8 n0) := bX3.out.cell 0
  have x1 : w3.cell? ⟨w.heap.size, 1, none⟩ = some (.int .u8 n1) := bX3.out.cell 1
  clear k3' bX2 lx
  have lx := bX3.out.lt
  have rc := Aside.mk (Run_to R1.out n0 k1 rfl rfl (.slice C m d) ma2 (qw.out _ kI.out _ _ _ _ (by have := gw.out; omega) (by have := gw2.out; omega) (by have := gw2.out; omega) (by have := gw2.out; omega)) (by omega) (by omega))
  replace ma2 := Aside.mk ma2
  go_wp2_with fail
  refine Calls.mono rc.out ?_
  rintro e w4 ⟨A2, c2, rfl, hm4, ma2', ev4⟩
  obtain ⟨L1, hL1⟩ : ∃ L, Aside (e1.length = L) := ⟨_, ⟨rfl⟩⟩
  rw [hL1.out] at ev4
  rw [hL1.out]
  have gw3 := kI.out.size
  replace kI : Aside (Kp w w4) := ⟨(kI.out.mod.behind hm4 (S := fun _ => False) (fun k e => Or.inr (by have h1 := gw.out; have h2 := gw2.out; rcases e with e | e | e <;> omega))).toKp (fun k e => e.elim)⟩
  have s34 := hm4.size
  have bX4 := Aside.mk (hm4.blk bX3.out (by have h1 := gw.out; have h2 := gw2.out; have h3 := bX3.out.lt; omega))
  replace ma1 := Aside.mk (ma1.out.keep hm4 (by omega) (by omega) (by omega))
  replace ma2 := Aside.mk ma2'
  replace ev4 := Aside.mk (EvB.of hL1.out ev4)
  clear x0 x1 lx rc bX3 hm4 ma2'
  have bR := Aside.mk (Blk.new w4 #[.int .i64 s1.state, .int .u32 s1.code, .slice A2 L1 c2, .int .i64 k1] 41)
  have kR : Kp w4 (w4.alloc (.cells #[.int .i64 s1.state, .int .u32 s1.code, .slice A2 L1 c2, .int .i64 k1] 41)) := (Kp.refl w4).alloc _
  have sR := sz1 w4 (.cells #[.int .i64 s1.state, .int .u32 s1.code, .slice A2 L1 c2, .int .i64 k1] 41)
  go_wp2_with fail
  generalize w4.alloc (.cells #[.int .i64 s1.state, .int .u32 s1.code, .slice A2 L1 c2, .int .i64 k1] 41) = w5 at *
  refine Calls.mono (lc.out _ (kI.out.trans kR)) ?_
  rintro e w6 ⟨M3, B3, K3, rfl, ⟨gM3, gB3, gK3⟩, k6, ma3⟩
  have s56 := k6.size
  have gw4 := Aside.mk kI.out.size
  have k46 := kR.trans k6
  replace kI : Aside (Kp w w6) := ⟨kI.out.trans k46⟩
  replace bR := Aside.mk (bR.out.kp k6)
  replace bX4 := Aside.mk (bX4.out.kp k46)
  replace ma1 := Aside.mk (ma1.out.kp k46)
  replace ma2 := Aside.mk (ma2.out.kp k46)
  replace k46 := Aside.mk k46
  have lM3 := ma3.m.lt
  have lB3 := ma3.b.lt
  have lK3 := ma3.kl
  clear k6 kR
  obtain ⟨S, I, E, T, hS0, hI0, hIn, hEn, hk1, -⟩ := R1.out.trace
  have words0 := qw.out _ kI.out w.heap.size w.heap.size w.heap.size w.heap.size (Nat.le_refl _) (Nat.le_refl _) (Nat.le_refl _) (Nat.le_refl _)
  rw [← hS0] at ma3
  replace words0 : Aside (Words w6 w.heap.size w.heap.size w.heap.size w.heap.size (.slice C m d) (I 0) ∧ (I 0).length = m) := ⟨by rw [hI0]; exact words0, by rw [hI0]; exact hm.out⟩
  replace ma3 := Aside.mk ma3
  replace T := Aside.mk T
  replace hS0 := Aside.mk hS0
  replace hI0 := Aside.mk hI0
  replace hIn := Aside.mk hIn
  have c3 : w6.cell? ⟨w4.heap.size, 3, none⟩ = some (.int .i64 k1) := bR.out.cell 3
  have lR := bR.out.lt
  go_wp2_with fail
  go_loopw [14, 15] (fun left i wr => ∃ k : Nat, k ≤ k1 ∧ i = .int .i64 k ∧ (∃ A' n' c', left = .slice A' n' c' ∧ (I k).length = n' ∧ Words w6 w.heap.size w.heap.size w.heap.size w.heap.size (.slice A' n' c') (I k)) ∧ Mod (fun j => j = M3 ∨ j = B3 ∨ j = K3) w6 wr ∧ Mac wr M3 B3 K3 (S k) (2002 * k)) (fun _ i _ => k1 - (intOf i).toNat)
  case atStart => exact ⟨0, Nat.zero_le _, rfl, ⟨_, _, _, rfl, words0.out.2, words0.out.1⟩, Mod.refl _ _, ma3.out⟩
  case round =>
    obtain ⟨k, hk, rfl, ⟨A', n', c', rfl, hn', hwk⟩, hmk, mak⟩ := hrel
    by_cases hlt : k < k1
    · obtain ⟨t1, t2, t3, es, t4, t5, t6⟩ := T.out.step k hlt
      have bRk := Aside.mk (hmk.blk bR.out (by omega))
      have c3k : wr.cell? ⟨w4.heap.size, 3, none⟩ = some (.int .i64 k1) := bRk.out.cell 3
      have lRk := bRk.out.lt
      have rk := RunTo.step t1 t2 t6 t3 t5 (.out _ _)
      have ub := mak.ok.ub
      have up := mak.ok.up
      have ux := getD_U mak.ok.ux 17
      obtain ⟨pc, hpc⟩ := Int.eq_ofNat_of_zero_le up.1
      have hin := t2.2
      rw [hpc] at hin
      have txt := text_is ub (show pc + 4 ≤ (S k).mem.length by omega)
      have hh : (S k).here = getN (S k).mem pc 4 := by unfold MS.here; rw [hpc]; rfl
      rw [← hh] at txt
      have pcb : 0 ≤ (pc : Int) ∧ (pc : Int) ≤ 4294967295 := by rw [← hpc]; exact up
      have plc := Place_calls mak
      rw [hpc] at plc
      have len4 : (((S k).mem.drop pc).take 4).length = 4 := by rw [four_of (by omega)]; rfl
      obtain ⟨x17, hx17⟩ : ∃ x, Aside ((S k).x.getD 17 0 = x) := ⟨_, ⟨rfl⟩⟩
      have wdc := Aside.mk (fun W (hW : Mac W M3 B3 K3 (S k) (2002 * k)) => by have h := Word_dr hW 17 (by decide); rw [hx17.out] at h; exact h)
      have asks := Aside.mk (show asksP (S k) ↔ (S k).here = 115 ∧ x17 = 2 by unfold asksP; rw [hx17.out])
      replace rk := Aside.mk rk
      have rcx := Aside.mk (fun W (hW : Kp wr W) => Run_to rk.out 1 1 rfl rfl (.slice A' n' c') (mak.kp hW) (Words.wide (b1 := W.heap.size) (hwk.at (w' := W) (fun I hI0 _ _ _ hI => (hW.block (Nat.lt_of_lt_of_le hI hmk.size)).trans (hmk.block I hI (by have h4 := gw4.out; have h3 := gw2.out; omega)))) (by have h1 := hW.size; have h2 := hmk.size; have h3 := kI.out.size; omega) (by have h4 := gw4.out; omega) (by have h4 := gw4.out; omega) (by have h4 := gw4.out; omega)) (by decide) (by omega))
      replace t3 := Aside.mk t3
      replace mak := Aside.mk mak
      replace hmk := Aside.mk hmk
      replace hwk := Aside.mk hwk
      replace txt := Aside.mk txt
      replace len4 := Aside.mk len4
      clear c3 t1 t2 t4 t5 t6 hh ub up hpc
      go_wp2_with fail
      refine Calls.mono plc ?_
      rintro e wa ⟨rfl, ka⟩
      have mba := Aside.mk (mBytes_at (mak.out.kp ka) pc 4 pc 4 rfl rfl (by omega))
      replace ka := Aside.mk ka
      clear plc
      go_wp2_with fail
      refine Calls.mono mba.out ?_
      rintro e wb ⟨A4, n4, c4, rfl, kb, hr4⟩
      have cv := conv_row hr4 (Kp.refl wb)
      have kab := Aside.mk (ka.out.trans kb)
      clear mba kb
      by_cases h115 : (S k).here = 115
      · rw [txt.out.2 h115] at cv
        have wd := Aside.mk (wdc.out _ (mak.out.kp kab.out))
        go_wp2_with fail
        refine Calls.mono wd.out ?_
        rintro e wc ⟨rfl, hdc⟩
        have kc := Aside.mk (kab.out.trans hdc.kp)
        clear hdc wd cv
        have rcy := Aside.mk (rcx.out wc kc.out)
        by_cases hx2 : x17 = 2
        · subst hx2
          have hI3 : I (k + 1) = (I k).tail := by rw [t3.out]; unfold nextI; rw [if_pos (asks.out.2 ⟨h115, rfl⟩)]
          replace hI3 := Aside.mk hI3
          go_wp2_with fail
          refine Calls.mono rcy.out ?_
          rintro e wd ⟨A5, c5, rfl, hmd, mad, -⟩
          by_cases hz : n' = 0
          · subst hz
            have hI2 : Aside (I (k + 1) = I k) := ⟨by rw [hI3.out, List.eq_nil_of_length_eq_zero hn']; rfl⟩
            go_wp2_with fail
            all_goals go_roundw
            case rel => (refine ⟨k + 1, by omega, by go_num, ⟨A', _, c', rfl, by rw [hI2.out]; exact hn', by rw [hI2.out]; exact hwk.out⟩, (hmk.out.trans kc.out.mod).trans hmd, mad.upN (by omega)⟩)
            case measure => simp [intOf]; omega
          · obtain ⟨n2, rfl⟩ : ∃ n2, n' = n2 + 1 := ⟨n' - 1, by omega⟩
            obtain ⟨v, l2, hIk⟩ : ∃ v l2, I k = v :: l2 := by
              cases h : I k with
              | nil => rw [h] at hn'; cases hn'
              | cons v l2 => exact ⟨v, l2, rfl⟩
            have hw2 := hwk.out
            rw [hIk] at hw2
            obtain ⟨⟨A0, c0, f1, f2, f3⟩, hu, hl3⟩ := hw2
            have hn2 : l2.length = n2 := by rw [hIk] at hn'; simpa using hn'
            injection f1 with f4 f5 f6
            subst f4 f6
            obtain ⟨Ia, off, rfl, j1, j2, j3, j4, hcell⟩ := f3 (by simp)
            have wt := Aside.mk (fun (A'' : Option Addr) (c'' : Nat) (hc : l2.length ≤ c'') (hA : l2 ≠ [] → A'' = some ⟨Ia, off + 1, none⟩) => words_tail (c := 0) (w := w6) ⟨j1, j2, j3, j4⟩ hcell hu hl3 hc hA)
            have f2' : n2 + 1 ≤ c' := by simpa [hn2] using f2
            have hI2 : Aside (I (k + 1) = l2) := ⟨by rw [hI3.out, hIk]; rfl⟩
            replace hn2 := Aside.mk hn2
            clear f2 f3 hcell hu hl3 f5 hz
            go_wp2_with fail
            all_goals go_roundw
            case rel =>
              refine ⟨k + 1, by omega, by go_num, ⟨_, n2, _, rfl, by rw [hI2.out]; exact hn2.out, by
                have e := hn2.out
                rw [hI2.out]
                subst e
                exact wt.out _ _ (by omega) (fun hne => if_neg (by have : l2.length ≠ 0 := fun e => hne (List.eq_nil_of_length_eq_zero e); omega))⟩, (hmk.out.trans kc.out.mod).trans hmd, mad.upN (by omega)⟩
            case measure => simp [intOf]; omega
        · have hI2 : Aside (I (k + 1) = I k) := ⟨by rw [t3.out, nextI_same (fun h => hx2 (asks.out.1 h).2)]⟩
          go_wp2_with fail
          refine Calls.mono rcy.out ?_
          rintro e wd ⟨A5, c5, rfl, hmd, mad, -⟩
          go_wp2_with fail
          all_goals go_roundw
          case rel => (refine ⟨k + 1, by omega, by go_num, ⟨A', _, c', rfl, by rw [hI2.out]; exact hn', by rw [hI2.out]; exact hwk.out⟩, (hmk.out.trans kc.out.mod).trans hmd, mad.upN (by omega)⟩)
          case measure => simp [intOf]; omega
      · have hI2 : Aside (I (k + 1) = I k) := ⟨by rw [t3.out, nextI_same (fun h => h115 (asks.out.1 h).1)]⟩
        have hne : ¬(strOfNums (((S k).mem.drop pc).take 4) = (⟨#[115, 0, 0, 0]⟩ : ByteArray)) := fun e => h115 (txt.out.1 e)
        replace hne := not_text hne
        generalize strOfNums (((S k).mem.drop pc).take 4) = tx at *
        have kc := Aside.mk kab.out
        have rcy := Aside.mk (rcx.out wb kab.out)
        go_wp2_with fail
        refine Calls.mono rcy.out ?_
        rintro e wd ⟨A5, c5, rfl, hmd, mad, -⟩
        go_wp2_with fail
        all_goals go_roundw
        case rel => (refine ⟨k + 1, by omega, by go_num, ⟨A', _, c', rfl, by rw [hI2.out]; exact hn', by rw [hI2.out]; exact hwk.out⟩, (hmk.out.trans kc.out.mod).trans hmd, mad.upN (by omega)⟩)
        case measure => simp [intOf]; omega
    · obtain rfl : k = k1 := by omega
      clear hlt c3 hk1
      have g4 := gw4.out
      have g2 := gw2.out
      have g1 := gw.out
      have g5 := k46.out.size
      have hm4r : Mod (fun j => j = M3 ∨ j = B3 ∨ j = K3) w4 wr := k46.out.mod.trans hmk
      have ea := Aside.mk (ev4.out.keep hm4r (fun j _ hj => by omega))
      have bRr := Aside.mk (hmk.blk bR.out (by omega))
      have bXr := Aside.mk (hmk.blk bX4.out (by omega))
      have ma1r := Aside.mk (ma1.out.keep hmk (by omega) (by omega) (by omega))
      have ma2r := ma2.out.keep hmk (by omega) (by omega) (by omega)
      have kr : Aside (Kp w wr) := ⟨(kI.out.mod.behind hmk (S := fun _ => False) (fun j e => Or.inr (by omega))).toKp (fun j e => e.elim)⟩
      have wk : Words wr wr.heap.size M2 B2 K2 (.slice A' n' c') i1 := by
        have h := hwk.at (w' := wr) (fun I hI0 _ _ _ hI => hmk.block I hI (by omega))
        rw [hIn.out] at h
        have h2 := kr.out.size
        exact Words.wide h h2 (by omega) (by omega) (by omega)
      have rc := Aside.mk (Run_to R2.out n1 k2 rfl rfl (.slice A' n' c') ma2r wk (by omega) (by omega))
      have s6r := hmk.size
      have x1 : wr.cell? ⟨w.heap.size, 1, none⟩ = some (.int .u8 n1) := bXr.out.cell 1
      have c3 : wr.cell? ⟨w4.heap.size, 3, none⟩ = some (.int .i64 k) := bRr.out.cell 3
      have lx := bXr.out.lt
      have lR := bRr.out.lt
      replace ma2r := Aside.mk ma2r
      clear hwk hmk mak wk hm4r hn' hk
      go_wp2_with fail
      refine Calls.mono rc.out ?_
      rintro e w7 ⟨A5, c5, rfl, hm7, ma2_7, ev7⟩
      obtain ⟨L2, hL2⟩ : ∃ L, Aside (e2.length = L) := ⟨_, ⟨rfl⟩⟩
      rw [hL2.out] at ev7
      rw [hL2.out]
      have ea7 := ea.out.keep hm7 (fun j hj _ => by omega)
      have eb7 := EvB.of hL2.out ev7
      have bR7 := hm7.blk bRr.out (by omega)
      have bX7 := hm7.blk bXr.out (by omega)
      have ma17 := ma1r.out.keep hm7 (by omega) (by omega) (by omega)
      have k7 : Kp w w7 := (kr.out.mod.behind hm7 (S := fun _ => False) (fun j e => Or.inr (by omega))).toKp (fun j e => e.elim)
      have s67 := hm7.size
      have kR2 : Kp w7 (w7.alloc (.cells #[.int .i64 s2.state, .int .u32 s2.code, .slice A5 L2 c5, .int .i64 k2] 41)) := (Kp.refl w7).alloc _
      have bS := Aside.mk (Blk.new w7 #[.int .i64 s2.state, .int .u32 s2.code, .slice A5 L2 c5, .int .i64 k2] 41)
      have ea8 := Aside.mk (ea7.kp kR2)
      have eb8 := Aside.mk (eb7.kp kR2)
      have bR8 := Aside.mk (bR7.kp kR2)
      have bX8 := Aside.mk (bX7.kp kR2)
      have ma18 := ma17.kp kR2
      have ma28 := Aside.mk (ma2_7.kp kR2)
      have k8 := Aside.mk (k7.trans kR2)
      have sR2 := sz1 w7 (.cells #[.int .i64 s2.state, .int .u32 s2.code, .slice A5 L2 c5, .int .i64 k2] 41)
      have w8 := qw.out _ k8.out (w7.alloc (.cells #[.int .i64 s2.state, .int .u32 s2.code, .slice A5 L2 c5, .int .i64 k2] 41)).heap.size M1 B1 K1 (by have := k8.out.size; omega) (by omega) (by omega) (by omega)
      have rc3 := Aside.mk (Run_to R3.out ((n0 : Int) + n1) ((k : Int) + k2) (by omega) (by omega) (.slice C m d) ma18 w8 (by omega) (by omega))
      have x0 : (w7.alloc (.cells #[.int .i64 s2.state, .int .u32 s2.code, .slice A5 L2 c5, .int .i64 k2] 41)).cell? ⟨w.heap.size, 0, none⟩ = some (.int .u8 n0) := bX8.out.cell 0
      have x1 : (w7.alloc (.cells #[.int .i64 s2.state, .int .u32 s2.code, .slice A5 L2 c5, .int .i64 k2] 41)).cell? ⟨w.heap.size, 1, none⟩ = some (.int .u8 n1) := bX8.out.cell 1
      have lx := bX8.out.lt
      replace ma18 := Aside.mk ma18
      clear c3 lR hm7 ma2_7 ev7 ea7 eb7 bR7 bX7 ma17 k7 kR2 w8 ea bRr bXr rc ma1r ma2r kr
      go_wp2_with fail
      refine Calls.mono rc3.out ?_
      rintro e w9 ⟨A6, c6, rfl, hm9, ma19, ev9⟩
      obtain ⟨L3, hL3⟩ : ∃ L, Aside ((e1 ++ e2).length = L) := ⟨_, ⟨rfl⟩⟩
      rw [hL3.out] at ev9
      rw [hL3.out]
      have ea9 := ea8.out.keep hm9 (fun j hj _ => by omega)
      have eb9 := eb8.out.keep hm9 (fun j hj _ => by omega)
      have ec9 := EvB.of hL3.out ev9
      have bR9 := hm9.blk bR8.out (by omega)
      have bS9 := hm9.blk bS.out (by omega)
      have ma29 := ma28.out.keep hm9 (by omega) (by omega) (by omega)
      have k9 : Kp w w9 := (k8.out.mod.behind hm9 (S := fun _ => False) (fun j e => Or.inr (by omega))).toKp (fun j e => e.elim)
      have kT : Kp w9 (w9.alloc (.cells #[.int .i64 s2.state, .int .u32 s2.code, .slice A6 L3 c6, .int .i64 ((k : Int) + k2)] 41)) := (Kp.refl w9).alloc _
      have bT := Aside.mk (Blk.new w9 #[.int .i64 s2.state, .int .u32 s2.code, .slice A6 L3 c6, .int .i64 ((k : Int) + k2)] 41)
      have ea10 := Aside.mk (ea9.kp kT)
      have eb10 := Aside.mk (eb9.kp kT)
      have ec10 := Aside.mk (ec9.kp kT)
      have bR10 := Aside.mk (bR9.kp kT)
      have bS10 := Aside.mk (bS9.kp kT)
      have ma110 := Aside.mk (ma19.kp kT)
      have ma210 := Aside.mk (ma29.kp kT)
      have k10 := Aside.mk (k9.trans kT)
      clear x0 x1 lx hm9 ma19 ma29 ev9 ea9 eb9 ec9 bR9 bS9 k9 kT rc3 ea8 eb8 bR8 bX8 ma18 ma28 k8 bS
      have l1 : L1 ≤ 255 := by have := hL1.out; omega
      have l2 : L2 ≤ 255 := by have := hL2.out; omega
      have l3 : Aside (L3 = 0 + L1 + L2) := ⟨by rw [← hL3.out, ← hL1.out, ← hL2.out, List.length_append]; omega⟩
      have n1' := ea10.out.nil
      have n2' := eb10.out.nil
      have lA : (evC e1).length = L1 * 3 := by rw [evC_length, hL1.out]
      have lB : (evC e2).length = L2 * 3 := by rw [evC_length, hL2.out]
      replace lA := Aside.mk lA
      replace lB := Aside.mk lB
      replace n1' := Aside.mk n1'
      replace n2' := Aside.mk n2'
      go_upto_region 22 with fail
      generalize w9.alloc (.cells #[.int .i64 s2.state, .int .u32 s2.code, .slice A6 L3 c6, .int .i64 ((k : Int) + k2)] 41) = V at *
      have ten : Aside (∀ W, Kp V W → (W.cell? ⟨w9.heap.size, 0, none⟩ = some (.int .i64 s2.state) ∧ W.cell? ⟨w9.heap.size, 1, none⟩ = some (.int .u32 s2.code) ∧ W.cell? ⟨w9.heap.size, 2, none⟩ = some (.slice A6 L3 c6) ∧ W.cell? ⟨w9.heap.size, 3, none⟩ = some (.int .i64 ((k : Int) + k2)) ∧ W.cell? ⟨w7.heap.size, 0, none⟩ = some (.int .i64 s2.state) ∧ W.cell? ⟨w7.heap.size, 1, none⟩ = some (.int .u32 s2.code) ∧ W.cell? ⟨w7.heap.size, 2, none⟩ = some (.slice A5 L2 c5) ∧ W.cell? ⟨w7.heap.size, 3, none⟩ = some (.int .i64 k2) ∧ W.cell? ⟨w4.heap.size, 2, none⟩ = some (.slice A2 L1 c2) ∧ W.cell? ⟨w4.heap.size, 3, none⟩ = some (.int .i64 k))) :=
        ⟨fun W hW => ⟨(bT.out.kp hW).cell 0, (bT.out.kp hW).cell 1, (bT.out.kp hW).cell 2, (bT.out.kp hW).cell 3, (bS10.out.kp hW).cell 0, (bS10.out.kp hW).cell 1, (bS10.out.kp hW).cell 2, (bS10.out.kp hW).cell 3, (bR10.out.kp hW).cell 2, (bR10.out.kp hW).cell 3⟩⟩
      obtain ⟨z0, z1, z2, z3, z4, z5, z6, z7, z8, z9⟩ := ten.out V (Kp.refl V)
      have kb : 0 ≤ (k : Int) ∧ (k : Int) ≤ 255 := by have := R1.out.steps; omega
      have kb2 : 0 ≤ (k2 : Int) ∧ (k2 : Int) ≤ 255 := by have := R2.out.steps; omega
      have ap1 := Aside.mk (fun W (hW : Kp V W) => ea10.out.news hW)
      have ap2 := Aside.mk (fun W (hW : Kp V W) => eb10.out.news hW)
      have evs := Aside.mk (fun W (hW : Kp V W) (X : Option Addr) (cx m : Nat) (hm0 : m = 0 + L1 + L2) (hX : EvIn W X (0 + L1 + L2) (e1 ++ e2)) => (show Calls Try.prog 19 #[.slice A6 L3 c6, .slice X m cx] W (fun e w' => e = .returned (.bool true) ∧ Kp V w') from by
        have hm1 : m = L3 := hm0.trans l3.out.symm
        have h := Events_same (w := W) (A := A6) (B := X) (n := L3) (c := c6) (d := cx) (e1 ++ e2) (by have := l3.out; omega) (ec10.out.kp hW).ev (by rw [l3.out]; exact hX)
        rw [hm1]
        exact h.mono (fun e w' ⟨he, hd⟩ => ⟨he, hW.trans hd⟩)))
      have pl1 := Aside.mk (fun W (hW : Kp V W) => (Place_dr (ma110.out.kp hW)).mono (fun e w' ⟨he, hd⟩ => (⟨he, hW.trans hd.kp⟩ : _ ∧ Kp V w')))
      have pl2 := Aside.mk (fun W (hW : Kp V W) => (Place_dr (ma210.out.kp hW)).mono (fun e w' ⟨he, hd⟩ => (⟨he, hW.trans hd.kp⟩ : _ ∧ Kp V w')))
      generalize s2.state = st at *
      generalize s2.code = cd at *
      generalize s2.pc = pc at *
      have wrp : IntKind.wrap .i64 ((k : Int) + k2) = (k : Int) + k2 := IntWalk.i64_in _ (by omega)
      have lT := bT.out.lt
      have lS := bS10.out.lt
      have lR := bR10.out.lt
      refine wp_hide (fun Q0 hQ0 => ?_)
      refine wp_region_held_drew (S := fun W => (W.cell? ⟨w9.heap.size, 0, none⟩ = some (.int .i64 st) ∧ W.cell? ⟨w9.heap.size, 1, none⟩ = some (.int .u32 cd) ∧ W.cell? ⟨w9.heap.size, 2, none⟩ = some (.slice A6 L3 c6) ∧ W.cell? ⟨w9.heap.size, 3, none⟩ = some (.int .i64 ((k : Int) + k2)) ∧ W.cell? ⟨w7.heap.size, 0, none⟩ = some (.int .i64 st) ∧ W.cell? ⟨w7.heap.size, 1, none⟩ = some (.int .u32 cd) ∧ W.cell? ⟨w7.heap.size, 2, none⟩ = some (.slice A5 L2 c5) ∧ W.cell? ⟨w7.heap.size, 3, none⟩ = some (.int .i64 k2) ∧ W.cell? ⟨w4.heap.size, 2, none⟩ = some (.slice A2 L1 c2) ∧ W.cell? ⟨w4.heap.size, 3, none⟩ = some (.int .i64 k))) (by kernel_rfl) (ten.out _ (Kp.refl V).drew) (fun hHeld => ?_)
      refine wpAnyH_takeL (i := 0) (v := ?v0) rfl (by kernel_rfl) (by kernel_rfl) (by kernel_rfl) (fun _ _ _ h => h) (Or.inl ⟨by kernel_rfl, ?hy0⟩) (by assumption) ?rest0
      case hy0 => (intro w hSw; (try dsimp only at hSw); go_simp; (try with_reducible rfl))
      try simp only [Act.put, List.setIfInBounds_toArray, List.set_cons_zero, List.set_cons_succ]
      refine wpAnyH_takeL (i := 1) (v := ?v1) rfl (by kernel_rfl) (by kernel_rfl) (by kernel_rfl) (fun _ _ _ h => h) (Or.inl ⟨by kernel_rfl, ?hy1⟩) (by assumption) ?rest1
      case hy1 => (intro w hSw; (try dsimp only at hSw); go_simp; (try with_reducible rfl))
      try simp only [Act.put, List.setIfInBounds_toArray, List.set_cons_zero, List.set_cons_succ]
      refine wpAnyH_takeL (i := 2) (v := ?v2) rfl (by kernel_rfl) (by kernel_rfl) (by kernel_rfl) (fun _ _ _ h => h) (Or.inl ⟨by kernel_rfl, ?hy2⟩) (by assumption) ?rest2
      case hy2 => (intro w hSw; (try dsimp only at hSw); go_simp; (try with_reducible rfl))
      try simp only [Act.put, List.setIfInBounds_toArray, List.set_cons_zero, List.set_cons_succ]
      refine wpAnyH_takeL (i := 3) (v := ?v3) rfl (by kernel_rfl) (by kernel_rfl) (by kernel_rfl) (fun _ _ _ h => h) (Or.inl ⟨by kernel_rfl, ?hy3⟩) (by assumption) ?rest3
      case hy3 => (intro w hSw; (try dsimp only at hSw); go_simp; (try with_reducible rfl))
      try simp only [Act.put, List.setIfInBounds_toArray, List.set_cons_zero, List.set_cons_succ]
      refine wpAnyH_takeL (i := 4) (v := ?v4) rfl (by kernel_rfl) (by kernel_rfl) (by kernel_rfl) (fun _ _ _ h => h) (Or.inl ⟨by kernel_rfl, ?hy4⟩) (by assumption) ?rest4
      case hy4 => (intro w hSw; (try dsimp only at hSw); go_simp; (try with_reducible rfl))
      try simp only [Act.put, List.setIfInBounds_toArray, List.set_cons_zero, List.set_cons_succ]
      refine wpAnyH_takeL (i := 5) (v := ?v5) rfl (by kernel_rfl) (by kernel_rfl) (by kernel_rfl) (fun _ _ _ h => h) (Or.inl ⟨by kernel_rfl, ?hy5⟩) (by assumption) ?rest5
      case hy5 => (intro w hSw; (try dsimp only at hSw); go_simp; (try with_reducible rfl))
      try simp only [Act.put, List.setIfInBounds_toArray, List.set_cons_zero, List.set_cons_succ]
      refine wpAnyH_takeL (i := 6) (v := ?v6) rfl (by kernel_rfl) (by kernel_rfl) (by kernel_rfl) (fun _ _ _ h => h) (Or.inl ⟨by kernel_rfl, ?hy6⟩) (by assumption) ?rest6
      case hy6 => (intro w hSw; (try dsimp only at hSw); go_simp; (try with_reducible rfl))
      try simp only [Act.put, List.setIfInBounds_toArray, List.set_cons_zero, List.set_cons_succ]
      refine wpAnyH_takeL (i := 7) (v := ?v7) rfl (by kernel_rfl) (by kernel_rfl) (by kernel_rfl) (fun _ _ _ h => h) (Or.inl ⟨by kernel_rfl, ?hy7⟩) (by assumption) ?rest7
      case hy7 => (intro w hSw; (try dsimp only at hSw); go_simp; (try with_reducible rfl))
      try simp only [Act.put, List.setIfInBounds_toArray, List.set_cons_zero, List.set_cons_succ]
      refine wpAnyH_takeL (i := 8) (v := ?v8) rfl (by kernel_rfl) (by kernel_rfl) (by kernel_rfl) (fun _ _ _ h => h) (Or.inl ⟨by kernel_rfl, ?hy8⟩) (by assumption) ?rest8
      case hy8 => (intro w hSw; (try dsimp only at hSw); go_simp; (try with_reducible rfl))
      try simp only [Act.put, List.setIfInBounds_toArray, List.set_cons_zero, List.set_cons_succ]
      refine wpAnyH_takeL (i := 9) (v := ?v9) rfl (by kernel_rfl) (by kernel_rfl) (by kernel_rfl) (fun _ _ _ h => h) (Or.inl ⟨by kernel_rfl, ?hy9⟩) (by assumption) ?rest9
      case hy9 => (intro w hSw; (try dsimp only at hSw); go_simp; (try with_reducible rfl))
      try simp only [Act.put, List.setIfInBounds_toArray, List.set_cons_zero, List.set_cons_succ]
      refine wpAnyH_takeL (i := 10) (v := ?v10) rfl (by kernel_rfl) (by kernel_rfl) (by kernel_rfl) (fun _ _ _ h => h) (Or.inl ⟨by kernel_rfl, ?hy10⟩) (by assumption) ?rest10
      case hy10 => (intro w hSw; (try dsimp only at hSw); go_simp; (try with_reducible rfl))
      try simp only [Act.put, List.setIfInBounds_toArray, List.set_cons_zero, List.set_cons_succ]
      refine wpAnyH_takeL (i := 11) (v := ?v11) rfl (by kernel_rfl) (by kernel_rfl) (by kernel_rfl) (fun _ _ _ h => h) (Or.inl ⟨by kernel_rfl, ?hy11⟩) (by assumption) ?rest11
      case hy11 => (intro w hSw; (try dsimp only at hSw); go_simp; (try with_reducible rfl))
      try simp only [Act.put, List.setIfInBounds_toArray, List.set_cons_zero, List.set_cons_succ]
      refine wpAnyH_takeL (i := 12) (v := ?v12) rfl (by kernel_rfl) (by kernel_rfl) (by kernel_rfl) (fun _ _ _ h => h) (Or.inl ⟨by kernel_rfl, ?hy12⟩) (by assumption) ?rest12
      case hy12 => (intro w hSw; (try dsimp only at hSw); go_simp; (try with_reducible rfl))
      try simp only [Act.put, List.setIfInBounds_toArray, List.set_cons_zero, List.set_cons_succ]
      refine wpAnyH_takeL (i := 13) (v := ?v13) rfl (by kernel_rfl) (by kernel_rfl) (by kernel_rfl) (fun _ _ _ h => h) (Or.inl ⟨by kernel_rfl, ?hy13⟩) (by assumption) ?rest13
      case hy13 => (intro w hSw; (try dsimp only at hSw); go_simp; (try with_reducible rfl))
      try simp only [Act.put, List.setIfInBounds_toArray, List.set_cons_zero, List.set_cons_succ]
      refine wpAnyH_takeL (i := 14) (v := ?v14) rfl (by kernel_rfl) (by kernel_rfl) (by kernel_rfl) (fun _ _ _ h => h) (Or.inl ⟨by kernel_rfl, ?hy14⟩) (by assumption) ?rest14
      case hy14 => (intro w hSw; (try dsimp only at hSw); go_simp; (try with_reducible rfl))
      try simp only [Act.put, List.setIfInBounds_toArray, List.set_cons_zero, List.set_cons_succ]
      refine wpAnyH_takeL (i := 15) (v := ?v15) rfl (by kernel_rfl) (by kernel_rfl) (by kernel_rfl) (fun _ _ _ h => h) (Or.inl ⟨by kernel_rfl, ?hy15⟩) (by assumption) ?rest15
      case hy15 => (intro w hSw; (try dsimp only at hSw); go_simp; (try with_reducible rfl))
      try simp only [Act.put, List.setIfInBounds_toArray, List.set_cons_zero, List.set_cons_succ]
      refine wpAnyH_takeL (i := 16) (v := ?v16) rfl (by kernel_rfl) (by kernel_rfl) (by kernel_rfl) (fun _ _ _ h => h) (Or.inl ⟨by kernel_rfl, ?hy16⟩) (by assumption) ?rest16
      case hy16 => (intro w hSw; (try dsimp only at hSw); go_simp; (try with_reducible rfl))
      try simp only [Act.put, List.setIfInBounds_toArray, List.set_cons_zero, List.set_cons_succ]
      refine wpAnyH_takeL (i := 17) (v := ?v17) rfl (by kernel_rfl) (by kernel_rfl) (by kernel_rfl) (fun _ _ _ h => h) (Or.inl ⟨by kernel_rfl, ?hy17⟩) (by assumption) ?rest17
      case hy17 => (intro w hSw; (try dsimp only at hSw); go_simp; (try with_reducible rfl))
      try simp only [Act.put, List.setIfInBounds_toArray, List.set_cons_zero, List.set_cons_succ]
      refine wpAnyH_takeL (i := 18) (v := ?v18) rfl (by kernel_rfl) (by kernel_rfl) (by kernel_rfl) (fun _ _ _ h => h) (Or.inl ⟨by kernel_rfl, ?hy18⟩) (by assumption) ?rest18
      case hy18 => (intro w hSw; (try dsimp only at hSw); go_simp; (try with_reducible rfl))
      try simp only [Act.put, List.setIfInBounds_toArray, List.set_cons_zero, List.set_cons_succ]
      refine wpAnyH_takeL (i := 19) (v := ?v19) rfl (by kernel_rfl) (by kernel_rfl) (by kernel_rfl) (fun _ _ _ h => h) (Or.inl ⟨by kernel_rfl, ?hy19⟩) (by assumption) ?rest19
      case hy19 => (intro w hSw; (try dsimp only at hSw); go_simp; (try with_reducible rfl))
      try simp only [Act.put, List.setIfInBounds_toArray, List.set_cons_zero, List.set_cons_succ]
      refine wpAnyH_takeL (i := 20) (v := ?v20) rfl (by kernel_rfl) (by kernel_rfl) (by kernel_rfl) (fun _ _ _ h => h) (Or.inl ⟨by kernel_rfl, ?hy20⟩) (by assumption) ?rest20
      case hy20 => (intro w hSw; (try dsimp only at hSw); go_simp; (try with_reducible rfl))
      try simp only [Act.put, List.setIfInBounds_toArray, List.set_cons_zero, List.set_cons_succ]
      refine wpAnyH_takeL (i := 21) (v := ?v21) rfl (by kernel_rfl) (by kernel_rfl) (by kernel_rfl) (fun _ _ _ h => h) (Or.inl ⟨by kernel_rfl, ?hy21⟩) (by assumption) ?rest21
      case hy21 => (intro w hSw; (try dsimp only at hSw); go_simp; (try with_reducible rfl))
      try simp only [Act.put, List.setIfInBounds_toArray, List.set_cons_zero, List.set_cons_succ]
      refine wpAnyH_takeL (i := 22) (v := ?v22) rfl (by kernel_rfl) (by kernel_rfl) (by kernel_rfl) (fun _ _ _ h => h) (Or.inl ⟨by kernel_rfl, ?hy22⟩) (by assumption) ?rest22
      case hy22 => (intro w hSw; (try dsimp only at hSw); go_simp; (try with_reducible rfl))
      try simp only [Act.put, List.setIfInBounds_toArray, List.set_cons_zero, List.set_cons_succ]
      refine wpAnyH_takeL (i := 23) (v := ?v23) rfl (by kernel_rfl) (by kernel_rfl) (by kernel_rfl) (fun _ _ _ h => h) (Or.inl ⟨by kernel_rfl, ?hy23⟩) (by assumption) ?rest23
      case hy23 => (intro w hSw; (try dsimp only at hSw); go_simp; (try with_reducible rfl))
      try simp only [Act.put, List.setIfInBounds_toArray, List.set_cons_zero, List.set_cons_succ]
      refine wpAnyH_takeL (i := 24) (v := ?v24) rfl (by kernel_rfl) (by kernel_rfl) (by kernel_rfl) (fun _ _ _ h => h) (Or.inl ⟨by kernel_rfl, ?hy24⟩) (by assumption) ?rest24
      case hy24 => (intro w hSw; (try dsimp only at hSw); go_simp; (try with_reducible rfl))
      try simp only [Act.put, List.setIfInBounds_toArray, List.set_cons_zero, List.set_cons_succ]
      refine wpAnyH_takeL (i := 26) (v := ?v26) rfl (by kernel_rfl) (by kernel_rfl) (by kernel_rfl) (fun _ _ _ h => h) (Or.inl ⟨by kernel_rfl, ?hy26⟩) (by assumption) ?rest26
      case hy26 => (intro w hSw; (try dsimp only at hSw); go_simp; (try with_reducible rfl))
      try simp only [Act.put, List.setIfInBounds_toArray, List.set_cons_zero, List.set_cons_succ]
      refine wpAnyH_takeL (i := 27) (v := ?v27) rfl (by kernel_rfl) (by kernel_rfl) (by kernel_rfl) (fun _ _ _ h => h) (Or.inl ⟨by kernel_rfl, ?hy27⟩) (by assumption) ?rest27
      case hy27 => (intro w hSw; (try dsimp only at hSw); go_simp; (try with_reducible rfl))
      try simp only [Act.put, List.setIfInBounds_toArray, List.set_cons_zero, List.set_cons_succ]
      refine wpAnyH_takeL (i := 29) (v := ?v29) rfl (by kernel_rfl) (by kernel_rfl) (by kernel_rfl) (fun _ _ _ h => h) (Or.inl ⟨by kernel_rfl, ?hy29⟩) (by assumption) ?rest29
      case hy29 => (intro w hSw; (try dsimp only at hSw); go_simp; (try with_reducible rfl))
      try simp only [Act.put, List.setIfInBounds_toArray, List.set_cons_zero, List.set_cons_succ]
      refine wpAnyH_takeL (i := 30) (v := ?v30) rfl (by kernel_rfl) (by kernel_rfl) (by kernel_rfl) (fun _ _ _ h => h) (Or.inl ⟨by kernel_rfl, ?hy30⟩) (by assumption) ?rest30
      case hy30 => (intro w hSw; (try dsimp only at hSw); go_simp; (try with_reducible rfl))
      try simp only [Act.put, List.setIfInBounds_toArray, List.set_cons_zero, List.set_cons_succ]
      refine wpAnyH_ready (rs := [25]) (by kernel_rfl) (by simp) ?_
      refine AllReadyH.consL rfl (fun Kx hKx => ?_) AllReadyH.nil
      have kq0 : Kp V (V.drew.alloc (.cells #[] 45)) := (Kp.refl V).drew.alloc _
      go_simp
      refine hKx.out _ _ (ten.out _ kq0) (fun hHeld => ?_)
      clear hKx
      try simp only [Act.put, List.setIfInBounds_toArray, List.set_cons_zero, List.set_cons_succ]
      refine wpAnyH_ready (rs := [28]) (by kernel_rfl) (by simp) ?_
      refine AllReadyH.consL rfl (fun Kx hKx => ?_) AllReadyH.nil
      refine step_appE V ?_ (.tmp 157) (.tmp 159) rfl (.slice (some ⟨V.heap.size, 0, none⟩) 0 0) 0 [] rfl A2 L1 c2 e1 rfl n1'.out lA.out (by omega) (by omega) (own_lit rfl) kq0 ap1.out ?_
      · first | rfl | (simp [Region.wanted, yielded]; done)
      intro X1 cx1 y1 kq1 hown1
      refine hKx.out _ _ (ten.out _ kq1) (fun hHeld => ?_)
      clear hKx
      try simp only [Act.put, List.setIfInBounds_toArray, List.set_cons_zero, List.set_cons_succ]
      refine wpAnyH_ready (rs := [31]) (by kernel_rfl) (by simp) ?_
      refine AllReadyH.consL rfl (fun Kx hKx => ?_) AllReadyH.nil
      refine step_appE V ?_ (.tmp 160) (.tmp 162) rfl (.slice X1 (0 + L1) cx1) (0 + L1) ([] ++ evC e1) rfl A5 L2 c5 e2 rfl n2'.out lB.out (by omega) (by omega) hown1 kq1 ap2.out ?_
      · first | rfl | (simp [Region.wanted, yielded]; done)
      intro X2 cx2 y2 kq2 hown2
      have ei := evin_join hL3.out l3.out hown2
      refine hKx.out _ _ (ten.out _ kq2) (fun hHeld => ?_)
      clear hKx
      try simp only [Act.put, List.setIfInBounds_toArray, List.set_cons_zero, List.set_cons_succ]
      refine wpAnyH_ready (rs := [32]) (by kernel_rfl) (by simp) ?_
      refine AllReadyH.consL rfl (fun Kx hKx => ?_) AllReadyH.nil
      go_simp
      refine Calls.mono (evs.out _ kq2 _ _ _ ?em ei) ?_
      case em => omega
      rintro e y3 ⟨rfl, kq3⟩
      refine hKx.out _ _ (ten.out _ kq3) (fun hHeld => ?_)
      clear hKx
      try simp only [Act.put, List.setIfInBounds_toArray, List.set_cons_zero, List.set_cons_succ]
      refine wpAnyH_takeL (i := 33) (v := ?v33) rfl (by kernel_rfl) (by kernel_rfl) (by kernel_rfl) (fun _ _ _ h => h) (Or.inl ⟨by kernel_rfl, ?hy33⟩) (by assumption) ?rest33
      case hy33 => (intro w hSw; (try dsimp only at hSw); go_simp; (try with_reducible rfl))
      try simp only [Act.put, List.setIfInBounds_toArray, List.set_cons_zero, List.set_cons_succ]
      refine wpAnyH_takeL (i := 34) (v := ?v34) rfl (by kernel_rfl) (by kernel_rfl) (by kernel_rfl) (fun _ _ _ h => h) (Or.inl ⟨by kernel_rfl, ?hy34⟩) (by assumption) ?rest34
      case hy34 => (intro w hSw; (try dsimp only at hSw); go_simp; (try with_reducible rfl))
      try simp only [Act.put, List.setIfInBounds_toArray, List.set_cons_zero, List.set_cons_succ]
      refine wpAnyH_takeL (i := 35) (v := ?v35) rfl (by kernel_rfl) (by kernel_rfl) (by kernel_rfl) (fun _ _ _ h => h) (Or.inl ⟨by kernel_rfl, ?hy35⟩) (by assumption) ?rest35
      case hy35 => (intro w hSw; (try dsimp only at hSw); go_simp; (try with_reducible rfl))
      try simp only [Act.put, List.setIfInBounds_toArray, List.set_cons_zero, List.set_cons_succ]
      refine wpAnyH_takeL (i := 37) (v := ?v37) rfl (by kernel_rfl) (by kernel_rfl) (by kernel_rfl) (fun _ _ _ h => h) (Or.inl ⟨by kernel_rfl, ?hy37⟩) (by assumption) ?rest37
      case hy37 => (intro w hSw; (try dsimp only at hSw); go_simp; (try with_reducible rfl))
      try simp only [Act.put, List.setIfInBounds_toArray, List.set_cons_zero, List.set_cons_succ]
      refine wpAnyH_ready (rs := [36]) (by kernel_rfl) (by simp) ?_
      refine AllReadyH.consL rfl (fun Kx hKx => ?_) AllReadyH.nil
      go_simp
      refine Calls.mono (pl1.out _ kq3) ?_
      rintro e y4 ⟨rfl, kq4⟩
      refine hKx.out _ _ (ten.out _ kq4) (fun hHeld => ?_)
      clear hKx
      try simp only [Act.put, List.setIfInBounds_toArray, List.set_cons_zero, List.set_cons_succ]
      refine wpAnyH_ready (rs := [38]) (by kernel_rfl) (by simp) ?_
      refine AllReadyH.consL rfl (fun Kx hKx => ?_) AllReadyH.nil
      go_simp
      refine Calls.mono (pl2.out _ kq4) ?_
      rintro e y5 ⟨rfl, kq5⟩
      refine hKx.out _ _ (ten.out _ kq5) (fun hHeld => ?_)
      clear hKx
      try simp only [Act.put, List.setIfInBounds_toArray, List.set_cons_zero, List.set_cons_succ]
      refine wpAnyH_takeL (i := 39) (v := ?v39) rfl (by kernel_rfl) (by kernel_rfl) (by kernel_rfl) (fun _ _ _ h => h) (Or.inl ⟨by kernel_rfl, ?hy39⟩) (by assumption) ?rest39
      case hy39 => (intro w hSw; (try dsimp only at hSw); go_simp; (try with_reducible rfl))
      try simp only [Act.put, List.setIfInBounds_toArray, List.set_cons_zero, List.set_cons_succ]
      refine wpAnyH_takeL (i := 40) (v := ?v40) rfl (by kernel_rfl) (by kernel_rfl) (by kernel_rfl) (fun _ _ _ h => h) (Or.inl ⟨by kernel_rfl, ?hy40⟩) (by assumption) ?rest40
      case hy40 => (intro w hSw; (try dsimp only at hSw); go_simp; (try with_reducible rfl))
      try simp only [Act.put, List.setIfInBounds_toArray, List.set_cons_zero, List.set_cons_succ]
      refine wpAnyH_takeL (i := 41) (v := ?v41) rfl (by kernel_rfl) (by kernel_rfl) (by kernel_rfl) (fun _ _ _ h => h) (Or.inl ⟨by kernel_rfl, ?hy41⟩) (by assumption) ?rest41
      case hy41 => (intro w hSw; (try dsimp only at hSw); go_simp; (try with_reducible rfl))
      try simp only [Act.put, List.setIfInBounds_toArray, List.set_cons_zero, List.set_cons_succ]
      refine wpAnyH_done (by kernel_rfl) (hQ0.out _ _ ?_) _
      go_wp2_with fail
      all_goals go_ret
      all_goals exact ⟨rfl, k10.out.trans kq5⟩
set_option maxRecDepth 100000 in
set_option maxHeartbeats 2000000 in
theorem splits_long {w : World} {A C : Option Addr} {n c m d : Nat} (n0 n1 : Nat) (h : 2000 < n ∨ 100 < m) :
    Calls Try.prog 6 #[.slice A n c, .slice C m d, .agg #[.int .u8 n0, .int .u8 n1]] w fun e w' => e = .returned (.bool true) ∧ Kp w w' := by
  have kI : Aside (Kp w (w.alloc (.cells #[.int .u8 n0, .int .u8 n1] 53))) := ⟨(Kp.refl w).alloc _⟩
  by_cases h1 : 2000 < n
  · clear h
    go_enter Try.func6, Try.ntmps6
    go_wp2_with fail
    refine Calls.mono (awake04_calls _) ?_
    rintro e w1 ⟨rfl, k1⟩
    go_wp2_with fail
    refine Calls.mono (awake04_calls _) ?_
    rintro e w2 ⟨rfl, k2⟩
    go_wp2_with fail
    all_goals go_ret
    all_goals exact ⟨rfl, (kI.out.trans k1).trans k2⟩
  · have h2 : 100 < m := by omega
    have g2 : decide ((100 : Int) < (m : Int)) = true := decide_eq_true (by omega)
    clear h
    go_enter Try.func6, Try.ntmps6
    go_wp2_with fail
    refine Calls.mono (awake04_calls _) ?_
    rintro e w1 ⟨rfl, k1⟩
    go_wp2_with fail
    refine Calls.mono (awake04_calls _) ?_
    rintro e w2 ⟨rfl, k2⟩
    go_wp2_with fail
    all_goals go_ret
    all_goals exact ⟨rfl, (kI.out.trans k1).trans k2⟩
section
open Go.WideShapes Go.Deep Go.ChangeShapes
variable {H : Type} {enc : TypeId × Value → H} {W : World} {base : Nat}
set_option maxRecDepth 100000 in
theorem bytesC_open {n fuel : Nat} {v : Value} {d : DataW H × List MemPlace} {A : Option Addr} {c : Nat} (hv : v = .slice A n c) (h : DataW.trod enc Try.prog W 0 (fun _ => true) true fuel 35 [v] = some d) :
    ∃ l : List Int, n = l.length ∧ InC W A l ∧ l.length ≤ 9223372036854775807 := by
  subst hv
  have hC1 : Try.prog.cellsOf 5 = 1 := by kernel_rfl
  rcases open_ints Try.underlying35 Try.underlying5 hC1 h with ⟨hcs, _⟩ | ⟨a, len, cap, zs, hcs, _, hl, hm, hz, _, hcell, hw⟩
  · simp at hcs
    obtain ⟨rfl, rfl, rfl⟩ := hcs
    exact ⟨[], rfl, ⟨by simp, fun h => absurd rfl h⟩, by decide⟩
  · simp at hcs
    obtain ⟨rfl, rfl, rfl⟩ := hcs
    simp only [if_true] at hz
    have ll : (zs.take n).length = n := by rw [List.length_take]; omega
    refine ⟨zs.take n, ll.symm, ⟨fun x hx => bounds_u8 (hw x (List.mem_of_mem_take hx)), fun hne => ?_⟩, by rw [ll]; unfold maxLen at hm; omega⟩
    have h0 : 0 < n := by
      rcases Nat.eq_zero_or_pos n with e | e
      · rw [e] at hne; simp at hne
      · exact e
    have hx := hcell 0 (by omega)
    rw [addr_add0] at hx
    obtain ⟨b, off, rfl, hlt⟩ := cell_some hx
    refine ⟨b, off, rfl, hlt, fun i hi => ?_⟩
    rw [ll] at hi
    have hc := hcell i (by omega)
    rw [addr_add] at hc
    rw [hc]
    simp [List.getD_eq_getElem?_getD, List.getElem?_take, hi]
set_option maxRecDepth 100000 in
theorem pair8_open {v : Value} {d : DataW H} {p : List MemPlace} (hv : Value.okWide Try.prog W .any base 53 v) (h : DataW.Trod enc Try.prog W 0 (fun _ => true) true 53 v d p) :
    ∃ x y : Nat, v = .agg #[.int .u8 x, .int .u8 y] ∧ x ≤ 255 ∧ y ≤ 255 := by
  have hC : Try.prog.cellsOf 53 = 2 := by kernel_rfl
  have hC1 : Try.prog.cellsOf 5 = 1 := by kernel_rfl
  simp only [Value.okWide, Try.underlying53] at hv
  obtain ⟨cs, rfl, hsz, _⟩ := hv
  rw [hC] at hsz
  obtain ⟨l⟩ := cs
  obtain ⟨fuel, hf⟩ := h
  obtain ⟨ys, q, _, _, _, hyl, hel⟩ := DataW.trod_array Try.underlying53 hf
  match l, hsz with
  | [c0, c1], _ =>
    have g0 := hel 0 (by omega)
    have g1 := hel 1 (by omega)
    rw [hC1] at g0 g1
    simp only [Value.cells, Nat.zero_mul, List.drop_zero, Nat.one_mul, List.take_succ_cons, List.take_zero, List.drop_succ_cons] at g0 g1
    have y0 : ys[0]? = some (ys[0]'(by omega)) := List.getElem?_eq_getElem (by omega)
    have y1 : ys[1]? = some (ys[1]'(by omega)) := List.getElem?_eq_getElem (by omega)
    rw [y0] at g0
    rw [y1] at g1
    obtain ⟨x, hx, _, wx⟩ := DataW.trod_int Try.underlying5 g0
    obtain ⟨y, hy, _, wy⟩ := DataW.trod_int Try.underlying5 g1
    have bx := bounds_u8 wx
    have by' := bounds_u8 wy
    simp at hx hy
    subst hx hy
    refine ⟨x.toNat, y.toNat, ?_, by omega, by omega⟩
    have ex : ((x.toNat : Nat) : Int) = x := by omega
    have ey : ((y.toNat : Nat) : Int) = y := by omega
    rw [ex, ey]
set_option maxRecDepth 100000 in
theorem splits_law {v0 v1 v2 : Value} {d0 d1 d2 : DataW H} {p0 p1 p2 : List MemPlace}
    (hv0 : Value.okWide Try.prog W .any base 35 v0) (h0 : DataW.Trod enc Try.prog W 0 (fun _ => true) true 35 v0 d0 p0)
    (hv1 : Value.okWide Try.prog W .any base 24 v1) (h1 : DataW.Trod enc Try.prog W 0 (fun _ => true) true 24 v1 d1 p1)
    (hv2 : Value.okWide Try.prog W .any base 53 v2) (h2 : DataW.Trod enc Try.prog W 0 (fun _ => true) true 53 v2 d2 p2) :
    Calls Try.prog 6 #[v0, v1, v2] W fun e w' => e = .returned (.bool true) ∧ Below W.heap.size W w' := by
  obtain ⟨A, n, c, rfl⟩ := okWide_slice Try.underlying35 hv0
  obtain ⟨fuel, hf⟩ := h0
  obtain ⟨l, rfl, hi, hl⟩ := bytesC_open rfl hf
  obtain ⟨C, d, q, rfl, hq, hql⟩ := input_open hv1 h1
  obtain ⟨x, y, rfl, hx, hy⟩ := pair8_open hv2 h2
  refine Calls.mono (R := fun e w' => e = .returned (.bool true) ∧ Kp W w') ?_ (fun _ _ ⟨he, hk⟩ => ⟨he, hk.out⟩)
  by_cases hlong : 2000 < l.length ∨ 100 < q.length
  · exact splits_long x y hlong
  · exact splits_good hi hq x y hx hy (by omega) (by omega)
end
end Go.Proofs.Ytgcihcgclmdolaa
