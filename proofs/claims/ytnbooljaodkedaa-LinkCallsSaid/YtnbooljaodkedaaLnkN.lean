/- Targets in memory: rows of them. Conditions stand at each. · Resolve, walked. Condition: the objects lie in memory. · What defines main, walked. Condition: the objects lie in memory. -/
import Derived.Test.YtnbooljaodkedaaLnkK
import Derived.Test.YtnbooljaodkedaaMachE
namespace Go.Proofs.Ytnbooljaodkedaa
open Go.RowKit Go.Maps Go.Proofs.Ytnbooljaodkedaa.PC Go.Proofs.Ytnbooljaodkedaa.PW
set_option linter.unusedVariables false
set_option linter.unusedSimpArgs false
theorem ownL_lt {w : World} {base : Nat} {e : TypeId} {size : Nat} {v : Value} {n : Nat} {xs : List Value} (h : w.ownsRow base e size v n xs) : ∀ j, v.ownBlock = some j → j < w.heap.size := by
  intro j hj
  rcases h.2 with ⟨hv, _⟩ | ⟨g, cap, cur, hv, hb, hblk, _⟩
  · rw [hv] at hj; cases hj
  · rw [hv] at hj
    have : g = j := by simpa [Value.ownBlock] using hj
    subst this
    exact (Array.getElem?_eq_some_iff.1 hblk).1
/-- A row of the call's own: where it lies. -/
theorem ownL_form {w : World} {base : Nat} {t : TypeId} {sz n : Nat} {v : Value} {xs : List Value} (h : w.ownsRow base t sz v n xs) : ∃ A c, v = .slice A n c ∧ (xs ≠ [] → ∃ g, A = some ⟨g, 0, none⟩ ∧ base ≤ g ∧ g < w.heap.size ∧ ∀ (i : Nat) (x : Value), xs[i]? = some x → i < n * sz → w.cell? ⟨g, i, none⟩ = some x) := by
  rcases h.2 with ⟨h1, h2⟩ | ⟨g, cap, cur, h1, h2, h3, h4, h5, h6, h7⟩
  · have hx : xs = [] := by
      have := h.1
      rw [h2, Nat.zero_mul] at this
      exact List.eq_nil_of_length_eq_zero this
    subst h2
    exact ⟨_, _, h1, fun hne => absurd hx hne⟩
  · subst h1
    exact ⟨_, _, rfl, fun _ => ⟨g, rfl, h2, (Array.getElem?_eq_some_iff.1 h3).1, fun i x hx hi => by rw [World.ownsRow.cellAt h i hi]; exact hx⟩⟩
set_option maxRecDepth 100000 in
theorem info_target : ∃ i z, Try.prog.info? 63 = some i ∧ i.zero = some z ∧ i.size = 2 ∧ i.bytes = 16 ∧ z.cells.size = 2 := ⟨_, _, rfl, rfl, rfl, rfl, rfl⟩
set_option maxRecDepth 100000 in
theorem info_targets : ∃ i, Try.prog.info? 96 = some i ∧ i.zero = some (.slice none 0 0) ∧ i.size = 1 ∧ i.bytes = 24 := ⟨_, rfl, rfl, rfl, rfl⟩
theorem make_rows (n : Nat) (hn : n ≤ 1000000) (w : World) : (Instr.makeSlice 67 (.int .i64 (n : Int)) (.int .i64 (n : Int))).run Try.prog w = .ok (.slice (some ⟨w.heap.size, 0, none⟩) n n) (w.alloc (.cells (madeCells #[.slice none 0 0] n) 96)) := by
  obtain ⟨i, hi, hz, hs, hb⟩ := info_targets
  have h := run_make (P := Try.prog) w 67 96 i _ Try.underlying67 hi hz .i64 .i64 n n (by omega) (Int.le_refl _) (by rw [hb]; omega) (by omega)
  simp only [Int.toNat_natCast, hs, Nat.mul_one] at h
  exact h
theorem made_at (n i : Nat) (hi : i < n) : (madeCells #[Value.slice none 0 0] n)[i]? = some (.slice none 0 0) := by
  simp only [madeCells, Array.getElem?_map, Array.getElem?_range]
  rw [if_pos (by omega)]
  simp [Nat.mod_one]
theorem made_size (n : Nat) : (madeCells #[Value.slice none 0 0] n).size = n := by rw [size_madeCells]
theorem set_at {vs : Array Value} {n k : Nat} {v : Value} (hs : vs.size = n) (hk : k < n) : (vs.setIfInBounds k v)[k]? = some v := by
  rw [Array.getElem?_setIfInBounds_self_of_lt (by omega)]
theorem set_other {vs : Array Value} {i k : Nat} {v : Value} (h : i ≠ k) : (vs.setIfInBounds k v)[i]? = vs[i]? := by
  rw [Array.getElem?_setIfInBounds_ne (Ne.symm h)]
/-- A row of an object's targets. -/
def TgtRow (w : World) (B : Nat) (v : Value) (os : List ObjV) (i : Nat) (l : List SymV) : Prop := ∃ A c, v = .slice A l.length c ∧ (l ≠ [] → ∃ g, A = some ⟨g, 0, none⟩ ∧ B < g ∧ g < w.heap.size ∧ ∀ k s, l[k]? = some s → ∃ t : Nat × Nat, tgtV os i k s = some t ∧ w.cell? ⟨g, k * 2, none⟩ = some (.int .i64 t.1) ∧ w.cell? ⟨g, k * 2 + 1, none⟩ = some (.int .i64 t.2))
theorem TgtRow.keep {w w' : World} {B : Nat} {v : Value} {os : List ObjV} {i : Nat} {l : List SymV} (h : TgtRow w B v os i l) (m : ∀ j, B < j → j < w.heap.size → w'.heap[j]? = w.heap[j]?) (hs : w.heap.size ≤ w'.heap.size) : TgtRow w' B v os i l := by
  obtain ⟨A, c, e, hr⟩ := h
  refine ⟨A, c, e, fun hne => ?_⟩
  obtain ⟨g, e2, hB, hg, hc⟩ := hr hne
  refine ⟨g, e2, hB, Nat.lt_of_lt_of_le hg hs, fun k s hk => ?_⟩
  obtain ⟨t, ht, q0, q1⟩ := hc k s hk
  exact ⟨t, ht, (World.cell?_of_block (m g hB hg)).trans q0, (World.cell?_of_block (m g hB hg)).trans q1⟩
theorem TgtRow.kp {w w' : World} {B : Nat} {v : Value} {os : List ObjV} {i : Nat} {l : List SymV} (h : TgtRow w B v os i l) (k : Kp w w') : TgtRow w' B v os i l := h.keep (fun j _ hj => k.block hj) k.size
/-- The cells of targets. -/
def tcells (l : List (Nat × Nat)) : List Value := l.flatMap fun t => [.int .i64 t.1, .int .i64 t.2]
theorem tcells_snoc (l : List (Nat × Nat)) (t : Nat × Nat) : tcells (l ++ [t]) = tcells l ++ [.int .i64 t.1, .int .i64 t.2] := by simp [tcells]
theorem tcells_at : ∀ (l : List (Nat × Nat)) (k : Nat) (t : Nat × Nat), l[k]? = some t → (tcells l)[k * 2]? = some (.int .i64 t.1) ∧ (tcells l)[k * 2 + 1]? = some (.int .i64 t.2)
  | [], k, t, h => by simp at h
  | a :: l, 0, t, h => by
    simp at h
    subst h
    simp [tcells]
  | a :: l, k + 1, t, h => by
    have := tcells_at l k t (by simpa using h)
    show ([Value.int .i64 a.1, .int .i64 a.2] ++ tcells l)[(k + 1) * 2]? = _ ∧ ([Value.int .i64 a.1, .int .i64 a.2] ++ tcells l)[(k + 1) * 2 + 1]? = _
    rw [show (k + 1) * 2 = k * 2 + 2 by omega, show k * 2 + 2 + 1 = (k * 2 + 1) + 2 by omega]
    simpa using this
/-- A list of the targets of the first symbols of an object. -/
def tgtsOf (os : List ObjV) (i : Nat) (l : List SymV) (ts : List (Nat × Nat)) : Prop := ts.length = l.length ∧ ∀ (k : Nat) (s : SymV), l[k]? = some s → tgtV os i k s = ts[k]?
theorem tgtsOf_snoc {os : List ObjV} {i : Nat} {l : List SymV} {ts : List (Nat × Nat)} (h : tgtsOf os i l ts) {s : SymV} {t : Nat × Nat} (ht : tgtV os i l.length s = some t) : tgtsOf os i (l ++ [s]) (ts ++ [t]) := by
  refine ⟨by simp [h.1], fun k u hu => ?_⟩
  by_cases hk : k < l.length
  · rw [List.getElem?_append_left hk] at hu
    rw [List.getElem?_append_left (by rw [h.1]; exact hk)]
    exact h.2 k u hu
  · have hk2 : k = l.length := by
      have := (List.getElem?_eq_some_iff.1 hu).1
      simp at this
      omega
    subst hk2
    rw [List.getElem?_append_right (Nat.le_refl _)] at hu
    simp at hu
    subst hu
    rw [List.getElem?_append_right (by rw [h.1]; exact Nat.le_refl _), h.1]
    simp [ht]
theorem row_of {w : World} {B base : Nat} (hb : B < base) {v : Value} {os : List ObjV} {i n : Nat} {l : List SymV} {ts : List (Nat × Nat)} (h : w.ownsRow base 63 2 v n (tcells ts)) (ht : tgtsOf os i l ts) (hn : n = l.length) : TgtRow w B v os i l := by
  subst hn
  obtain ⟨A, c, e, hc⟩ := ownL_form h
  refine ⟨A, c, e, fun hne => ?_⟩
  have hts : tcells ts ≠ [] := by
    cases ts with
    | nil =>
      exfalso
      have := ht.1
      simp at this
      exact hne (List.eq_nil_of_length_eq_zero this.symm)
    | cons a ts => simp [tcells]
  obtain ⟨g, e2, hbg, hg, hcell⟩ := hc hts
  refine ⟨g, e2, by omega, hg, fun k s hk => ?_⟩
  have hkl := (List.getElem?_eq_some_iff.1 hk).1
  obtain ⟨t, htk⟩ : ∃ t, ts[k]? = some t := ⟨_, List.getElem?_eq_getElem (by rw [ht.1]; exact hkl)⟩
  obtain ⟨q0, q1⟩ := tcells_at ts k t htk
  exact ⟨t, (ht.2 k s hk).trans htk, hcell _ _ q0 (by omega), hcell _ _ q1 (by omega)⟩
/-- All objects' targets. -/
def TgtsAt (w : World) (B : Nat) (os : List ObjV) : Prop := ∀ i o, os[i]? = some o → ∃ v, w.cell? ⟨B, i, none⟩ = some v ∧ TgtRow w B v os i o.syms
end Go.Proofs.Ytnbooljaodkedaa
namespace Go.Proofs.Ytnbooljaodkedaa
open Go.RowKit Go.Maps Go.Proofs.Ytnbooljaodkedaa.PC Go.Proofs.Ytnbooljaodkedaa.PW
set_option linter.unusedVariables false
set_option linter.unusedSimpArgs false
/-- What Resolve comes to. -/
def ResR (w : World) (n : Nat) (os : List ObjV) (e : Ending) (w' : World) : Prop := Kp w w' ∧ ∃ (v : Value) (a b : Int), e = .returned (.tuple #[v, .agg #[.int .i64 a, .int .i64 b], .int .i64 (resE os)]) ∧ (resE os = 0 → ∃ OB, v = .slice (some ⟨OB, 0, none⟩) n n ∧ OB < w'.heap.size ∧ TgtsAt w' OB os)
theorem resE_form {os : List ObjV} (h : ¬∀ o ∈ os, objOk o) : resE os = 2 := by unfold resE; rw [if_pos h]
theorem resE_twice {os : List ObjV} (h : ∀ o ∈ os, objOk o) (h1 : ¬once (defsA 0 os)) : resE os = 4 := by unfold resE; rw [if_neg (fun e => e h), if_pos h1]
theorem resE_none {os : List ObjV} (h : ∀ o ∈ os, objOk o) (h1 : once (defsA 0 os)) (h2 : ¬allT os) : resE os = 3 := by unfold resE; rw [if_neg (fun e => e h), if_neg (fun e => e h1), if_pos h2]
theorem resE_ok {os : List ObjV} (h : ∀ o ∈ os, objOk o) (h1 : once (defsA 0 os)) (h2 : allT os) : resE os = 0 := by unfold resE; rw [if_neg (fun e => e h), if_neg (fun e => e h1), if_neg (fun e => e h2)]
theorem resE_cases {os : List ObjV} (h : resE os = 0) : (∀ o ∈ os, objOk o) ∧ once (defsA 0 os) ∧ allT os := by
  by_cases h1 : ∀ o ∈ os, objOk o
  · by_cases h2 : once (defsA 0 os)
    · by_cases h3 : allT os
      · exact ⟨h1, h2, h3⟩
      · rw [resE_none h1 h2 h3] at h; cases h
    · rw [resE_twice h1 h2] at h; cases h
  · rw [resE_form h1] at h; cases h
set_option maxRecDepth 100000 in
set_option maxHeartbeats 8000000 in
theorem Resolve_calls {w : World} {G : Option Addr} {n c : Nat} {os : List ObjV} (h : ObjsAt w G os) (hwf : ∀ o ∈ os, o.wf) (hn : os.length = n) (hl : n ≤ 1000) :
    Calls Try.prog 18 #[.slice G n c] w (ResR w n os) := by
  have kA : Kp w (w.alloc (.cells #[.int .i64 0, .int .i64 0] 63)) := (Kp.refl w).alloc _
  have hform := Aside.mk (form_calls (c := c) (h.kp kA) hwf hn (by omega))
  have b3 := Aside.mk (Blk.new w #[.int .i64 0, .int .i64 0] 63)
  replace kA := Aside.mk kA
  replace hos := Aside.mk h
  replace hwf := Aside.mk hwf
  replace hn := Aside.mk hn
  clear h
  by_cases hok : ∀ o ∈ os, objOk o
  rotate_left 1
  · have he := Aside.mk (resE_form hok)
    replace hok := Aside.mk hok
    go_enter Try.func18, Try.ntmps18
    go_wp2_with fail
    refine Calls.mono hform.out ?_
    rintro e w1 ⟨r, rfl, hr, k1⟩
    have hr0 : 0 ≤ r := hr.2 hok.out
    have b31 := b3.out.kp k1
    have e0 : w1.cell? ⟨w.heap.size, 0, none⟩ = some (.int .i64 0) := b31.cell 0
    have e1 : w1.cell? ⟨w.heap.size, 1, none⟩ = some (.int .i64 0) := b31.cell 1
    have f0 := b31.frozen 0
    have f1 := b31.frozen 1
    clear hr
    replace k1 := Aside.mk k1
    go_wp2_with fail
    refine bodyPost_ret (results_tct rfl _ _ w.heap.size _ _ _ rfl (Blk.set (Blk.set b31 _) _) Try.underlying63 (by kernel_rfl)) rfl ?_
    refine ⟨((kA.out.trans k1.out).setCell (p := ⟨w.heap.size, 0, none⟩) (Nat.le_refl _) _).setCell (p := ⟨w.heap.size, 1, none⟩) (Nat.le_refl _) _, _, _, _, by rw [he.out]; rfl, fun h => ?_⟩
    rw [he.out] at h
    cases h
  have h600 : Aside (∀ o ∈ os, o.syms.length ≤ 600) := ⟨fun o ho => (hok o ho).1.2.2.2.1⟩
  replace hok := Aside.mk hok
  have hdef := Aside.mk (fun (W : World) (hW : Kp w W) => defined_calls (c := c) (hos.out.kp hW) hwf.out hn.out hl h600.out)
  by_cases h1 : once (defsA 0 os)
  rotate_left 1
  · have he := Aside.mk (resE_twice hok.out h1)
    replace h1 := Aside.mk h1
    go_enter Try.func18, Try.ntmps18
    go_wp2_with fail
    refine Calls.mono hform.out ?_
    rintro e w1 ⟨r, rfl, hr, k1⟩
    have hr0 : r < 0 := Int.not_le.1 (fun hh => hr.1 hh hok.out)
    clear hr
    have k01 := Aside.mk (kA.out.trans k1)
    have b31 := Aside.mk (b3.out.kp k1)
    clear k1
    go_wp2_with fail
    refine Calls.mono (hdef.out _ k01.out) ?_
    rintro e w2 ⟨k2, ⟨hh, _⟩ | ⟨-, v, a, b, rfl⟩⟩
    · exact absurd hh h1.out
    have b32 := b31.out.kp k2
    have e0 : w2.cell? ⟨w.heap.size, 0, none⟩ = some (.int .i64 0) := b32.cell 0
    have e1 : w2.cell? ⟨w.heap.size, 1, none⟩ = some (.int .i64 0) := b32.cell 1
    have f0 := b32.frozen 0
    have f1 := b32.frozen 1
    have l2 := b32.lt
    have kq2 := Aside.mk (k01.out.trans k2)
    clear k2
    go_wp2_with fail
    go_region
    all_goals go_wp2_with fail
    refine bodyPost_ret (results_tct rfl _ _ w.heap.size _ _ _ rfl ((((Blk.set (Blk.set b32 _) _).alloc _).kp (Kp.refl _).drew)) Try.underlying63 (by kernel_rfl)) rfl ?_
    refine ⟨((((kq2.out.setCell (p := ⟨w.heap.size, 0, none⟩) (Nat.le_refl _) _).setCell (p := ⟨w.heap.size, 1, none⟩) (Nat.le_refl _) _).alloc _).drew), _, _, _, by rw [he.out]; rfl, fun h => ?_⟩
    rw [he.out] at h
    cases h
  have hdef1 := Aside.mk (fun (W : World) (hW : Kp w W) => (hdef.out W hW).mono (R' := fun e w' => Kp W w' ∧ ∃ B, e = .returned (.tuple #[.map (some B), .agg #[.int .i64 0, .int .i64 0], .bool false]) ∧ w'.ownsMap Try.prog 9 RT B (defsA 0 os).length (defD (defsA 0 os))) (fun e w' ⟨hk, hx⟩ => ⟨hk, by rcases hx with ⟨_, hx⟩ | ⟨hx, _⟩; exact hx; exact absurd h1 hx⟩))
  replace h1 := Aside.mk h1
  clear hdef
  have hmk := make_rows n (by omega)
  go_enter Try.func18, Try.ntmps18
  go_wp2_with fail
  refine Calls.mono hform.out ?_
  rintro e w1 ⟨r, rfl, hr, k1⟩
  have hr0 : r < 0 := Int.not_le.1 (fun hh => hr.1 hh hok.out)
  clear hr
  have k01 := Aside.mk (kA.out.trans k1)
  have b31 := Aside.mk (b3.out.kp k1)
  clear k1
  go_wp2_with fail
  refine Calls.mono (hdef1.out _ k01.out) ?_
  rintro e w2 ⟨k2, B, rfl, hw2⟩
  have k02 := k01.out.trans k2
  have b32 := b31.out.kp k2
  have lB := hw2.lt
  have b33 := (b32.alloc (.cells #[.int .i64 0, .int .i64 0] 63)).alloc (.cells (madeCells #[.slice none 0 0] n) 96)
  have hw3 := ownT_kp hw2 (((Kp.refl w2).alloc (.cells #[.int .i64 0, .int .i64 0] 63)).alloc (.cells (madeCells #[.slice none 0 0] n) 96))
  have k03 := (k02.alloc (.cells #[.int .i64 0, .int .i64 0] 63)).alloc (.cells (madeCells #[.slice none 0 0] n) 96)
  have bOB : Blk ((w2.alloc (.cells #[.int .i64 0, .int .i64 0] 63)).alloc (.cells (madeCells #[.slice none 0 0] n) 96)) (w2.heap.size + 1) (madeCells #[.slice none 0 0] n) 96 := by
    have hb := Blk.new (w2.alloc (.cells #[.int .i64 0, .int .i64 0] 63)) (madeCells #[.slice none 0 0] n) 96
    rwa [World.size_alloc] at hb
  have l02 := k02.size
  have l32 := b32.lt
  replace hw2 := Aside.mk hw2
  replace k2 := Aside.mk k2
  replace k02 := Aside.mk k02
  replace b32 := Aside.mk b32
  replace b33 := Aside.mk b33
  replace hw3 := Aside.mk hw3
  replace k03 := Aside.mk k03
  replace bOB := Aside.mk bOB
  go_wp2_with fail
  generalize (w2.alloc (.cells #[.int .i64 0, .int .i64 0] 63)).alloc (.cells (madeCells #[.slice none 0 0] n) 96) = w4 at *
  generalize hOBe : w2.heap.size + 1 = OB at *
  replace hOBe := Aside.mk hOBe
  have lOB : w.heap.size < OB := by have := hOBe.out; omega
  have lBO : B < OB := by have := hOBe.out; omega
  clear hmk hform hdef1
  go_loopw [35] (fun i wr => ∃ (k : Nat) (vs : Array Value), k ≤ n ∧ i = .int .i64 k ∧ Kp w wr ∧ Blk wr w.heap.size #[.int .i64 0, .int .i64 0] 63 ∧ Aside (wr.ownsMap Try.prog 9 RT B (defsA 0 os).length (defD (defsA 0 os))) ∧ Blk wr OB vs 96 ∧ Aside (vs.size = n) ∧ Aside (∀ i, k ≤ i → i < n → vs[i]? = some (.slice none 0 0)) ∧ Aside (∀ i o, i < k → os[i]? = some o → (∀ s ∈ o.syms, s.sect = 0 → (findV os s.name).isSome) ∧ ∃ v, vs[i]? = some v ∧ TgtRow wr OB v os i o.syms)) (fun i _ => n - (intOf i).toNat)
  case atStart => exact ⟨0, _, Nat.zero_le _, rfl, k03.out, b33.out, hw3, bOB.out, ⟨made_size n⟩, ⟨fun i _ hi => made_at n i hi⟩, ⟨fun i o hi => absurd hi (by omega)⟩⟩
  case round =>
    obtain ⟨k, vs, hk, rfl, kp, c3, hw, cO, hvs, hnil, hdone⟩ := hrel
    clear k03 b33 hw3 bOB
    by_cases hlt : k < n
    · obtain ⟨o, ho⟩ : ∃ o, Aside (os[k]? = some o) := ⟨_, ⟨List.getElem?_eq_getElem (by have := hn.out; omega)⟩⟩
      obtain ⟨g, off, hG, hg, hc⟩ := hos.out (by intro e; have := hn.out; rw [e] at this; simp at this; omega)
      obtain ⟨A, ct, B', cd, C, cs, D, cr, q0', q1', q2', q3', hat, -⟩ := hc k o ho.out
      have q0 := (kp.cell (p := ⟨g, off + k * 4, none⟩) hg).trans q0'
      have q1 := (kp.cell (p := ⟨g, off + k * 4 + 1, none⟩) hg).trans q1'
      have q2 := (kp.cell (p := ⟨g, off + k * 4 + 2, none⟩) hg).trans q2'
      have q3 := (kp.cell (p := ⟨g, off + k * 4 + 3, none⟩) hg).trans q3'
      have hgr : g < wr.heap.size := Nat.lt_of_lt_of_le hg kp.size
      have hmem := Aside.mk (List.mem_of_getElem? ho.out)
      have hwo := Aside.mk (hwf.out o hmem.out)
      obtain ⟨ns, hns⟩ : ∃ ns, Aside (o.syms.length = ns) := ⟨_, ⟨rfl⟩⟩
      have hns6 : ns ≤ 600 := by have := h600.out o hmem.out; have := hns.out; omega
      have hsy := Aside.mk hat.syms
      rw [hns.out] at q2
      subst hG
      clear hc hat q0' q1' q2' q3'
      generalize o.text.length = nt at *
      generalize o.data.length = nd at *
      generalize o.rels.length = nr at *
      have kb := (Kp.refl wr).alloc (.cells #[.slice A nt ct, .slice B' nd cd, .slice C ns cs, .slice D nr cr] 38)
      have kp1 := kp.trans kb
      have c31 := c3.kp kb
      have cO1 := cO.kp kb
      have hw1 := Aside.mk (ownT_kp hw.out kb)
      have hdone1 : Aside (∀ i o, i < k → os[i]? = some o → (∀ s ∈ o.syms, s.sect = 0 → (findV os s.name).isSome) ∧ ∃ v, vs[i]? = some v ∧ TgtRow (wr.alloc (.cells #[.slice A nt ct, .slice B' nd cd, .slice C ns cs, .slice D nr cr] 38)) OB v os i o.syms) := ⟨fun i o hi ho => by
        obtain ⟨h1, v, h2, h3⟩ := hdone.out i o hi ho
        exact ⟨h1, v, h2, h3.kp kb⟩⟩
      have hnilk : Aside (vs[k]? = some (.slice none 0 0)) := ⟨hnil.out k (Nat.le_refl _) hlt⟩
      replace kp := Aside.mk kp
      replace c3 := Aside.mk c3
      replace cO := Aside.mk cO
      replace kb := Aside.mk kb
      go_wp2_with fail
      generalize wr.alloc (.cells #[.slice A nt ct, .slice B' nd cd, .slice C ns cs, .slice D nr cr] 38) = wo at *
      generalize hb0 : wo.heap.size = b0 at *
      have lb0 : OB < b0 := by have := cO1.lt; omega
      have lwb : w.heap.size ≤ b0 := by omega
      replace hb0 := Aside.mk hb0
      have hstart : Aside (vs.setIfInBounds k (.slice none 0 0) = vs) := ⟨by
        apply Array.ext_getElem?
        intro i
        by_cases e : i = k
        · subst e
          rw [set_at hvs.out hlt, hnilk.out]
        · exact set_other e⟩
      clear q0 q1 q2 q3 kp c3 cO kb hw hdone
      go_loopw [43] (fun i wr => ∃ (j : Nat) (v : Value) (ts : List (Nat × Nat)), j ≤ ns ∧ i = .int .i64 j ∧ Blk wr OB (vs.setIfInBounds k v) 96 ∧ wr.ownsRow b0 63 2 v j (tcells ts) ∧ Mod (fun b => b = OB) wo wr ∧ Kp w wr ∧ Aside (tgtsOf os k (o.syms.take j) ts ∧ ∀ s ∈ o.syms.take j, s.sect = 0 → (findV os s.name).isSome)) (fun i _ => ns - (intOf i).toNat)
      case atStart => exact ⟨0, _, [], Nat.zero_le _, rfl, by rw [hstart.out]; exact cO1, World.ownsRow_nil _ _ _ _, Mod.refl _ _, kp1, ⟨⟨rfl, fun k s h => by simp at h⟩, fun s hs => by simp at hs⟩⟩
      case round =>
        obtain ⟨j, v, ts, hj, rfl, cO, hown, hmod, kp, htg⟩ := hrel
        obtain ⟨Av, cvp, rfl, -⟩ := ownL_form hown
        have hwr := Aside.mk (show wr.ownsMap Try.prog 9 RT B (defsA 0 os).length (defD (defsA 0 os)) from by
          have hl := hw1.out.lt
          obtain ⟨es, clock, hb, rr⟩ := hw1.out
          exact ⟨es, clock, (hmod.block B hl (by omega)).trans hb, rr⟩)
        have c3 : Blk wr w.heap.size #[.int .i64 0, .int .i64 0] 63 := hmod.blk c31 (by omega)
        have lbw : b0 ≤ wr.heap.size := by have := hmod.size; have := hb0.out; omega
        replace kp := Aside.mk kp
        replace hmod := Aside.mk hmod
        by_cases hlt2 : j < ns
        · obtain ⟨s, hs⟩ : ∃ s, Aside (o.syms[j]? = some s) := ⟨_, ⟨List.getElem?_eq_getElem (by have := hns.out; omega)⟩⟩
          obtain ⟨g', off', hC, hg', hc⟩ := (hsy.out.kp kp.out) (by intro e; have := hns.out; rw [e] at this; simp at this; omega)
          obtain ⟨q0, q1, q2, q3, q4⟩ := hc j s hs.out
          have hnm : Aside (s.name.size ≤ 140737488355328) := ⟨hwo.out.name s (List.mem_of_getElem? hs.out)⟩
          have hlen : Aside ((o.syms.take j).length = j) := ⟨by rw [List.length_take]; have := hns.out; omega⟩
          have htg' : Aside (∀ t : Nat × Nat, tgtV os k j s = some t → (s.sect = 0 → (findV os s.name).isSome) → tgtsOf os k (o.syms.take (j + 1)) (ts ++ [t]) ∧ ∀ s ∈ o.syms.take (j + 1), s.sect = 0 → (findV os s.name).isSome) := ⟨fun t ht h0 => by
            rw [take_snoc' hs.out]
            refine ⟨tgtsOf_snoc htg.out.1 (by rw [hlen.out]; exact ht), fun u hu => ?_⟩
            rcases List.mem_append.1 hu with hu | hu
            · exact htg.out.2 u hu
            · obtain rfl := List.mem_singleton.1 hu
              exact h0⟩
          have hsm := Aside.mk (List.mem_of_getElem? hs.out)
          subst hC
          clear hc hs
          obtain ⟨nm, sect, val, frame, glob⟩ := s
          simp only at q0 q1 q2 q3 q4 hnm htg'
          have hws := Aside.mk (ownT_kp hwr.out (((Kp.refl wr).alloc (.cells #[.string nm, .int .i64 sect, .int .i64 val, .int .i64 frame, .bool glob] 43)).alloc (.cells #[.int .i64 k, .int .i64 j] 63)))
          replace htg := Aside.mk htg
          replace hwr := Aside.mk hwr
          by_cases hsect : sect = 0
          · subst hsect
            have hrun := lookT hws.out h1.out hnm.out
            cases hl : lookV (defsA 0 os) nm with
            | none =>
              rw [hl] at hrun
              dsimp only [Option.isSome] at hrun
              have he := Aside.mk (resE_none hok.out h1.out (fun ha => by have := ha o hmem.out _ hsm.out rfl; unfold findV at this; rw [hl] at this; cases this))
              replace hl := Aside.mk hl
              have e0 : wr.cell? ⟨w.heap.size, 0, none⟩ = some (.int .i64 0) := c3.cell 0
              have e1 : wr.cell? ⟨w.heap.size, 1, none⟩ = some (.int .i64 0) := c3.cell 1
              have f0 := c3.frozen 0
              have f1 := c3.frozen 1
              have l3 := c3.lt
              clear hown cO
              go_wp2_with fail
              refine bodyPost_ret (results_tct rfl _ _ w.heap.size _ _ _ rfl (((Blk.set (Blk.set c3 _) _).alloc _).alloc _) Try.underlying63 (by kernel_rfl)) rfl ?_
              refine ⟨((((kp.out.setCell (p := ⟨w.heap.size, 0, none⟩) (Nat.le_refl _) _).setCell (p := ⟨w.heap.size, 1, none⟩) (Nat.le_refl _) _).alloc _).alloc _), _, _, _, by rw [he.out]; rfl, fun h => ?_⟩
              rw [he.out] at h
              cases h
            | some t =>
              rw [hl] at hrun
              dsimp only [Option.isSome] at hrun
              obtain ⟨t0, t1⟩ := t
              have htg' : Aside (tgtsOf os k (o.syms.take (j + 1)) (ts ++ [(t0, t1)]) ∧ ∀ s ∈ o.syms.take (j + 1), s.sect = 0 → (findV os s.name).isSome) := ⟨htg'.out (t0, t1) (by unfold tgtV findV; rw [if_pos rfl]; exact hl) (fun _ => by show (lookV (defsA 0 os) nm).isSome = true; rw [hl]; rfl)⟩
              unfold tgtC at hrun
              replace hl := Aside.mk hl
              have bt : Blk ((wr.alloc (.cells #[.string nm, .int .i64 0, .int .i64 val, .int .i64 frame, .bool glob] 43)).alloc (.cells #[.int .i64 t0, .int .i64 t1] 63)) (wr.heap.size + 1) #[.int .i64 t0, .int .i64 t1] 63 := by
                have hb := Blk.new (wr.alloc (.cells #[.string nm, .int .i64 0, .int .i64 val, .int .i64 frame, .bool glob] 43)) #[.int .i64 t0, .int .i64 t1] 63
                rwa [World.size_alloc] at hb
              have kwW : Kp wr ((wr.alloc (.cells #[.string nm, .int .i64 0, .int .i64 val, .int .i64 frame, .bool glob] 43)).alloc (.cells #[.int .i64 t0, .int .i64 t1] 63)) := ((Kp.refl wr).alloc _).alloc _
              go_upto_region 19 with fail
              generalize ((wr.alloc (.cells #[.string nm, .int .i64 0, .int .i64 val, .int .i64 frame, .bool glob] 43)).alloc (.cells #[.int .i64 t0, .int .i64 t1] 63)) = W at *
              have bO := cO.kp kwW
              have hoW := row_at hown (fun i hi hl => kwW.block hl)
              have lown := ownL_lt hown
              have gown := own_ge hown
              have cv : W.cell? ⟨OB, k, none⟩ = some (.slice Av j cvp) := by rw [bO.cell k]; exact set_at hvs.out hlt
              have ten : Aside (∀ V, Kp W V → (V.cell? ⟨wr.heap.size + 1, 0, none⟩ = some (.int .i64 t0) ∧ V.cell? ⟨wr.heap.size + 1, 1, none⟩ = some (.int .i64 t1))) := ⟨fun V hV => ⟨(bt.kp hV).cell 0, (bt.kp hV).cell 1⟩⟩
              have lW := kwW.size
              have lt1 := bt.lt
              have lO := cO.lt
              have lOW : OB < W.heap.size := by omega
              have lbW : b0 ≤ W.heap.size := by omega
              have kB : Kp W ((W.alloc (.cells #[.int .i64 t0, .int .i64 t1] 63)).drew) := ((Kp.refl W).alloc _).drew
              have hob := Aside.mk (row_at hoW (fun i hi hl => kB.block hl))
              have hbB : Aside (((W.alloc (.cells #[.int .i64 t0, .int .i64 t1] 63)).drew).heap[W.heap.size]? = some (.cells #[.int .i64 t0, .int .i64 t1] 63)) := ⟨heap_new rfl⟩
              replace hown := Aside.mk hown
              replace hoW := Aside.mk hoW
              replace lown := Aside.mk lown
              replace gown := Aside.mk gown
              replace bO := Aside.mk bO
              replace bt := Aside.mk bt
              replace kwW := Aside.mk kwW
              replace cO := Aside.mk cO
              refine wp_hide (fun Q0 hQ0 => ?_)
              refine wp_region_held_drew (S := fun w' => w'.cell? ⟨wr.heap.size + 1, 0, none⟩ = some (.int .i64 t0) ∧ w'.cell? ⟨wr.heap.size + 1, 1, none⟩ = some (.int .i64 t1)) (by kernel_rfl) ?hS0a (fun hHeld => ?_)
              case hS0a => exact (ten.out _ (Kp.refl W).drew)
              refine wpAnyH_takeL (i := 0) (v := ?v0a) rfl (by kernel_rfl) (by kernel_rfl) (by kernel_rfl) (fun _ _ _ h => h) (Or.inl ⟨by kernel_rfl, ?hy0a⟩) (by assumption) ?rest0a
              case hy0a => (intro w hSw; (try dsimp only at hSw); go_simp; (try with_reducible rfl))
              try simp only [Act.put, List.setIfInBounds_toArray, List.set_cons_zero, List.set_cons_succ]
              refine wpAnyH_takeL (i := 1) (v := ?v1a) rfl (by kernel_rfl) (by kernel_rfl) (by kernel_rfl) (fun _ _ _ h => h) (Or.inl ⟨by kernel_rfl, ?hy1a⟩) (by assumption) ?rest1a
              case hy1a => (intro w hSw; (try dsimp only at hSw); go_simp; (try with_reducible rfl))
              try simp only [Act.put, List.setIfInBounds_toArray, List.set_cons_zero, List.set_cons_succ]
              refine wpAnyH_takeL (i := 2) (v := ?v2a) rfl (by kernel_rfl) (by kernel_rfl) (by kernel_rfl) (fun _ _ _ h => h) (Or.inl ⟨by kernel_rfl, ?hy2a⟩) (by assumption) ?rest2a
              case hy2a => (intro w hSw; (try dsimp only at hSw); go_simp; (try with_reducible rfl))
              try simp only [Act.put, List.setIfInBounds_toArray, List.set_cons_zero, List.set_cons_succ]
              refine wpAnyH_takeL (i := 3) (v := ?v3a) rfl (by kernel_rfl) (by kernel_rfl) (by kernel_rfl) (fun _ _ _ h => h) (Or.inl ⟨by kernel_rfl, ?hy3a⟩) (by assumption) ?rest3a
              case hy3a => (intro w hSw; (try dsimp only at hSw); go_simp; (try with_reducible rfl))
              try simp only [Act.put, List.setIfInBounds_toArray, List.set_cons_zero, List.set_cons_succ]
              refine wpAnyH_takeL (i := 4) (v := ?v4a) rfl (by kernel_rfl) (by kernel_rfl) (by kernel_rfl) (fun _ _ _ h => h) (Or.inl ⟨by kernel_rfl, ?hy4a⟩) (by assumption) ?rest4a
              case hy4a => (intro w hSw; (try dsimp only at hSw); go_simp; (try with_reducible rfl))
              try simp only [Act.put, List.setIfInBounds_toArray, List.set_cons_zero, List.set_cons_succ]
              refine wpAnyH_takeL (i := 6) (v := ?v6a) rfl (by kernel_rfl) (by kernel_rfl) (by kernel_rfl) (fun _ _ _ h => h) (Or.inl ⟨by kernel_rfl, ?hy6a⟩) (by assumption) ?rest6a
              case hy6a => (intro w hSw; (try dsimp only at hSw); go_simp; (try with_reducible rfl))
              try simp only [Act.put, List.setIfInBounds_toArray, List.set_cons_zero, List.set_cons_succ]
              refine wpAnyH_ready (rs := [5, 7]) (by kernel_rfl) (by simp) ?_
              refine AllReadyH.consL rfl (fun Kx hKx => ?_) (AllReadyH.consL rfl (fun Kx hKx => ?_) AllReadyH.nil)
              go_simp
              refine hKx.out _ _ (by assumption) (fun hHeld => ?_)
              clear hKx
              try simp only [Act.put, List.setIfInBounds_toArray, List.set_cons_zero, List.set_cons_succ]
              refine wpAnyH_ready (rs := [7]) (by kernel_rfl) (by simp) ?_
              refine AllReadyH.consL rfl (fun Kx hKx => ?_) AllReadyH.nil
              go_simp
              refine hKx.out _ _ (ten.out _ kB) (fun hHeld => ?_)
              clear hKx
              try simp only [Act.put, List.setIfInBounds_toArray, List.set_cons_zero, List.set_cons_succ]
              refine wpAnyH_ready (rs := [8]) (by kernel_rfl) (by simp) ?_
              refine AllReadyH.consL rfl (fun Kx hKx => ?_) AllReadyH.nil
              refine step_push rfl (.tmp 71) (.tmp 73) (.tmp 72) 96 rfl b0 63 2 16 Try.underlying96 info_target (by decide) (.slice Av j cvp) j (tcells ts) rfl hob.out W.heap.size _ rfl rfl hbB.out rfl (by simp [Value.oneCell']) (by omega) (by omega) (by simp; omega) ?_
              intro g2 cap2 w2 hown2 hgrow2 hor2 hlt2
              have far2 : ∀ b i, b < W.heap.size → some b ≠ (Value.slice Av j cvp).ownBlock → w2.cell? ⟨b, i, none⟩ = W.cell? ⟨b, i, none⟩ := fun b i hb hne => (hgrow2.cell_far ⟨b, i, none⟩ (Nat.lt_of_lt_of_le hb kB.size) hne).trans (kB.cell (p := ⟨b, i, none⟩) hb)
              have hnt : some (wr.heap.size + 1) ≠ (Value.slice Av j cvp).ownBlock := fun e => by have := lown.out _ e.symm; omega
              have hnO : some OB ≠ (Value.slice Av j cvp).ownBlock := fun e => by have := gown.out _ e.symm; omega
              have bO2 : Blk w2 OB (vs.setIfInBounds k (.slice Av j cvp)) 96 := grown_blk (bO.out.kp kB) hgrow2 hnO
              have cO2 : w2.cell? ⟨OB, k, none⟩ = some (.slice Av j cvp) := by rw [bO2.cell k]; exact set_at hvs.out hlt
              have fO2 : w2.frozen? ⟨OB, k, none⟩ = false := bO2.frozen k
              have mW2 : Mod (fun b => b = OB) wo w2 := (((hmod.out.kp kwW.out).kp kB)).grown hgrow2 (fun i hi => Or.inr (by have := gown.out i hi; have := hb0.out; omega))
              have kW2 : Kp w w2 := ((kp.out.trans kwW.out).trans kB).grown hgrow2 (fun i hi => by have := gown.out i hi; omega)
              have t02 : w2.cell? ⟨wr.heap.size + 1, 0, none⟩ = some (.int .i64 t0) := (far2 _ 0 (by omega) hnt).trans (ten.out W (Kp.refl W)).1
              have t12 : w2.cell? ⟨wr.heap.size + 1, 1, none⟩ = some (.int .i64 t1) := (far2 _ 1 (by omega) hnt).trans (ten.out W (Kp.refl W)).2
              replace hown2 := Aside.mk hown2
              replace hor2 := Aside.mk hor2
              replace mW2 := Aside.mk mW2
              replace kW2 := Aside.mk kW2
              replace bO2 := Aside.mk bO2
              clear hgrow2 far2 hnt hnO
              refine hKx.out _ _ ⟨t02, t12⟩ (fun hHeld => ?_)
              clear hKx
              try simp only [Act.put, List.setIfInBounds_toArray, List.set_cons_zero, List.set_cons_succ]
              refine wpAnyH_takeL (i := 9) (v := ?v9ap) rfl (by kernel_rfl) (by kernel_rfl) (by kernel_rfl) (fun _ _ _ h => h) (Or.inl ⟨by kernel_rfl, ?hy9ap⟩) (by assumption) ?rest9ap
              case hy9ap => (intro w hSw; (try dsimp only at hSw); go_simp; (try with_reducible rfl))
              try simp only [Act.put, List.setIfInBounds_toArray, List.set_cons_zero, List.set_cons_succ]
              refine wpAnyH_ready (rs := [10]) (by kernel_rfl) (by simp) ?_
              refine AllReadyH.consL rfl (fun Kx hKx => ?_) AllReadyH.nil
              go_simp
              refine hKx.out _ _ (by refine ⟨?_, ?_⟩ <;> (rw [World.cell?_setCell_other _ _ _ _ (fun e => by injection e; omega)]; assumption)) (fun hHeld => ?_)
              clear hKx
              try simp only [Act.put, List.setIfInBounds_toArray, List.set_cons_zero, List.set_cons_succ]
              refine wpAnyH_done (by kernel_rfl) (hQ0.out _ _ ?_) _
              rotate_left 1
              go_simp
              refine hKx.out _ _ (ten.out _ kB) (fun hHeld => ?_)
              clear hKx
              try simp only [Act.put, List.setIfInBounds_toArray, List.set_cons_zero, List.set_cons_succ]
              refine wpAnyH_ready (rs := [5]) (by kernel_rfl) (by simp) ?_
              refine AllReadyH.consL rfl (fun Kx hKx => ?_) AllReadyH.nil
              go_simp
              refine hKx.out _ _ (by assumption) (fun hHeld => ?_)
              clear hKx
              try simp only [Act.put, List.setIfInBounds_toArray, List.set_cons_zero, List.set_cons_succ]
              refine wpAnyH_ready (rs := [8]) (by kernel_rfl) (by simp) ?_
              refine AllReadyH.consL rfl (fun Kx hKx => ?_) AllReadyH.nil
              refine step_push rfl (.tmp 71) (.tmp 73) (.tmp 72) 96 rfl b0 63 2 16 Try.underlying96 info_target (by decide) (.slice Av j cvp) j (tcells ts) rfl hob.out W.heap.size _ rfl rfl hbB.out rfl (by simp [Value.oneCell']) (by omega) (by omega) (by simp; omega) ?_
              intro g2 cap2 w2 hown2 hgrow2 hor2 hlt2
              have far2 : ∀ b i, b < W.heap.size → some b ≠ (Value.slice Av j cvp).ownBlock → w2.cell? ⟨b, i, none⟩ = W.cell? ⟨b, i, none⟩ := fun b i hb hne => (hgrow2.cell_far ⟨b, i, none⟩ (Nat.lt_of_lt_of_le hb kB.size) hne).trans (kB.cell (p := ⟨b, i, none⟩) hb)
              have hnt : some (wr.heap.size + 1) ≠ (Value.slice Av j cvp).ownBlock := fun e => by have := lown.out _ e.symm; omega
              have hnO : some OB ≠ (Value.slice Av j cvp).ownBlock := fun e => by have := gown.out _ e.symm; omega
              have bO2 : Blk w2 OB (vs.setIfInBounds k (.slice Av j cvp)) 96 := grown_blk (bO.out.kp kB) hgrow2 hnO
              have cO2 : w2.cell? ⟨OB, k, none⟩ = some (.slice Av j cvp) := by rw [bO2.cell k]; exact set_at hvs.out hlt
              have fO2 : w2.frozen? ⟨OB, k, none⟩ = false := bO2.frozen k
              have mW2 : Mod (fun b => b = OB) wo w2 := (((hmod.out.kp kwW.out).kp kB)).grown hgrow2 (fun i hi => Or.inr (by have := gown.out i hi; have := hb0.out; omega))
              have kW2 : Kp w w2 := ((kp.out.trans kwW.out).trans kB).grown hgrow2 (fun i hi => by have := gown.out i hi; omega)
              have t02 : w2.cell? ⟨wr.heap.size + 1, 0, none⟩ = some (.int .i64 t0) := (far2 _ 0 (by omega) hnt).trans (ten.out W (Kp.refl W)).1
              have t12 : w2.cell? ⟨wr.heap.size + 1, 1, none⟩ = some (.int .i64 t1) := (far2 _ 1 (by omega) hnt).trans (ten.out W (Kp.refl W)).2
              replace hown2 := Aside.mk hown2
              replace hor2 := Aside.mk hor2
              replace mW2 := Aside.mk mW2
              replace kW2 := Aside.mk kW2
              replace bO2 := Aside.mk bO2
              clear hgrow2 far2 hnt hnO
              refine hKx.out _ _ ⟨t02, t12⟩ (fun hHeld => ?_)
              clear hKx
              try simp only [Act.put, List.setIfInBounds_toArray, List.set_cons_zero, List.set_cons_succ]
              refine wpAnyH_takeL (i := 9) (v := ?v9aq) rfl (by kernel_rfl) (by kernel_rfl) (by kernel_rfl) (fun _ _ _ h => h) (Or.inl ⟨by kernel_rfl, ?hy9aq⟩) (by assumption) ?rest9aq
              case hy9aq => (intro w hSw; (try dsimp only at hSw); go_simp; (try with_reducible rfl))
              try simp only [Act.put, List.setIfInBounds_toArray, List.set_cons_zero, List.set_cons_succ]
              refine wpAnyH_ready (rs := [10]) (by kernel_rfl) (by simp) ?_
              refine AllReadyH.consL rfl (fun Kx hKx => ?_) AllReadyH.nil
              go_simp
              refine hKx.out _ _ (by refine ⟨?_, ?_⟩ <;> (rw [World.cell?_setCell_other _ _ _ _ (fun e => by injection e; omega)]; assumption)) (fun hHeld => ?_)
              clear hKx
              try simp only [Act.put, List.setIfInBounds_toArray, List.set_cons_zero, List.set_cons_succ]
              refine wpAnyH_done (by kernel_rfl) (hQ0.out _ _ ?_) _
              rotate_left 1
              all_goals go_wp2_with fail
              all_goals go_roundw
              all_goals try (case measure => simp [intOf]; omega)
              all_goals
                refine ⟨j + 1, .slice (some ⟨g2, 0, none⟩) (j + 1) cap2, ts ++ [(t0, t1)], by omega, by go_num, ?_, ?_, ?_, ?_, ?_⟩
                · have := bO2.out.set (i := k) (.slice (some ⟨g2, 0, none⟩) (j + 1) cap2)
                  rwa [Array.setIfInBounds_setIfInBounds] at this
                · rw [tcells_snoc]
                  refine row_at hown2.out (fun i hi hl => heap_setCell_other w2 ⟨OB, k, none⟩ i _ (fun e => ?_))
                  have e3 : i = OB ∨ OB = i := (by first | exact Or.inl e | exact Or.inr e)
                  have e2 : g2 = i := by simpa [Value.ownBlock] using hi
                  rcases hor2.out with h | h
                  · have := gown.out _ h; omega
                  · simp at h; omega
                · exact mW2.out.setCell (p := ⟨OB, k, none⟩) rfl _
                · exact kW2.out.setCell (p := ⟨OB, k, none⟩) (Nat.le_of_lt lOB) _
                · exact htg'
          · have gs : (sect == 0) = false := beq_eq_false_iff_ne.2 hsect
            have htg' : Aside (tgtsOf os k (o.syms.take (j + 1)) (ts ++ [(k, j)]) ∧ ∀ s ∈ o.syms.take (j + 1), s.sect = 0 → (findV os s.name).isSome) := ⟨htg'.out (k, j) (by unfold tgtV; rw [if_neg hsect]) (fun h => absurd h hsect)⟩
            replace hsect := Aside.mk hsect
            have bt : Blk ((wr.alloc (.cells #[.string nm, .int .i64 sect, .int .i64 val, .int .i64 frame, .bool glob] 43)).alloc (.cells #[.int .i64 k, .int .i64 j] 63)) (wr.heap.size + 1) #[.int .i64 k, .int .i64 j] 63 := by
              have hb := Blk.new (wr.alloc (.cells #[.string nm, .int .i64 sect, .int .i64 val, .int .i64 frame, .bool glob] 43)) #[.int .i64 k, .int .i64 j] 63
              rwa [World.size_alloc] at hb
            have kwW : Kp wr ((wr.alloc (.cells #[.string nm, .int .i64 sect, .int .i64 val, .int .i64 frame, .bool glob] 43)).alloc (.cells #[.int .i64 k, .int .i64 j] 63)) := ((Kp.refl wr).alloc _).alloc _
            go_upto_region 19 with fail
            generalize ((wr.alloc (.cells #[.string nm, .int .i64 sect, .int .i64 val, .int .i64 frame, .bool glob] 43)).alloc (.cells #[.int .i64 k, .int .i64 j] 63)) = W at *
            have bO := cO.kp kwW
            have hoW := row_at hown (fun i hi hl => kwW.block hl)
            have lown := ownL_lt hown
            have gown := own_ge hown
            have cv : W.cell? ⟨OB, k, none⟩ = some (.slice Av j cvp) := by rw [bO.cell k]; exact set_at hvs.out hlt
            have ten : Aside (∀ V, Kp W V → (V.cell? ⟨wr.heap.size + 1, 0, none⟩ = some (.int .i64 k) ∧ V.cell? ⟨wr.heap.size + 1, 1, none⟩ = some (.int .i64 j))) := ⟨fun V hV => ⟨(bt.kp hV).cell 0, (bt.kp hV).cell 1⟩⟩
            have lW := kwW.size
            have lt1 := bt.lt
            have lO := cO.lt
            have lOW : OB < W.heap.size := by omega
            have lbW : b0 ≤ W.heap.size := by omega
            have kB : Kp W ((W.alloc (.cells #[.int .i64 k, .int .i64 j] 63)).drew) := ((Kp.refl W).alloc _).drew
            have hob := Aside.mk (row_at hoW (fun i hi hl => kB.block hl))
            have hbB : Aside (((W.alloc (.cells #[.int .i64 k, .int .i64 j] 63)).drew).heap[W.heap.size]? = some (.cells #[.int .i64 k, .int .i64 j] 63)) := ⟨heap_new rfl⟩
            replace hown := Aside.mk hown
            replace hoW := Aside.mk hoW
            replace lown := Aside.mk lown
            replace gown := Aside.mk gown
            replace bO := Aside.mk bO
            replace bt := Aside.mk bt
            replace kwW := Aside.mk kwW
            replace cO := Aside.mk cO
            refine wp_hide (fun Q0 hQ0 => ?_)
            refine wp_region_held_drew (S := fun w' => w'.cell? ⟨wr.heap.size + 1, 0, none⟩ = some (.int .i64 k) ∧ w'.cell? ⟨wr.heap.size + 1, 1, none⟩ = some (.int .i64 j)) (by kernel_rfl) ?hS0b (fun hHeld => ?_)
            case hS0b => exact (ten.out _ (Kp.refl W).drew)
            refine wpAnyH_takeL (i := 0) (v := ?v0b) rfl (by kernel_rfl) (by kernel_rfl) (by kernel_rfl) (fun _ _ _ h => h) (Or.inl ⟨by kernel_rfl, ?hy0b⟩) (by assumption) ?rest0b
            case hy0b => (intro w hSw; (try dsimp only at hSw); go_simp; (try with_reducible rfl))
            try simp only [Act.put, List.setIfInBounds_toArray, List.set_cons_zero, List.set_cons_succ]
            refine wpAnyH_takeL (i := 1) (v := ?v1b) rfl (by kernel_rfl) (by kernel_rfl) (by kernel_rfl) (fun _ _ _ h => h) (Or.inl ⟨by kernel_rfl, ?hy1b⟩) (by assumption) ?rest1b
            case hy1b => (intro w hSw; (try dsimp only at hSw); go_simp; (try with_reducible rfl))
            try simp only [Act.put, List.setIfInBounds_toArray, List.set_cons_zero, List.set_cons_succ]
            refine wpAnyH_takeL (i := 2) (v := ?v2b) rfl (by kernel_rfl) (by kernel_rfl) (by kernel_rfl) (fun _ _ _ h => h) (Or.inl ⟨by kernel_rfl, ?hy2b⟩) (by assumption) ?rest2b
            case hy2b => (intro w hSw; (try dsimp only at hSw); go_simp; (try with_reducible rfl))
            try simp only [Act.put, List.setIfInBounds_toArray, List.set_cons_zero, List.set_cons_succ]
            refine wpAnyH_takeL (i := 3) (v := ?v3b) rfl (by kernel_rfl) (by kernel_rfl) (by kernel_rfl) (fun _ _ _ h => h) (Or.inl ⟨by kernel_rfl, ?hy3b⟩) (by assumption) ?rest3b
            case hy3b => (intro w hSw; (try dsimp only at hSw); go_simp; (try with_reducible rfl))
            try simp only [Act.put, List.setIfInBounds_toArray, List.set_cons_zero, List.set_cons_succ]
            refine wpAnyH_takeL (i := 4) (v := ?v4b) rfl (by kernel_rfl) (by kernel_rfl) (by kernel_rfl) (fun _ _ _ h => h) (Or.inl ⟨by kernel_rfl, ?hy4b⟩) (by assumption) ?rest4b
            case hy4b => (intro w hSw; (try dsimp only at hSw); go_simp; (try with_reducible rfl))
            try simp only [Act.put, List.setIfInBounds_toArray, List.set_cons_zero, List.set_cons_succ]
            refine wpAnyH_takeL (i := 6) (v := ?v6b) rfl (by kernel_rfl) (by kernel_rfl) (by kernel_rfl) (fun _ _ _ h => h) (Or.inl ⟨by kernel_rfl, ?hy6b⟩) (by assumption) ?rest6b
            case hy6b => (intro w hSw; (try dsimp only at hSw); go_simp; (try with_reducible rfl))
            try simp only [Act.put, List.setIfInBounds_toArray, List.set_cons_zero, List.set_cons_succ]
            refine wpAnyH_ready (rs := [5, 7]) (by kernel_rfl) (by simp) ?_
            refine AllReadyH.consL rfl (fun Kx hKx => ?_) (AllReadyH.consL rfl (fun Kx hKx => ?_) AllReadyH.nil)
            go_simp
            refine hKx.out _ _ (by assumption) (fun hHeld => ?_)
            clear hKx
            try simp only [Act.put, List.setIfInBounds_toArray, List.set_cons_zero, List.set_cons_succ]
            refine wpAnyH_ready (rs := [7]) (by kernel_rfl) (by simp) ?_
            refine AllReadyH.consL rfl (fun Kx hKx => ?_) AllReadyH.nil
            go_simp
            refine hKx.out _ _ (ten.out _ kB) (fun hHeld => ?_)
            clear hKx
            try simp only [Act.put, List.setIfInBounds_toArray, List.set_cons_zero, List.set_cons_succ]
            refine wpAnyH_ready (rs := [8]) (by kernel_rfl) (by simp) ?_
            refine AllReadyH.consL rfl (fun Kx hKx => ?_) AllReadyH.nil
            refine step_push rfl (.tmp 71) (.tmp 73) (.tmp 72) 96 rfl b0 63 2 16 Try.underlying96 info_target (by decide) (.slice Av j cvp) j (tcells ts) rfl hob.out W.heap.size _ rfl rfl hbB.out rfl (by simp [Value.oneCell']) (by omega) (by omega) (by simp; omega) ?_
            intro g2 cap2 w2 hown2 hgrow2 hor2 hlt2
            have far2 : ∀ b i, b < W.heap.size → some b ≠ (Value.slice Av j cvp).ownBlock → w2.cell? ⟨b, i, none⟩ = W.cell? ⟨b, i, none⟩ := fun b i hb hne => (hgrow2.cell_far ⟨b, i, none⟩ (Nat.lt_of_lt_of_le hb kB.size) hne).trans (kB.cell (p := ⟨b, i, none⟩) hb)
            have hnt : some (wr.heap.size + 1) ≠ (Value.slice Av j cvp).ownBlock := fun e => by have := lown.out _ e.symm; omega
            have hnO : some OB ≠ (Value.slice Av j cvp).ownBlock := fun e => by have := gown.out _ e.symm; omega
            have bO2 : Blk w2 OB (vs.setIfInBounds k (.slice Av j cvp)) 96 := grown_blk (bO.out.kp kB) hgrow2 hnO
            have cO2 : w2.cell? ⟨OB, k, none⟩ = some (.slice Av j cvp) := by rw [bO2.cell k]; exact set_at hvs.out hlt
            have fO2 : w2.frozen? ⟨OB, k, none⟩ = false := bO2.frozen k
            have mW2 : Mod (fun b => b = OB) wo w2 := (((hmod.out.kp kwW.out).kp kB)).grown hgrow2 (fun i hi => Or.inr (by have := gown.out i hi; have := hb0.out; omega))
            have kW2 : Kp w w2 := ((kp.out.trans kwW.out).trans kB).grown hgrow2 (fun i hi => by have := gown.out i hi; omega)
            have t02 : w2.cell? ⟨wr.heap.size + 1, 0, none⟩ = some (.int .i64 k) := (far2 _ 0 (by omega) hnt).trans (ten.out W (Kp.refl W)).1
            have t12 : w2.cell? ⟨wr.heap.size + 1, 1, none⟩ = some (.int .i64 j) := (far2 _ 1 (by omega) hnt).trans (ten.out W (Kp.refl W)).2
            replace hown2 := Aside.mk hown2
            replace hor2 := Aside.mk hor2
            replace mW2 := Aside.mk mW2
            replace kW2 := Aside.mk kW2
            replace bO2 := Aside.mk bO2
            clear hgrow2 far2 hnt hnO
            refine hKx.out _ _ ⟨t02, t12⟩ (fun hHeld => ?_)
            clear hKx
            try simp only [Act.put, List.setIfInBounds_toArray, List.set_cons_zero, List.set_cons_succ]
            refine wpAnyH_takeL (i := 9) (v := ?v9bp) rfl (by kernel_rfl) (by kernel_rfl) (by kernel_rfl) (fun _ _ _ h => h) (Or.inl ⟨by kernel_rfl, ?hy9bp⟩) (by assumption) ?rest9bp
            case hy9bp => (intro w hSw; (try dsimp only at hSw); go_simp; (try with_reducible rfl))
            try simp only [Act.put, List.setIfInBounds_toArray, List.set_cons_zero, List.set_cons_succ]
            refine wpAnyH_ready (rs := [10]) (by kernel_rfl) (by simp) ?_
            refine AllReadyH.consL rfl (fun Kx hKx => ?_) AllReadyH.nil
            go_simp
            refine hKx.out _ _ (by refine ⟨?_, ?_⟩ <;> (rw [World.cell?_setCell_other _ _ _ _ (fun e => by injection e; omega)]; assumption)) (fun hHeld => ?_)
            clear hKx
            try simp only [Act.put, List.setIfInBounds_toArray, List.set_cons_zero, List.set_cons_succ]
            refine wpAnyH_done (by kernel_rfl) (hQ0.out _ _ ?_) _
            rotate_left 1
            go_simp
            refine hKx.out _ _ (ten.out _ kB) (fun hHeld => ?_)
            clear hKx
            try simp only [Act.put, List.setIfInBounds_toArray, List.set_cons_zero, List.set_cons_succ]
            refine wpAnyH_ready (rs := [5]) (by kernel_rfl) (by simp) ?_
            refine AllReadyH.consL rfl (fun Kx hKx => ?_) AllReadyH.nil
            go_simp
            refine hKx.out _ _ (by assumption) (fun hHeld => ?_)
            clear hKx
            try simp only [Act.put, List.setIfInBounds_toArray, List.set_cons_zero, List.set_cons_succ]
            refine wpAnyH_ready (rs := [8]) (by kernel_rfl) (by simp) ?_
            refine AllReadyH.consL rfl (fun Kx hKx => ?_) AllReadyH.nil
            refine step_push rfl (.tmp 71) (.tmp 73) (.tmp 72) 96 rfl b0 63 2 16 Try.underlying96 info_target (by decide) (.slice Av j cvp) j (tcells ts) rfl hob.out W.heap.size _ rfl rfl hbB.out rfl (by simp [Value.oneCell']) (by omega) (by omega) (by simp; omega) ?_
            intro g2 cap2 w2 hown2 hgrow2 hor2 hlt2
            have far2 : ∀ b i, b < W.heap.size → some b ≠ (Value.slice Av j cvp).ownBlock → w2.cell? ⟨b, i, none⟩ = W.cell? ⟨b, i, none⟩ := fun b i hb hne => (hgrow2.cell_far ⟨b, i, none⟩ (Nat.lt_of_lt_of_le hb kB.size) hne).trans (kB.cell (p := ⟨b, i, none⟩) hb)
            have hnt : some (wr.heap.size + 1) ≠ (Value.slice Av j cvp).ownBlock := fun e => by have := lown.out _ e.symm; omega
            have hnO : some OB ≠ (Value.slice Av j cvp).ownBlock := fun e => by have := gown.out _ e.symm; omega
            have bO2 : Blk w2 OB (vs.setIfInBounds k (.slice Av j cvp)) 96 := grown_blk (bO.out.kp kB) hgrow2 hnO
            have cO2 : w2.cell? ⟨OB, k, none⟩ = some (.slice Av j cvp) := by rw [bO2.cell k]; exact set_at hvs.out hlt
            have fO2 : w2.frozen? ⟨OB, k, none⟩ = false := bO2.frozen k
            have mW2 : Mod (fun b => b = OB) wo w2 := (((hmod.out.kp kwW.out).kp kB)).grown hgrow2 (fun i hi => Or.inr (by have := gown.out i hi; have := hb0.out; omega))
            have kW2 : Kp w w2 := ((kp.out.trans kwW.out).trans kB).grown hgrow2 (fun i hi => by have := gown.out i hi; omega)
            have t02 : w2.cell? ⟨wr.heap.size + 1, 0, none⟩ = some (.int .i64 k) := (far2 _ 0 (by omega) hnt).trans (ten.out W (Kp.refl W)).1
            have t12 : w2.cell? ⟨wr.heap.size + 1, 1, none⟩ = some (.int .i64 j) := (far2 _ 1 (by omega) hnt).trans (ten.out W (Kp.refl W)).2
            replace hown2 := Aside.mk hown2
            replace hor2 := Aside.mk hor2
            replace mW2 := Aside.mk mW2
            replace kW2 := Aside.mk kW2
            replace bO2 := Aside.mk bO2
            clear hgrow2 far2 hnt hnO
            refine hKx.out _ _ ⟨t02, t12⟩ (fun hHeld => ?_)
            clear hKx
            try simp only [Act.put, List.setIfInBounds_toArray, List.set_cons_zero, List.set_cons_succ]
            refine wpAnyH_takeL (i := 9) (v := ?v9bq) rfl (by kernel_rfl) (by kernel_rfl) (by kernel_rfl) (fun _ _ _ h => h) (Or.inl ⟨by kernel_rfl, ?hy9bq⟩) (by assumption) ?rest9bq
            case hy9bq => (intro w hSw; (try dsimp only at hSw); go_simp; (try with_reducible rfl))
            try simp only [Act.put, List.setIfInBounds_toArray, List.set_cons_zero, List.set_cons_succ]
            refine wpAnyH_ready (rs := [10]) (by kernel_rfl) (by simp) ?_
            refine AllReadyH.consL rfl (fun Kx hKx => ?_) AllReadyH.nil
            go_simp
            refine hKx.out _ _ (by refine ⟨?_, ?_⟩ <;> (rw [World.cell?_setCell_other _ _ _ _ (fun e => by injection e; omega)]; assumption)) (fun hHeld => ?_)
            clear hKx
            try simp only [Act.put, List.setIfInBounds_toArray, List.set_cons_zero, List.set_cons_succ]
            refine wpAnyH_done (by kernel_rfl) (hQ0.out _ _ ?_) _
            rotate_left 1
            all_goals go_wp2_with fail
            all_goals go_roundw
            all_goals try (case measure => simp [intOf]; omega)
            all_goals
              refine ⟨j + 1, .slice (some ⟨g2, 0, none⟩) (j + 1) cap2, ts ++ [(k, j)], by omega, by go_num, ?_, ?_, ?_, ?_, ?_⟩
              · have := bO2.out.set (i := k) (.slice (some ⟨g2, 0, none⟩) (j + 1) cap2)
                rwa [Array.setIfInBounds_setIfInBounds] at this
              · rw [tcells_snoc]
                refine row_at hown2.out (fun i hi hl => heap_setCell_other w2 ⟨OB, k, none⟩ i _ (fun e => ?_))
                have e3 : i = OB ∨ OB = i := (by first | exact Or.inl e | exact Or.inr e)
                have e2 : g2 = i := by simpa [Value.ownBlock] using hi
                rcases hor2.out with h | h
                · have := gown.out _ h; omega
                · simp at h; omega
              · exact mW2.out.setCell (p := ⟨OB, k, none⟩) rfl _
              · exact kW2.out.setCell (p := ⟨OB, k, none⟩) (Nat.le_of_lt lOB) _
              · exact htg'
        · obtain rfl : j = ns := by omega
          have hta : Aside (tgtsOf os k o.syms ts ∧ ∀ s ∈ o.syms, s.sect = 0 → (findV os s.name).isSome) := ⟨by have := htg.out; rwa [List.take_of_length_le (by have := hns.out; omega)] at this⟩
          have hrow := Aside.mk (row_of lb0 hown hta.out.1 hns.out.symm)
          clear hown
          go_wp2_with fail
          go_roundw
          case rel =>
            refine ⟨k + 1, _, by omega, by go_num, kp.out, c3, hwr, cO, ⟨by rw [Array.size_setIfInBounds]; exact hvs.out⟩, ⟨fun i hi hin => by rw [set_other (by omega)]; exact hnil.out i (by omega) hin⟩, ⟨fun i o' hi ho' => ?_⟩⟩
            by_cases e : i = k
            · subst e
              rw [ho.out] at ho'
              injection ho' with ho'
              subst ho'
              exact ⟨hta.out.2, _, set_at hvs.out hlt, hrow.out⟩
            · obtain ⟨h1, v, h2, h3⟩ := hdone1.out i o' (by omega) ho'
              exact ⟨h1, v, by rw [set_other e]; exact h2, h3.keep (fun b hb hb2 => hmod.out.block b hb2 (by omega)) hmod.out.size⟩
          case measure => simp [intOf]; omega
    · obtain rfl : k = n := by omega
      have hall : Aside (allT os) := ⟨fun o ho s hs => by
        obtain ⟨i, hi, rfl⟩ := List.mem_iff_getElem.1 ho
        exact (hdone.out i _ (by have := hn.out; omega) (List.getElem?_eq_getElem hi)).1 s hs⟩
      have he := Aside.mk (resE_ok hok.out h1.out hall.out)
      have e0 : wr.cell? ⟨w.heap.size, 0, none⟩ = some (.int .i64 0) := c3.cell 0
      have e1 : wr.cell? ⟨w.heap.size, 1, none⟩ = some (.int .i64 0) := c3.cell 1
      have f0 := c3.frozen 0
      have f1 := c3.frozen 1
      have lO := cO.lt
      go_wp2_with fail
      refine bodyPost_ret (results_tct rfl _ _ w.heap.size _ _ _ rfl (Blk.set (Blk.set c3 _) _) Try.underlying63 (by kernel_rfl)) rfl ?_
      have kq : Kp w ((wr.setCell ⟨w.heap.size, 0, none⟩ (.int .i64 0)).setCell ⟨w.heap.size, 1, none⟩ (.int .i64 0)) := (kp.setCell (p := ⟨w.heap.size, 0, none⟩) (Nat.le_refl _) _).setCell (p := ⟨w.heap.size, 1, none⟩) (Nat.le_refl _) _
      refine ⟨kq, _, _, _, by rw [he.out]; rfl, fun _ => ⟨OB, rfl, by simp; exact lO, fun i o ho => ?_⟩⟩
      have hik : i < k := by have := (List.getElem?_eq_some_iff.1 ho).1; have := hn.out; omega
      obtain ⟨-, v, h2, h3⟩ := hdone.out i o hik ho
      have hm : Mod (fun b => b = w.heap.size) wr ((wr.setCell ⟨w.heap.size, 0, none⟩ (.int .i64 0)).setCell ⟨w.heap.size, 1, none⟩ (.int .i64 0)) := ((Mod.refl (fun b => b = w.heap.size) wr).setCell (p := ⟨w.heap.size, 0, none⟩) rfl _).setCell (p := ⟨w.heap.size, 1, none⟩) rfl _
      refine ⟨v, ?_, h3.keep (fun b hb hb2 => hm.block b hb2 (by omega)) hm.size⟩
      rw [(hm.blk cO (by omega)).cell i]
      exact h2
end Go.Proofs.Ytnbooljaodkedaa
namespace Go.Proofs.Ytnbooljaodkedaa
open Go.RowKit Go.Maps Go.Proofs.Ytnbooljaodkedaa.PC Go.Proofs.Ytnbooljaodkedaa.PW
set_option linter.unusedVariables false
set_option linter.unusedSimpArgs false
theorem defsO_mem {i : Nat} {d : ByteArray × Nat × Nat} : ∀ (l : List SymV) (k : Nat), d ∈ defsO i k l → d.2.1 = i ∧ k ≤ d.2.2 ∧ ∃ s, l[d.2.2 - k]? = some s ∧ s.name = d.1 ∧ s.defs = true
  | [], k, h => by simp [defsO] at h
  | t :: l, k, h => by
    rw [defsO_cons] at h
    have key : d ∈ defsO i (k + 1) l → d.2.1 = i ∧ k ≤ d.2.2 ∧ ∃ s, (t :: l)[d.2.2 - k]? = some s ∧ s.name = d.1 ∧ s.defs = true := fun h => by
      obtain ⟨h1, h2, s, h3, h4⟩ := defsO_mem l (k + 1) h
      refine ⟨h1, by omega, s, ?_, h4⟩
      rw [show d.2.2 - k = (d.2.2 - (k + 1)) + 1 by omega, List.getElem?_cons_succ]
      exact h3
    split at h
    · rename_i hd
      rcases List.mem_cons.1 h with rfl | h
      · exact ⟨rfl, Nat.le_refl _, t, by simp, rfl, hd⟩
      · exact key h
    · exact key h
theorem defsA_mem {d : ByteArray × Nat × Nat} : ∀ (l : List ObjV) (i : Nat), d ∈ defsA i l → i ≤ d.2.1 ∧ ∃ o s, l[d.2.1 - i]? = some o ∧ o.syms[d.2.2]? = some s ∧ s.name = d.1 ∧ s.defs = true
  | [], i, h => by simp [defsA] at h
  | o :: l, i, h => by
    rcases List.mem_append.1 (show d ∈ defsO i 0 o.syms ++ defsA (i + 1) l from h) with h | h
    · obtain ⟨h1, _, s, h3, h4⟩ := defsO_mem o.syms 0 h
      exact ⟨by omega, o, s, by rw [h1]; simp, by simpa using h3, h4⟩
    · obtain ⟨h1, o', s, h2, h3⟩ := defsA_mem l (i + 1) h
      refine ⟨by omega, o', s, ?_, h3⟩
      rw [show d.2.1 - i = (d.2.1 - (i + 1)) + 1 by omega, List.getElem?_cons_succ]
      exact h2
theorem findV_some {os : List ObjV} {n : ByteArray} {t : Nat × Nat} (h : findV os n = some t) : ∃ o s, os[t.1]? = some o ∧ o.syms[t.2]? = some s ∧ s.name = n ∧ s.defs = true := by
  unfold findV lookV at h
  obtain ⟨d, hd, rfl⟩ := Option.map_eq_some_iff.1 h
  have h1 := List.find?_some hd
  have h2 := List.mem_of_find?_eq_some hd
  obtain ⟨_, o, s, h3, h4, h5, h6⟩ := defsA_mem os 0 h2
  exact ⟨o, s, by simpa using h3, h4, h5.trans (by simpa using h1), h6⟩
/-- What Main comes to. -/
def MainR (w : World) (os : List ObjV) (e : Ending) (w' : World) : Prop := Kp w w' ∧ ∃ a b : Int, e = .returned (.tuple #[.agg #[.int .i64 a, .int .i64 b], .int .i64 (mainE os)]) ∧ (mainE os = 0 → ∃ t : Nat × Nat, mainT os = some t ∧ a = t.1 ∧ b = t.2)
theorem mainE_res {os : List ObjV} (h : resE os ≠ 0) : mainE os = resE os := by unfold mainE; rw [if_pos h]
theorem mainE_none {os : List ObjV} (h : resE os = 0) (h1 : mainT os = none) : mainE os = 16 := by unfold mainE; rw [if_neg (fun e => e h), h1]; rfl
theorem mainE_ok {os : List ObjV} (h : resE os = 0) {t : Nat × Nat} (h1 : mainT os = some t) : mainE os = 0 := by unfold mainE; rw [if_neg (fun e => e h), h1]; rfl
set_option maxRecDepth 100000 in
set_option maxHeartbeats 8000000 in
theorem Main_calls {w : World} {G : Option Addr} {n c : Nat} {os : List ObjV} (h : ObjsAt w G os) (hwf : ∀ o ∈ os, o.wf) (hn : os.length = n) (hl : n ≤ 1000) :
    Calls Try.prog 17 #[.slice G n c] w (MainR w os) := by
  have kA : Kp w (w.alloc (.cells #[.int .i64 0, .int .i64 0] 63)) := (Kp.refl w).alloc _
  have hres := Aside.mk (Resolve_calls (c := c) (h.kp kA) hwf hn hl)
  have b3 := Aside.mk (Blk.new w #[.int .i64 0, .int .i64 0] 63)
  replace kA := Aside.mk kA
  replace hos := Aside.mk h
  replace hwf := Aside.mk hwf
  replace hn := Aside.mk hn
  clear h
  by_cases hr : resE os = 0
  rotate_left 1
  · have he := Aside.mk (mainE_res hr)
    have hb : (resE os != 0) = true := bne_iff_ne.2 hr
    generalize hq : resE os = q at *
    replace hq := Aside.mk hq
    have hr' := Aside.mk hr
    clear hr
    go_enter Try.func17, Try.ntmps17
    go_wp2_with fail
    refine Calls.mono hres.out ?_
    rintro e w1 ⟨k1, v, a, b, he1, -⟩
    rw [hq.out] at he1
    subst he1
    have b31 := b3.out.kp k1
    have e0 : w1.cell? ⟨w.heap.size, 0, none⟩ = some (.int .i64 0) := b31.cell 0
    have e1 : w1.cell? ⟨w.heap.size, 1, none⟩ = some (.int .i64 0) := b31.cell 1
    have f0 := b31.frozen 0
    have f1 := b31.frozen 1
    have l3 := b31.lt
    replace k1 := Aside.mk k1
    go_wp2_with fail
    refine bodyPost_ret (results_cell_tmp_row rfl _ _ w.heap.size _ _ _ rfl ((Blk.set (Blk.set b31 _) _).alloc _) Try.underlying63 (by kernel_rfl)) rfl ?_
    refine ⟨(((kA.out.trans k1.out).setCell (p := ⟨w.heap.size, 0, none⟩) (Nat.le_refl _) _).setCell (p := ⟨w.heap.size, 1, none⟩) (Nat.le_refl _) _).alloc _, _, _, by rw [he.out]; rfl, fun h => ?_⟩
    rw [he.out] at h
    exact absurd h hr'.out
  obtain ⟨hok, honce, hall⟩ := resE_cases hr
  have h600 : Aside (∀ o ∈ os, o.syms.length ≤ 600) := ⟨fun o ho => (hok o ho).1.2.2.2.1⟩
  have hdef1 := Aside.mk (fun (W : World) (hW : Kp w W) => (defined_calls (c := c) (hos.out.kp hW) hwf.out hn.out hl h600.out).mono (R' := fun e w' => Kp W w' ∧ ∃ B, e = .returned (.tuple #[.map (some B), .agg #[.int .i64 0, .int .i64 0], .bool false]) ∧ w'.ownsMap Try.prog 9 RT B (defsA 0 os).length (defD (defsA 0 os))) (fun e w' ⟨hk, hx⟩ => ⟨hk, by rcases hx with ⟨_, hx⟩ | ⟨hx, _⟩; exact hx; exact absurd honce hx⟩))
  replace hok := Aside.mk hok
  replace honce := Aside.mk honce
  have hr2 := Aside.mk hr
  clear hall
  go_enter Try.func17, Try.ntmps17
  go_wp2_with fail
  refine Calls.mono hres.out ?_
  rintro e w1 ⟨k1, v, a, b, he1, -⟩
  rw [hr] at he1
  subst he1
  clear hr
  have b31 := Aside.mk (b3.out.kp k1)
  have k01 := kA.out.trans k1
  have k02 := Aside.mk (k01.alloc (.cells #[.int .i64 a, .int .i64 b] 63))
  have b32 := Aside.mk (b31.out.alloc (.cells #[.int .i64 a, .int .i64 b] 63))
  clear k1 k01 b31
  go_wp2_with fail
  refine Calls.mono (hdef1.out _ k02.out) ?_
  rintro e w2 ⟨k2, B, rfl, hw2⟩
  have k03 := Aside.mk ((k02.out.trans k2).alloc (.cells #[.int .i64 0, .int .i64 0] 63))
  have b33 := Aside.mk ((b32.out.kp k2).alloc (.cells #[.int .i64 0, .int .i64 0] 63))
  have hw3 := hw2.alloc (.cells #[.int .i64 0, .int .i64 0] 63)
  have hrun := lookT hw3 honce.out (nm := ⟨#[109, 97, 105, 110]⟩) (by decide)
  have lw2 := (k02.out.trans k2).size
  clear k2 hw2 hw3 hdef1
  cases hl2 : lookV (defsA 0 os) ⟨#[109, 97, 105, 110]⟩ with
  | none =>
    rw [hl2] at hrun
    dsimp only [Option.isSome] at hrun
    have he := Aside.mk (mainE_none hr2.out (by unfold mainT findV mainB; rw [hl2]; rfl))
    replace hl2 := Aside.mk hl2
    have b34 : Blk (((w2.alloc (.cells #[.int .i64 0, .int .i64 0] 63)).alloc (.cells #[.int .i64 0, .int .i64 0] 63))) w.heap.size #[.int .i64 0, .int .i64 0] 63 := b33.out.alloc _
    have k04 : Kp w (((w2.alloc (.cells #[.int .i64 0, .int .i64 0] 63)).alloc (.cells #[.int .i64 0, .int .i64 0] 63))) := k03.out.alloc _
    have bt : Blk (((w2.alloc (.cells #[.int .i64 0, .int .i64 0] 63)).alloc (.cells #[.int .i64 0, .int .i64 0] 63))) (w2.heap.size + 1) #[.int .i64 0, .int .i64 0] 63 := by
      have hb := Blk.new (w2.alloc (.cells #[.int .i64 0, .int .i64 0] 63)) #[.int .i64 0, .int .i64 0] 63
      rwa [World.size_alloc] at hb
    go_upto_region 6 with fail
    generalize (((w2.alloc (.cells #[.int .i64 0, .int .i64 0] 63)).alloc (.cells #[.int .i64 0, .int .i64 0] 63))) = W at *
    have e0 : W.cell? ⟨w.heap.size, 0, none⟩ = some (.int .i64 0) := b34.cell 0
    have e1 : W.cell? ⟨w.heap.size, 1, none⟩ = some (.int .i64 0) := b34.cell 1
    have f0 := b34.frozen 0
    have f1 := b34.frozen 1
    have l4 := b34.lt
    have lt := bt.lt
    replace bt := Aside.mk bt
    replace b34 := Aside.mk b34
    replace k04 := Aside.mk k04
    refine wp_hide (fun Q0 hQ0 => ?_)
    refine wp_region_held_drew (S := fun _ => True) (by kernel_rfl) ?hS0a (fun hHeld => ?_)
    case hS0a => exact trivial
    refine wpAnyH_takeL (i := 0) (v := ?v0a) rfl (by kernel_rfl) (by kernel_rfl) (by kernel_rfl) (fun _ _ _ h => h) (Or.inl ⟨by kernel_rfl, ?hy0a⟩) (by assumption) ?rest0a
    case hy0a => (intro w hSw; (try dsimp only at hSw); go_simp; (try with_reducible rfl))
    try simp only [Act.put, List.setIfInBounds_toArray, List.set_cons_zero, List.set_cons_succ]
    refine wpAnyH_takeL (i := 1) (v := ?v1a) rfl (by kernel_rfl) (by kernel_rfl) (by kernel_rfl) (fun _ _ _ h => h) (Or.inl ⟨by kernel_rfl, ?hy1a⟩) (by assumption) ?rest1a
    case hy1a => (intro w hSw; (try dsimp only at hSw); go_simp; (try with_reducible rfl))
    try simp only [Act.put, List.setIfInBounds_toArray, List.set_cons_zero, List.set_cons_succ]
    refine wpAnyH_takeL (i := 2) (v := ?v2a) rfl (by kernel_rfl) (by kernel_rfl) (by kernel_rfl) (fun _ _ _ h => h) (Or.inl ⟨by kernel_rfl, ?hy2a⟩) (by assumption) ?rest2a
    case hy2a => (intro w hSw; (try dsimp only at hSw); go_simp; (try with_reducible rfl))
    try simp only [Act.put, List.setIfInBounds_toArray, List.set_cons_zero, List.set_cons_succ]
    refine wpAnyH_takeL (i := 3) (v := undef) rfl (by kernel_rfl) (by kernel_rfl) (by kernel_rfl) (fun _ _ _ h => h) (Or.inr ⟨by kernel_rfl, rfl⟩) (by assumption) ?rest3a
    try simp only [Act.put, List.setIfInBounds_toArray, List.set_cons_zero, List.set_cons_succ]
    refine wpAnyH_takeL (i := 4) (v := undef) rfl (by kernel_rfl) (by kernel_rfl) (by kernel_rfl) (fun _ _ _ h => h) (Or.inr ⟨by kernel_rfl, rfl⟩) (by assumption) ?rest4a
    try simp only [Act.put, List.setIfInBounds_toArray, List.set_cons_zero, List.set_cons_succ]
    refine wpAnyH_takeL (i := 5) (v := undef) rfl (by kernel_rfl) (by kernel_rfl) (by kernel_rfl) (fun _ _ _ h => h) (Or.inr ⟨by kernel_rfl, rfl⟩) (by assumption) ?rest5a
    try simp only [Act.put, List.setIfInBounds_toArray, List.set_cons_zero, List.set_cons_succ]
    refine wpAnyH_takeL (i := 6) (v := undef) rfl (by kernel_rfl) (by kernel_rfl) (by kernel_rfl) (fun _ _ _ h => h) (Or.inr ⟨by kernel_rfl, rfl⟩) (by assumption) ?rest6a
    try simp only [Act.put, List.setIfInBounds_toArray, List.set_cons_zero, List.set_cons_succ]
    refine wpAnyH_takeL (i := 7) (v := undef) rfl (by kernel_rfl) (by kernel_rfl) (by kernel_rfl) (fun _ _ _ h => h) (Or.inr ⟨by kernel_rfl, rfl⟩) (by assumption) ?rest7a
    try simp only [Act.put, List.setIfInBounds_toArray, List.set_cons_zero, List.set_cons_succ]
    refine wpAnyH_takeL (i := 8) (v := undef) rfl (by kernel_rfl) (by kernel_rfl) (by kernel_rfl) (fun _ _ _ h => h) (Or.inr ⟨by kernel_rfl, rfl⟩) (by assumption) ?rest8a
    try simp only [Act.put, List.setIfInBounds_toArray, List.set_cons_zero, List.set_cons_succ]
    refine wpAnyH_takeL (i := 9) (v := undef) rfl (by kernel_rfl) (by kernel_rfl) (by kernel_rfl) (fun _ _ _ h => h) (Or.inr ⟨by kernel_rfl, rfl⟩) (by assumption) ?rest9a
    try simp only [Act.put, List.setIfInBounds_toArray, List.set_cons_zero, List.set_cons_succ]
    refine wpAnyH_takeL (i := 10) (v := undef) rfl (by kernel_rfl) (by kernel_rfl) (by kernel_rfl) (fun _ _ _ h => h) (Or.inr ⟨by kernel_rfl, rfl⟩) (by assumption) ?rest10a
    try simp only [Act.put, List.setIfInBounds_toArray, List.set_cons_zero, List.set_cons_succ]
    refine wpAnyH_takeL (i := 11) (v := undef) rfl (by kernel_rfl) (by kernel_rfl) (by kernel_rfl) (fun _ _ _ h => h) (Or.inr ⟨by kernel_rfl, rfl⟩) (by assumption) ?rest11a
    try simp only [Act.put, List.setIfInBounds_toArray, List.set_cons_zero, List.set_cons_succ]
    refine wpAnyH_takeL (i := 12) (v := undef) rfl (by kernel_rfl) (by kernel_rfl) (by kernel_rfl) (fun _ _ _ h => h) (Or.inr ⟨by kernel_rfl, rfl⟩) (by assumption) ?rest12a
    try simp only [Act.put, List.setIfInBounds_toArray, List.set_cons_zero, List.set_cons_succ]
    refine wpAnyH_takeL (i := 13) (v := undef) rfl (by kernel_rfl) (by kernel_rfl) (by kernel_rfl) (fun _ _ _ h => h) (Or.inr ⟨by kernel_rfl, rfl⟩) (by assumption) ?rest13a
    try simp only [Act.put, List.setIfInBounds_toArray, List.set_cons_zero, List.set_cons_succ]
    refine wpAnyH_takeL (i := 14) (v := undef) rfl (by kernel_rfl) (by kernel_rfl) (by kernel_rfl) (fun _ _ _ h => h) (Or.inr ⟨by kernel_rfl, rfl⟩) (by assumption) ?rest14a
    try simp only [Act.put, List.setIfInBounds_toArray, List.set_cons_zero, List.set_cons_succ]
    refine wpAnyH_takeL (i := 15) (v := ?v15a) rfl (by kernel_rfl) (by kernel_rfl) (by kernel_rfl) (fun _ _ _ h => h) (Or.inl ⟨by kernel_rfl, ?hy15a⟩) (by assumption) ?rest15a
    case hy15a => (intro w hSw; (try dsimp only at hSw); go_simp; (try with_reducible rfl))
    try simp only [Act.put, List.setIfInBounds_toArray, List.set_cons_zero, List.set_cons_succ]
    refine wpAnyH_done (by kernel_rfl) (hQ0.out _ _ ?_) _
    clear hHeld
    go_wp2_with fail
    refine bodyPost_ret (results_cell_tmp_row rfl _ _ w.heap.size _ _ _ rfl ((Blk.set (Blk.set b34.out _) _).kp (Kp.refl _).drew) Try.underlying63 (by kernel_rfl)) rfl ?_
    refine ⟨((k04.out.setCell (p := ⟨w.heap.size, 0, none⟩) (Nat.le_refl _) _).setCell (p := ⟨w.heap.size, 1, none⟩) (Nat.le_refl _) _).drew, _, _, by rw [he.out]; rfl, fun h => ?_⟩
    rw [he.out] at h
    cases h
  | some t =>
    rw [hl2] at hrun
    dsimp only [Option.isSome] at hrun
    obtain ⟨o, s, ho, hs, -, -⟩ := findV_some (os := os) hl2
    obtain ⟨t0, t1⟩ := t
    unfold tgtC at hrun
    replace hl2 := Aside.mk hl2
    have b34 : Blk (((w2.alloc (.cells #[.int .i64 0, .int .i64 0] 63)).alloc (.cells #[.int .i64 t0, .int .i64 t1] 63))) w.heap.size #[.int .i64 0, .int .i64 0] 63 := b33.out.alloc _
    have k04 : Kp w (((w2.alloc (.cells #[.int .i64 0, .int .i64 0] 63)).alloc (.cells #[.int .i64 t0, .int .i64 t1] 63))) := k03.out.alloc _
    have bt : Blk (((w2.alloc (.cells #[.int .i64 0, .int .i64 0] 63)).alloc (.cells #[.int .i64 t0, .int .i64 t1] 63))) (w2.heap.size + 1) #[.int .i64 t0, .int .i64 t1] 63 := by
      have hb := Blk.new (w2.alloc (.cells #[.int .i64 0, .int .i64 0] 63)) #[.int .i64 t0, .int .i64 t1] 63
      rwa [World.size_alloc] at hb
    go_upto_region 6 with fail
    generalize (((w2.alloc (.cells #[.int .i64 0, .int .i64 0] 63)).alloc (.cells #[.int .i64 t0, .int .i64 t1] 63))) = W at *
    have e0 : W.cell? ⟨w.heap.size, 0, none⟩ = some (.int .i64 0) := b34.cell 0
    have e1 : W.cell? ⟨w.heap.size, 1, none⟩ = some (.int .i64 0) := b34.cell 1
    have f0 := b34.frozen 0
    have f1 := b34.frozen 1
    have l4 := b34.lt
    have lt := bt.lt
    replace bt := Aside.mk bt
    replace b34 := Aside.mk b34
    replace k04 := Aside.mk k04
    obtain ⟨g, off, hG, hg, hc⟩ := hos.out (by rintro rfl; simp at ho)
    obtain ⟨A, ct, B', cd, C, cs, D, cr, q0, q1, q2, q3, hat, -⟩ := hc t0 o ho
    obtain ⟨g', off', hC, hg', hc'⟩ := hat.syms (by intro e; rw [e] at hs; simp at hs)
    obtain ⟨-, p1, -, -, -⟩ := hc' t1 s hs
    have ht0 := (List.getElem?_eq_some_iff.1 ho).1
    have ht1 := (List.getElem?_eq_some_iff.1 hs).1
    rw [hn.out] at ht0
    have i0 : (0 : Int) ≤ (t0 : Int) := by omega
    have i1 : (t0 : Int) < (n : Int) := by omega
    have j0 : (0 : Int) ≤ (t1 : Int) := by omega
    have j1 : (t1 : Int) < (o.syms.length : Int) := by omega
    have r2 := (k04.out.cell (p := ⟨g, off + t0 * 4 + 2, none⟩) hg).trans q2
    have r1 := (k04.out.cell (p := ⟨g', off' + t1 * 5 + 1, none⟩) hg').trans p1
    have hsym : Aside (symAt os (t0, t1) = some s) := ⟨by unfold symAt; rw [ho]; exact hs⟩
    have hfnd : Aside (findV os mainB = some (t0, t1)) := ⟨hl2.out⟩
    subst hG hC
    clear hc hc' q0 q1 q2 q3 p1 hat ho hs
    generalize o.syms.length = ns at *
    generalize hse : s.sect = sect at *
    replace hse := Aside.mk hse
    have c0 : W.cell? ⟨w2.heap.size + 1, 0, none⟩ = some (.int .i64 t0) := bt.out.cell 0
    have c1 : W.cell? ⟨w2.heap.size + 1, 1, none⟩ = some (.int .i64 t1) := bt.out.cell 1
    by_cases h1 : sect = 1
    · subst h1
      have hmt : Aside (mainT os = some (t0, t1)) := ⟨by unfold mainT; rw [hfnd.out]; show (symAt os (t0, t1)).bind _ = _; rw [hsym.out]; show (if s.sect = 1 then _ else _) = _; rw [if_pos hse.out]⟩
      have he := Aside.mk (mainE_ok hr2.out hmt.out)
      refine wp_hide (fun Q0 hQ0 => ?_)
      refine wp_region_held_drew (S := fun w' => w'.cell? ⟨w2.heap.size + 1, 0, none⟩ = some (.int .i64 t0) ∧ w'.cell? ⟨w2.heap.size + 1, 1, none⟩ = some (.int .i64 t1) ∧ w'.cell? ⟨g, off + t0 * 4 + 2, none⟩ = some (.slice (some ⟨g', off', none⟩) ns cs) ∧ w'.cell? ⟨g', off' + t1 * 5 + 1, none⟩ = some (.int .i64 1)) (by kernel_rfl) ?hS0b (fun hHeld => ?_)
      case hS0b => exact (show _ from ⟨c0, c1, r2, r1⟩)
      refine wpAnyH_takeL (i := 0) (v := ?v0b) rfl (by kernel_rfl) (by kernel_rfl) (by kernel_rfl) (fun _ _ _ h => h) (Or.inl ⟨by kernel_rfl, ?hy0b⟩) (by assumption) ?rest0b
      case hy0b => (intro w hSw; (try dsimp only at hSw); go_simp; (try with_reducible rfl))
      try simp only [Act.put, List.setIfInBounds_toArray, List.set_cons_zero, List.set_cons_succ]
      refine wpAnyH_takeL (i := 1) (v := ?v1b) rfl (by kernel_rfl) (by kernel_rfl) (by kernel_rfl) (fun _ _ _ h => h) (Or.inl ⟨by kernel_rfl, ?hy1b⟩) (by assumption) ?rest1b
      case hy1b => (intro w hSw; (try dsimp only at hSw); go_simp; (try with_reducible rfl))
      try simp only [Act.put, List.setIfInBounds_toArray, List.set_cons_zero, List.set_cons_succ]
      refine wpAnyH_takeL (i := 2) (v := ?v2b) rfl (by kernel_rfl) (by kernel_rfl) (by kernel_rfl) (fun _ _ _ h => h) (Or.inl ⟨by kernel_rfl, ?hy2b⟩) (by assumption) ?rest2b
      case hy2b => (intro w hSw; (try dsimp only at hSw); go_simp; (try with_reducible rfl))
      try simp only [Act.put, List.setIfInBounds_toArray, List.set_cons_zero, List.set_cons_succ]
      refine wpAnyH_takeL (i := 3) (v := ?v3b) rfl (by kernel_rfl) (by kernel_rfl) (by kernel_rfl) (fun _ _ _ h => h) (Or.inl ⟨by kernel_rfl, ?hy3b⟩) (by assumption) ?rest3b
      case hy3b => (intro w hSw; (try dsimp only at hSw); go_simp; (try with_reducible rfl))
      try simp only [Act.put, List.setIfInBounds_toArray, List.set_cons_zero, List.set_cons_succ]
      refine wpAnyH_takeL (i := 4) (v := ?v4b) rfl (by kernel_rfl) (by kernel_rfl) (by kernel_rfl) (fun _ _ _ h => h) (Or.inl ⟨by kernel_rfl, ?hy4b⟩) (by assumption) ?rest4b
      case hy4b => (intro w hSw; (try dsimp only at hSw); go_simp; (try with_reducible rfl))
      try simp only [Act.put, List.setIfInBounds_toArray, List.set_cons_zero, List.set_cons_succ]
      refine wpAnyH_takeL (i := 5) (v := ?v5b) rfl (by kernel_rfl) (by kernel_rfl) (by kernel_rfl) (fun _ _ _ h => h) (Or.inl ⟨by kernel_rfl, ?hy5b⟩) (by assumption) ?rest5b
      case hy5b => (intro w hSw; (try dsimp only at hSw); go_simp; (try with_reducible rfl))
      try simp only [Act.put, List.setIfInBounds_toArray, List.set_cons_zero, List.set_cons_succ]
      refine wpAnyH_takeL (i := 6) (v := ?v6b) rfl (by kernel_rfl) (by kernel_rfl) (by kernel_rfl) (fun _ _ _ h => h) (Or.inl ⟨by kernel_rfl, ?hy6b⟩) (by assumption) ?rest6b
      case hy6b => (intro w hSw; (try dsimp only at hSw); go_simp; (try with_reducible rfl))
      try simp only [Act.put, List.setIfInBounds_toArray, List.set_cons_zero, List.set_cons_succ]
      refine wpAnyH_takeL (i := 7) (v := ?v7b) rfl (by kernel_rfl) (by kernel_rfl) (by kernel_rfl) (fun _ _ _ h => h) (Or.inl ⟨by kernel_rfl, ?hy7b⟩) (by assumption) ?rest7b
      case hy7b => (intro w hSw; (try dsimp only at hSw); go_simp; (try with_reducible rfl))
      try simp only [Act.put, List.setIfInBounds_toArray, List.set_cons_zero, List.set_cons_succ]
      refine wpAnyH_takeL (i := 8) (v := ?v8b) rfl (by kernel_rfl) (by kernel_rfl) (by kernel_rfl) (fun _ _ _ h => h) (Or.inl ⟨by kernel_rfl, ?hy8b⟩) (by assumption) ?rest8b
      case hy8b => (intro w hSw; (try dsimp only at hSw); go_simp; (try with_reducible rfl))
      try simp only [Act.put, List.setIfInBounds_toArray, List.set_cons_zero, List.set_cons_succ]
      refine wpAnyH_takeL (i := 9) (v := ?v9b) rfl (by kernel_rfl) (by kernel_rfl) (by kernel_rfl) (fun _ _ _ h => h) (Or.inl ⟨by kernel_rfl, ?hy9b⟩) (by assumption) ?rest9b
      case hy9b => (intro w hSw; (try dsimp only at hSw); go_simp; (try with_reducible rfl))
      try simp only [Act.put, List.setIfInBounds_toArray, List.set_cons_zero, List.set_cons_succ]
      refine wpAnyH_takeL (i := 10) (v := ?v10b) rfl (by kernel_rfl) (by kernel_rfl) (by kernel_rfl) (fun _ _ _ h => h) (Or.inl ⟨by kernel_rfl, ?hy10b⟩) (by assumption) ?rest10b
      case hy10b => (intro w hSw; (try dsimp only at hSw); go_simp; (try with_reducible rfl))
      try simp only [Act.put, List.setIfInBounds_toArray, List.set_cons_zero, List.set_cons_succ]
      refine wpAnyH_takeL (i := 11) (v := ?v11b) rfl (by kernel_rfl) (by kernel_rfl) (by kernel_rfl) (fun _ _ _ h => h) (Or.inl ⟨by kernel_rfl, ?hy11b⟩) (by assumption) ?rest11b
      case hy11b => (intro w hSw; (try dsimp only at hSw); go_simp; (try with_reducible rfl))
      try simp only [Act.put, List.setIfInBounds_toArray, List.set_cons_zero, List.set_cons_succ]
      refine wpAnyH_takeL (i := 12) (v := ?v12b) rfl (by kernel_rfl) (by kernel_rfl) (by kernel_rfl) (fun _ _ _ h => h) (Or.inl ⟨by kernel_rfl, ?hy12b⟩) (by assumption) ?rest12b
      case hy12b => (intro w hSw; (try dsimp only at hSw); go_simp; (try with_reducible rfl))
      try simp only [Act.put, List.setIfInBounds_toArray, List.set_cons_zero, List.set_cons_succ]
      refine wpAnyH_takeL (i := 13) (v := ?v13b) rfl (by kernel_rfl) (by kernel_rfl) (by kernel_rfl) (fun _ _ _ h => h) (Or.inl ⟨by kernel_rfl, ?hy13b⟩) (by assumption) ?rest13b
      case hy13b => (intro w hSw; (try dsimp only at hSw); go_simp; (try with_reducible rfl))
      try simp only [Act.put, List.setIfInBounds_toArray, List.set_cons_zero, List.set_cons_succ]
      refine wpAnyH_takeL (i := 14) (v := ?v14b) rfl (by kernel_rfl) (by kernel_rfl) (by kernel_rfl) (fun _ _ _ h => h) (Or.inl ⟨by kernel_rfl, ?hy14b⟩) (by assumption) ?rest14b
      case hy14b => (intro w hSw; (try dsimp only at hSw); go_simp; (try with_reducible rfl))
      try simp only [Act.put, List.setIfInBounds_toArray, List.set_cons_zero, List.set_cons_succ]
      refine wpAnyH_takeL (i := 15) (v := ?v15b) rfl (by kernel_rfl) (by kernel_rfl) (by kernel_rfl) (fun _ _ _ h => h) (Or.inl ⟨by kernel_rfl, ?hy15b⟩) (by assumption) ?rest15b
      case hy15b => (intro w hSw; (try dsimp only at hSw); go_simp; (try with_reducible rfl))
      try simp only [Act.put, List.setIfInBounds_toArray, List.set_cons_zero, List.set_cons_succ]
      refine wpAnyH_done (by kernel_rfl) (hQ0.out _ _ ?_) _
      clear hHeld
      go_wp2_with fail
      refine bodyPost_ret (results_cell_tmp_row rfl _ _ w.heap.size _ _ _ rfl ((Blk.set (Blk.set b34.out _) _).kp (Kp.refl _).drew) Try.underlying63 (by kernel_rfl)) rfl ?_
      refine ⟨((k04.out.setCell (p := ⟨w.heap.size, 0, none⟩) (Nat.le_refl _) _).setCell (p := ⟨w.heap.size, 1, none⟩) (Nat.le_refl _) _).drew, _, _, by rw [he.out]; rfl, fun h => ?_⟩
      exact ⟨_, hmt.out, rfl, rfl⟩
    · have g1 : (sect != 1) = true := bne_iff_ne.2 h1
      have he := Aside.mk (mainE_none hr2.out (by unfold mainT; rw [hfnd.out]; show (symAt os (t0, t1)).bind _ = _; rw [hsym.out]; show (if s.sect = 1 then _ else _) = _; rw [if_neg (by rw [hse.out]; exact h1)]))
      clear h1
      refine wp_hide (fun Q0 hQ0 => ?_)
      refine wp_region_held_drew (S := fun w' => w'.cell? ⟨w2.heap.size + 1, 0, none⟩ = some (.int .i64 t0) ∧ w'.cell? ⟨w2.heap.size + 1, 1, none⟩ = some (.int .i64 t1) ∧ w'.cell? ⟨g, off + t0 * 4 + 2, none⟩ = some (.slice (some ⟨g', off', none⟩) ns cs) ∧ w'.cell? ⟨g', off' + t1 * 5 + 1, none⟩ = some (.int .i64 sect)) (by kernel_rfl) ?hS0c (fun hHeld => ?_)
      case hS0c => exact (show _ from ⟨c0, c1, r2, r1⟩)
      refine wpAnyH_takeL (i := 0) (v := ?v0c) rfl (by kernel_rfl) (by kernel_rfl) (by kernel_rfl) (fun _ _ _ h => h) (Or.inl ⟨by kernel_rfl, ?hy0c⟩) (by assumption) ?rest0c
      case hy0c => (intro w hSw; (try dsimp only at hSw); go_simp; (try with_reducible rfl))
      try simp only [Act.put, List.setIfInBounds_toArray, List.set_cons_zero, List.set_cons_succ]
      refine wpAnyH_takeL (i := 1) (v := ?v1c) rfl (by kernel_rfl) (by kernel_rfl) (by kernel_rfl) (fun _ _ _ h => h) (Or.inl ⟨by kernel_rfl, ?hy1c⟩) (by assumption) ?rest1c
      case hy1c => (intro w hSw; (try dsimp only at hSw); go_simp; (try with_reducible rfl))
      try simp only [Act.put, List.setIfInBounds_toArray, List.set_cons_zero, List.set_cons_succ]
      refine wpAnyH_takeL (i := 2) (v := ?v2c) rfl (by kernel_rfl) (by kernel_rfl) (by kernel_rfl) (fun _ _ _ h => h) (Or.inl ⟨by kernel_rfl, ?hy2c⟩) (by assumption) ?rest2c
      case hy2c => (intro w hSw; (try dsimp only at hSw); go_simp; (try with_reducible rfl))
      try simp only [Act.put, List.setIfInBounds_toArray, List.set_cons_zero, List.set_cons_succ]
      refine wpAnyH_takeL (i := 3) (v := ?v3c) rfl (by kernel_rfl) (by kernel_rfl) (by kernel_rfl) (fun _ _ _ h => h) (Or.inl ⟨by kernel_rfl, ?hy3c⟩) (by assumption) ?rest3c
      case hy3c => (intro w hSw; (try dsimp only at hSw); go_simp; (try with_reducible rfl))
      try simp only [Act.put, List.setIfInBounds_toArray, List.set_cons_zero, List.set_cons_succ]
      refine wpAnyH_takeL (i := 4) (v := ?v4c) rfl (by kernel_rfl) (by kernel_rfl) (by kernel_rfl) (fun _ _ _ h => h) (Or.inl ⟨by kernel_rfl, ?hy4c⟩) (by assumption) ?rest4c
      case hy4c => (intro w hSw; (try dsimp only at hSw); go_simp; (try with_reducible rfl))
      try simp only [Act.put, List.setIfInBounds_toArray, List.set_cons_zero, List.set_cons_succ]
      refine wpAnyH_takeL (i := 5) (v := ?v5c) rfl (by kernel_rfl) (by kernel_rfl) (by kernel_rfl) (fun _ _ _ h => h) (Or.inl ⟨by kernel_rfl, ?hy5c⟩) (by assumption) ?rest5c
      case hy5c => (intro w hSw; (try dsimp only at hSw); go_simp; (try with_reducible rfl))
      try simp only [Act.put, List.setIfInBounds_toArray, List.set_cons_zero, List.set_cons_succ]
      refine wpAnyH_takeL (i := 6) (v := ?v6c) rfl (by kernel_rfl) (by kernel_rfl) (by kernel_rfl) (fun _ _ _ h => h) (Or.inl ⟨by kernel_rfl, ?hy6c⟩) (by assumption) ?rest6c
      case hy6c => (intro w hSw; (try dsimp only at hSw); go_simp; (try with_reducible rfl))
      try simp only [Act.put, List.setIfInBounds_toArray, List.set_cons_zero, List.set_cons_succ]
      refine wpAnyH_takeL (i := 7) (v := ?v7c) rfl (by kernel_rfl) (by kernel_rfl) (by kernel_rfl) (fun _ _ _ h => h) (Or.inl ⟨by kernel_rfl, ?hy7c⟩) (by assumption) ?rest7c
      case hy7c => (intro w hSw; (try dsimp only at hSw); go_simp; (try with_reducible rfl))
      try simp only [Act.put, List.setIfInBounds_toArray, List.set_cons_zero, List.set_cons_succ]
      refine wpAnyH_takeL (i := 8) (v := ?v8c) rfl (by kernel_rfl) (by kernel_rfl) (by kernel_rfl) (fun _ _ _ h => h) (Or.inl ⟨by kernel_rfl, ?hy8c⟩) (by assumption) ?rest8c
      case hy8c => (intro w hSw; (try dsimp only at hSw); go_simp; (try with_reducible rfl))
      try simp only [Act.put, List.setIfInBounds_toArray, List.set_cons_zero, List.set_cons_succ]
      refine wpAnyH_takeL (i := 9) (v := ?v9c) rfl (by kernel_rfl) (by kernel_rfl) (by kernel_rfl) (fun _ _ _ h => h) (Or.inl ⟨by kernel_rfl, ?hy9c⟩) (by assumption) ?rest9c
      case hy9c => (intro w hSw; (try dsimp only at hSw); go_simp; (try with_reducible rfl))
      try simp only [Act.put, List.setIfInBounds_toArray, List.set_cons_zero, List.set_cons_succ]
      refine wpAnyH_takeL (i := 10) (v := ?v10c) rfl (by kernel_rfl) (by kernel_rfl) (by kernel_rfl) (fun _ _ _ h => h) (Or.inl ⟨by kernel_rfl, ?hy10c⟩) (by assumption) ?rest10c
      case hy10c => (intro w hSw; (try dsimp only at hSw); go_simp; (try with_reducible rfl))
      try simp only [Act.put, List.setIfInBounds_toArray, List.set_cons_zero, List.set_cons_succ]
      refine wpAnyH_takeL (i := 11) (v := ?v11c) rfl (by kernel_rfl) (by kernel_rfl) (by kernel_rfl) (fun _ _ _ h => h) (Or.inl ⟨by kernel_rfl, ?hy11c⟩) (by assumption) ?rest11c
      case hy11c => (intro w hSw; (try dsimp only at hSw); go_simp; (try with_reducible rfl))
      try simp only [Act.put, List.setIfInBounds_toArray, List.set_cons_zero, List.set_cons_succ]
      refine wpAnyH_takeL (i := 12) (v := ?v12c) rfl (by kernel_rfl) (by kernel_rfl) (by kernel_rfl) (fun _ _ _ h => h) (Or.inl ⟨by kernel_rfl, ?hy12c⟩) (by assumption) ?rest12c
      case hy12c => (intro w hSw; (try dsimp only at hSw); go_simp; (try with_reducible rfl))
      try simp only [Act.put, List.setIfInBounds_toArray, List.set_cons_zero, List.set_cons_succ]
      refine wpAnyH_takeL (i := 13) (v := ?v13c) rfl (by kernel_rfl) (by kernel_rfl) (by kernel_rfl) (fun _ _ _ h => h) (Or.inl ⟨by kernel_rfl, ?hy13c⟩) (by assumption) ?rest13c
      case hy13c => (intro w hSw; (try dsimp only at hSw); go_simp; (try with_reducible rfl))
      try simp only [Act.put, List.setIfInBounds_toArray, List.set_cons_zero, List.set_cons_succ]
      refine wpAnyH_takeL (i := 14) (v := ?v14c) rfl (by kernel_rfl) (by kernel_rfl) (by kernel_rfl) (fun _ _ _ h => h) (Or.inl ⟨by kernel_rfl, ?hy14c⟩) (by assumption) ?rest14c
      case hy14c => (intro w hSw; (try dsimp only at hSw); go_simp; (try with_reducible rfl))
      try simp only [Act.put, List.setIfInBounds_toArray, List.set_cons_zero, List.set_cons_succ]
      refine wpAnyH_takeL (i := 15) (v := ?v15c) rfl (by kernel_rfl) (by kernel_rfl) (by kernel_rfl) (fun _ _ _ h => h) (Or.inl ⟨by kernel_rfl, ?hy15c⟩) (by assumption) ?rest15c
      case hy15c => (intro w hSw; (try dsimp only at hSw); go_simp; (try with_reducible rfl))
      try simp only [Act.put, List.setIfInBounds_toArray, List.set_cons_zero, List.set_cons_succ]
      refine wpAnyH_done (by kernel_rfl) (hQ0.out _ _ ?_) _
      clear hHeld
      go_wp2_with fail
      refine bodyPost_ret (results_cell_tmp_row rfl _ _ w.heap.size _ _ _ rfl ((Blk.set (Blk.set b34.out _) _).kp (Kp.refl _).drew) Try.underlying63 (by kernel_rfl)) rfl ?_
      refine ⟨((k04.out.setCell (p := ⟨w.heap.size, 0, none⟩) (Nat.le_refl _) _).setCell (p := ⟨w.heap.size, 1, none⟩) (Nat.le_refl _) _).drew, _, _, by rw [he.out]; rfl, fun h => ?_⟩
      rw [he.out] at h
      cases h
end Go.Proofs.Ytnbooljaodkedaa
