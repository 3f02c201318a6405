/- The table of forms: the closure that fills it, and the whole, walked. · The table of forms, made whole. · The table of forms, read. · Bits of words and of numbers, as sums. No condition. · The small functions of a form, walked. · Fits and Encode, walked. · Plain law of reading a word back. No condition. · Plain law of relocations carried out. No condition. -/
import Derived.Test.YtnbooljaodkedaaProg
import Derived.Test.YtnbooljaodkedaaReg
import Derived.Test.YtnbooljaodkedaaPlainMach
import Derived.Maps.OwnSet
import Derived.Maps.RangeWalk
import Derived.Maps.OwnOps
import Derived.RowKit
import Derived.Laws.BitsLemmas
namespace Go.Proofs.Ytnbooljaodkedaa
open Go.RowKit Go.Maps
set_option linter.unusedVariables false
set_option linter.unusedSimpArgs false
/-- An element of the map, as it stands. -/
def RF : Value → Option (DataW Value × List MemPlace) := fun v => some (.held v, [])
def formV (kd op f3 f7 rs2 : Int) : Value := .agg #[.int .u8 kd, .int .u32 op, .int .u32 f3, .int .u32 f7, .int .i64 rs2]
def putF (D : DataW Value) (k : Int) (v : Value) : DataW Value := D.put (.int .i64 k) (.held v)
def puts (D : DataW Value) (kd op : Int) (L : List (Int × Int × Int)) : DataW Value := L.foldl (fun D x => putF D x.1 (formV kd op x.2.1 x.2.2 (-1))) D
theorem puts_snoc (D : DataW Value) (kd op : Int) (L : List (Int × Int × Int)) (x : Int × Int × Int) : puts D kd op (L ++ [x]) = putF (puts D kd op L) x.1 (formV kd op x.2.1 x.2.2 (-1)) := by
  simp [puts, List.foldl_append]
def fcells (L : List (Int × Int × Int)) : Array Value := (L.flatMap fun x => [.int .u32 x.1, .int .u32 x.2.1, .int .u32 x.2.2]).toArray
theorem fcells_at (L : List (Int × Int × Int)) (j : Nat) (x : Int × Int × Int) (h : L[j]? = some x) : (fcells L)[j * 3]? = some (.int .u32 x.1) ∧ (fcells L)[j * 3 + 1]? = some (.int .u32 x.2.1) ∧ (fcells L)[j * 3 + 2]? = some (.int .u32 x.2.2) := by
  unfold fcells
  simp only [List.getElem?_toArray]
  induction L generalizing j with
  | nil => simp at h
  | cons y r ih =>
    cases j with
    | zero =>
      simp at h
      subst h
      simp
    | succ j =>
      have := ih j (by simpa using h)
      simp only [List.flatMap_cons, List.cons_append, List.nil_append]
      have e1 : (j + 1) * 3 = j * 3 + 3 := by omega
      rw [e1]
      simpa [Nat.add_right_comm] using this
theorem lawK : Keyed Try.prog 3 := int_keyed Try.underlying3
theorem keyI {x : Int} (h : -9223372036854775808 ≤ x ∧ x ≤ 9223372036854775807) : keyOf Try.prog 3 (.int .i64 x) = some (.int .i64 x) := keyOf_int_mk Try.underlying3 (WalkArith.wf_i64 (by omega))
set_option maxRecDepth 100000 in
set_option maxHeartbeats 1000000 in
theorem many_calls (kd op : Int) (G c Bm B n len : Nat) (L : List (Int × Int × Int)) (D : DataW Value) (w : World) (ty : TypeId) (hlen : L.length = len) (h0 : 0 < len) (hn : n + len < 100000) (hr : ∀ x ∈ L, 0 ≤ x.1 ∧ x.1 ≤ 4294967295)
    (hG : w.heap[G]? = some (.cells (fcells L) ty)) (hm : w.cell? ⟨Bm, 0, none⟩ = some (.map (some B))) (hown : w.ownsMap Try.prog 3 RF B n D) :
    Calls Try.prog 72 #[.int .u8 kd, .int .u32 op, .slice (some ⟨G, 0, none⟩) len c, .pointer (some ⟨Bm, 0, none⟩)] w fun e w' => e = .returned (.tuple #[]) ∧ w'.ownsMap Try.prog 3 RF B (n + len) (puts D kd op L) ∧ w.grownBy w' (some B) := by
  have hcell : ∀ j x, L[j]? = some x → w.cell? ⟨G, j * 3, none⟩ = some (.int .u32 x.1) ∧ w.cell? ⟨G, j * 3 + 1, none⟩ = some (.int .u32 x.2.1) ∧ w.cell? ⟨G, j * 3 + 2, none⟩ = some (.int .u32 x.2.2) := by
    intro j x hx
    obtain ⟨a, b, c⟩ := fcells_at L j x hx
    simp only [World.cell?, hG]
    exact ⟨a, b, c⟩
  have hGB : some G ≠ some B := by
    obtain ⟨es, cl, hb, _⟩ := hown
    intro e
    cases e
    rw [hb] at hG
    cases hG
  have hMB : some Bm ≠ some B := by
    obtain ⟨es, cl, hb, _⟩ := hown
    intro e
    cases e
    simp [World.cell?, hb] at hm
  have hGl : G < w.heap.size := (Array.getElem?_eq_some_iff.1 hG).1
  obtain ⟨_, _, hMe, hMl⟩ := cell_some hm
  cases hMe
  replace hcell := Aside.mk hcell
  replace hm := Aside.mk hm
  replace hown := Aside.mk hown
  replace hr := Aside.mk hr
  clear hG
  go_enter Try.func72, Try.ntmps72
  go_wp2
  go_loopw [11] (fun i wr => ∃ k : Nat, k ≤ len ∧ i = .int .i64 k ∧ wr.ownsMap Try.prog 3 RF B (n + k) (puts D kd op (L.take k)) ∧ w.grownBy wr (some B)) (fun i _ => len - (intOf i).toNat)
  case atStart => exact ⟨0, Nat.zero_le _, rfl, by simpa [puts] using hown.out, World.grownBy.refl _ _⟩
  case round =>
    obtain ⟨k, hk, rfl, hw, hg⟩ := hrel
    by_cases hlt : k < len
    · obtain ⟨x, hx⟩ : ∃ x, L[k]? = some x := ⟨_, List.getElem?_eq_getElem (by omega)⟩
      obtain ⟨c1, c2, c3⟩ := hcell.out k x hx
      have b1 := hr.out x (List.mem_of_getElem? hx)
      have e0 := hg.cell hm.out hMB
      have e1 := hg.cell c1 hGB
      have e2 := hg.cell c2 hGB
      have e3 := hg.cell c3 hGB
      have ht : L.take (k + 1) = L.take k ++ [x] := by rw [List.take_add_one, hx]; rfl
      replace ht := Aside.mk ht
      clear c1 c2 c3 hx
      have hsz := hg.size
      have hm2 : Bm < wr.heap.size := by omega
      have hm3 := Nat.ne_of_lt hm2
      go_wp2_with (at_mapUpdate; refine wpList_mapUpdate_own _ rfl _ _ _ 120 rfl 3 118 lawK Try.underlying120 RF B (n + k) _ rfl (hw.alloc _) (by unfold maxLen; omega) _ _ _ rfl rfl (keyI (by omega)) _ [] rfl ?_; intro w1 hw1 hg1)
      have hgg := (hg.andThen (World.grownBy_alloc wr _ none) (by simp)).andThen hg1 (fun j hj => Or.inr hj)
      go_roundw
      case rel => exact ⟨k + 1, by omega, by go_num, by rw [ht.out, puts_snoc]; exact hw1, hgg⟩
      case measure => simp [intOf]; omega
    · obtain rfl : len = k := by omega
      go_wp2
      first | go_end0 | refine bodyPost_ret (results_none rfl _ _ _) rfl ?_
      rw [← hlen, List.take_length] at hw
      rw [← hlen]
      exact ⟨rfl, hw, hg⟩
end Go.Proofs.Ytnbooljaodkedaa
namespace Go.Proofs.Ytnbooljaodkedaa
open Go.RowKit Go.Maps
set_option linter.unusedVariables false
set_option linter.unusedSimpArgs false
/-- Threes of a list of cells. -/
def unf : List Value → List (Int × Int × Int)
  | .int _ a :: .int _ b :: .int _ c :: r => (a, b, c) :: unf r
  | _ => []
/-- The table under way. -/
structure FT (w0 w : World) (n : Nat) (D : DataW Value) : Prop where
  own : w.ownsMap Try.prog 3 RF w0.heap.size n D
  cell : w.cell? ⟨w0.heap.size + 1, 0, none⟩ = some (.map (some w0.heap.size))
  kp : Kp w0 w
theorem FT.lt {w0 w : World} {n : Nat} {D : DataW Value} (h : FT w0 w n D) : w0.heap.size + 1 < w.heap.size := by
  obtain ⟨_, _, e, hl⟩ := cell_some h.cell
  cases e
  exact hl
theorem FT.start (w : World) (ty : TypeId) : FT w ((w.alloc (.map #[] 0)).alloc (.cells #[.map (some w.heap.size)] ty)) 0 (.map []) := by
  refine ⟨(World.ownsMap_made w _ _ _).alloc _, ?_, ((Kp.refl w).alloc _).alloc _⟩
  rw [cell_new' _ _ _ _ _ (by rw [World.size_alloc])]
  rfl
theorem FT.grown {w0 w w' : World} {n n' : Nat} {D D' : DataW Value} (h : FT w0 w n D) (hg : w.grownBy w' (some w0.heap.size)) (ho : w'.ownsMap Try.prog 3 RF w0.heap.size n' D') : FT w0 w' n' D' :=
  ⟨ho, hg.cell h.cell (by simp), Kp.grown h.kp hg (fun k hk => by cases hk; exact Nat.le_refl _)⟩
theorem many_at {w0 w : World} {n : Nat} {D : DataW Value} (kd op : Int) (G c len : Nat) (cs : Array Value) (ty : TypeId) (h : FT w0 w n D) (hG : w.heap.size = G) (hcs : fcells (unf cs.toList) = cs) (hlen : (unf cs.toList).length = len) (h0 : 0 < len) (hn : n + len < 100000)
    (hr : ∀ x ∈ unf cs.toList, 0 ≤ x.1 ∧ x.1 ≤ 4294967295) :
    Calls Try.prog 72 #[.int .u8 kd, .int .u32 op, .slice (some ⟨G, 0, none⟩) len c, .pointer (some ⟨w0.heap.size + 1, 0, none⟩)] (w.alloc (.cells cs ty)) fun e w' => e = .returned (.tuple #[]) ∧ FT w0 w' (n + len) (puts D kd op (unf cs.toList)) := by
  have hl := h.lt
  refine (many_calls kd op G c (w0.heap.size + 1) w0.heap.size n len (unf cs.toList) D _ ty hlen h0 hn hr ?_ ?_ (h.own.alloc _)).mono ?_
  · rw [hcs]; exact heap_new hG
  · rw [cell_kept _ _ hl]; exact h.cell
  · rintro e w' ⟨he, ho, hg⟩
    exact ⟨he, h.grown ((World.grownBy_alloc w _ (some w0.heap.size)).andThen hg (fun j hj => Or.inr hj)) ho⟩
theorem FT.put {w0 w w' : World} {n : Nat} {D : DataW Value} (h : FT w0 w n D) {k : Int} {v : Value} (ho : w'.ownsMap Try.prog 3 RF w0.heap.size (n + 1) (D.put (.int .i64 k) (.held v))) (hg : w.grownBy w' (some w0.heap.size)) : FT w0 w' (n + 1) (putF D k v) := h.grown hg ho
/-- The table. -/
def tableD : DataW Value := putF (putF (putF (putF
  (puts (puts (puts (puts (puts (puts (puts (puts (puts (puts (puts (puts (puts (puts (puts (.map [])
  82 51 [(1, 0, 0), (2, 0, 32), (3, 1, 0), (4, 2, 0), (5, 3, 0), (6, 4, 0), (7, 5, 0), (8, 5, 32), (9, 6, 0), (10, 7, 0)])
  82 51 [(11, 0, 1), (12, 1, 1), (13, 3, 1), (14, 4, 1), (15, 5, 1), (16, 6, 1), (17, 7, 1)])
  73 19 [(18, 0, 0), (19, 2, 0), (20, 3, 0), (21, 4, 0), (22, 6, 0), (23, 7, 0)])
  72 19 [(24, 1, 0), (25, 5, 0), (26, 5, 32)])
  73 3 [(27, 0, 0), (29, 2, 0), (28, 4, 0)])
  73 103 [(41, 0, 0)])
  73 7 [(43, 3, 0)])
  83 35 [(30, 0, 0), (31, 2, 0)])
  83 39 [(44, 3, 0)])
  66 99 [(32, 0, 0), (33, 1, 0), (34, 4, 0), (35, 5, 0), (36, 6, 0), (37, 7, 0)])
  85 55 [(38, 0, 0)])
  85 23 [(39, 0, 0)])
  74 111 [(40, 0, 0)])
  69 115 [(42, 0, 0)])
  82 83 [(45, 0, 1), (46, 0, 5), (47, 0, 9), (48, 0, 13), (51, 2, 81), (52, 1, 81), (53, 0, 81)])
  49 (formV 82 83 0 17 32)) 50 (formV 82 83 1 17 32)) 54 (formV 82 83 1 97 0)) 55 (formV 82 83 0 105 0)
set_option maxRecDepth 100000 in
set_option maxHeartbeats 1000000 in
theorem forms_calls (w : World) : Calls Try.prog 45 #[] w fun e w' => e = .returned (.map (some w.heap.size)) ∧ Kp w w' ∧ w'.ownsMap Try.prog 3 RF w.heap.size 55 tableD := by
  have hmm := @run_makeMap Try.prog
  have hmf : ∀ (fn : Fn) (first cap : Array Value) (w : World), (Instr.makeFunc fn first cap).run Try.prog w = .ok (.func fn first cap) w := fun _ _ _ _ => rfl
  have hft := FT.start w 120
  go_enter Try.func45, Try.ntmps45
  go_wp2_with (first
    | (go_at_call 72; ((refine Calls.mono (many_at _ _ _ _ _ _ _ hft ?_ ?_ ?_ ?_ ?_ ?_) ?_); (first | (exact rfl) | (simp only [World.size_alloc])); (kernel_rfl); (kernel_rfl); (decide); (decide); (decide); (clear hft); (rintro e w1 ⟨rfl, hft⟩); (have hM := hft.cell)))
    | (at_mapUpdate; refine wpList_mapUpdate_own _ rfl _ _ _ 120 rfl 3 118 lawK Try.underlying120 RF _ _ _ rfl hft.own (by decide) _ _ _ rfl rfl (keyI (by decide)) _ [] rfl ?_; intro w2 hw2 hg2; have hft2 := hft.put hw2 hg2; clear hft hw2 hg2; have hft := hft2; clear hft2; have hM := hft.cell))
  go_ret
  exact ⟨rfl, hft.kp, hft.own⟩
end Go.Proofs.Ytnbooljaodkedaa
namespace Go.Proofs.Ytnbooljaodkedaa
open Go.RowKit Go.Maps Go.Proofs.Ytnbooljaodkedaa.PC
set_option linter.unusedVariables false
set_option linter.unusedSimpArgs false
instance : DecidableEq Fm := fun a b => decidable_of_iff (a.kind = b.kind ∧ a.op = b.op ∧ a.f3 = b.f3 ∧ a.f7 = b.f7 ∧ a.rs2 = b.rs2) ⟨fun h => by cases a; cases b; simp at h ⊢; exact h, fun h => by subst h; exact ⟨rfl, rfl, rfl, rfl, rfl⟩⟩
def PC.Fm.val (f : Fm) : Value := formV f.kind f.op f.f3 f.f7 f.rs2
/-- The table as it is filled. -/
def kvs : List (Int × Fm) := [
  (1, ⟨82, 51, 0, 0, -1⟩), (2, ⟨82, 51, 0, 32, -1⟩), (3, ⟨82, 51, 1, 0, -1⟩), (4, ⟨82, 51, 2, 0, -1⟩), (5, ⟨82, 51, 3, 0, -1⟩), (6, ⟨82, 51, 4, 0, -1⟩), (7, ⟨82, 51, 5, 0, -1⟩), (8, ⟨82, 51, 5, 32, -1⟩), (9, ⟨82, 51, 6, 0, -1⟩), (10, ⟨82, 51, 7, 0, -1⟩),
  (11, ⟨82, 51, 0, 1, -1⟩), (12, ⟨82, 51, 1, 1, -1⟩), (13, ⟨82, 51, 3, 1, -1⟩), (14, ⟨82, 51, 4, 1, -1⟩), (15, ⟨82, 51, 5, 1, -1⟩), (16, ⟨82, 51, 6, 1, -1⟩), (17, ⟨82, 51, 7, 1, -1⟩),
  (18, ⟨73, 19, 0, 0, -1⟩), (19, ⟨73, 19, 2, 0, -1⟩), (20, ⟨73, 19, 3, 0, -1⟩), (21, ⟨73, 19, 4, 0, -1⟩), (22, ⟨73, 19, 6, 0, -1⟩), (23, ⟨73, 19, 7, 0, -1⟩),
  (24, ⟨72, 19, 1, 0, -1⟩), (25, ⟨72, 19, 5, 0, -1⟩), (26, ⟨72, 19, 5, 32, -1⟩), (27, ⟨73, 3, 0, 0, -1⟩), (29, ⟨73, 3, 2, 0, -1⟩), (28, ⟨73, 3, 4, 0, -1⟩), (41, ⟨73, 103, 0, 0, -1⟩), (43, ⟨73, 7, 3, 0, -1⟩),
  (30, ⟨83, 35, 0, 0, -1⟩), (31, ⟨83, 35, 2, 0, -1⟩), (44, ⟨83, 39, 3, 0, -1⟩), (32, ⟨66, 99, 0, 0, -1⟩), (33, ⟨66, 99, 1, 0, -1⟩), (34, ⟨66, 99, 4, 0, -1⟩), (35, ⟨66, 99, 5, 0, -1⟩), (36, ⟨66, 99, 6, 0, -1⟩), (37, ⟨66, 99, 7, 0, -1⟩),
  (38, ⟨85, 55, 0, 0, -1⟩), (39, ⟨85, 23, 0, 0, -1⟩), (40, ⟨74, 111, 0, 0, -1⟩), (42, ⟨69, 115, 0, 0, -1⟩),
  (45, ⟨82, 83, 0, 1, -1⟩), (46, ⟨82, 83, 0, 5, -1⟩), (47, ⟨82, 83, 0, 9, -1⟩), (48, ⟨82, 83, 0, 13, -1⟩), (51, ⟨82, 83, 2, 81, -1⟩), (52, ⟨82, 83, 1, 81, -1⟩), (53, ⟨82, 83, 0, 81, -1⟩),
  (49, ⟨82, 83, 0, 17, 32⟩), (50, ⟨82, 83, 1, 17, 32⟩), (54, ⟨82, 83, 1, 97, 0⟩), (55, ⟨82, 83, 0, 105, 0⟩)]
def putL (D : DataW Value) (l : List (Int × Fm)) : DataW Value := l.foldl (fun D p => putF D p.1 p.2.val) D
theorem tableD_eq : tableD = putL (.map []) kvs := by kernel_rfl
theorem putL_isMap : ∀ (l : List (Int × Fm)) (D : DataW Value), IsMap D → IsMap (putL D l)
  | [], _, h => h
  | p :: r, D, h => putL_isMap r _ (h.put _ _)
theorem isKey (x : Int) : WideAt.IsKeyLit (.int .i64 x) := by simp [WideAt.IsKeyLit]
theorem putL_at (x : Int) (z : DataW Value) : ∀ (l : List (Int × Fm)) (D : DataW Value), IsMap D → (putL D l.reverse).atKey (.int .i64 x) z = (match l.find? (fun p => p.1 == x) with | some p => .held p.2.val | none => D.atKey (.int .i64 x) z) := by
  intro l
  induction l with
  | nil => intro D hD; simp [putL]
  | cons p l ih =>
    intro D hD
    have e : putL D (p :: l).reverse = putF (putL D l.reverse) p.1 p.2.val := by simp [putL, List.foldl_append]
    rw [e, putF]
    simp only [List.find?_cons]
    by_cases h : p.1 = x
    · subst h
      simp [atKey_put_same (putL_isMap l.reverse D hD) (isKey _)]
    · have h' : (p.1 == x) = false := by simp [h]
      rw [h', atKey_put_other (by intro e; cases e; exact h rfl)]
      exact ih D hD
theorem putL_has (x : Int) : ∀ (l : List (Int × Fm)) (D : DataW Value), IsMap D → Maps.has (putL D l.reverse) (.int .i64 x) = (Maps.has D (.int .i64 x) || (l.find? (fun p => p.1 == x)).isSome) := by
  intro l
  induction l with
  | nil => intro D hD; simp [putL]
  | cons p l ih =>
    intro D hD
    have e : putL D (p :: l).reverse = putF (putL D l.reverse) p.1 p.2.val := by simp [putL, List.foldl_append]
    rw [e, putF]
    simp only [List.find?_cons]
    by_cases h : p.1 = x
    · subst h
      simp [has_put_same (putL_isMap l.reverse D hD) (isKey _)]
    · have h' : (p.1 == x) = false := by simp [h]
      rw [h', has_put_other (by intro e; cases e; exact h rfl)]
      exact ih D hD
theorem kvs_all : (List.range 55).all (fun i => match kvs.reverse.find? (fun p => p.1 == (i : Int) + 1), tbl[i]? with | some p, some f => decide (p.2 = f) | _, _ => false) = true := by decide +kernel
theorem kvs_keys : kvs.all (fun p => decide (1 ≤ p.1 ∧ p.1 ≤ 55)) = true := by decide +kernel
theorem kvs_find (x : Int) : (kvs.reverse.find? (fun p => p.1 == x)).map (·.2) = formOf x := by
  unfold formOf
  split
  · rename_i h
    have h1 := List.all_eq_true.1 kvs_all (x - 1).toNat (List.mem_range.2 (by omega))
    have e : ((x - 1).toNat : Int) + 1 = x := by omega
    rw [e] at h1
    cases h2 : kvs.reverse.find? (fun p => p.1 == x) with
    | none => rw [h2] at h1; simp at h1
    | some p =>
      cases h3 : tbl[(x - 1).toNat]? with
      | none => rw [h2, h3] at h1; simp at h1
      | some f =>
        rw [h2, h3] at h1
        simp at h1
        simp [h1]
  · rename_i h
    cases h2 : kvs.reverse.find? (fun p => p.1 == x) with
    | none => rfl
    | some p =>
      have h3 := List.find?_some h2
      have h4 := List.mem_of_find?_eq_some h2
      have h5 := List.all_eq_true.1 kvs_keys p (List.mem_reverse.1 h4)
      simp at h3 h5
      rw [h3] at h5
      exact absurd h5 h
theorem table_at (x : Int) (z : DataW Value) : tableD.atKey (.int .i64 x) z = (match formOf x with | some f => .held f.val | none => z) := by
  rw [tableD_eq, ← List.reverse_reverse kvs, putL_at x z kvs.reverse _ isMap_empty, ← kvs_find]
  cases kvs.reverse.find? (fun p => p.1 == x) with
  | none => simp [DataW.atKey]
  | some p => rfl
theorem table_has (x : Int) : Maps.has tableD (.int .i64 x) = (formOf x).isSome := by
  rw [tableD_eq, ← List.reverse_reverse kvs, putL_has x kvs.reverse _ isMap_empty, ← kvs_find]
  cases kvs.reverse.find? (fun p => p.1 == x) with
  | none => simp [Maps.has]
  | some p => simp
end Go.Proofs.Ytnbooljaodkedaa
namespace Go.Proofs.Ytnbooljaodkedaa.PC
open Go.RowKit
theorem wraps_u32 (n : Int) (h₀ : 0 ≤ n) (h₁ : n < 2 ^ 32) : IntKind.u32.wrap n = n := by rw [IntKind.wrap_u32]; omega
theorem and_u32 (i : Nat) (hi : i ≤ 32) {x : Int} (h0 : 0 ≤ x) (h1 : x < 4294967296) : bits .and .u32 x (2 ^ i - 1) = x % 2 ^ i := bits_mask .u32 32 (by decide) wraps_u32 i hi x h0 (by simpa using h1)
theorem u32_and1 {x : Int} (h0 : 0 ≤ x) (h1 : x < 4294967296) : bits .and .u32 x 1 = x % 2 := and_u32 1 (by decide) h0 h1
theorem u32_and15 {x : Int} (h0 : 0 ≤ x) (h1 : x < 4294967296) : bits .and .u32 x 15 = x % 16 := and_u32 4 (by decide) h0 h1
theorem u32_and31 {x : Int} (h0 : 0 ≤ x) (h1 : x < 4294967296) : bits .and .u32 x 31 = x % 32 := and_u32 5 (by decide) h0 h1
theorem u32_and63 {x : Int} (h0 : 0 ≤ x) (h1 : x < 4294967296) : bits .and .u32 x 63 = x % 64 := and_u32 6 (by decide) h0 h1
theorem u32_and127 {x : Int} (h0 : 0 ≤ x) (h1 : x < 4294967296) : bits .and .u32 x 127 = x % 128 := and_u32 7 (by decide) h0 h1
theorem u32_and255 {x : Int} (h0 : 0 ≤ x) (h1 : x < 4294967296) : bits .and .u32 x 255 = x % 256 := and_u32 8 (by decide) h0 h1
theorem u32_and1023 {x : Int} (h0 : 0 ≤ x) (h1 : x < 4294967296) : bits .and .u32 x 1023 = x % 1024 := and_u32 10 (by decide) h0 h1
/-- 'or' of words: the upper one has nothing where the lower one stands. -/
theorem or_u32 (i : Nat) {x y : Int} (hx : 0 ≤ x) (hm : x % 2 ^ i = 0) (hx1 : x < 4294967296) (hy : 0 ≤ y) (hy1 : y < 2 ^ i) (hy2 : y < 4294967296) : bits .or .u32 x y = x + y :=
  bits_join .u32 32 (by decide) wraps_u32 i x y hx hm (by simpa using hx1) hy hy1 (by simpa using hy2)
theorem or_comm_u32 (x y : Int) : bits .or .u32 x y = bits .or .u32 y x := by
  unfold bits
  simp only [BitVec.or_comm]
/-- .. the lower one first. -/
theorem lo_or (i : Nat) {x y : Int} (hx : 0 ≤ x) (hm : x % 2 ^ i = 0) (hx1 : x < 4294967296) (hy : 0 ≤ y) (hy1 : y < 2 ^ i) (hy2 : y < 4294967296) : bits .or .u32 y x = y + x := by
  rw [or_comm_u32, or_u32 i hx hm hx1 hy hy1 hy2, Int.add_comm]
theorem or_assoc_u32 {x y z : Int} (hx : 0 ≤ x ∧ x < 4294967296) (hy : 0 ≤ y ∧ y < 4294967296) (hz : 0 ≤ z ∧ z < 4294967296) : bits .or .u32 (bits .or .u32 x y) z = bits .or .u32 x (bits .or .u32 y z) := by
  obtain ⟨a, rfl⟩ := Int.eq_ofNat_of_zero_le hx.1
  obtain ⟨b, rfl⟩ := Int.eq_ofNat_of_zero_le hy.1
  obtain ⟨c, rfl⟩ := Int.eq_ofNat_of_zero_le hz.1
  have ha : a < 2 ^ 32 := by omega
  have hb : b < 2 ^ 32 := by omega
  have hc : c < 2 ^ 32 := by omega
  have e := fun a b ha hb => (bits_nat .u32 32 (by decide) wraps_u32 a b ha hb).2
  rw [e a b ha hb, e b c hb hc, e _ c (Nat.or_lt_two_pow ha hb) hc, e a _ ha (Nat.or_lt_two_pow hb hc), Nat.or_assoc]
theorem or_zero_u32 {x : Int} (hx : 0 ≤ x) (hx1 : x < 4294967296) : bits .or .u32 x 0 = x := by
  have := or_u32 0 (y := 0) hx (by omega) hx1 (by decide) (by decide) (by decide)
  simpa using this
theorem toNat_ofInt64 (x : Int) : (BitVec.ofInt 64 x).toNat = (x % 18446744073709551616).toNat := by simp [BitVec.toNat_ofInt]
theorem i64_and1 (n : Int) : bits .and .i64 n 1 = n % 2 := by
  unfold bits
  have h1 : (BitVec.ofInt 64 n &&& BitVec.ofInt 64 1).toNat = (n % 2).toNat := by
    rw [BitVec.toNat_and, toNat_ofInt64, toNat_ofInt64]
    have e : ((1 : Int) % 18446744073709551616).toNat = 1 := by decide
    rw [e, Nat.and_one_is_mod]
    omega
  show IntKind.i64.wrap ((BitVec.ofInt 64 n &&& BitVec.ofInt 64 1).toNat : Int) = n % 2
  rw [h1, IntKind.wrap_i64]
  omega
/-- 'or' of numbers: the upper one, which may be below 0, has nothing where the lower one stands. -/
theorem or_i64 (i : Nat) {x y : Int} (hi : i ≤ 40) (hx : -1099511627776 ≤ x ∧ x ≤ 1099511627776) (hm : x % 2 ^ i = 0) (hy : 0 ≤ y) (hy1 : y < 2 ^ i) : bits .or .i64 x y = x + y := by
  have hp : (2 : Int) ^ i ≤ 2 ^ 40 := by
    have : 2 ^ i ≤ 2 ^ 40 := Nat.pow_le_pow_right (by decide) hi
    exact_mod_cast this
  have h40 : (2 : Int) ^ 40 = 1099511627776 := by decide
  rw [h40] at hp
  obtain ⟨b, rfl⟩ := Int.eq_ofNat_of_zero_le hy
  obtain ⟨a, ha⟩ : ∃ a : Nat, (a : Int) = x % 18446744073709551616 := ⟨(x % 18446744073709551616).toNat, by omega⟩
  have hb : b < 2 ^ i := by exact_mod_cast hy1
  have hd : (2 : Int) ^ i ∣ 18446744073709551616 := by
    have : 2 ^ i ∣ 2 ^ 64 := Nat.pow_dvd_pow 2 (by omega)
    have h64 : (18446744073709551616 : Int) = ((2 ^ 64 : Nat) : Int) := by decide
    rw [h64]
    have h2 : ((2 : Int) ^ i) = ((2 ^ i : Nat) : Int) := by simp
    rw [h2]
    exact Int.natCast_dvd_natCast.2 this
  have ham : a % 2 ^ i = 0 := by
    have h1 : (a : Int) % 2 ^ i = 0 := by rw [ha, Int.emod_emod_of_dvd _ hd, hm]
    have h2 : ((a % 2 ^ i : Nat) : Int) = (a : Int) % 2 ^ i := by simp
    have h3 : ((a % 2 ^ i : Nat) : Int) = 0 := h2.trans h1
    exact_mod_cast h3
  have hq : a = 2 ^ i * (a / 2 ^ i) := by
    have := Nat.div_add_mod a (2 ^ i)
    omega
  have hor : (BitVec.ofInt 64 x ||| BitVec.ofInt 64 (b : Int)).toNat = a + b := by
    rw [BitVec.toNat_or, toNat_ofInt64, toNat_ofInt64, ← ha]
    have e : (((b : Nat) : Int) % 18446744073709551616).toNat = b := by omega
    rw [e, Int.toNat_natCast, hq, ← Nat.two_pow_add_eq_or_of_lt hb (a / 2 ^ i)]
  unfold bits
  show IntKind.i64.wrap ((BitVec.ofInt 64 x ||| BitVec.ofInt 64 (b : Int)).toNat : Int) = x + b
  rw [hor, IntKind.wrap_i64]
  omega
/-- What 'put' comes to. -/
def putV (x f n t : Int) : Int := x / 2 ^ f.toNat % 2 ^ n.toNat * 2 ^ t.toNat % 4294967296
theorem put_val {x f n t : Int} (hx : 0 ≤ x ∧ x ≤ 4294967295) (hn : 0 ≤ n ∧ n ≤ 31) : bits .and .u32 (x / 2 ^ f.toNat) ((2 ^ n.toNat - 1) % 4294967296) * 2 ^ t.toNat % 4294967296 = putV x f n t := by
  have hf : (0 : Int) < 2 ^ f.toNat := Int.pow_pos (by decide)
  have hn2 : (2 : Int) ^ n.toNat ≤ 2 ^ 31 := by
    have : 2 ^ n.toNat ≤ 2 ^ 31 := Nat.pow_le_pow_right (by decide) (by omega)
    exact_mod_cast this
  have hn3 : (0 : Int) < 2 ^ n.toNat := Int.pow_pos (by decide)
  have h31 : (2 : Int) ^ 31 = 2147483648 := by decide
  have h1 : 0 ≤ x / 2 ^ f.toNat := Int.ediv_nonneg hx.1 (by omega)
  have h2 : x / 2 ^ f.toNat ≤ x := Int.ediv_le_self _ hx.1
  have e : ((2 : Int) ^ n.toNat - 1) % 4294967296 = 2 ^ n.toNat - 1 := by omega
  rw [e, and_u32 n.toNat (by omega) h1 (by omega), putV]
/-- An Imm's bits. -/
theorem imm_I (n : Int) : putV (n % 4294967296) 0 12 20 = immB 73 n := by
  simp only [putV, immB]
  simp
  omega
theorem imm_H (n : Int) : putV (n % 4294967296) 0 5 20 = immB 72 n := by
  simp only [putV, immB]
  simp
  omega
theorem imm_U (n : Int) : putV (n % 4294967296) 0 20 12 = immB 85 n := by
  simp only [putV, immB]
  simp
  omega
theorem imm_S (n : Int) : bits .or .u32 (putV (n % 4294967296) 0 5 7) (putV (n % 4294967296) 5 7 25) = immB 83 n := by
  have e1 : putV (n % 4294967296) 0 5 7 = n % 32 * 128 := by simp [putV]; omega
  have e2 : putV (n % 4294967296) 5 7 25 = n / 32 % 128 * 33554432 := by simp [putV]; omega
  rw [e1, e2, or_comm_u32, or_u32 25 (by omega) (by omega) (by omega) (by omega) (by omega) (by omega)]
  simp [immB]
  omega
theorem imm_B (n : Int) : bits .or .u32 (bits .or .u32 (bits .or .u32 (putV (n % 4294967296) 11 1 7) (putV (n % 4294967296) 1 4 8)) (putV (n % 4294967296) 5 6 25)) (putV (n % 4294967296) 12 1 31) = immB 66 n := by
  have e1 : putV (n % 4294967296) 11 1 7 = n / 2048 % 2 * 128 := by simp [putV]; omega
  have e2 : putV (n % 4294967296) 1 4 8 = n / 2 % 16 * 256 := by simp [putV]; omega
  have e3 : putV (n % 4294967296) 5 6 25 = n / 32 % 64 * 33554432 := by simp [putV]; omega
  have e4 : putV (n % 4294967296) 12 1 31 = n / 4096 % 2 * 2147483648 := by simp [putV]; omega
  rw [e1, e2, e3, e4]
  have b1 : 0 ≤ n / 2048 % 2 ∧ n / 2048 % 2 ≤ 1 := by omega
  have b2 : 0 ≤ n / 2 % 16 ∧ n / 2 % 16 ≤ 15 := by omega
  have b3 : 0 ≤ n / 32 % 64 ∧ n / 32 % 64 ≤ 63 := by omega
  have b4 : 0 ≤ n / 4096 % 2 ∧ n / 4096 % 2 ≤ 1 := by omega
  simp only [immB]
  simp
  generalize n / 2048 % 2 = a at *
  generalize n / 2 % 16 = b at *
  generalize n / 32 % 64 = c at *
  generalize n / 4096 % 2 = d at *
  rw [lo_or 8 (y := a * 128) (x := b * 256) (by omega) (by omega) (by omega) (by omega) (by omega) (by omega), lo_or 25 (y := a * 128 + b * 256) (x := c * 33554432) (by omega) (by omega) (by omega) (by omega) (by omega) (by omega), lo_or 31 (y := a * 128 + b * 256 + c * 33554432) (x := d * 2147483648) (by omega) (by omega) (by omega) (by omega) (by omega) (by omega)]
theorem imm_J (n : Int) : bits .or .u32 (bits .or .u32 (bits .or .u32 (putV (n % 4294967296) 12 8 12) (putV (n % 4294967296) 11 1 20)) (putV (n % 4294967296) 1 10 21)) (putV (n % 4294967296) 20 1 31) = immB 74 n := by
  have e1 : putV (n % 4294967296) 12 8 12 = n / 4096 % 256 * 4096 := by simp [putV]; omega
  have e2 : putV (n % 4294967296) 11 1 20 = n / 2048 % 2 * 1048576 := by simp [putV]; omega
  have e3 : putV (n % 4294967296) 1 10 21 = n / 2 % 1024 * 2097152 := by simp [putV]; omega
  have e4 : putV (n % 4294967296) 20 1 31 = n / 1048576 % 2 * 2147483648 := by simp [putV]; omega
  rw [e1, e2, e3, e4]
  have b1 : 0 ≤ n / 4096 % 256 ∧ n / 4096 % 256 ≤ 255 := by omega
  have b2 : 0 ≤ n / 2048 % 2 ∧ n / 2048 % 2 ≤ 1 := by omega
  have b3 : 0 ≤ n / 2 % 1024 ∧ n / 2 % 1024 ≤ 1023 := by omega
  have b4 : 0 ≤ n / 1048576 % 2 ∧ n / 1048576 % 2 ≤ 1 := by omega
  simp only [immB]
  simp
  generalize n / 4096 % 256 = a at *
  generalize n / 2048 % 2 = b at *
  generalize n / 2 % 1024 = c at *
  generalize n / 1048576 % 2 = d at *
  rw [lo_or 20 (y := a * 4096) (x := b * 1048576) (by omega) (by omega) (by omega) (by omega) (by omega) (by omega), lo_or 21 (y := a * 4096 + b * 1048576) (x := c * 2097152) (by omega) (by omega) (by omega) (by omega) (by omega) (by omega), lo_or 31 (y := a * 4096 + b * 1048576 + c * 2097152) (x := d * 2147483648) (by omega) (by omega) (by omega) (by omega) (by omega) (by omega)]
/-- The signed Imm that a word holds. -/
theorem sg_I {n : Int} (hn : 0 ≤ n ∧ n ≤ 4294967295) : wrap64 (wrap32 n / 1048576) = immOf 73 n := by
  have e : immOf 73 n = if n / 1048576 ≥ 2048 then n / 1048576 - 4096 else n / 1048576 := rfl
  rw [e]
  unfold wrap64 wrap32
  split <;> omega
theorem sg_H {n : Int} (hn : 0 ≤ n ∧ n ≤ 4294967295) : wrap64 (bits .and .u32 (n / 1048576) 31) = immOf 72 n := by
  have e : immOf 72 n = n / 1048576 % 32 := rfl
  rw [e, u32_and31 (by omega) (by omega)]
  unfold wrap64
  omega
theorem sg_S {n : Int} (hn : 0 ≤ n ∧ n ≤ 4294967295) : bits .or .i64 (wrap64 (wrap32 (wrap32 n / 33554432 * 32))) (wrap64 (bits .and .u32 (n / 128) 31)) = immOf 83 n := by
  have e : immOf 83 n = (if n / 33554432 ≥ 64 then n / 33554432 - 128 else n / 33554432) * 32 + n / 128 % 32 := rfl
  have e1 : wrap64 (wrap32 (wrap32 n / 33554432 * 32)) = (if n / 33554432 ≥ 64 then n / 33554432 - 128 else n / 33554432) * 32 := by
    unfold wrap64 wrap32
    split <;> omega
  have e2 : wrap64 (bits .and .u32 (n / 128) 31) = n / 128 % 32 := by
    rw [u32_and31 (by omega) (by omega)]
    unfold wrap64
    omega
  rw [e, e1, e2]
  have b : -128 ≤ (if n / 33554432 ≥ 64 then n / 33554432 - 128 else n / 33554432) ∧ (if n / 33554432 ≥ 64 then n / 33554432 - 128 else n / 33554432) ≤ 128 := by split <;> omega
  generalize (if n / 33554432 ≥ 64 then n / 33554432 - 128 else n / 33554432) = a at *
  exact or_i64 5 (by decide) (by omega) (by omega) (by omega) (by omega)
theorem sg_B {n : Int} (hn : 0 ≤ n ∧ n ≤ 4294967295) : bits .or .i64 (bits .or .i64 (bits .or .i64 (wrap64 (wrap32 (wrap32 n / 2147483648 * 4096))) (bits .and .u32 (n / 128) 1 * 2048 % 4294967296)) (bits .and .u32 (n / 33554432) 63 * 32 % 4294967296)) (bits .and .u32 (n / 256) 15 * 2 % 4294967296) = immOf 66 n := by
  have e : immOf 66 n = 2 * (n / 256 % 16) + 32 * (n / 33554432 % 64) + 2048 * (n / 128 % 2) - 4096 * (n / 2147483648 % 2) := rfl
  have e1 : wrap64 (wrap32 (wrap32 n / 2147483648 * 4096)) = -4096 * (n / 2147483648 % 2) := by
    unfold wrap64 wrap32
    omega
  rw [e, e1, u32_and1 (by omega) (by omega), u32_and63 (by omega) (by omega), u32_and15 (by omega) (by omega)]
  have b1 : 0 ≤ n / 2147483648 % 2 ∧ n / 2147483648 % 2 ≤ 1 := by omega
  have b2 : 0 ≤ n / 128 % 2 ∧ n / 128 % 2 ≤ 1 := by omega
  have b3 : 0 ≤ n / 33554432 % 64 ∧ n / 33554432 % 64 ≤ 63 := by omega
  have b4 : 0 ≤ n / 256 % 16 ∧ n / 256 % 16 ≤ 15 := by omega
  clear e e1 hn
  generalize n / 2147483648 % 2 = a at *
  generalize n / 128 % 2 = b at *
  generalize n / 33554432 % 64 = c at *
  generalize n / 256 % 16 = d at *
  have m1 : b * 2048 % 4294967296 = b * 2048 := by omega
  have m2 : c * 32 % 4294967296 = c * 32 := by omega
  have m3 : d * 2 % 4294967296 = d * 2 := by omega
  rw [m1, m2, m3, or_i64 12 (x := -4096 * a) (y := b * 2048) (by decide) (by omega) (by omega) (by omega) (by omega), or_i64 11 (x := -4096 * a + b * 2048) (y := c * 32) (by decide) (by omega) (by omega) (by omega) (by omega), or_i64 5 (x := -4096 * a + b * 2048 + c * 32) (y := d * 2) (by decide) (by omega) (by omega) (by omega) (by omega)]
  omega
theorem sg_U (n : Int) : n / 4096 = immOf 85 n := rfl
theorem sg_J {n : Int} (hn : 0 ≤ n ∧ n ≤ 4294967295) : bits .or .i64 (bits .or .i64 (bits .or .i64 (wrap64 (wrap32 (wrap32 n / 2147483648 * 1048576))) (bits .and .u32 (n / 4096) 255 * 4096 % 4294967296)) (bits .and .u32 (n / 1048576) 1 * 2048 % 4294967296)) (bits .and .u32 (n / 2097152) 1023 * 2 % 4294967296) = immOf 74 n := by
  have e : immOf 74 n = 2 * (n / 2097152 % 1024) + 2048 * (n / 1048576 % 2) + 4096 * (n / 4096 % 256) - 1048576 * (n / 2147483648 % 2) := rfl
  have e1 : wrap64 (wrap32 (wrap32 n / 2147483648 * 1048576)) = -1048576 * (n / 2147483648 % 2) := by
    unfold wrap64 wrap32
    omega
  rw [e, e1, u32_and1 (by omega) (by omega), u32_and255 (by omega) (by omega), u32_and1023 (by omega) (by omega)]
  have b1 : 0 ≤ n / 2147483648 % 2 ∧ n / 2147483648 % 2 ≤ 1 := by omega
  have b2 : 0 ≤ n / 4096 % 256 ∧ n / 4096 % 256 ≤ 255 := by omega
  have b3 : 0 ≤ n / 1048576 % 2 ∧ n / 1048576 % 2 ≤ 1 := by omega
  have b4 : 0 ≤ n / 2097152 % 1024 ∧ n / 2097152 % 1024 ≤ 1023 := by omega
  clear e e1 hn
  generalize n / 2147483648 % 2 = a at *
  generalize n / 4096 % 256 = b at *
  generalize n / 1048576 % 2 = c at *
  generalize n / 2097152 % 1024 = d at *
  have m1 : b * 4096 % 4294967296 = b * 4096 := by omega
  have m2 : c * 2048 % 4294967296 = c * 2048 := by omega
  have m3 : d * 2 % 4294967296 = d * 2 := by omega
  rw [m1, m2, m3, or_i64 20 (x := -1048576 * a) (y := b * 4096) (by decide) (by omega) (by omega) (by omega) (by omega), or_i64 12 (x := -1048576 * a + b * 4096) (y := c * 2048) (by decide) (by omega) (by omega) (by omega) (by omega), or_i64 11 (x := -1048576 * a + b * 4096 + c * 2048) (y := d * 2) (by decide) (by omega) (by omega) (by omega) (by omega)]
  omega
theorem immB_range (k n : Int) : 0 ≤ immB k n ∧ immB k n < 4294967296 := by
  unfold immB
  split
  · omega
  split
  · omega
  split
  · omega
  split
  · omega
  split
  · omega
  split
  · omega
  · omega
/-- Two numbers, the one's parts between the other's. -/
theorem join4 {op f3 rs1 x lo hi : Int} (ho : 0 ≤ op ∧ op < 128) (h : 0 ≤ f3 ∧ f3 ≤ 7 ∧ 0 ≤ rs1 ∧ rs1 ≤ 31 ∧ 0 ≤ x ∧ x ≤ 31) (hl : 0 ≤ lo ∧ lo ≤ 31) (hh : 0 ≤ hi ∧ hi ≤ 127) :
    bits .or .u32 (op + 0 * 128 + f3 * 4096 + rs1 * 32768 + x * 1048576 + 0 * 33554432) (lo * 128 + hi * 33554432) = op + 0 * 128 + f3 * 4096 + rs1 * 32768 + x * 1048576 + 0 * 33554432 + (lo * 128 + hi * 33554432) := by
  have hr : 0 ≤ f3 + 8 * rs1 + 256 * x ∧ f3 + 8 * rs1 + 256 * x ≤ 8191 := by omega
  have e1 : op + 0 * 128 + f3 * 4096 + rs1 * 32768 + x * 1048576 + 0 * 33554432 = op + (f3 + 8 * rs1 + 256 * x) * 4096 := by omega
  rw [e1]
  clear e1
  generalize f3 + 8 * rs1 + 256 * x = r at *
  have j1 : op + r * 4096 = bits .or .u32 op (r * 4096) := (lo_or 12 (by omega) (by omega) (by omega) (by omega) (by omega) (by omega)).symm
  have j2 : lo * 128 + hi * 33554432 = bits .or .u32 (lo * 128) (hi * 33554432) := (lo_or 25 (by omega) (by omega) (by omega) (by omega) (by omega) (by omega)).symm
  have k1 : bits .or .u32 op (lo * 128) = op + lo * 128 := lo_or 7 (by omega) (by omega) (by omega) (by omega) (by omega) (by omega)
  have k2 : bits .or .u32 (op + lo * 128) (r * 4096) = op + lo * 128 + r * 4096 := lo_or 12 (by omega) (by omega) (by omega) (by omega) (by omega) (by omega)
  have k3 : bits .or .u32 (op + lo * 128 + r * 4096) (hi * 33554432) = op + lo * 128 + r * 4096 + hi * 33554432 := lo_or 25 (by omega) (by omega) (by omega) (by omega) (by omega) (by omega)
  have fin : bits .or .u32 (op + r * 4096) (lo * 128 + hi * 33554432) = op + lo * 128 + r * 4096 + hi * 33554432 := by
    rw [j1, j2, or_assoc_u32 (by omega) (by omega) (by omega), ← or_assoc_u32 (x := r * 4096) (by omega) (by omega) (by omega), or_comm_u32 (r * 4096) (lo * 128), or_assoc_u32 (x := lo * 128) (by omega) (by omega) (by omega)]
    have j3 : bits .or .u32 (r * 4096) (hi * 33554432) = r * 4096 + hi * 33554432 := lo_or 25 (by omega) (by omega) (by omega) (by omega) (by omega) (by omega)
    rw [← or_assoc_u32 (x := op) (by omega) (by omega) (by rw [j3]; omega), k1, ← or_assoc_u32 (by omega) (by omega) (by omega), k2, k3]
  rw [fin]
  omega
/-- The word of an instruction, as the program joins it. -/
theorem word_or {f : Fm} (hf : f.good) {rd rs1 rs2 n : Int} (h : encE f rd rs1 rs2 n = 0) :
    bits .or .u32 (bits .or .u32 (bits .or .u32 (bits .or .u32 (bits .or .u32 (bits .or .u32 f.op (rd * 128)) (f.f3 * 4096)) (rs1 * 32768)) ((if f.rs2 = 32 then rs1 else rs2) * 1048576)) (f.f7 * 33554432)) (immB f.kind n) = encW f rd rs1 rs2 n := by
  obtain ⟨u1, u2, u3, u4, r1, r2, r3, r4, r5, r6, hfit⟩ := encE_zero h
  clear h
  obtain ⟨kind, op, f3, f7, r⟩ := f
  obtain ⟨g1, g2, g3, g4, g5, g6, hk⟩ := hf
  simp only [Fm.uRd, Fm.uRs1, Fm.uRs2, Fm.uImm, fitsK, encW] at *
  have hx : 0 ≤ (if r = 32 then rs1 else rs2) ∧ (if r = 32 then rs1 else rs2) ≤ 31 := by split <;> omega
  generalize hxe : (if r = 32 then rs1 else rs2) = x at *
  have W : bits .or .u32 (bits .or .u32 (bits .or .u32 (bits .or .u32 (bits .or .u32 op (rd * 128)) (f3 * 4096)) (rs1 * 32768)) (x * 1048576)) (f7 * 33554432) = op + rd * 128 + f3 * 4096 + rs1 * 32768 + x * 1048576 + f7 * 33554432 := by
    rw [lo_or 7 (y := op) (x := rd * 128) (by omega) (by omega) (by omega) (by omega) (by omega) (by omega), lo_or 12 (y := op + rd * 128) (x := f3 * 4096) (by omega) (by omega) (by omega) (by omega) (by omega) (by omega), lo_or 15 (y := op + rd * 128 + f3 * 4096) (x := rs1 * 32768) (by omega) (by omega) (by omega) (by omega) (by omega) (by omega),
      lo_or 20 (y := op + rd * 128 + f3 * 4096 + rs1 * 32768) (x := x * 1048576) (by omega) (by omega) (by omega) (by omega) (by omega) (by omega), lo_or 25 (y := op + rd * 128 + f3 * 4096 + rs1 * 32768 + x * 1048576) (x := f7 * 33554432) (by omega) (by omega) (by omega) (by omega) (by omega) (by omega)]
  rw [W]
  clear W
  have hi := immB_range kind n
  rcases hk with ⟨rfl, hr⟩ | ⟨rfl, rfl, rfl⟩ | ⟨rfl, rfl⟩ | ⟨rfl, rfl, rfl⟩ | ⟨rfl, rfl, rfl⟩ | ⟨rfl, rfl, rfl, rfl⟩ | ⟨rfl, rfl, rfl, rfl⟩ | ⟨rfl, rfl, rfl, rfl⟩
  · simp at u1 u2 u3 u4 hfit
    have e : immB 82 n = 0 := rfl
    rw [e, or_zero_u32 (by omega) (by omega)]; omega
  · simp at u1 u2 u3 u4 hfit hxe
    subst u3 hxe
    have e : immB 73 n = n % 4096 * 1048576 := rfl
    rw [e, lo_or 20 (by omega) (by omega) (by omega) (by omega) (by omega) (by omega)]
  · simp at u1 u2 u3 u4 hfit hxe
    subst u3 hxe
    have e : immB 72 n = n % 32 * 1048576 := rfl
    rw [e]
    have j1 : op + rd * 128 + f3 * 4096 + rs1 * 32768 + 0 * 1048576 + f7 * 33554432 = bits .or .u32 (op + rd * 128 + f3 * 4096 + rs1 * 32768) (f7 * 33554432) := by
      rw [lo_or 25 (by omega) (by omega) (by omega) (by omega) (by omega) (by omega)]; omega
    rw [j1, or_assoc_u32 (by omega) (by omega) (by omega), or_comm_u32 (f7 * 33554432), ← or_assoc_u32 (by omega) (by omega) (by omega), lo_or 20 (y := op + rd * 128 + f3 * 4096 + rs1 * 32768) (x := n % 32 * 1048576) (by omega) (by omega) (by omega) (by omega) (by omega) (by omega), lo_or 25 (y := op + rd * 128 + f3 * 4096 + rs1 * 32768 + n % 32 * 1048576) (x := f7 * 33554432) (by omega) (by omega) (by omega) (by omega) (by omega) (by omega)]
    omega
  · simp at u1 u2 u3 u4 hfit hxe
    subst u1 hxe
    have e : immB 83 n = n % 32 * 128 + n / 32 % 128 * 33554432 := rfl
    rw [e]
    have b1 : 0 ≤ n % 32 ∧ n % 32 ≤ 31 := by omega
    have b2 : 0 ≤ n / 32 % 128 ∧ n / 32 % 128 ≤ 127 := by omega
    clear e hfit hi
    generalize n % 32 = a at *
    generalize n / 32 % 128 = b at *
    exact join4 ⟨g1, g2⟩ (by omega) (by omega) (by omega)
  · simp at u1 u2 u3 u4 hfit hxe
    subst u1 hxe
    have e : immB 66 n = (n / 2048 % 2 + 2 * (n / 2 % 16)) * 128 + (n / 32 % 64 + 64 * (n / 4096 % 2)) * 33554432 := by
      have : immB 66 n = n / 2048 % 2 * 128 + n / 2 % 16 * 256 + n / 32 % 64 * 33554432 + n / 4096 % 2 * 2147483648 := rfl
      rw [this]; omega
    have e' : immB 66 n = n / 2048 % 2 * 128 + n / 2 % 16 * 256 + n / 32 % 64 * 33554432 + n / 4096 % 2 * 2147483648 := rfl
    rw [e]
    have b1 : 0 ≤ n / 2048 % 2 + 2 * (n / 2 % 16) ∧ n / 2048 % 2 + 2 * (n / 2 % 16) ≤ 31 := by omega
    have b2 : 0 ≤ n / 32 % 64 + 64 * (n / 4096 % 2) ∧ n / 32 % 64 + 64 * (n / 4096 % 2) ≤ 127 := by omega
    clear e e' hfit hi
    generalize n / 2048 % 2 + 2 * (n / 2 % 16) = a at *
    generalize n / 32 % 64 + 64 * (n / 4096 % 2) = b at *
    exact join4 ⟨g1, g2⟩ (by omega) (by omega) (by omega)
  · simp at u1 u2 u3 u4 hfit hxe
    subst u2 u3 hxe
    have e : immB 85 n = n % 1048576 * 4096 := rfl
    rw [e, lo_or 12 (by omega) (by omega) (by omega) (by omega) (by omega) (by omega)]
  · simp at u1 u2 u3 u4 hfit hxe
    subst u2 u3 hxe
    have e : immB 74 n = n / 4096 % 256 * 4096 + n / 2048 % 2 * 1048576 + n / 2 % 1024 * 2097152 + n / 1048576 % 2 * 2147483648 := rfl
    have e2 : immB 74 n % 4096 = 0 := by rw [e]; omega
    clear e hfit
    generalize immB 74 n = I at *
    rw [lo_or 12 (by omega) e2 (by omega) (by omega) (by omega) (by omega)]
  · simp at u1 u2 u3 u4 hfit hxe
    have e : immB 69 n = 0 := rfl
    rw [e, or_zero_u32 (by omega) (by omega)]; omega
end Go.Proofs.Ytnbooljaodkedaa.PC
namespace Go.Proofs.Ytnbooljaodkedaa
open Go.RowKit Go.Maps Go.Proofs.Ytnbooljaodkedaa.PC
set_option linter.unusedVariables false
set_option linter.unusedSimpArgs false
theorem good_kind {f : Fm} (h : f.good) : f.kind = 82 ∨ f.kind = 73 ∨ f.kind = 72 ∨ f.kind = 83 ∨ f.kind = 66 ∨ f.kind = 85 ∨ f.kind = 74 ∨ f.kind = 69 := by
  have := h.2.2.2.2.2.2
  omega
theorem put_calls (x f n t : Int) (hx : 0 ≤ x ∧ x ≤ 4294967295) (hf : 0 ≤ f ∧ f ≤ 31) (hn : 0 ≤ n ∧ n ≤ 31) (ht : 0 ≤ t ∧ t ≤ 31) (w : World) :
    Calls Try.prog 73 #[.int .u32 x, .int .u64 f, .int .u64 n, .int .u64 t] w fun e w' => e = .returned (.int .u32 (putV x f n t)) ∧ w' = w := by
  go_enter Try.func73, Try.ntmps73
  go_wp2
  go_ret
  exact ⟨congrArg (fun b => Ending.returned (Value.int .u32 b)) (put_val hx hn), rfl⟩
def usesV (f : Fm) : Value := .agg #[.bool (decide f.uRd), .bool (decide f.uRs1), .bool (decide f.uRs2), .bool (decide f.uImm)]
set_option maxHeartbeats 1000000 in
theorem uses_calls (f : Fm) (hf : f.good) (w : World) : Calls Try.prog 46 #[f.val] w fun e w' => e = .returned (usesV f) ∧ Kp w w' := by
  rcases good_kind hf with hk | hk | hk | hk | hk | hk | hk | hk <;> (obtain ⟨kd, op, f3, f7, r⟩ := f; simp only at hk; subst hk; simp only [PC.Fm.val, formV]) <;>
  · go_enter Try.func46, Try.ntmps46
    go_wp2
    refine bodyPost_ret (results_cell_row rfl _ _ (w.heap.size + 1) _ _ _ _ rfl (heap_alloc2_new _ _ _) Try.underlying122 rfl (by kernel_rfl)) rfl ?_
    exact ⟨by simp [usesV, PC.Fm.uRd, PC.Fm.uRs1, PC.Fm.uRs2, PC.Fm.uImm], by repeat (first | exact Kp.refl _ | assumption | exact Dr.kp (by assumption) | refine Kp.drewN ?_ _ | refine Kp.drew ?_ | refine Kp.alloc ?_ _ | refine Kp.setCell ?_ (by first | exact Nat.le_refl _ | assumption | omega) _ | refine Kp.trans ?_ (by assumption) | refine Kp.trans ?_ (Dr.kp (by assumption)))⟩
set_option maxHeartbeats 1000000 in
theorem fits_calls (f : Fm) (hf : f.good) (n : Int) (hn : -9223372036854775808 ≤ n ∧ n ≤ 9223372036854775807) (w : World) : Calls Try.prog 47 #[f.val, .int .i64 n] w fun e w' => e = .returned (.bool (decide (fitsK f.kind n))) ∧ Kp w w' := by
  rcases good_kind hf with hk | hk | hk | hk | hk | hk | hk | hk <;> (obtain ⟨kd, op, f3, f7, r⟩ := f; simp only at hk; subst hk; simp only [PC.Fm.val, formV]) <;>
  · go_enter Try.func47, Try.ntmps47
    go_wp2
    all_goals
      go_ret
      refine ⟨congrArg (fun b => Ending.returned (Value.bool b)) ?_, by repeat (first | exact Kp.refl _ | assumption | exact Dr.kp (by assumption) | refine Kp.drewN ?_ _ | refine Kp.drew ?_ | refine Kp.alloc ?_ _ | refine Kp.setCell ?_ (by first | exact Nat.le_refl _ | assumption | omega) _ | refine Kp.trans ?_ (by assumption) | refine Kp.trans ?_ (Dr.kp (by assumption)))⟩
      try rw [i64_and1]
      rw [Bool.eq_iff_iff]
      simp [fitsK]
      try omega
set_option maxHeartbeats 1000000 in
theorem imm_calls (f : Fm) (hf : f.good) (n : Int) (hn : -9223372036854775808 ≤ n ∧ n ≤ 9223372036854775807) (w : World) : Calls Try.prog 48 #[f.val, .int .i64 n] w fun e w' => e = .returned (.int .u32 (immB f.kind n)) ∧ Kp w w' := by
  rcases good_kind hf with hk | hk | hk | hk | hk | hk | hk | hk
  · obtain ⟨kd, op, f3, f7, r⟩ := f; simp only at hk; subst hk; simp only [PC.Fm.val, formV]
    go_enter Try.func48, Try.ntmps48
    go_wp2_with ((go_at_call 73); (refine Calls.mono (put_calls _ _ _ _ ?_ ?_ ?_ ?_ _) ?_); (omega); (decide); (decide); (decide); (rintro e w1 ⟨rfl, rfl⟩))
    go_ret
    refine ⟨congrArg (fun b => Ending.returned (Value.int .u32 b)) ?_, by repeat (first | exact Kp.refl _ | assumption | exact Dr.kp (by assumption) | refine Kp.drewN ?_ _ | refine Kp.drew ?_ | refine Kp.alloc ?_ _ | refine Kp.setCell ?_ (by first | exact Nat.le_refl _ | assumption | omega) _ | refine Kp.trans ?_ (by assumption) | refine Kp.trans ?_ (Dr.kp (by assumption)))⟩
    exact rfl
  · obtain ⟨kd, op, f3, f7, r⟩ := f; simp only at hk; subst hk; simp only [PC.Fm.val, formV]
    go_enter Try.func48, Try.ntmps48
    go_wp2_with ((go_at_call 73); (refine Calls.mono (put_calls _ _ _ _ ?_ ?_ ?_ ?_ _) ?_); (omega); (decide); (decide); (decide); (rintro e w1 ⟨rfl, rfl⟩))
    go_ret
    refine ⟨congrArg (fun b => Ending.returned (Value.int .u32 b)) ?_, by repeat (first | exact Kp.refl _ | assumption | exact Dr.kp (by assumption) | refine Kp.drewN ?_ _ | refine Kp.drew ?_ | refine Kp.alloc ?_ _ | refine Kp.setCell ?_ (by first | exact Nat.le_refl _ | assumption | omega) _ | refine Kp.trans ?_ (by assumption) | refine Kp.trans ?_ (Dr.kp (by assumption)))⟩
    exact imm_I _
  · obtain ⟨kd, op, f3, f7, r⟩ := f; simp only at hk; subst hk; simp only [PC.Fm.val, formV]
    go_enter Try.func48, Try.ntmps48
    go_wp2_with ((go_at_call 73); (refine Calls.mono (put_calls _ _ _ _ ?_ ?_ ?_ ?_ _) ?_); (omega); (decide); (decide); (decide); (rintro e w1 ⟨rfl, rfl⟩))
    go_ret
    refine ⟨congrArg (fun b => Ending.returned (Value.int .u32 b)) ?_, by repeat (first | exact Kp.refl _ | assumption | exact Dr.kp (by assumption) | refine Kp.drewN ?_ _ | refine Kp.drew ?_ | refine Kp.alloc ?_ _ | refine Kp.setCell ?_ (by first | exact Nat.le_refl _ | assumption | omega) _ | refine Kp.trans ?_ (by assumption) | refine Kp.trans ?_ (Dr.kp (by assumption)))⟩
    exact imm_H _
  · obtain ⟨kd, op, f3, f7, r⟩ := f; simp only at hk; subst hk; simp only [PC.Fm.val, formV]
    go_enter Try.func48, Try.ntmps48
    go_wp2_with ((go_at_call 73); (refine Calls.mono (put_calls _ _ _ _ ?_ ?_ ?_ ?_ _) ?_); (omega); (decide); (decide); (decide); (rintro e w1 ⟨rfl, rfl⟩))
    go_ret
    refine ⟨congrArg (fun b => Ending.returned (Value.int .u32 b)) ?_, by repeat (first | exact Kp.refl _ | assumption | exact Dr.kp (by assumption) | refine Kp.drewN ?_ _ | refine Kp.drew ?_ | refine Kp.alloc ?_ _ | refine Kp.setCell ?_ (by first | exact Nat.le_refl _ | assumption | omega) _ | refine Kp.trans ?_ (by assumption) | refine Kp.trans ?_ (Dr.kp (by assumption)))⟩
    exact imm_S _
  · obtain ⟨kd, op, f3, f7, r⟩ := f; simp only at hk; subst hk; simp only [PC.Fm.val, formV]
    go_enter Try.func48, Try.ntmps48
    go_wp2_with ((go_at_call 73); (refine Calls.mono (put_calls _ _ _ _ ?_ ?_ ?_ ?_ _) ?_); (omega); (decide); (decide); (decide); (rintro e w1 ⟨rfl, rfl⟩))
    go_ret
    refine ⟨congrArg (fun b => Ending.returned (Value.int .u32 b)) ?_, by repeat (first | exact Kp.refl _ | assumption | exact Dr.kp (by assumption) | refine Kp.drewN ?_ _ | refine Kp.drew ?_ | refine Kp.alloc ?_ _ | refine Kp.setCell ?_ (by first | exact Nat.le_refl _ | assumption | omega) _ | refine Kp.trans ?_ (by assumption) | refine Kp.trans ?_ (Dr.kp (by assumption)))⟩
    exact imm_B _
  · obtain ⟨kd, op, f3, f7, r⟩ := f; simp only at hk; subst hk; simp only [PC.Fm.val, formV]
    go_enter Try.func48, Try.ntmps48
    go_wp2_with ((go_at_call 73); (refine Calls.mono (put_calls _ _ _ _ ?_ ?_ ?_ ?_ _) ?_); (omega); (decide); (decide); (decide); (rintro e w1 ⟨rfl, rfl⟩))
    go_ret
    refine ⟨congrArg (fun b => Ending.returned (Value.int .u32 b)) ?_, by repeat (first | exact Kp.refl _ | assumption | exact Dr.kp (by assumption) | refine Kp.drewN ?_ _ | refine Kp.drew ?_ | refine Kp.alloc ?_ _ | refine Kp.setCell ?_ (by first | exact Nat.le_refl _ | assumption | omega) _ | refine Kp.trans ?_ (by assumption) | refine Kp.trans ?_ (Dr.kp (by assumption)))⟩
    exact imm_U _
  · obtain ⟨kd, op, f3, f7, r⟩ := f; simp only at hk; subst hk; simp only [PC.Fm.val, formV]
    go_enter Try.func48, Try.ntmps48
    go_wp2_with ((go_at_call 73); (refine Calls.mono (put_calls _ _ _ _ ?_ ?_ ?_ ?_ _) ?_); (omega); (decide); (decide); (decide); (rintro e w1 ⟨rfl, rfl⟩))
    go_ret
    refine ⟨congrArg (fun b => Ending.returned (Value.int .u32 b)) ?_, by repeat (first | exact Kp.refl _ | assumption | exact Dr.kp (by assumption) | refine Kp.drewN ?_ _ | refine Kp.drew ?_ | refine Kp.alloc ?_ _ | refine Kp.setCell ?_ (by first | exact Nat.le_refl _ | assumption | omega) _ | refine Kp.trans ?_ (by assumption) | refine Kp.trans ?_ (Dr.kp (by assumption)))⟩
    exact imm_J _
  · obtain ⟨kd, op, f3, f7, r⟩ := f; simp only at hk; subst hk; simp only [PC.Fm.val, formV]
    go_enter Try.func48, Try.ntmps48
    go_wp2_with ((go_at_call 73); (refine Calls.mono (put_calls _ _ _ _ ?_ ?_ ?_ ?_ _) ?_); (omega); (decide); (decide); (decide); (rintro e w1 ⟨rfl, rfl⟩))
    go_ret
    refine ⟨congrArg (fun b => Ending.returned (Value.int .u32 b)) ?_, by repeat (first | exact Kp.refl _ | assumption | exact Dr.kp (by assumption) | refine Kp.drewN ?_ _ | refine Kp.drew ?_ | refine Kp.alloc ?_ _ | refine Kp.setCell ?_ (by first | exact Nat.le_refl _ | assumption | omega) _ | refine Kp.trans ?_ (by assumption) | refine Kp.trans ?_ (Dr.kp (by assumption)))⟩
    exact rfl
set_option maxHeartbeats 1000000 in
theorem signed_calls (f : Fm) (hf : f.good) (n : Int) (hn : 0 ≤ n ∧ n ≤ 4294967295) (w : World) : Calls Try.prog 74 #[f.val, .int .u32 n] w fun e w' => e = .returned (.int .i64 (immOf f.kind n)) ∧ Kp w w' := by
  rcases good_kind hf with hk | hk | hk | hk | hk | hk | hk | hk
  · obtain ⟨kd, op, f3, f7, r⟩ := f; simp only at hk; subst hk; simp only [PC.Fm.val, formV]
    go_enter Try.func74, Try.ntmps74
    go_wp2
    go_ret
    refine ⟨congrArg (fun b => Ending.returned (Value.int .i64 b)) ?_, by repeat (first | exact Kp.refl _ | assumption | exact Dr.kp (by assumption) | refine Kp.drewN ?_ _ | refine Kp.drew ?_ | refine Kp.alloc ?_ _ | refine Kp.setCell ?_ (by first | exact Nat.le_refl _ | assumption | omega) _ | refine Kp.trans ?_ (by assumption) | refine Kp.trans ?_ (Dr.kp (by assumption)))⟩
    exact rfl
  · obtain ⟨kd, op, f3, f7, r⟩ := f; simp only at hk; subst hk; simp only [PC.Fm.val, formV]
    go_enter Try.func74, Try.ntmps74
    go_wp2
    go_ret
    refine ⟨congrArg (fun b => Ending.returned (Value.int .i64 b)) ?_, by repeat (first | exact Kp.refl _ | assumption | exact Dr.kp (by assumption) | refine Kp.drewN ?_ _ | refine Kp.drew ?_ | refine Kp.alloc ?_ _ | refine Kp.setCell ?_ (by first | exact Nat.le_refl _ | assumption | omega) _ | refine Kp.trans ?_ (by assumption) | refine Kp.trans ?_ (Dr.kp (by assumption)))⟩
    exact sg_I hn
  · obtain ⟨kd, op, f3, f7, r⟩ := f; simp only at hk; subst hk; simp only [PC.Fm.val, formV]
    go_enter Try.func74, Try.ntmps74
    go_wp2
    go_ret
    refine ⟨congrArg (fun b => Ending.returned (Value.int .i64 b)) ?_, by repeat (first | exact Kp.refl _ | assumption | exact Dr.kp (by assumption) | refine Kp.drewN ?_ _ | refine Kp.drew ?_ | refine Kp.alloc ?_ _ | refine Kp.setCell ?_ (by first | exact Nat.le_refl _ | assumption | omega) _ | refine Kp.trans ?_ (by assumption) | refine Kp.trans ?_ (Dr.kp (by assumption)))⟩
    exact sg_H hn
  · obtain ⟨kd, op, f3, f7, r⟩ := f; simp only at hk; subst hk; simp only [PC.Fm.val, formV]
    go_enter Try.func74, Try.ntmps74
    go_wp2
    go_ret
    refine ⟨congrArg (fun b => Ending.returned (Value.int .i64 b)) ?_, by repeat (first | exact Kp.refl _ | assumption | exact Dr.kp (by assumption) | refine Kp.drewN ?_ _ | refine Kp.drew ?_ | refine Kp.alloc ?_ _ | refine Kp.setCell ?_ (by first | exact Nat.le_refl _ | assumption | omega) _ | refine Kp.trans ?_ (by assumption) | refine Kp.trans ?_ (Dr.kp (by assumption)))⟩
    exact sg_S hn
  · obtain ⟨kd, op, f3, f7, r⟩ := f; simp only at hk; subst hk; simp only [PC.Fm.val, formV]
    go_enter Try.func74, Try.ntmps74
    go_wp2
    go_ret
    refine ⟨congrArg (fun b => Ending.returned (Value.int .i64 b)) ?_, by repeat (first | exact Kp.refl _ | assumption | exact Dr.kp (by assumption) | refine Kp.drewN ?_ _ | refine Kp.drew ?_ | refine Kp.alloc ?_ _ | refine Kp.setCell ?_ (by first | exact Nat.le_refl _ | assumption | omega) _ | refine Kp.trans ?_ (by assumption) | refine Kp.trans ?_ (Dr.kp (by assumption)))⟩
    exact sg_B hn
  · obtain ⟨kd, op, f3, f7, r⟩ := f; simp only at hk; subst hk; simp only [PC.Fm.val, formV]
    go_enter Try.func74, Try.ntmps74
    go_wp2
    go_ret
    refine ⟨congrArg (fun b => Ending.returned (Value.int .i64 b)) ?_, by repeat (first | exact Kp.refl _ | assumption | exact Dr.kp (by assumption) | refine Kp.drewN ?_ _ | refine Kp.drew ?_ | refine Kp.alloc ?_ _ | refine Kp.setCell ?_ (by first | exact Nat.le_refl _ | assumption | omega) _ | refine Kp.trans ?_ (by assumption) | refine Kp.trans ?_ (Dr.kp (by assumption)))⟩
    exact sg_U _
  · obtain ⟨kd, op, f3, f7, r⟩ := f; simp only at hk; subst hk; simp only [PC.Fm.val, formV]
    go_enter Try.func74, Try.ntmps74
    go_wp2
    go_ret
    refine ⟨congrArg (fun b => Ending.returned (Value.int .i64 b)) ?_, by repeat (first | exact Kp.refl _ | assumption | exact Dr.kp (by assumption) | refine Kp.drewN ?_ _ | refine Kp.drew ?_ | refine Kp.alloc ?_ _ | refine Kp.setCell ?_ (by first | exact Nat.le_refl _ | assumption | omega) _ | refine Kp.trans ?_ (by assumption) | refine Kp.trans ?_ (Dr.kp (by assumption)))⟩
    exact sg_J hn
  · obtain ⟨kd, op, f3, f7, r⟩ := f; simp only at hk; subst hk; simp only [PC.Fm.val, formV]
    go_enter Try.func74, Try.ntmps74
    go_wp2
    go_ret
    refine ⟨congrArg (fun b => Ending.returned (Value.int .i64 b)) ?_, by repeat (first | exact Kp.refl _ | assumption | exact Dr.kp (by assumption) | refine Kp.drewN ?_ _ | refine Kp.drew ?_ | refine Kp.alloc ?_ _ | refine Kp.setCell ?_ (by first | exact Nat.le_refl _ | assumption | omega) _ | refine Kp.trans ?_ (by assumption) | refine Kp.trans ?_ (Dr.kp (by assumption)))⟩
    exact rfl
end Go.Proofs.Ytnbooljaodkedaa
namespace Go.Proofs.Ytnbooljaodkedaa
open Go.RowKit Go.Maps Go.Proofs.Ytnbooljaodkedaa.PC
set_option linter.unusedVariables false
set_option linter.unusedSimpArgs false
def zeroF : Value := .agg #[.int .u8 0, .int .u32 0, .int .u32 0, .int .u32 0, .int .i64 0]
theorem zero_form (w : World) : (zeroValue 118).run Try.prog w = .ok zeroF w := by kernel_rfl
set_option maxRecDepth 100000 in
theorem look_none {w : World} {B : Nat} (h : w.ownsMap Try.prog 3 RF B 55 tableD) {op : Int} (ho : -9223372036854775808 ≤ op ∧ op ≤ 9223372036854775807) (hf : formOf op = none) :
    (Instr.lookup 120 (.map (some B)) (.int .i64 op) true).run Try.prog w = .ok (.tuple #[zeroF, .bool false]) w := by
  obtain ⟨v, ps, hrun, hv⟩ := h.look_ok lawK Try.underlying120 (zero_form w) rfl (keyI ho)
  rw [table_has, table_at, hf] at *
  injection hv with hv
  injection hv with hv _
  injection hv with hv
  rw [hrun, hv]; rfl
set_option maxRecDepth 100000 in
theorem look_some {w : World} {B : Nat} (h : w.ownsMap Try.prog 3 RF B 55 tableD) {op : Int} (ho : -9223372036854775808 ≤ op ∧ op ≤ 9223372036854775807) {f : Fm} (hf : formOf op = some f) :
    (Instr.lookup 120 (.map (some B)) (.int .i64 op) true).run Try.prog w = .ok (.tuple #[.agg #[.int .u8 f.kind, .int .u32 f.op, .int .u32 f.f3, .int .u32 f.f7, .int .i64 f.rs2], .bool true]) w := by
  obtain ⟨v, ps, hrun, hv⟩ := h.look_ok lawK Try.underlying120 (zero_form w) rfl (keyI ho)
  rw [table_has, table_at, hf] at *
  injection hv with hv
  injection hv with hv _
  injection hv with hv
  rw [hrun, hv]; rfl
/-- What 'Fits' tells. -/
def fitsOp (op n : Int) : Bool := match formOf op with | none => false | some f => decide (fitsK f.kind n)
set_option maxHeartbeats 1000000 in
theorem Fits_calls (op n : Int) (ho : -9223372036854775808 ≤ op ∧ op ≤ 9223372036854775807) (hn : -9223372036854775808 ≤ n ∧ n ≤ 9223372036854775807) (w : World) :
    Calls Try.prog 54 #[.int .i64 op, .int .i64 n] w fun e w' => e = .returned (.bool (fitsOp op n)) ∧ Kp w w' := by
  cases hf : formOf op with
  | none =>
    replace hf := Aside.mk hf
    go_enter Try.func54, Try.ntmps54
    go_wp2_with (((go_at_call 45); (refine (forms_calls _).mono ?_); (rintro e w1 ⟨rfl, kp1, hown⟩)); (have hlk := look_none hown ho hf.out); (simp only [zeroF] at hlk))
    go_ret
    exact ⟨by simp [fitsOp, hf.out], by repeat (first | exact Kp.refl _ | assumption | exact Dr.kp (by assumption) | refine Kp.drewN ?_ _ | refine Kp.drew ?_ | refine Kp.alloc ?_ _ | refine Kp.setCell ?_ (by first | exact Nat.le_refl _ | assumption | omega) _ | refine Kp.trans ?_ (by assumption) | refine Kp.trans ?_ (Dr.kp (by assumption)))⟩
  | some f =>
    have hg := (formOf_good hf).1
    replace hf := Aside.mk hf
    go_enter Try.func54, Try.ntmps54
    go_wp2_with (first | (((go_at_call 45); (refine (forms_calls _).mono ?_); (rintro e w1 ⟨rfl, kp1, hown⟩)); (have hlk := look_some hown ho hf.out)) | ((go_at_call 47); (refine Calls.mono (fits_calls f hg n hn _) ?_); (rintro e w2 ⟨rfl, kp2⟩)))
    go_ret
    exact ⟨by simp [fitsOp, hf.out], by repeat (first | exact Kp.refl _ | assumption | exact Dr.kp (by assumption) | refine Kp.drewN ?_ _ | refine Kp.drew ?_ | refine Kp.alloc ?_ _ | refine Kp.setCell ?_ (by first | exact Nat.le_refl _ | assumption | omega) _ | refine Kp.trans ?_ (by assumption) | refine Kp.trans ?_ (Dr.kp (by assumption)))⟩
end Go.Proofs.Ytnbooljaodkedaa
namespace Go.Proofs.Ytnbooljaodkedaa.PC
/-- Whether a word is of this instruction's number. -/
def Hit (op x : Int) : Prop := ∃ f, formOf op = some f ∧ encE f (cRd f x) (cRs1 f x) (cRs2 f x) (cImm f x) = 0 ∧ encW f (cRd f x) (cRs1 f x) (cRs2 f x) (cImm f x) = x
theorem hit_of {op rd rs1 rs2 n x : Int} (h : insE op rd rs1 rs2 n = 0) (hw : insW op rd rs1 rs2 n = x) : ∃ f, formOf op = some f ∧ f.sig x ∧ cRd f x = rd ∧ cRs1 f x = rs1 ∧ cRs2 f x = rs2 ∧ cImm f x = n ∧ encE f rd rs1 rs2 n = 0 ∧ encW f rd rs1 rs2 n = x := by
  obtain ⟨f, e1, e2, e3⟩ := insE_form h
  obtain ⟨_, _, a1, a2, a3, a4, as9⟩ := back (formOf_good e1).1 e2
  rw [e3] at hw
  rw [hw] at a1 a2 a3 a4 as9
  exact ⟨f, e1, as9, a1, a2, a3, a4, e2, hw⟩
theorem hit_mk {op rd rs1 rs2 n x : Int} (h : insE op rd rs1 rs2 n = 0) (hw : insW op rd rs1 rs2 n = x) : Hit op x := by
  obtain ⟨f, e1, as9, a1, a2, a3, a4, e2, e3⟩ := hit_of h hw
  exact ⟨f, e1, by rw [a1, a2, a3, a4]; exact e2, by rw [a1, a2, a3, a4]; exact e3⟩
theorem hit_sig {op x : Int} {f : Fm} (hf : formOf op = some f) (h : Hit op x) : f.sig x ∧ encE f (cRd f x) (cRs1 f x) (cRs2 f x) (cImm f x) = 0 ∧ encW f (cRd f x) (cRs1 f x) (cRs2 f x) (cImm f x) = x := by
  obtain ⟨g, e1, e2, e3⟩ := h
  rw [hf] at e1
  obtain rfl := Option.some.inj e1
  obtain ⟨_, _, _, _, _, _, as9⟩ := back (formOf_good hf).1 e2
  rw [e3] at as9
  exact ⟨as9, e2, e3⟩
/-- What reading a word comes to. -/
def DecR (x op rd rs1 rs2 n er : Int) : Prop :=
  er = 0 ∧ insE op rd rs1 rs2 n = 0 ∧ insW op rd rs1 rs2 n = x ∨ er = 2 ∧ op = 0 ∧ rd = 0 ∧ rs1 = 0 ∧ rs2 = 0 ∧ n = 0 ∧ ∀ o a b c d, ¬(insE o a b c d = 0 ∧ insW o a b c d = x)
theorem decR_none {x : Int} (h : ∀ op f, formOf op = some f → ¬Hit op x) : DecR x 0 0 0 0 0 2 := by
  refine Or.inr ⟨rfl, rfl, rfl, rfl, rfl, rfl, ?_⟩
  rintro o a b c d ⟨h1, h2⟩
  obtain ⟨f, e1, _⟩ := insE_form h1
  exact h o f e1 (hit_mk h1 h2)
theorem insE_some {op rd rs1 rs2 n : Int} {f : Fm} (hf : formOf op = some f) : insE op rd rs1 rs2 n = encE f rd rs1 rs2 n ∧ (encE f rd rs1 rs2 n = 0 → insW op rd rs1 rs2 n = encW f rd rs1 rs2 n) := by
  refine ⟨by simp [insE, hf], fun h => by simp [insW, hf, h]⟩
theorem no_hit {op x : Int} {f : Fm} (hf : formOf op = some f) (h : ¬(insE op (cRd f x) (cRs1 f x) (cRs2 f x) (cImm f x) = 0 ∧ insW op (cRd f x) (cRs1 f x) (cRs2 f x) (cImm f x) = x)) : ¬Hit op x := by
  intro hh
  obtain ⟨_, e2, e3⟩ := hit_sig hf hh
  obtain ⟨h1, h2⟩ := insE_some (rd := cRd f x) (rs1 := cRs1 f x) (rs2 := cRs2 f x) (n := cImm f x) hf
  exact h ⟨h1.trans e2, (h2 e2).trans e3⟩
theorem no_hit_op {op x : Int} {f : Fm} (hf : formOf op = some f) (h : ¬f.op = x % 128) : ¬Hit op x := fun hh => h (hit_sig hf hh).1.1.symm
theorem immOf_range {k x : Int} (hx : 0 ≤ x ∧ x ≤ 4294967295) : -9223372036854775808 ≤ immOf k x ∧ immOf k x ≤ 9223372036854775807 := by
  unfold immOf
  split
  · split <;> omega
  split
  · omega
  split
  · split <;> omega
  split
  · omega
  split
  · omega
  split
  · omega
  · omega
theorem cImm_none {f : Fm} (hf : f.good) (h : ¬f.uImm) (x : Int) : cImm f x = 0 := by
  unfold cImm immOf
  unfold Fm.uImm at h
  have := hf.2.2.2.2.2.2
  rw [if_neg (by omega), if_neg (by omega), if_neg (by omega), if_neg (by omega), if_neg (by omega), if_neg (by omega)]
end Go.Proofs.Ytnbooljaodkedaa.PC
namespace Go.Proofs.Ytnbooljaodkedaa
open Go.Proofs.Ytnbooljaodkedaa.PC Go.Proofs.Ytnbooljaodkedaa.PW
/-- The upper and the lower part of a value. -/
def hiV (v : Int) : Int := (v + 2048) % 4294967296 / 4096
def loV (v : Int) : Int := if v % 4096 ≥ 2048 then v % 4096 - 4096 else v % 4096
theorem hiV_range (v : Int) : 0 ≤ hiV v ∧ hiV v < 1048576 := by unfold hiV; omega
theorem loV_range (v : Int) : -2048 ≤ loV v ∧ loV v < 2048 := by unfold loV; split <;> omega
theorem parts_law {v : Int} (hv : U v) : (hiV v * 4096 % 4294967296 + loV v % 4294967296) % 4294967296 = v := by
  unfold U at hv
  unfold hiV loV
  split <;> omega
/-- Whether a kind may be of an instruction. -/
def ofK (k op : Int) : Prop := k = 1 ∧ op = 38 ∨ k = 2 ∧ (18 ≤ op ∧ op ≤ 23 ∨ 27 ≤ op ∧ op ≤ 29 ∨ op = 41 ∨ op = 43) ∨ k = 3 ∧ (op = 30 ∨ op = 31 ∨ op = 44) ∨ k = 4 ∧ op = 40 ∨ k = 5 ∧ 32 ≤ op ∧ op ≤ 37
instance (k op : Int) : Decidable (ofK k op) := by unfold ofK; infer_instance
/-- The Imm that a relocation puts in. -/
def immP (k v p : Int) : Int := if k = 1 then hiV v else if k = 2 ∨ k = 3 then loV v else sgn ((v - p) % 4294967296)
theorem immP_1 (v p : Int) : immP 1 v p = hiV v := rfl
theorem immP_2 (v p : Int) : immP 2 v p = loV v := rfl
theorem immP_3 (v p : Int) : immP 3 v p = loV v := rfl
theorem immP_4 (v p : Int) : immP 4 v p = sgn ((v - p) % 4294967296) := rfl
theorem immP_5 (v p : Int) : immP 5 v p = sgn ((v - p) % 4294967296) := rfl
theorem immP_range (k v p : Int) : -2147483648 ≤ immP k v p ∧ immP k v p ≤ 2147483647 := by
  have h1 := hiV_range v
  have h2 := loV_range v
  unfold immP sgn
  split
  · omega
  split
  · omega
  split <;> omega
/-- What a word becomes. -/
def PatR (k x v p W E : Int) : Prop :=
  (k < 1 ∨ 6 < k) ∧ W = 0 ∧ E = 1 ∨ k = 6 ∧ W = v ∧ E = 0 ∨
  (1 ≤ k ∧ k ≤ 5) ∧ ∃ op rd rs1 rs2 n er : Int, DecR x op rd rs1 rs2 n er ∧
    ((er ≠ 0 ∨ n ≠ 0 ∨ ¬ofK k op) ∧ W = 0 ∧ E = 2 ∨ er = 0 ∧ n = 0 ∧ ofK k op ∧ (fitsOp op (immP k v p) = false ∧ W = 0 ∧ E = 7 ∨ fitsOp op (immP k v p) = true ∧ W = insW op rd rs1 rs2 (immP k v p) ∧ E = 0))
theorem decR_unique {x a b c d g er a' b' c' d' g' er' : Int} (h : DecR x a b c d g er) (h' : DecR x a' b' c' d' g' er') : a = a' ∧ b = b' ∧ c = c' ∧ d = d' ∧ g = g' ∧ er = er' := by
  rcases h with ⟨h1, h2, h3⟩ | ⟨h1, rfl, rfl, rfl, rfl, rfl, h2⟩ <;> rcases h' with ⟨k1, k2, k3⟩ | ⟨k1, rfl, rfl, rfl, rfl, rfl, k2⟩
  · obtain ⟨r1, r2, r3, r4, r5⟩ := ins_one h2 k2 (h3.trans k3.symm)
    exact ⟨r1, r2, r3, r4, r5, h1.trans k1.symm⟩
  · exact absurd ⟨h2, h3⟩ (k2 _ _ _ _ _)
  · exact absurd ⟨k2, k3⟩ (h2 _ _ _ _ _)
  · exact ⟨rfl, rfl, rfl, rfl, rfl, h1.trans k1.symm⟩
theorem patR_unique {k x v p W E W' E' : Int} (h : PatR k x v p W E) (h' : PatR k x v p W' E') : W = W' ∧ E = E' := by
  rcases h with ⟨h1, rfl, rfl⟩ | ⟨h1, rfl, rfl⟩ | ⟨h1, op, rd, rs1, rs2, n, er, hd, h2⟩ <;> rcases h' with ⟨g1, rfl, rfl⟩ | ⟨g1, rfl, rfl⟩ | ⟨g1, op', rd', rs1', rs2', n', er', hd', g2⟩
  · exact ⟨rfl, rfl⟩
  · omega
  · omega
  · omega
  · exact ⟨rfl, rfl⟩
  · omega
  · omega
  · omega
  · obtain ⟨rfl, rfl, rfl, rfl, rfl, rfl⟩ := decR_unique hd hd'
    rcases h2 with ⟨a1, rfl, rfl⟩ | ⟨a1, a2, a3, a4⟩ <;> rcases g2 with ⟨b1, rfl, rfl⟩ | ⟨b1, b2, b3, b4⟩
    · exact ⟨rfl, rfl⟩
    · exact absurd a1 (by simp [b1, b2, b3])
    · exact absurd b1 (by simp [a1, a2, a3])
    · rcases a4 with ⟨c1, rfl, rfl⟩ | ⟨c1, rfl, rfl⟩ <;> rcases b4 with ⟨d1, rfl, rfl⟩ | ⟨d1, rfl, rfl⟩
      · exact ⟨rfl, rfl⟩
      · rw [c1] at d1; cases d1
      · rw [c1] at d1; cases d1
      · exact ⟨rfl, rfl⟩
theorem decR_of {op rd rs1 rs2 n a b c d g er : Int} (h : insE op rd rs1 rs2 n = 0) (hd : DecR (insW op rd rs1 rs2 n) a b c d g er) : er = 0 ∧ a = op ∧ b = rd ∧ c = rs1 ∧ d = rs2 ∧ g = n := by
  rcases hd with ⟨h1, h2, h3⟩ | ⟨_, _, _, _, _, _, h2⟩
  · obtain ⟨r1, r2, r3, r4, r5⟩ := ins_one h2 h h3
    exact ⟨h1, r1, r2, r3, r4, r5⟩
  · exact absurd ⟨h, rfl⟩ (h2 op rd rs1 rs2 n)
theorem insW_range (op rd rs1 rs2 n : Int) : 0 ≤ insW op rd rs1 rs2 n ∧ insW op rd rs1 rs2 n ≤ 4294967295 := by
  by_cases h : insE op rd rs1 rs2 n = 0
  · obtain ⟨f, e1, e2, e3⟩ := insE_form h
    have := back (formOf_good e1).1 e2
    rw [e3]
    omega
  · have : insW op rd rs1 rs2 n = 0 := by
      unfold insW
      unfold insE at h
      cases hf : formOf op with
      | none => rfl
      | some f =>
        rw [hf] at h
        simp only at h
        simp [h]
    omega
theorem decR_range {x a b c d g er : Int} (h : DecR x a b c d g er) : (-9223372036854775808 ≤ a ∧ a ≤ 9223372036854775807) ∧ (-9223372036854775808 ≤ g ∧ g ≤ 9223372036854775807) := by
  rcases h with ⟨_, h2, _⟩ | ⟨_, rfl, rfl, rfl, rfl, rfl, _⟩
  · obtain ⟨f, hf, e, _⟩ := insE_form h2
    obtain ⟨_, r1, r2⟩ := formOf_good hf
    obtain ⟨u1, u2, u3, u4, r1, r2, r3, r4, r5, r6, hfit⟩ := encE_zero e
    refine ⟨by omega, ?_⟩
    rcases u4 with u | rfl
    · have := hfit u
      unfold fitsK at this
      omega
    · omega
  · omega
/-- An instruction that a relocation may be of, with another Imm. -/
theorem tbl_imm : ∀ i : Fin 55, (match tbl[i.val]? with | some f => decide (¬(∃ k : Fin 6, ofK (k.val : Int) ((i.val : Int) + 1)) ∨ f.uImm) | none => false) = true := by decide +kernel
theorem ofK_imm {k op : Int} {f : Fm} (h : ofK k op) (hf : formOf op = some f) : f.uImm := by
  obtain ⟨_, o1, o2⟩ := formOf_good hf
  have hk : 1 ≤ k ∧ k ≤ 5 := by unfold ofK at h; omega
  have ht := tbl_imm ⟨(op - 1).toNat, by omega⟩
  unfold formOf at hf
  rw [if_pos ⟨o1, o2⟩] at hf
  simp only [hf] at ht
  have e : (((op - 1).toNat : Nat) : Int) + 1 = op := by omega
  rcases of_decide_eq_true ht with g | g
  · exfalso
    apply g
    refine ⟨⟨k.toNat, by omega⟩, ?_⟩
    have e2 : ((k.toNat : Nat) : Int) = k := by omega
    simp only [e, e2]
    exact h
  · exact g
theorem ins_imm {k op rd rs1 rs2 m : Int} (h : ofK k op) (h0 : insE op rd rs1 rs2 0 = 0) : insE op rd rs1 rs2 m = if fitsOp op m = true then 0 else 1 := by
  obtain ⟨f, hf, e, _⟩ := insE_form h0
  have hu := ofK_imm h hf
  obtain ⟨u1, u2, u3, u4, r1, r2, r3, r4, r5, r6, hfit⟩ := encE_zero e
  unfold insE fitsOp
  rw [hf]
  show encE f rd rs1 rs2 m = _
  unfold encE
  rw [if_neg]
  · by_cases g : fitsK f.kind m
    · rw [if_neg, if_pos (by simpa using g)]
      rintro (_ | _ | _ | _ | _ | _ | ⟨_, c⟩)
      · omega
      · omega
      · omega
      · omega
      · omega
      · omega
      · exact c g
    · rw [if_pos (Or.inr (Or.inr (Or.inr (Or.inr (Or.inr (Or.inr ⟨hu, g⟩)))))), if_neg (by simpa using g)]
  · rintro (⟨a, b⟩ | ⟨a, b⟩ | ⟨a, b⟩ | ⟨a, b⟩)
    · exact b (u1.resolve_left a)
    · exact b (u2.resolve_left a)
    · exact b (u3.resolve_left a)
    · exact a hu
end Go.Proofs.Ytnbooljaodkedaa
