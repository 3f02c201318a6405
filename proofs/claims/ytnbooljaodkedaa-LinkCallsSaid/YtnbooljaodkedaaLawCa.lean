/- LinkCalls, walked. Condition: the arguments are of their types. -/
import Derived.Test.YtnbooljaodkedaaCalS
import Derived.Test.YtnbooljaodkedaaLawMo
namespace Go.Proofs.Ytnbooljaodkedaa
open Go.RowKit Go.Maps Go.ChangeShapes Go.WideShapes Go.Proofs.Ytnbooljaodkedaa.PC Go.Proofs.Ytnbooljaodkedaa.PW
set_option linter.unusedVariables false
set_option linter.unusedSimpArgs false
def mPre (k : Nat) : List Ins := ⟨18, 5, 1, 0, 0⟩ :: ⟨18, 10, 0, 0, 0⟩ :: List.replicate k jalI
def rowL (l : Value) (k : Nat) : Row := ⟨l, 40, 5, k + 2, insC (mPre k)⟩
def rowO (o c s r : Value) (k : Nat) (Lc : List ObjC) : Row := ⟨o, 38, 4, k + 1, [c, .slice none 0 0, s, r] ++ Lc.flatMap ObjC.cells⟩
def rowS (s : Value) (k : Nat) : Row := ⟨s, 43, 5, k + 1, (mainS :: usesF k).flatMap SymV.cs⟩
def rowR (r : Value) (k : Nat) : Row := ⟨r, 46, 5, k, (relsF k).flatMap RelV.cs⟩
theorem mk4_0 {a a' b c d : Row} : ∀ j : Fin 4, j ≠ 0 → mk4 a' b c d j = mk4 a b c d j
  | 0, h => absurd rfl h
  | 1, _ => rfl
  | 2, _ => rfl
  | 3, _ => rfl
theorem mk4_1 {a b b' c d : Row} : ∀ j : Fin 4, j ≠ 1 → mk4 a b' c d j = mk4 a b c d j
  | 0, _ => rfl
  | 1, h => absurd rfl h
  | 2, _ => rfl
  | 3, _ => rfl
theorem mk4_2 {a b c c' d : Row} : ∀ j : Fin 4, j ≠ 2 → mk4 a b c' d j = mk4 a b c d j
  | 0, _ => rfl
  | 1, _ => rfl
  | 2, h => absurd rfl h
  | 3, _ => rfl
theorem mk4_3 {a b c d d' : Row} : ∀ j : Fin 4, j ≠ 3 → mk4 a b c d' j = mk4 a b c d j
  | 0, _ => rfl
  | 1, _ => rfl
  | 2, _ => rfl
  | 3, h => absurd rfl h
def startWd (w : World) : World := (((w.alloc (.cells #[.slice none 0 0, .slice none 0 0, .slice (some ⟨w.heap.size + 1 + 1, 0, none⟩) 1 1, .slice none 0 0] 38)).alloc (.cells (insC (mPre 0)).toArray 40)).alloc (.cells (([mainS].flatMap SymV.cs)).toArray 43)).alloc (.cells #[.slice none 0 0, .slice none 0 0, .slice (some ⟨w.heap.size + 1 + 1, 0, none⟩) 1 1, .slice none 0 0] 38)
theorem start_cst (w : World) : Kp w (startWd w) ∧ CSt (startWd w) w.heap.size (mk4 (rowL (.slice (some ⟨w.heap.size + 1, 0, none⟩) 2 2) 0) (rowO (.slice (some ⟨w.heap.size + 1 + 1 + 1, 0, none⟩) 1 1) (.slice none 0 0) (.slice (some ⟨w.heap.size + 1 + 1, 0, none⟩) 1 1) (.slice none 0 0) 0 []) (rowS (.slice (some ⟨w.heap.size + 1 + 1, 0, none⟩) 1 1) 0) (rowR (.slice none 0 0) 0)) [] := by
  have k0 : Kp w (w.alloc (.cells #[.slice none 0 0, .slice none 0 0, .slice (some ⟨w.heap.size + 1 + 1, 0, none⟩) 1 1, .slice none 0 0] 38)) := (Kp.refl w).alloc _
  have s0 := World.size_alloc w (.cells #[.slice none 0 0, .slice none 0 0, .slice (some ⟨w.heap.size + 1 + 1, 0, none⟩) 1 1, .slice none 0 0] 38)
  generalize hV0 : w.alloc (.cells #[.slice none 0 0, .slice none 0 0, .slice (some ⟨w.heap.size + 1 + 1, 0, none⟩) 1 1, .slice none 0 0] 38) = V0 at *
  have k1 : Kp V0 (V0.alloc (.cells (insC (mPre 0)).toArray 40)) := (Kp.refl V0).alloc _
  have o1 := World.ownsRow_lit (base := w.heap.size) (e := 40) (size := 5) V0 (insC (mPre 0)).toArray 2 (by omega) (by decide) rfl
  have s1 := World.size_alloc V0 (.cells (insC (mPre 0)).toArray 40)
  generalize hV1 : V0.alloc (.cells (insC (mPre 0)).toArray 40) = V1 at *
  have k2 : Kp V1 (V1.alloc (.cells (([mainS].flatMap SymV.cs)).toArray 43)) := (Kp.refl V1).alloc _
  have o2 := World.ownsRow_lit (base := w.heap.size) (e := 43) (size := 5) V1 (([mainS].flatMap SymV.cs)).toArray 1 (by omega) (by decide) rfl
  have s2 := World.size_alloc V1 (.cells (([mainS].flatMap SymV.cs)).toArray 43)
  generalize hV2 : V1.alloc (.cells (([mainS].flatMap SymV.cs)).toArray 43) = V2 at *
  have k3 : Kp V2 (V2.alloc (.cells #[.slice none 0 0, .slice none 0 0, .slice (some ⟨w.heap.size + 1 + 1, 0, none⟩) 1 1, .slice none 0 0] 38)) := (Kp.refl V2).alloc _
  have o3 := World.ownsRow_lit (base := w.heap.size) (e := 38) (size := 4) V2 #[.slice none 0 0, .slice none 0 0, .slice (some ⟨w.heap.size + 1 + 1, 0, none⟩) 1 1, .slice none 0 0] 1 (by omega) (by decide) rfl
  have hV3 : startWd w = V2.alloc (.cells #[.slice none 0 0, .slice none 0 0, .slice (some ⟨w.heap.size + 1 + 1, 0, none⟩) 1 1, .slice none 0 0] 38) := by rw [← hV2, ← hV1, ← hV0]; rfl
  rw [hV3]
  generalize V2.alloc (.cells #[.slice none 0 0, .slice none 0 0, .slice (some ⟨w.heap.size + 1 + 1, 0, none⟩) 1 1, .slice none 0 0] 38) = V3 at *
  rw [s0] at o1
  rw [s1, s0] at o2
  rw [s2, s1, s0] at o3
  refine ⟨k0.trans (k1.trans (k2.trans k3)), ⟨fun i => ?_, fun i j hij k hk => ?_, fun y hy => by cases hy⟩⟩
  · match i with
    | 0 => exact row_at o1 (fun j _ hj => (k2.trans k3).block hj)
    | 1 => exact o3
    | 2 => exact row_at o2 (fun j _ hj => k3.block hj)
    | 3 => exact World.ownsRow_nil _ _ _ _
  · match i, j with
    | 0, 0 => exact absurd rfl hij
    | 0, 1 => (simp [mk4, rowL, rowO, rowS, rowR, Value.ownBlock] at hk ⊢ <;> omega)
    | 0, 2 => (simp [mk4, rowL, rowO, rowS, rowR, Value.ownBlock] at hk ⊢ <;> omega)
    | 0, 3 => (simp [mk4, rowL, rowO, rowS, rowR, Value.ownBlock] at hk ⊢ <;> omega)
    | 1, 0 => (simp [mk4, rowL, rowO, rowS, rowR, Value.ownBlock] at hk ⊢ <;> omega)
    | 1, 1 => exact absurd rfl hij
    | 1, 2 => (simp [mk4, rowL, rowO, rowS, rowR, Value.ownBlock] at hk ⊢ <;> omega)
    | 1, 3 => (simp [mk4, rowL, rowO, rowS, rowR, Value.ownBlock] at hk ⊢ <;> omega)
    | 2, 0 => (simp [mk4, rowL, rowO, rowS, rowR, Value.ownBlock] at hk ⊢ <;> omega)
    | 2, 1 => (simp [mk4, rowL, rowO, rowS, rowR, Value.ownBlock] at hk ⊢ <;> omega)
    | 2, 2 => exact absurd rfl hij
    | 2, 3 => (simp [mk4, rowL, rowO, rowS, rowR, Value.ownBlock] at hk ⊢ <;> omega)
    | 3, 0 => (simp [mk4, rowL, rowO, rowS, rowR, Value.ownBlock] at hk ⊢ <;> omega)
    | 3, 1 => (simp [mk4, rowL, rowO, rowS, rowR, Value.ownBlock] at hk ⊢ <;> omega)
    | 3, 2 => (simp [mk4, rowL, rowO, rowS, rowR, Value.ownBlock] at hk ⊢ <;> omega)
    | 3, 3 => exact absurd rfl hij
set_option maxRecDepth 100000 in
theorem info_sym : ∃ i z, Try.prog.info? 43 = some i ∧ i.zero = some z ∧ i.size = 5 ∧ i.bytes = 48 ∧ z.cells.size = 5 := ⟨_, _, rfl, rfl, rfl, rfl, rfl⟩
set_option maxRecDepth 100000 in
theorem info_rel : ∃ i z, Try.prog.info? 46 = some i ∧ i.zero = some z ∧ i.size = 5 ∧ i.bytes = 40 ∧ z.cells.size = 5 := ⟨_, _, rfl, rfl, rfl, rfl, rfl⟩
set_option maxRecDepth 100000 in
theorem info_objC : ∃ i z, Try.prog.info? 38 = some i ∧ i.zero = some z ∧ i.size = 4 ∧ i.bytes = 96 ∧ z.cells.size = 4 := ⟨_, _, rfl, rfl, rfl, rfl, rfl⟩
theorem uses_snoc (k : Nat) : (mainS :: usesF (k + 1)).flatMap SymV.cs = (mainS :: usesF k).flatMap SymV.cs ++ (useF k).cs := by simp [usesF, List.range_succ]
theorem rels_snoc (k : Nat) : (relsF (k + 1)).flatMap RelV.cs = (relsF k).flatMap RelV.cs ++ (relF k).cs := by simp [relsF, List.range_succ]
theorem mPre_snoc (k : Nat) : insC (mPre (k + 1)) = insC (mPre k) ++ jalI.cs := by
  have : mPre (k + 1) = mPre k ++ [jalI] := by simp [mPre, List.replicate_succ']
  rw [this, insC_snoc]
theorem fO_G {w : World} {A : Option Addr} {c q k : Nat} {x : Int} (hA : WordsAt w A (wordsL (fP x))) (hs : SlOk A (wordsL (fP x)).length c) (hq : SymsAt w (some ⟨q, 0, none⟩) [defF k]) : ObjG w ⟨A, c, none, 0, some ⟨q, 0, none⟩, 1, none, 0, fO k x⟩ :=
  ⟨⟨rfl, rfl, rfl, rfl, hA, fun h => absurd rfl h, hq, fun h => absurd rfl h⟩, hs, ⟨Nat.le_refl _, fun _ => ⟨rfl, rfl⟩⟩⟩
theorem fs_snoc {ns : List Int} {k : Nat} {x : Int} (h : ns[k]? = some x) : fsO (ns.take (k + 1)) = fsO (ns.take k) ++ [fO k x] := by
  have hk := (List.getElem?_eq_some_iff.1 h).1
  rw [List.take_add_one, h]
  unfold fsO
  rw [show (some x).toList = [x] from rfl, List.mapIdx_append]
  simp [List.length_take, Nat.min_eq_left (Nat.le_of_lt hk)]
theorem cells_one4 (y : ObjC) : ∀ u ∈ y.cells.toArray.toList, u.oneCell' = true := by
  intro u hu
  simp only [ObjC.cells, List.mem_cons, List.not_mem_nil, or_false] at hu
  rcases hu with rfl | rfl | rfl | rfl <;> rfl
theorem turn_countC (k : Int) {n : Nat} (h0 : n ≠ 0) (h : n ≤ 1000) : ∃ j : Nat, j < n ∧ wrap64 ((IntKind.u64.wrap k).tmod (n : Int)) = (j : Int) := by
  have e : IntKind.u64.wrap k = k % 18446744073709551616 := PW.wrap_u64 k
  rw [e, Int.tmod_eq_emod_of_nonneg (by omega)]
  have h1 := Int.emod_nonneg (k % 18446744073709551616) (show (n : Int) ≠ 0 by omega)
  have h2 := Int.emod_lt_of_pos (k % 18446744073709551616) (show (0 : Int) < n by omega)
  generalize k % 18446744073709551616 % (n : Int) = y at *
  rw [PW.wrap64_id (a := y) (by omega)]
  exact ⟨y.toNat, by omega, by omega⟩
theorem cells_onesC (L : List ObjC) : ∀ u ∈ L.flatMap ObjC.cells, u.oneCell' = true := by
  intro u hu
  obtain ⟨y, _, h⟩ := List.mem_flatMap.1 hu
  exact cells_one4 y u (by simpa using h)
theorem cells_fromC {w : World} {g j : Nat} {L : List ObjC} (h : ∀ i x, (L.flatMap ObjC.cells)[i]? = some x → w.cell? ⟨g, i, none⟩ = some x) (M : List ObjC) (hM : ∀ i y, M[i]? = some y → L[j + i]? = some y) :
    ∀ i u, (M.flatMap ObjC.cells)[i]? = some u → w.cell? ((⟨g, j * 4, none⟩ : Addr).add i) = some u := by
  intro i u hu
  have e : i = i / 4 * 4 + i % 4 := by omega
  have hm : i % 4 < 4 := by omega
  rw [e, flat_get ObjC.cells_len M (i / 4) (i % 4) hm] at hu
  obtain ⟨y, hy, hu⟩ := Option.bind_eq_some_iff.1 hu
  rw [addr_add, show j * 4 + i = (j + i / 4) * 4 + i % 4 by omega]
  refine h _ _ ?_
  rw [flat_get ObjC.cells_len L _ _ hm, hM _ _ hy]
  exact hu
theorem syms_own {w : World} {b n : Nat} {v : Value} {l : List SymV} (h : w.ownsRow b 43 5 v n (l.flatMap SymV.cs)) (hn : n = l.length) : ∃ A c, v = .slice A l.length c ∧ SymsAt w A l := by
  subst hn
  obtain ⟨A, c, rfl, hf⟩ := ownL_form h
  refine ⟨A, c, rfl, fun hne => ?_⟩
  obtain ⟨g, hA, _, hg, hc⟩ := hf (fun e => hne (List.eq_nil_of_length_eq_zero (by have h5 := flat_len (z := 5) (fun s => (rfl : s.cs.length = 5)) l; rw [e] at h5; simp only [List.length_nil] at h5; omega)))
  refine ⟨g, 0, hA, hg, fun i s hs => ?_⟩
  have hi := (List.getElem?_eq_some_iff.1 hs).1
  have key : ∀ j x, j < 5 → s.cs[j]? = some x → w.cell? ⟨g, 0 + i * 5 + j, none⟩ = some x := by
    intro j x hj hx
    rw [Nat.zero_add]
    exact hc (i * 5 + j) x (by rw [flat_get (z := 5) (fun s => (rfl : s.cs.length = 5)) l i j hj, hs]; exact hx) (by omega)
  exact ⟨key 0 _ (by decide) rfl, key 1 _ (by decide) rfl, key 2 _ (by decide) rfl, key 3 _ (by decide) rfl, key 4 _ (by decide) rfl⟩
theorem rels_own {w : World} {b n : Nat} {v : Value} {l : List RelV} (h : w.ownsRow b 46 5 v n (l.flatMap RelV.cs)) (hn : n = l.length) : ∃ A c, v = .slice A l.length c ∧ RelsAt w A l := by
  subst hn
  obtain ⟨A, c, rfl, hf⟩ := ownL_form h
  refine ⟨A, c, rfl, fun hne => ?_⟩
  obtain ⟨g, hA, _, hg, hc⟩ := hf (fun e => hne (List.eq_nil_of_length_eq_zero (by have h5 := flat_len (z := 5) (fun s => (rfl : s.cs.length = 5)) l; rw [e] at h5; simp only [List.length_nil] at h5; omega)))
  refine ⟨g, 0, hA, hg, fun i s hs => ?_⟩
  have hi := (List.getElem?_eq_some_iff.1 hs).1
  have key : ∀ j x, j < 5 → s.cs[j]? = some x → w.cell? ⟨g, 0 + i * 5 + j, none⟩ = some x := by
    intro j x hj hx
    rw [Nat.zero_add]
    exact hc (i * 5 + j) x (by rw [flat_get (z := 5) (fun s => (rfl : s.cs.length = 5)) l i j hj, hs]; exact hx) (by omega)
  exact ⟨key 0 _ (by decide) rfl, key 1 _ (by decide) rfl, key 2 _ (by decide) rfl, key 3 _ (by decide) rfl, key 4 _ (by decide) rfl⟩
set_option maxRecDepth 100000 in
set_option maxHeartbeats 8000000 in
theorem calls_any {w : World} {A : Option Addr} {ln cn : Nat} {ns : List Int} (hN : BytesAt w A ns) (hn : ns.length = ln) (hb : ∀ x ∈ ns, Byte x) (hl1 : ln ≤ 9223372036854775807) (by_ : Int) (hby : -9223372036854775808 ≤ by_ ∧ by_ ≤ 9223372036854775807) :
    Calls Try.prog 4 #[.slice A ln cn, .int .i64 by_] w fun e w' => e = .returned (.bool true) ∧ Kp w w' := by
  replace hN := Aside.mk hN
  replace hn := Aside.mk hn
  replace hb := Aside.mk hb
  by_cases h10 : 10 < ln
  · have g1 : decide ((ln : Int) > 10) = true := decide_eq_true (by omega)
    go_enter Try.func4, Try.ntmps4
    go_wp2_with fail
    refine Calls.mono (awake09_calls _) ?_
    rintro e w1 ⟨rfl, k1⟩
    go_wp2_with fail
    refine Calls.mono (awake09_calls _) ?_
    rintro e w3 ⟨rfl, k3⟩
    go_wp2_with fail
    go_ret
    exact ⟨rfl, k1.trans k3⟩
  have g1 : decide ((ln : Int) > 10) = false := decide_eq_false (by omega)
  go_enter Try.func4, Try.ntmps4
  go_wp2_with fail
  refine Calls.mono (awake09_calls _) ?_
  rintro e w2 ⟨rfl, k2⟩
  replace k2 := Aside.mk k2
  go_upto_region 9 with fail
  obtain ⟨kS, cS⟩ := start_cst w2
  replace kS := Aside.mk kS
  replace cS := Aside.mk cS
  go_wp2_with fail
  go_loopw [7, 8, 9, 36] (fun l o sm i wr => ∃ (k : Nat) (s r : Value) (Lc : List ObjC), k ≤ ln ∧ i = .int .i64 k ∧ sm = .int .u32 ((ns.take k).sum) ∧ Kp w2 wr ∧ Lc.map (·.o) = fsO (ns.take k) ∧ CSt wr w2.heap.size (mk4 (rowL l k) (rowO o (.slice none 0 0) s r k Lc) (rowS s k) (rowR r k)) Lc) (fun _ _ _ i _ => ln - (intOf i).toNat)
  case atStart => exact ⟨0, _, _, [], Nat.zero_le _, rfl, rfl, kS.out, rfl, cS.out⟩
  case round =>
    obtain ⟨k, s, r, Lc, hk, rfl, rfl, kp, hLc, hcs⟩ := hrel
    clear kS cS
    by_cases hlt : k < ln
    · obtain ⟨gA, off, hA, hg, hc⟩ := hN.out (by intro e; have := hn.out; rw [e] at this; simp at this; omega)
      obtain ⟨x, hx⟩ : ∃ x, Aside (ns[k]? = some x) := ⟨_, ⟨List.getElem?_eq_getElem (by have := hn.out; omega)⟩⟩
      have hcx := hc k (by have := hn.out; omega)
      rw [List.getD_eq_getElem?_getD, hx.out] at hcx
      have hgw := Nat.lt_of_lt_of_le hg k2.out.size
      have hcr := (kp.cell (p := ⟨gA, off + k, none⟩) hgw).trans ((k2.out.cell (p := ⟨gA, off + k, none⟩) hg).trans hcx)
      have hgr := Nat.lt_of_lt_of_le hgw kp.size
      simp only [Option.getD_some] at hcr
      obtain ⟨x0, x1⟩ := hb.out x (List.mem_of_getElem? hx.out)
      obtain ⟨sm0, sm1⟩ := sum_bound (ns := ns.take k) (fun n hn => hb.out n (List.mem_of_mem_take hn))
      rw [List.length_take] at sm1
      have sm2 : (ns.take k).sum ≤ 2550 := by omega
      have hsn := Aside.mk (sum_take hx.out)
      clear hcx hc hg hgw
      subst hA
      generalize (ns.take k).sum = sm at *
      obtain ⟨gl, cl, hlv, bl, ll, ncl, hlc⟩ := own_form (by show 0 < k + 2; omega) (hcs.own 0)
      obtain ⟨go, co, hov, bo, lo, nco, hoc⟩ := own_form (by show 0 < k + 1; omega) (hcs.own 1)
      obtain ⟨gs, cs, hsv, bs, ls, ncs, hsc⟩ := own_form (by show 0 < k + 1; omega) (hcs.own 2)
      replace hlv : u7 = .slice (some ⟨gl, 0, none⟩) (k + 2) cl := hlv
      replace hov : u8 = .slice (some ⟨go, 0, none⟩) (k + 1) co := hov
      replace hsv : s = .slice (some ⟨gs, 0, none⟩) (k + 1) cs := hsv
      subst hlv hov hsv
      have o2 := hoc 2 (.slice (some ⟨gs, 0, none⟩) (k + 1) cs) rfl
      have o3 := hoc 3 r rfl
      replace hcs := Aside.mk hcs
      replace kp := Aside.mk kp
      replace hoc := trivial
      replace hlc := trivial
      replace hsc := trivial
      have dos : go ≠ gs := fun e => hcs.out.ap 1 2 (by decide) go rfl (by rw [e]; rfl)
      have cellO : Aside (∀ V, Kp wr V → V.cell? ⟨go, 2, none⟩ = some (.slice (some ⟨gs, 0, none⟩) (k + 1) cs) ∧ V.frozen? ⟨go, 2, none⟩ = false) := ⟨fun V hV => ⟨(hV.cell (p := ⟨go, 2, none⟩) lo).trans o2.1, (hV.frozen (p := ⟨go, 2, none⟩) lo).trans o2.2⟩⟩
      have i0 : (0 : Int) < ((k + 1 : Nat) : Int) := by omega
      clear ncl nco ncs
      replace o2 := trivial
      replace o3 := trivial
      go_upto_region 12 with fail
      go_cut [] (fun wx => ∃ s' : Value, Kp w2 wx ∧ wr.heap.size ≤ wx.heap.size ∧ CSt wx w2.heap.size (mk4 (rowL (.slice (some ⟨gl, 0, none⟩) (k + 2) cl) k) (rowO (.slice (some ⟨go, 0, none⟩) (k + 1) co) (.slice none 0 0) s' r k Lc) (rowS s' (k + 1)) (rowR r k)) Lc)
      case first =>
        refine wp_hide (fun Q0 hQ0 => ?_)
        refine wp_region_held_drew (S := fun V => True) (by kernel_rfl) ?hS0a (fun hHeld => ?_)
        case hS0a => exact trivial
        refine wpAnyH_takeL (i := 0) (v := ?v0a) rfl (by kernel_rfl) (by kernel_rfl) (by kernel_rfl) (fun _ _ _ h => h) (Or.inl ⟨by kernel_rfl, ?hy0a⟩) (by assumption) ?rest0a
        case hy0a => (intro w hSw; (try dsimp only at hSw); go_simp; (try with_reducible rfl))
        try simp only [Act.put, List.setIfInBounds_toArray, List.set_cons_zero, List.set_cons_succ]
        refine wpAnyH_takeL (i := 1) (v := ?v1a) rfl (by kernel_rfl) (by kernel_rfl) (by kernel_rfl) (fun _ _ _ h => h) (Or.inl ⟨by kernel_rfl, ?hy1a⟩) (by assumption) ?rest1a
        case hy1a => (intro w hSw; (try dsimp only at hSw); go_simp; (try with_reducible rfl))
        try simp only [Act.put, List.setIfInBounds_toArray, List.set_cons_zero, List.set_cons_succ]
        refine wpAnyH_takeL (i := 2) (v := ?v2a) rfl (by kernel_rfl) (by kernel_rfl) (by kernel_rfl) (fun _ _ _ h => h) (Or.inl ⟨by kernel_rfl, ?hy2a⟩) (by assumption) ?rest2a
        case hy2a => (intro w hSw; (try dsimp only at hSw); go_simp; (try with_reducible rfl))
        try simp only [Act.put, List.setIfInBounds_toArray, List.set_cons_zero, List.set_cons_succ]
        refine wpAnyH_takeL (i := 3) (v := ?v3a) rfl (by kernel_rfl) (by kernel_rfl) (by kernel_rfl) (fun _ _ _ h => h) (Or.inl ⟨by kernel_rfl, ?hy3a⟩) (by assumption) ?rest3a
        case hy3a => (intro w hSw; (try dsimp only at hSw); go_simp; (try with_reducible rfl))
        try simp only [Act.put, List.setIfInBounds_toArray, List.set_cons_zero, List.set_cons_succ]
        refine wpAnyH_takeL (i := 5) (v := ?v5a) rfl (by kernel_rfl) (by kernel_rfl) (by kernel_rfl) (fun _ _ _ h => h) (Or.inl ⟨by kernel_rfl, ?hy5a⟩) (by assumption) ?rest5a
        case hy5a => (intro w hSw; (try dsimp only at hSw); go_simp; (try with_reducible rfl))
        try simp only [Act.put, List.setIfInBounds_toArray, List.set_cons_zero, List.set_cons_succ]
        refine wpAnyH_takeL (i := 6) (v := ?v6a) rfl (by kernel_rfl) (by kernel_rfl) (by kernel_rfl) (fun _ _ _ h => h) (Or.inl ⟨by kernel_rfl, ?hy6a⟩) (by assumption) ?rest6a
        case hy6a => (intro w hSw; (try dsimp only at hSw); go_simp; (try with_reducible rfl))
        try simp only [Act.put, List.setIfInBounds_toArray, List.set_cons_zero, List.set_cons_succ]
        refine wpAnyH_ready (rs := [4, 7]) (by kernel_rfl) (by simp) ?_
        refine AllReadyH.consL rfl (fun Kx hKx => ?_) (AllReadyH.consL rfl (fun Kx hKx => ?_) AllReadyH.nil)
        have c4 := (cellO.out wr.drew (Kp.refl wr).drew).1
        try have c4b := (cellO.out w5 kp5).1
        try have c4c := (cellO.out (w5.alloc (.cells #[.string (nmF k), .int .i64 0, .int .i64 0, .int .i64 0, .bool true] 43)) (kp5.alloc _)).1
        go_simp
        refine hKx.out _ _ trivial (fun hHeld => ?_)
        clear hKx
        try simp only [Act.put, List.setIfInBounds_toArray, List.set_cons_zero, List.set_cons_succ]
        refine wpAnyH_ready (rs := [7]) (by kernel_rfl) (by simp) ?_
        refine AllReadyH.consL rfl (fun Kx hKx => ?_) AllReadyH.nil
        go_simp
        refine Calls.mono (nm_calls k (by omega) _) ?_
        rintro e w5 ⟨rfl, k5⟩
        have kp5 : Kp wr w5 := (Kp.refl wr).drew.trans k5
        refine hKx.out _ _ trivial (fun hHeld => ?_)
        clear hKx
        try simp only [Act.put, List.setIfInBounds_toArray, List.set_cons_zero, List.set_cons_succ]
        refine wpAnyH_takeL (i := 8) (v := ?v8ap) rfl (by kernel_rfl) (by kernel_rfl) (by kernel_rfl) (fun _ _ _ h => h) (Or.inl ⟨by kernel_rfl, ?hy8ap⟩) (by assumption) ?rest8ap
        case hy8ap => (intro w hSw; (try dsimp only at hSw); go_simp; (try with_reducible rfl))
        try simp only [Act.put, List.setIfInBounds_toArray, List.set_cons_zero, List.set_cons_succ]
        refine wpAnyH_ready (rs := [9]) (by kernel_rfl) (by simp) ?_
        refine AllReadyH.consL rfl (fun Kx hKx => ?_) AllReadyH.nil
        go_simp
        refine hKx.out _ _ trivial (fun hHeld => ?_)
        clear hKx
        try simp only [Act.put, List.setIfInBounds_toArray, List.set_cons_zero, List.set_cons_succ]
        refine wpAnyH_ready (rs := [10]) (by kernel_rfl) (by simp) ?_
        refine AllReadyH.consL rfl (fun Kx hKx => ?_) AllReadyH.nil
        have kp5a : Kp wr (w5.alloc (.cells (useF k).cs.toArray 43)) := kp5.alloc _
        refine step_push rfl (.tmp 45) (.tmp 50) (.tmp 49) 35 rfl w2.heap.size 43 5 48 Try.underlying35 info_sym (by decide) (.slice (some ⟨gs, 0, none⟩) (k + 1) cs) (k + 1) ((mainS :: usesF k).flatMap SymV.cs) rfl ((hcs.out.kp kp5a).own 2) w5.heap.size (useF k).cs.toArray rfl rfl (heap_new rfl) rfl (fun u hu => by simp [useF, SymV.cs] at hu; rcases hu with rfl | rfl | rfl | rfl | rfl <;> rfl) (by omega) (by omega) (Nat.le_trans kp.out.size kp5a.size) ?_
        intro gn capn w6 hown6 hg6 hb6 hlt6
        have h6 := (hcs.out.kp kp5a).push (R' := mk4 (rowL (.slice (some ⟨gl, 0, none⟩) (k + 2) cl) k) (rowO (.slice (some ⟨go, 0, none⟩) (k + 1) co) (.slice none 0 0) (.slice (some ⟨gs, 0, none⟩) (k + 1) cs) r k Lc) (rowS (.slice (some ⟨gn, 0, none⟩) (k + 1 + 1) capn) (k + 1)) (rowR r k)) 2 mk4_2 hg6 (by show w6.ownsRow w2.heap.size 43 5 (.slice (some ⟨gn, 0, none⟩) (k + 1 + 1) capn) (k + 1 + 1) ((mainS :: usesF (k + 1)).flatMap SymV.cs); rw [uses_snoc]; exact hown6) (hb6.imp (fun e => e.symm) (fun e => congrArg some e))
        have kp6 : Kp w2 w6 := (kp.out.trans kp5a).grown hg6 (fun j e => by cases e; exact bs)
        have sz6 : wr.heap.size ≤ w6.heap.size := Nat.le_trans kp5a.size hg6.size
        have c6 := hg6.cell (cellO.out _ kp5a).1 (show some go ≠ some gs from fun e => dos (Option.some.inj e))
        have f6 : w6.frozen? ⟨go, 2, none⟩ = false := (World.frozen?_of_block (hg6.block go (Nat.lt_of_lt_of_le lo kp5a.size) (fun e => dos (Option.some.inj e)))).trans (cellO.out _ kp5a).2
        refine hKx.out _ _ trivial (fun hHeld => ?_)
        clear hKx
        try simp only [Act.put, List.setIfInBounds_toArray, List.set_cons_zero, List.set_cons_succ]
        refine wpAnyH_takeL (i := 11) (v := ?v11ap) rfl (by kernel_rfl) (by kernel_rfl) (by kernel_rfl) (fun _ _ _ h => h) (Or.inl ⟨by kernel_rfl, ?hy11ap⟩) (by assumption) ?rest11ap
        case hy11ap => (intro w hSw; (try dsimp only at hSw); go_simp; (try with_reducible rfl))
        try simp only [Act.put, List.setIfInBounds_toArray, List.set_cons_zero, List.set_cons_succ]
        refine wpAnyH_takeL (i := 12) (v := ?v12ap) rfl (by kernel_rfl) (by kernel_rfl) (by kernel_rfl) (fun _ _ _ h => h) (Or.inl ⟨by kernel_rfl, ?hy12ap⟩) (by assumption) ?rest12ap
        case hy12ap => (intro w hSw; (try dsimp only at hSw); go_simp; (try with_reducible rfl))
        try simp only [Act.put, List.setIfInBounds_toArray, List.set_cons_zero, List.set_cons_succ]
        refine wpAnyH_ready (rs := [13]) (by kernel_rfl) (by simp) ?_
        refine AllReadyH.consL rfl (fun Kx hKx => ?_) AllReadyH.nil
        go_simp
        refine hKx.out _ _ trivial (fun hHeld => ?_)
        clear hKx
        try simp only [Act.put, List.setIfInBounds_toArray, List.set_cons_zero, List.set_cons_succ]
        refine wpAnyH_done (by kernel_rfl) (hQ0.out _ _ ?_) _
        rotate_left 1
        go_simp
        refine Calls.mono (nm_calls k (by omega) _) ?_
        rintro e w5 ⟨rfl, k5⟩
        have kp5 : Kp wr w5 := (Kp.refl wr).drew.trans k5
        refine hKx.out _ _ trivial (fun hHeld => ?_)
        clear hKx
        try simp only [Act.put, List.setIfInBounds_toArray, List.set_cons_zero, List.set_cons_succ]
        refine wpAnyH_takeL (i := 8) (v := ?v8aq) rfl (by kernel_rfl) (by kernel_rfl) (by kernel_rfl) (fun _ _ _ h => h) (Or.inl ⟨by kernel_rfl, ?hy8aq⟩) (by assumption) ?rest8aq
        case hy8aq => (intro w hSw; (try dsimp only at hSw); go_simp; (try with_reducible rfl))
        try simp only [Act.put, List.setIfInBounds_toArray, List.set_cons_zero, List.set_cons_succ]
        refine wpAnyH_ready (rs := [4, 9]) (by kernel_rfl) (by simp) ?_
        refine AllReadyH.consL rfl (fun Kx hKx => ?_) (AllReadyH.consL rfl (fun Kx hKx => ?_) AllReadyH.nil)
        have c4 := (cellO.out wr.drew (Kp.refl wr).drew).1
        try have c4b := (cellO.out w5 kp5).1
        try have c4c := (cellO.out (w5.alloc (.cells #[.string (nmF k), .int .i64 0, .int .i64 0, .int .i64 0, .bool true] 43)) (kp5.alloc _)).1
        go_simp
        refine hKx.out _ _ trivial (fun hHeld => ?_)
        clear hKx
        try simp only [Act.put, List.setIfInBounds_toArray, List.set_cons_zero, List.set_cons_succ]
        refine wpAnyH_ready (rs := [9]) (by kernel_rfl) (by simp) ?_
        refine AllReadyH.consL rfl (fun Kx hKx => ?_) AllReadyH.nil
        go_simp
        refine hKx.out _ _ trivial (fun hHeld => ?_)
        clear hKx
        try simp only [Act.put, List.setIfInBounds_toArray, List.set_cons_zero, List.set_cons_succ]
        refine wpAnyH_ready (rs := [10]) (by kernel_rfl) (by simp) ?_
        refine AllReadyH.consL rfl (fun Kx hKx => ?_) AllReadyH.nil
        have kp5a : Kp wr (w5.alloc (.cells (useF k).cs.toArray 43)) := kp5.alloc _
        refine step_push rfl (.tmp 45) (.tmp 50) (.tmp 49) 35 rfl w2.heap.size 43 5 48 Try.underlying35 info_sym (by decide) (.slice (some ⟨gs, 0, none⟩) (k + 1) cs) (k + 1) ((mainS :: usesF k).flatMap SymV.cs) rfl ((hcs.out.kp kp5a).own 2) w5.heap.size (useF k).cs.toArray rfl rfl (heap_new rfl) rfl (fun u hu => by simp [useF, SymV.cs] at hu; rcases hu with rfl | rfl | rfl | rfl | rfl <;> rfl) (by omega) (by omega) (Nat.le_trans kp.out.size kp5a.size) ?_
        intro gn capn w6 hown6 hg6 hb6 hlt6
        have h6 := (hcs.out.kp kp5a).push (R' := mk4 (rowL (.slice (some ⟨gl, 0, none⟩) (k + 2) cl) k) (rowO (.slice (some ⟨go, 0, none⟩) (k + 1) co) (.slice none 0 0) (.slice (some ⟨gs, 0, none⟩) (k + 1) cs) r k Lc) (rowS (.slice (some ⟨gn, 0, none⟩) (k + 1 + 1) capn) (k + 1)) (rowR r k)) 2 mk4_2 hg6 (by show w6.ownsRow w2.heap.size 43 5 (.slice (some ⟨gn, 0, none⟩) (k + 1 + 1) capn) (k + 1 + 1) ((mainS :: usesF (k + 1)).flatMap SymV.cs); rw [uses_snoc]; exact hown6) (hb6.imp (fun e => e.symm) (fun e => congrArg some e))
        have kp6 : Kp w2 w6 := (kp.out.trans kp5a).grown hg6 (fun j e => by cases e; exact bs)
        have sz6 : wr.heap.size ≤ w6.heap.size := Nat.le_trans kp5a.size hg6.size
        have c6 := hg6.cell (cellO.out _ kp5a).1 (show some go ≠ some gs from fun e => dos (Option.some.inj e))
        have f6 : w6.frozen? ⟨go, 2, none⟩ = false := (World.frozen?_of_block (hg6.block go (Nat.lt_of_lt_of_le lo kp5a.size) (fun e => dos (Option.some.inj e)))).trans (cellO.out _ kp5a).2
        refine hKx.out _ _ trivial (fun hHeld => ?_)
        clear hKx
        try simp only [Act.put, List.setIfInBounds_toArray, List.set_cons_zero, List.set_cons_succ]
        refine wpAnyH_takeL (i := 11) (v := ?v11aqp) rfl (by kernel_rfl) (by kernel_rfl) (by kernel_rfl) (fun _ _ _ h => h) (Or.inl ⟨by kernel_rfl, ?hy11aqp⟩) (by assumption) ?rest11aqp
        case hy11aqp => (intro w hSw; (try dsimp only at hSw); go_simp; (try with_reducible rfl))
        try simp only [Act.put, List.setIfInBounds_toArray, List.set_cons_zero, List.set_cons_succ]
        refine wpAnyH_takeL (i := 12) (v := ?v12aqp) rfl (by kernel_rfl) (by kernel_rfl) (by kernel_rfl) (fun _ _ _ h => h) (Or.inl ⟨by kernel_rfl, ?hy12aqp⟩) (by assumption) ?rest12aqp
        case hy12aqp => (intro w hSw; (try dsimp only at hSw); go_simp; (try with_reducible rfl))
        try simp only [Act.put, List.setIfInBounds_toArray, List.set_cons_zero, List.set_cons_succ]
        refine wpAnyH_ready (rs := [13]) (by kernel_rfl) (by simp) ?_
        refine AllReadyH.consL rfl (fun Kx hKx => ?_) AllReadyH.nil
        go_simp
        refine hKx.out _ _ trivial (fun hHeld => ?_)
        clear hKx
        try simp only [Act.put, List.setIfInBounds_toArray, List.set_cons_zero, List.set_cons_succ]
        refine wpAnyH_done (by kernel_rfl) (hQ0.out _ _ ?_) _
        rotate_left 1
        go_simp
        refine hKx.out _ _ trivial (fun hHeld => ?_)
        clear hKx
        try simp only [Act.put, List.setIfInBounds_toArray, List.set_cons_zero, List.set_cons_succ]
        refine wpAnyH_ready (rs := [4]) (by kernel_rfl) (by simp) ?_
        refine AllReadyH.consL rfl (fun Kx hKx => ?_) AllReadyH.nil
        have c4 := (cellO.out wr.drew (Kp.refl wr).drew).1
        try have c4b := (cellO.out w5 kp5).1
        try have c4c := (cellO.out (w5.alloc (.cells #[.string (nmF k), .int .i64 0, .int .i64 0, .int .i64 0, .bool true] 43)) (kp5.alloc _)).1
        go_simp
        refine hKx.out _ _ trivial (fun hHeld => ?_)
        clear hKx
        try simp only [Act.put, List.setIfInBounds_toArray, List.set_cons_zero, List.set_cons_succ]
        refine wpAnyH_ready (rs := [10]) (by kernel_rfl) (by simp) ?_
        refine AllReadyH.consL rfl (fun Kx hKx => ?_) AllReadyH.nil
        have kp5a : Kp wr (w5.alloc (.cells (useF k).cs.toArray 43)) := kp5.alloc _
        refine step_push rfl (.tmp 45) (.tmp 50) (.tmp 49) 35 rfl w2.heap.size 43 5 48 Try.underlying35 info_sym (by decide) (.slice (some ⟨gs, 0, none⟩) (k + 1) cs) (k + 1) ((mainS :: usesF k).flatMap SymV.cs) rfl ((hcs.out.kp kp5a).own 2) w5.heap.size (useF k).cs.toArray rfl rfl (heap_new rfl) rfl (fun u hu => by simp [useF, SymV.cs] at hu; rcases hu with rfl | rfl | rfl | rfl | rfl <;> rfl) (by omega) (by omega) (Nat.le_trans kp.out.size kp5a.size) ?_
        intro gn capn w6 hown6 hg6 hb6 hlt6
        have h6 := (hcs.out.kp kp5a).push (R' := mk4 (rowL (.slice (some ⟨gl, 0, none⟩) (k + 2) cl) k) (rowO (.slice (some ⟨go, 0, none⟩) (k + 1) co) (.slice none 0 0) (.slice (some ⟨gs, 0, none⟩) (k + 1) cs) r k Lc) (rowS (.slice (some ⟨gn, 0, none⟩) (k + 1 + 1) capn) (k + 1)) (rowR r k)) 2 mk4_2 hg6 (by show w6.ownsRow w2.heap.size 43 5 (.slice (some ⟨gn, 0, none⟩) (k + 1 + 1) capn) (k + 1 + 1) ((mainS :: usesF (k + 1)).flatMap SymV.cs); rw [uses_snoc]; exact hown6) (hb6.imp (fun e => e.symm) (fun e => congrArg some e))
        have kp6 : Kp w2 w6 := (kp.out.trans kp5a).grown hg6 (fun j e => by cases e; exact bs)
        have sz6 : wr.heap.size ≤ w6.heap.size := Nat.le_trans kp5a.size hg6.size
        have c6 := hg6.cell (cellO.out _ kp5a).1 (show some go ≠ some gs from fun e => dos (Option.some.inj e))
        have f6 : w6.frozen? ⟨go, 2, none⟩ = false := (World.frozen?_of_block (hg6.block go (Nat.lt_of_lt_of_le lo kp5a.size) (fun e => dos (Option.some.inj e)))).trans (cellO.out _ kp5a).2
        refine hKx.out _ _ trivial (fun hHeld => ?_)
        clear hKx
        try simp only [Act.put, List.setIfInBounds_toArray, List.set_cons_zero, List.set_cons_succ]
        refine wpAnyH_takeL (i := 11) (v := ?v11aqq) rfl (by kernel_rfl) (by kernel_rfl) (by kernel_rfl) (fun _ _ _ h => h) (Or.inl ⟨by kernel_rfl, ?hy11aqq⟩) (by assumption) ?rest11aqq
        case hy11aqq => (intro w hSw; (try dsimp only at hSw); go_simp; (try with_reducible rfl))
        try simp only [Act.put, List.setIfInBounds_toArray, List.set_cons_zero, List.set_cons_succ]
        refine wpAnyH_takeL (i := 12) (v := ?v12aqq) rfl (by kernel_rfl) (by kernel_rfl) (by kernel_rfl) (fun _ _ _ h => h) (Or.inl ⟨by kernel_rfl, ?hy12aqq⟩) (by assumption) ?rest12aqq
        case hy12aqq => (intro w hSw; (try dsimp only at hSw); go_simp; (try with_reducible rfl))
        try simp only [Act.put, List.setIfInBounds_toArray, List.set_cons_zero, List.set_cons_succ]
        refine wpAnyH_ready (rs := [13]) (by kernel_rfl) (by simp) ?_
        refine AllReadyH.consL rfl (fun Kx hKx => ?_) AllReadyH.nil
        go_simp
        refine hKx.out _ _ trivial (fun hHeld => ?_)
        clear hKx
        try simp only [Act.put, List.setIfInBounds_toArray, List.set_cons_zero, List.set_cons_succ]
        refine wpAnyH_done (by kernel_rfl) (hQ0.out _ _ ?_) _
        rotate_left 1
        rotate_left 1
        all_goals
          go_wp2_with fail
          go_meet
          have hgr := grown_set w6 go 2 (.slice (some ⟨gn, 0, none⟩) (k + 1 + 1) capn)
          refine ⟨.slice (some ⟨gn, 0, none⟩) (k + 1 + 1) capn, kp6.setCell (p := ⟨go, 2, none⟩) bo _, by rw [World.size_setCell]; exact sz6, h6.push 1 mk4_1 hgr (own_set (h6.own 1) _ (show 2 < (k + 1) * 4 by omega)) (Or.inl rfl)⟩
      case rest =>
        obtain ⟨s', kpc, szc, hcs2⟩ := hcut
        obtain ⟨w7, hw7⟩ : ∃ w7, w7 = wc := ⟨_, rfl⟩
        subst hw7
        obtain ⟨go', co', hov', -, lo7, -, hoc7⟩ := own_form (by show 0 < k + 1; omega) (hcs2.own 1)
        replace hov' : (Value.slice (some ⟨go, 0, none⟩) (k + 1) co) = .slice (some ⟨go', 0, none⟩) (k + 1) co' := hov'
        injection hov' with e1 e2 e3
        injection e1 with e1
        injection e1 with e1
        subst e1 e3
        have o37 := hoc7 3 r rfl
        have dor : r.ownBlock ≠ some go := hcs2.ap 1 3 (by decide) go rfl
        have o37c := o37.1
        have kE3 : Kp w7 (w7.alloc (.cells #[.int .i64 1, .int .i64 ((k : Int) + 2), .int .i64 4, .int .i64 ((k : Int) + 1), .int .i64 0] 46)) := (Kp.refl w7).alloc _
        have hrow3 := Aside.mk ((hcs2.kp kE3).own 3)
        have cE3 := (kE3.cell (p := ⟨go, 3, none⟩) lo7).trans o37.1
        have fE3 := (kE3.frozen (p := ⟨go, 3, none⟩) lo7).trans o37.2
        have loE := Nat.lt_of_lt_of_le lo7 kE3.size
        have hE3 := Nat.le_trans kpc.size kE3.size
        have h1R : Aside (∀ u ∈ (#[.int .i64 1, .int .i64 ((k : Int) + 2), .int .i64 4, .int .i64 ((k : Int) + 1), .int .i64 0] : Array Value).toList, u.oneCell' = true) := ⟨by simp [Value.oneCell']⟩
        have hcE := Aside.mk (hcs2.kp kE3)
        have kpE := Aside.mk (kpc.trans kE3)
        replace kE3 := trivial
        have szc2 := kpc.size
        replace hcs2 := Aside.mk hcs2
        replace kpc := Aside.mk kpc
        replace hoc7 := trivial
        go_upto_region 14 with ((at_builtin); (refine wpList_pushm rfl (.tmp 58) (.tmp 64) 36 rfl w2.heap.size 46 5 40 1 Try.underlying36 info_rel (by decide) (by decide) r k ((relsF k).flatMap RelV.cs) rfl hrow3.out w7.heap.size #[.int .i64 1, .int .i64 ((k : Int) + 2), .int .i64 4, .int .i64 ((k : Int) + 1), .int .i64 0] 46 rfl (heap_new rfl) rfl h1R.out (by omega) (by omega) hE3 ?_); (intro gf capf wf hof hgf hgf' hltf); (have blk3 := hgf.block go loE (fun e => dor e.symm)); (have c3 := (World.cell?_of_block blk3).trans cE3); (have f3 := (World.frozen?_of_block blk3).trans fE3); (clear blk3))
        have hsn3 : (relsF k).flatMap RelV.cs ++ (#[.int .i64 1, .int .i64 ((k : Int) + 2), .int .i64 4, .int .i64 ((k : Int) + 1), .int .i64 0] : Array Value).toList = (relsF (k + 1)).flatMap RelV.cs := by rw [rels_snoc]; rfl
        rw [hsn3] at hof
        have h13a := hcE.out.push (R' := mk4 (rowL (.slice (some ⟨gl, 0, none⟩) (k + 2) cl) k) (rowO (.slice (some ⟨go, 0, none⟩) (k + 1) co) (.slice none 0 0) s' r k Lc) (rowS s' (k + 1)) (rowR (.slice (some ⟨gf, 0, none⟩) (k + 1) capf) (k + 1))) 3 mk4_3 hgf hof (hgf'.imp (fun e => e.symm) (fun e => congrArg some e))
        have h13 := Aside.mk (h13a.push (R' := mk4 (rowL (.slice (some ⟨gl, 0, none⟩) (k + 2) cl) k) (rowO (.slice (some ⟨go, 0, none⟩) (k + 1) co) (.slice none 0 0) s' (.slice (some ⟨gf, 0, none⟩) (k + 1) capf) k Lc) (rowS s' (k + 1)) (rowR (.slice (some ⟨gf, 0, none⟩) (k + 1) capf) (k + 1))) 1 mk4_1 (grown_set wf go 3 (.slice (some ⟨gf, 0, none⟩) (k + 1) capf)) (own_set (h13a.own 1) _ (show 3 < (k + 1) * 4 by omega)) (Or.inl rfl))
        have kp13 := Aside.mk ((kpE.out.grown hgf (own_ge hrow3.out)).setCell (p := ⟨go, 3, none⟩) bo (.slice (some ⟨gf, 0, none⟩) (k + 1) capf))
        clear hof hgf hgf' hltf h13a c3 f3 hsn3 o37c cE3 fE3 loE hE3 lo7 dor szc szc2
        replace hrow3 := trivial
        replace hcs2 := trivial
        replace hcE := trivial
        replace kpE := trivial
        replace kpc := trivial
        replace o37 := trivial
        replace h1R := trivial
        generalize wf.setCell ⟨go, 3, none⟩ (.slice (some ⟨gf, 0, none⟩) (k + 1) capf) = w8 at *
        have kE4 : Kp w8 (w8.alloc (.cells #[.int .i64 40, .int .i64 1, .int .i64 0, .int .i64 0, .int .i64 0] 40)) := (Kp.refl w8).alloc _
        have hc4 := Aside.mk (h13.out.kp kE4)
        have hrow4 := Aside.mk (hc4.out.own 0)
        have kp4' := Aside.mk (kp13.out.trans kE4)
        have hE4 := kp4'.out.size
        have h1L : Aside (∀ u ∈ (#[.int .i64 40, .int .i64 1, .int .i64 0, .int .i64 0, .int .i64 0] : Array Value).toList, u.oneCell' = true) := ⟨by simp [Value.oneCell']⟩
        replace kE4 := trivial
        go_upto_region 15 with ((at_builtin); (refine wpList_pushm rfl (.tmp 68) (.tmp 70) 41 rfl w2.heap.size 40 5 40 1 Try.underlying41 info_ins (by decide) (by decide) (.slice (some ⟨gl, 0, none⟩) (k + 2) cl) (k + 2) (insC (mPre k)) rfl hrow4.out w8.heap.size #[.int .i64 40, .int .i64 1, .int .i64 0, .int .i64 0, .int .i64 0] 40 rfl (heap_new rfl) rfl h1L.out (by omega) (by omega) hE4 ?_); (intro gf2 capf2 wf2 hof2 hgf2 hgf2' hltf2))
        have hsn4 : insC (mPre k) ++ (#[.int .i64 40, .int .i64 1, .int .i64 0, .int .i64 0, .int .i64 0] : Array Value).toList = insC (mPre (k + 1)) := by rw [mPre_snoc]; rfl
        rw [hsn4] at hof2
        have h14 := Aside.mk (hc4.out.push (R' := mk4 (rowL (.slice (some ⟨gf2, 0, none⟩) (k + 2 + 1) capf2) (k + 1)) (rowO (.slice (some ⟨go, 0, none⟩) (k + 1) co) (.slice none 0 0) s' (.slice (some ⟨gf, 0, none⟩) (k + 1) capf) k Lc) (rowS s' (k + 1)) (rowR (.slice (some ⟨gf, 0, none⟩) (k + 1) capf) (k + 1))) 0 mk4_0 hgf2 hof2 (hgf2'.imp (fun e => e.symm) (fun e => congrArg some e)))
        have kp14 := Aside.mk (kp4'.out.grown hgf2 (own_ge hrow4.out))
        clear hof2 hgf2 hgf2' hltf2 hsn4 hE4
        replace hc4 := trivial
        replace hrow4 := trivial
        replace h13 := trivial
        replace kp13 := trivial
        replace kp4' := trivial
        replace h1L := trivial
        have bI := Aside.mk (Blk.new wf2 (insC (fP x)).toArray 40)
        have kI : Aside (Kp wf2 (wf2.alloc (.cells (insC (fP x)).toArray 40))) := ⟨(Kp.refl wf2).alloc _⟩
        have wc := Aside.mk (Words_calls (I := wf2.heap.size) (c := 2) (fP x) (show 2 ≤ 10000 by decide) (fP_ok ⟨x0, x1⟩) bI.out (show 2 ≤ 2 by decide))
        go_wp2_with fail
        refine Calls.mono wc.out ?_
        rintro e w10 ⟨v10, rfl, k10, hr10⟩
        obtain ⟨A10, n10, c10, rfl⟩ := own_slice hr10
        obtain ⟨hn10, sl10, wa10⟩ := words_own (l := wordsL (fP x)) hr10
        subst hn10
        obtain ⟨A', c', hAc, hform⟩ := ownL_form hr10
        injection hAc with ea1 ea2 ea3
        subst ea1 ea3
        obtain ⟨t, htA, htb, hts, -⟩ := hform (by simp [u32V, wordsL, fP])
        have k910 := Aside.mk (kI.out.trans k10)
        have htw : wf2.heap.size ≤ t := Nat.le_trans kI.out.size htb
        replace wa10 := Aside.mk wa10
        replace sl10 := Aside.mk sl10
        replace htA := Aside.mk htA
        clear k10 hr10 wc bI kI hform htb ea2
        go_wp2_with fail
        refine Calls.mono (nm_calls k (by omega) _) ?_
        rintro e w11 ⟨rfl, k11⟩
        have kS : Kp w11 (w11.alloc (.cells (([defF k].flatMap SymV.cs)).toArray 43)) := (Kp.refl w11).alloc _
        have bS := Blk.new w11 (([defF k].flatMap SymV.cs)).toArray 43
        have kO : Kp (w11.alloc (.cells (([defF k].flatMap SymV.cs)).toArray 43)) ((w11.alloc (.cells (([defF k].flatMap SymV.cs)).toArray 43)).alloc (.cells (ObjC.cells ⟨A10, c10, none, 0, some ⟨w11.heap.size, 0, none⟩, 1, none, 0, fO k x⟩).toArray 38)) := (Kp.refl _).alloc _
        have bO := Blk.new (w11.alloc (.cells (([defF k].flatMap SymV.cs)).toArray 43)) (ObjC.cells ⟨A10, c10, none, 0, some ⟨w11.heap.size, 0, none⟩, 1, none, 0, fO k x⟩).toArray 38
        rw [World.size_alloc] at bO
        have hG := fO_G (k := k) ((wa10.out.kp k11).kp (kS.trans kO)) sl10.out (syms_blk (l := [defF k]) (bS.kp kO))
        have k912 := k910.out.trans (k11.trans (kS.trans kO))
        have hz := Nat.le_trans k910.out.size k11.size
        have hcB : CalB ((w11.alloc (.cells (([defF k].flatMap SymV.cs)).toArray 43)).alloc (.cells (ObjC.cells ⟨A10, c10, none, 0, some ⟨w11.heap.size, 0, none⟩, 1, none, 0, fO k x⟩).toArray 38)) (mk4 (rowL (.slice (some ⟨gf2, 0, none⟩) (k + 2 + 1) capf2) (k + 1)) (rowO (.slice (some ⟨go, 0, none⟩) (k + 1) co) (.slice none 0 0) s' (.slice (some ⟨gf, 0, none⟩) (k + 1) capf) k Lc) (rowS s' (k + 1)) (rowR (.slice (some ⟨gf, 0, none⟩) (k + 1) capf) (k + 1))) ⟨A10, c10, none, 0, some ⟨w11.heap.size, 0, none⟩, 1, none, 0, fO k x⟩ :=
          ⟨t, w11.heap.size, htA.out, rfl, Nat.lt_of_lt_of_le hts (Nat.le_trans k11.size (kS.trans kO).size), by rw [World.size_alloc, World.size_alloc]; omega, fun i => ⟨fun e => by have := h14.out.lt i e; omega, fun e => by have := h14.out.lt i e; omega⟩, hG, rfl, rfl⟩
        have h15 := Aside.mk ((h14.out.kp k912).add hcB)
        have hrow5 := Aside.mk (h15.out.own 1)
        have hblk5 := Aside.mk bO
        have kp15 := Aside.mk (kp14.out.trans k912)
        have hE5 := kp15.out.size
        clear kS bS kO bO hG k912 hz hcB k11 hts htw
        replace k910 := trivial
        replace h14 := trivial
        replace kp14 := trivial
        replace wa10 := trivial
        replace sl10 := trivial
        replace htA := trivial
        go_upto_region 16 with ((at_builtin); (refine wpList_pushm rfl (.tmp 72) (.tmp 85) 22 rfl w2.heap.size 38 4 96 1 Try.underlying22 info_objC (by decide) (by decide) (.slice (some ⟨go, 0, none⟩) (k + 1) co) (k + 1) ([.slice none 0 0, .slice none 0 0, s', .slice (some ⟨gf, 0, none⟩) (k + 1) capf] ++ Lc.flatMap ObjC.cells) rfl hrow5.out (w11.heap.size + 1) (ObjC.cells ⟨A10, c10, none, 0, some ⟨w11.heap.size, 0, none⟩, 1, none, 0, fO k x⟩).toArray 38 rfl hblk5.out rfl (cells_one4 _) (by omega) (by omega) hE5 ?_); (intro gf3 capf3 wf3 hof3 hgf3 hgf3' hltf3))
        have hsn5 : ([.slice none 0 0, .slice none 0 0, s', .slice (some ⟨gf, 0, none⟩) (k + 1) capf] ++ Lc.flatMap ObjC.cells) ++ (ObjC.cells ⟨A10, c10, none, 0, some ⟨w11.heap.size, 0, none⟩, 1, none, 0, fO k x⟩).toArray.toList = [.slice none 0 0, .slice none 0 0, s', .slice (some ⟨gf, 0, none⟩) (k + 1) capf] ++ (Lc ++ [(⟨A10, c10, none, 0, some ⟨w11.heap.size, 0, none⟩, 1, none, 0, fO k x⟩ : ObjC)]).flatMap ObjC.cells := by simp [List.flatMap_append]
        rw [hsn5] at hof3
        have h16 := Aside.mk (h15.out.push (R' := mk4 (rowL (.slice (some ⟨gf2, 0, none⟩) (k + 2 + 1) capf2) (k + 1)) (rowO (.slice (some ⟨gf3, 0, none⟩) (k + 1 + 1) capf3) (.slice none 0 0) s' (.slice (some ⟨gf, 0, none⟩) (k + 1) capf) (k + 1) (Lc ++ [(⟨A10, c10, none, 0, some ⟨w11.heap.size, 0, none⟩, 1, none, 0, fO k x⟩ : ObjC)])) (rowS s' (k + 1)) (rowR (.slice (some ⟨gf, 0, none⟩) (k + 1) capf) (k + 1))) 1 mk4_1 hgf3 hof3 (hgf3'.imp (fun e => e.symm) (fun e => congrArg some e)))
        have kp16 := Aside.mk (kp15.out.grown hgf3 (own_ge hrow5.out))
        have hLc2 : Aside ((Lc ++ [(⟨A10, c10, none, 0, some ⟨w11.heap.size, 0, none⟩, 1, none, 0, fO k x⟩ : ObjC)]).map (·.o) = fsO (ns.take (k + 1))) := ⟨by rw [List.map_append, hLc, fs_snoc hx.out]; rfl⟩
        clear hof3 hgf3 hgf3' hltf3 hsn5 hE5
        replace h15 := trivial
        replace hrow5 := trivial
        replace hblk5 := trivial
        replace kp15 := trivial
        go_wp2_with fail
        go_roundw
        case rel => exact ⟨k + 1, _, _, _, by omega, by go_num, by rw [hsn.out]; (try go_num), kp16.out, hLc2.out, h16.out⟩
        case measure => simp [intOf]; omega
    · obtain rfl : ln = k := by omega
      have htk : ns.take ln = ns := List.take_of_length_le (by rw [hn.out]; exact Nat.le_refl _)
      rw [htk] at hLc ⊢
      obtain ⟨sm0, sm1⟩ := sum_bound hb.out
      rw [hn.out] at sm1
      have sm2 : ns.sum ≤ 2550 := by omega
      have hrun := Aside.mk (fun (os : List ObjV) (hp : (callsO ns).Perm os) => calls_run hp (by rw [hn.out]; omega) hb.out)
      generalize ns.sum = Sm at *
      obtain ⟨gl, cl, hlv, bl, ll, ncl, hlc⟩ := own_form (by show 0 < ln + 2; omega) (hcs.own 0)
      obtain ⟨go, co, hov, bo, lo, nco, hoc⟩ := own_form (by show 0 < ln + 1; omega) (hcs.own 1)
      replace hlv : u7 = .slice (some ⟨gl, 0, none⟩) (ln + 2) cl := hlv
      replace hov : u8 = .slice (some ⟨go, 0, none⟩) (ln + 1) co := hov
      subst hlv hov
      have kE4 : Kp wr (wr.alloc (.cells #[.int .i64 41, .int .i64 0, .int .i64 5, .int .i64 0, .int .i64 0] 40)) := (Kp.refl wr).alloc _
      have hc4 := Aside.mk (hcs.kp kE4)
      have hrow4 := Aside.mk (hc4.out.own 0)
      have kp4' := Aside.mk (kp.trans kE4)
      have hE4 := kp4'.out.size
      have h1L : Aside (∀ u ∈ (#[.int .i64 41, .int .i64 0, .int .i64 5, .int .i64 0, .int .i64 0] : Array Value).toList, u.oneCell' = true) := ⟨by simp [Value.oneCell']⟩
      replace kE4 := trivial
      replace hcs := trivial
      replace kp := trivial
      replace hlc := trivial
      replace hoc := trivial
      clear ncl nco
      go_upto_region 18 with fail
      go_upto_region 19 with ((at_builtin); (refine wpList_pushm rfl (.tmp 92) (.tmp 94) 41 rfl w2.heap.size 40 5 40 1 Try.underlying41 info_ins (by decide) (by decide) (.slice (some ⟨gl, 0, none⟩) (ln + 2) cl) (ln + 2) (insC (mPre ln)) rfl hrow4.out wr.heap.size #[.int .i64 41, .int .i64 0, .int .i64 5, .int .i64 0, .int .i64 0] 40 rfl (heap_new rfl) rfl h1L.out (by omega) (by omega) hE4 ?_); (intro gf2 capf2 wf2 hof2 hgf2 hgf2' hltf2))
      have hsn4 : insC (mPre ln) ++ (#[.int .i64 41, .int .i64 0, .int .i64 5, .int .i64 0, .int .i64 0] : Array Value).toList = insC (mP ln) := by
        have : mP ln = mPre ln ++ [⟨41, 0, 5, 0, 0⟩] := rfl
        rw [this, insC_snoc]
        rfl
      rw [hsn4] at hof2
      have h14 := Aside.mk (hc4.out.push (R' := mk4 ⟨.slice (some ⟨gf2, 0, none⟩) (ln + 2 + 1) capf2, 40, 5, ln + 2 + 1, insC (mP ln)⟩ (rowO (.slice (some ⟨go, 0, none⟩) (ln + 1) co) (.slice none 0 0) s r ln Lc) (rowS s ln) (rowR r ln)) 0 mk4_0 hgf2 hof2 (hgf2'.imp (fun e => e.symm) (fun e => congrArg some e)))
      have kp14 := Aside.mk (kp4'.out.grown hgf2 (own_ge hrow4.out))
      have hpl : (mP ln).length = ln + 2 + 1 := by rw [mP_len]
      have wc := Aside.mk (Words_rown (c := capf2) (mP ln) hpl (by omega) (mP_ok ln) hltf2 (fun j x hx => (hof2.cellAt j (by have h1 := (List.getElem?_eq_some_iff.1 hx).1; have h2 := hof2.1; omega)).trans hx) (own_cap hof2))
      clear hof2 hgf2 hgf2' hltf2 hsn4 hE4 hpl
      replace hc4 := trivial
      replace hrow4 := trivial
      replace kp4' := trivial
      replace h1L := trivial
      have lo14 := h14.out.lt 1 (show some go = some go from rfl)
      go_wp2_with fail
      refine Calls.mono wc.out ?_
      rintro e w18 ⟨v12, rfl, k18, hr12⟩
      obtain ⟨A12, n12, c12, rfl⟩ := own_slice hr12
      obtain ⟨A', c', hAc, hform⟩ := ownL_form hr12
      injection hAc with ea1 ea2 ea3
      subst ea1 ea3
      obtain ⟨hn12, sl12, wa12⟩ := words_own (l := wordsL (mP ln)) (by rw [wordsL_len]; exact hr12)
      subst hn12
      obtain ⟨t, htA, htb, hts, -⟩ := hform (by simp [u32V, wordsL, mP])
      have h18 := h14.out.kp k18
      obtain ⟨go', co', hov', -, lo18, -, hoc18⟩ := own_form (by show 0 < ln + 1; omega) (h18.own 1)
      replace hov' : (Value.slice (some ⟨go, 0, none⟩) (ln + 1) co) = .slice (some ⟨go', 0, none⟩) (ln + 1) co' := hov'
      injection hov' with e1 e2 e3
      injection e1 with e1
      injection e1 with e1
      subst e1 e3
      have o0 := (hoc18 0 (.slice none 0 0) rfl).1
      have f0 := (hoc18 0 (.slice none 0 0) rfl).2
      have hgt : go ≠ t := by omega
      have h19 := Aside.mk (h18.push (R' := mk4 ⟨.slice (some ⟨gf2, 0, none⟩) (ln + 2 + 1) capf2, 40, 5, ln + 2 + 1, insC (mP ln)⟩ (rowO (.slice (some ⟨go, 0, none⟩) (ln + 1) co) (.slice A12 (wordsL (mP ln)).length c12) s r ln Lc) (rowS s ln) (rowR r ln)) 1 mk4_1 (grown_set w18 go 0 (.slice A12 (wordsL (mP ln)).length c12)) (own_set (h18.own 1) _ (show 0 < (ln + 1) * 4 by omega)) (Or.inl rfl))
      have kp19 := Aside.mk ((kp14.out.trans k18).setCell (p := ⟨go, 0, none⟩) bo (.slice A12 (wordsL (mP ln)).length c12))
      have wa19 : Aside (WordsAt (w18.setCell ⟨go, 0, none⟩ (.slice A12 (wordsL (mP ln)).length c12)) A12 (wordsL (mP ln))) := ⟨fun hne => by
        obtain ⟨g, off, e, hg, hc⟩ := wa12 hne
        have e' := htA.symm.trans e
        injection e' with e'
        injection e' with e1 e2
        subst e1
        exact ⟨t, off, e, by rw [World.size_setCell]; exact hg, fun i hi => (World.cell?_of_block (heap_setCell_other w18 ⟨go, 0, none⟩ t _ hgt.symm)).trans (hc i hi)⟩⟩
      have i0 : (0 : Int) < ((ln + 1 : Nat) : Int) := by omega
      replace sl12 := Aside.mk sl12
      clear h18 k18 hr12 hform wa12 wc htA htb hts hoc18 hgt ea2
      replace h14 := trivial
      replace kp14 := trivial
      go_upto_region 20 with fail
      generalize w18.setCell ⟨go, 0, none⟩ (.slice A12 (wordsL (mP ln)).length c12) = w19 at *
      clear o0 f0 lo18 lo14
      have hS := h19.out.own 2
      change w19.ownsRow w2.heap.size 43 5 s (ln + 1) ((mainS :: usesF ln).flatMap SymV.cs) at hS
      have hR := h19.out.own 3
      change w19.ownsRow w2.heap.size 46 5 r ln ((relsF ln).flatMap RelV.cs) at hR
      obtain ⟨As, cs0, rfl, hSA⟩ := syms_own hS (by simp [usesF])
      obtain ⟨Ar, cr0, rfl, hRA⟩ := rels_own hR (by simp [relsF])
      have hG0 : ObjG w19 ⟨A12, c12, none, 0, As, cs0, Ar, cr0, mO ln⟩ := ⟨⟨rfl, rfl, rfl, rfl, wa19.out, fun h => absurd rfl h, hSA, hRA⟩, sl12.out, ⟨Nat.le_refl _, fun _ => ⟨rfl, rfl⟩⟩⟩
      obtain ⟨go', co', hov', -, lo19, nco, hoc19⟩ := own_form (by show 0 < ln + 1; omega) (h19.out.own 1)
      replace hov' : (Value.slice (some ⟨go, 0, none⟩) (ln + 1) co) = .slice (some ⟨go', 0, none⟩) (ln + 1) co' := hov'
      injection hov' with e1 e2 e3
      injection e1 with e1
      injection e1 with e1
      subst e1 e3
      replace nco : ln + 1 ≤ co := nco
      obtain ⟨L, hL⟩ : ∃ L : List ObjC, L = (⟨A12, c12, none, 0, As, cs0, Ar, cr0, mO ln⟩ : ObjC) :: Lc := ⟨_, rfl⟩
      have hcell : ∀ i x, (L.flatMap ObjC.cells)[i]? = some x → w19.cell? ⟨go, i, none⟩ = some x := fun i x hx => (hoc19 i x (by rw [hL] at hx; exact hx)).1
      have hLg : Aside (∀ y ∈ L, ObjG w19 y) := ⟨fun y hy => by
        rw [hL] at hy
        rcases List.mem_cons.1 hy with rfl | hy
        · exact hG0
        · obtain ⟨_, _, _, _, _, _, _, h6, _, _⟩ := h19.out.c y hy
          exact h6⟩
      have hLo : Aside (L.map (·.o) = callsO ns) := ⟨by
        rw [hL, List.map_cons, hLc]
        show mO ln :: fsO ns = mO ns.length :: fsO ns
        rw [hn.out]⟩
      have hLn : L.length = ln + 1 := by
        have := congrArg List.length hLo.out
        rw [List.length_map] at this
        rw [this]
        simp [callsO, fsO, hn.out]
      have hcell2 : Aside (∀ V, Kp w19 V → ∀ i x, (L.flatMap ObjC.cells)[i]? = some x → V.cell? ⟨go, i, none⟩ = some x) := ⟨fun V hV i x hx => (hV.cell (p := ⟨go, i, none⟩) lo19).trans (hcell i x hx)⟩
      clear hS hR hSA hRA hG0 hoc19 hL hcell hLc
      replace h19 := trivial
      replace wa19 := trivial
      replace sl12 := trivial
      obtain ⟨j, hj, hje⟩ := turn_countC by_ (n := ln + 1) (by omega) (by omega)
      rw [show ((ln + 1 : Nat) : Int) = (ln : Int) + 1 by omega] at hje
      replace hje := Aside.mk hje
      have hn1 : Aside (∀ V, Kp w19 V → ∀ ad, some (⟨go, j * 4, none⟩ : Addr) = some ad → ∀ i u, ((L.drop j).flatMap ObjC.cells)[i]? = some u → V.cell? (ad.add i) = some u) := ⟨fun V hV ad e i u hu => by
        obtain rfl := Option.some.inj e
        exact cells_fromC (hcell2.out V hV) (L.drop j) (fun i y hy => by rwa [List.getElem?_drop] at hy) i u hu⟩
      have hn2 : Aside (∀ V, Kp w19 V → ∀ ad, some (⟨go, 0, none⟩ : Addr) = some ad → ∀ i u, ((L.take j).flatMap ObjC.cells)[i]? = some u → V.cell? (ad.add i) = some u) := ⟨fun V hV ad e i u hu => by
        obtain rfl := Option.some.inj e
        have := cells_fromC (j := 0) (hcell2.out V hV) (L.take j) (fun i y hy => by rw [Nat.zero_add]; rw [List.getElem?_take] at hy; split at hy; exact hy; cases hy) i u hu
        simpa using this⟩
      have hl1 : ((L.drop j).flatMap ObjC.cells).length = (ln + 1 - j) * 4 := by rw [flat_len ObjC.cells_len, List.length_drop, hLn]
      have hl2 : ((L.take j).flatMap ObjC.cells).length = j * 4 := by rw [flat_len ObjC.cells_len, List.length_take, hLn, Nat.min_eq_left (by omega)]
      have jn : j ≤ ln + 1 := by omega
      have jnI : (j : Int) ≤ (ln : Int) + 1 := by omega
      have cj : ¬co = j := by omega
      have jc : j ≤ co := by omega
      go_upto_region 21 with fail
      rw [hje.out]
      refine wp_hide (fun Q0 hQ0 => ?_)
      refine wp_region_held_drew (S := fun V => Kp w19 V) (by kernel_rfl) ?hS0b (fun hHeld => ?_)
      case hS0b => exact (Kp.refl w19).drew
      refine wpAnyH_takeL (i := 1) (v := ?v1b) rfl (by kernel_rfl) (by kernel_rfl) (by kernel_rfl) (fun _ _ _ h => h) (Or.inl ⟨by kernel_rfl, ?hy1b⟩) (by assumption) ?rest1b
      case hy1b => (intro w hSw; (try dsimp only at hSw); go_simp; (try with_reducible rfl))
      try simp only [Act.put, List.setIfInBounds_toArray, List.set_cons_zero, List.set_cons_succ]
      refine wpAnyH_takeL (i := 2) (v := ?v2b) rfl (by kernel_rfl) (by kernel_rfl) (by kernel_rfl) (fun _ _ _ h => h) (Or.inl ⟨by kernel_rfl, ?hy2b⟩) (by assumption) ?rest2b
      case hy2b => (intro w hSw; (try dsimp only at hSw); go_simp; (try with_reducible rfl))
      try simp only [Act.put, List.setIfInBounds_toArray, List.set_cons_zero, List.set_cons_succ]
      refine wpAnyH_takeL (i := 3) (v := ?v3b) rfl (by kernel_rfl) (by kernel_rfl) (by kernel_rfl) (fun _ _ _ h => h) (Or.inl ⟨by kernel_rfl, ?hy3b⟩) (by assumption) ?rest3b
      case hy3b => (intro w hSw; (try dsimp only at hSw); go_simp; (try with_reducible rfl))
      try simp only [Act.put, List.setIfInBounds_toArray, List.set_cons_zero, List.set_cons_succ]
      refine wpAnyH_takeL (i := 5) (v := ?v5b) rfl (by kernel_rfl) (by kernel_rfl) (by kernel_rfl) (fun _ _ _ h => h) (Or.inl ⟨by kernel_rfl, ?hy5b⟩) (by assumption) ?rest5b
      case hy5b => (intro w hSw; (try dsimp only at hSw); go_simp; (try with_reducible rfl))
      try simp only [Act.put, List.setIfInBounds_toArray, List.set_cons_zero, List.set_cons_succ]
      refine wpAnyH_takeL (i := 6) (v := ?v6b) rfl (by kernel_rfl) (by kernel_rfl) (by kernel_rfl) (fun _ _ _ h => h) (Or.inl ⟨by kernel_rfl, ?hy6b⟩) (by assumption) ?rest6b
      case hy6b => (intro w hSw; (try dsimp only at hSw); go_simp; (try with_reducible rfl))
      try simp only [Act.put, List.setIfInBounds_toArray, List.set_cons_zero, List.set_cons_succ]
      refine wpAnyH_takeL (i := 7) (v := ?v7b) rfl (by kernel_rfl) (by kernel_rfl) (by kernel_rfl) (fun _ _ _ h => h) (Or.inl ⟨by kernel_rfl, ?hy7b⟩) (by assumption) ?rest7b
      case hy7b => (intro w hSw; (try dsimp only at hSw); go_simp; (try with_reducible rfl))
      try simp only [Act.put, List.setIfInBounds_toArray, List.set_cons_zero, List.set_cons_succ]
      refine wpAnyH_ready (rs := [0]) (by kernel_rfl) (by simp) ?_
      refine AllReadyH.consL rfl (fun Kx hKx => ?_) AllReadyH.nil
      go_simp
      refine hKx.out _ _ (((Kp.refl w19).alloc _).drew) (fun hHeld => ?_)
      clear hKx
      try simp only [Act.put, List.setIfInBounds_toArray, List.set_cons_zero, List.set_cons_succ]
      refine wpAnyH_ready (rs := [4]) (by kernel_rfl) (by simp) ?_
      refine AllReadyH.consL rfl (fun Kx hKx => ?_) AllReadyH.nil
      have hown0 : ((w19.alloc (.cells #[] 38)).drew).ownsRow w19.heap.size 38 4 (.slice (some ⟨w19.heap.size, 0, none⟩) 0 0) 0 [] := World.ownsRow.drew (World.ownsRow_lit w19 #[] 0 (Nat.le_refl _) (by decide) rfl)
      refine step_app rfl (.tmp 108) (.tmp 111) 22 rfl w19.heap.size 38 4 96 Try.underlying22 info_objC (by decide) _ 0 [] rfl hown0 (some ⟨go, j * 4, none⟩) (ln + 1 - j) (co - j) ((L.drop j).flatMap ObjC.cells) rfl (fun e => by cases e) hl1 (hn1.out _ (((Kp.refl w19).alloc _).drew)) (cells_onesC _) (by omega) (by omega) (((Kp.refl w19).alloc _).drew.size) ?_
      intro v1 w3 hown1 hg1
      have kp3 : Kp w19 w3 := (((Kp.refl w19).alloc _).drew).grown hg1 (fun k e => by cases e; exact Nat.le_refl _)
      refine hKx.out _ _ kp3 (fun hHeld => ?_)
      clear hKx
      try simp only [Act.put, List.setIfInBounds_toArray, List.set_cons_zero, List.set_cons_succ]
      refine wpAnyH_ready (rs := [8]) (by kernel_rfl) (by simp) ?_
      refine AllReadyH.consL rfl (fun Kx hKx => ?_) AllReadyH.nil
      refine step_app rfl (.tmp 112) (.tmp 115) 22 rfl w19.heap.size 38 4 96 Try.underlying22 info_objC (by decide) v1 (0 + (ln + 1 - j)) ([] ++ (L.drop j).flatMap ObjC.cells) rfl hown1 (some ⟨go, 0, none⟩) j co ((L.take j).flatMap ObjC.cells) rfl (fun e => by cases e) hl2 (hn2.out _ kp3) (cells_onesC _) (by omega) (by omega) kp3.size ?_
      intro v2 w4 hown2 hg2
      have kp4 : Kp w19 w4 := kp3.grown hg2 (own_ge hown1)
      refine hKx.out _ _ kp4 (fun hHeld => ?_)
      clear hKx
      try simp only [Act.put, List.setIfInBounds_toArray, List.set_cons_zero, List.set_cons_succ]
      refine wpAnyH_takeL (i := 9) (v := ?v9b) rfl (by kernel_rfl) (by kernel_rfl) (by kernel_rfl) (fun _ _ _ h => h) (Or.inl ⟨by kernel_rfl, ?hy9b⟩) (by assumption) ?rest9b
      case hy9b => (intro w hSw; (try dsimp only at hSw); go_simp; (try with_reducible rfl))
      try simp only [Act.put, List.setIfInBounds_toArray, List.set_cons_zero, List.set_cons_succ]
      refine wpAnyH_done (by kernel_rfl) (hQ0.out _ _ ?_) _
      rw [List.nil_append, ← List.flatMap_append, show 0 + (ln + 1 - j) + j = ln + 1 by omega] at hown2
      obtain ⟨G2, c2, rfl, hoc⟩ := ownL_form hown2
      have hfl : ((L.drop j ++ L.take j).flatMap ObjC.cells).length = (ln + 1) * 4 := by rw [flat_len ObjC.cells_len, List.length_append, List.length_drop, List.length_take, hLn]; (first | omega | (congr 1; omega))
      have hos2 : ObjsAt w4 G2 ((L.drop j ++ L.take j).map (·.o)) := by
        obtain ⟨g2, rfl, -, hg2l, hcc⟩ := hoc (by intro e; rw [e] at hfl; simp at hfl <;> omega)
        refine ObjsAt.of_rows hg2l (fun i x hx => by rw [Nat.zero_add]; exact hcc i x hx (by have := (List.getElem?_eq_some_iff.1 hx).1; omega)) (fun y hy => ?_)
        refine (hLg.out y ?_).kp kp4
        rcases List.mem_append.1 hy with hy | hy
        · exact List.mem_of_mem_drop hy
        · exact List.mem_of_mem_take hy
      have hperm : Aside ((callsO ns).Perm ((L.drop j ++ L.take j).map (·.o))) := ⟨by rw [← hLo.out]; exact (turn_perm L j).map _⟩
      have hn2' : ((L.drop j ++ L.take j).map (·.o)).length = ln + 1 := by rw [List.length_map, List.length_append, List.length_drop, List.length_take, hLn]; (try omega)
      obtain ⟨mE, t0, mT, mem, hmem, hml, hby2, hgo⟩ := hrun.out _ hperm.out
      obtain ⟨hlen, hcount⟩ := calls_len hperm.out (by rw [hn.out]; omega)
      have kk4 := Aside.mk (kp19.out.trans kp4)
      have lc := Aside.mk (Link_calls (c := c2) hos2 (calls_wf hperm.out (by rw [hn.out]; omega)) hn2' (show ln + 1 ≤ 1000 by omega))
      generalize (L.drop j ++ L.take j).map (·.o) = os2 at *
      obtain ⟨m, hm⟩ : ∃ m, Aside (imgLen os2 = m) := ⟨_, ⟨rfl⟩⟩
      rw [hm.out] at hml hlen
      replace mE := Aside.mk mE
      replace mT := Aside.mk mT
      replace hmem := Aside.mk hmem
      replace hby2 := Aside.mk hby2
      replace hgo := Aside.mk hgo
      replace hcount := trivial
      clear hown1 hown2 hg1 hg2 hoc hos2 hHeld hn1 hn2 hl1 hl2 hown0 kp3 kp4 hfl
      go_wp2_with fail
      refine Calls.mono lc.out ?_
      rintro e w6 hR
      obtain ⟨k6, g6, rfl, -, bm, -⟩ := link_gives (m := m) hR mE.out mT.out (by rw [hm.out]; omega) hmem.out hm.out
      have kA : Kp w6 (w6.alloc (.cells #[.int .i64 0, .slice (some ⟨g6, 0, none⟩) m m] 28)) := (Kp.refl w6).alloc _
      have bm3 := rowBy_blk (base := 0) (m := m) (Nat.zero_le _) (bm.kp kA) hml (by omega)
      have kp6 := Aside.mk (kk4.out.trans (k6.trans kA))
      obtain ⟨fl, hfl⟩ : ∃ fl, upV mem.length = fl := ⟨_, rfl⟩
      obtain ⟨tp, htp⟩ : ∃ tp, upV (fl + 16) = tp := ⟨_, rfl⟩
      have hft : mem.length ≤ tp ∧ tp ≤ 2097152 := by unfold upV at hfl htp; omega
      have ld := Aside.mk (Load_at 0 16 16 fl tp rfl bm3 hby2.out (by unfold U; decide) (by decide) (by omega) hfl htp hft.2)
      obtain ⟨r', hg, hst, hcd, hev0⟩ := hgo.out fl tp hft.1 hft.2
      replace hg := Aside.mk hg
      clear hR lc k6 kA bm bm3
      go_wp2_with fail
      refine Calls.mono ld.out ?_
      rintro e w7 ⟨M, Bm, K, rfl, ⟨gM, gB, gK⟩, k7, hmac⟩
      have s7 := kp6.out.size
      have hout : Aside (w2.heap.size ≤ M ∧ w2.heap.size ≤ Bm ∧ w2.heap.size ≤ K) := ⟨by omega⟩
      have kp7 := Aside.mk (kp6.out.trans k7)
      have hnl := hn.out
      have rc := Run_goes hg.out (3 * (ln : Int) + 6) (by omega) 1000 (.slice none 0 0) hmac words_none rfl (by decide) (by omega) (Or.inr (by rw [hst]; decide)) (by omega)
      rw [hst, hcd] at rc
      replace rc := Aside.mk rc
      clear k7 gM gB gK s7 hmac ld kp6 hnl
      go_wp2_with fail
      refine Calls.mono rc.out ?_
      rintro e w8 ⟨ev, rfl, hmod, hm8, hev⟩
      obtain ⟨A8, n8, c8, rfl⟩ := own_slice hev
      clear hev
      have kk8 := Aside.mk ((kp7.out.mod.behind hmod (S := fun _ => False) (fun k e => Or.inr (by have := hout.out; rcases e with e | e | e <;> omega))).toKp (fun k e => e.elim))
      clear hmod hm8 rc kp7
      go_wp2_with fail
      all_goals go_ret
      all_goals exact ⟨rfl, k2.out.trans (kk8.out.alloc _)⟩
section
variable {H : Type} {enc : TypeId × Value → H} {W : World} {base : Nat}
set_option maxRecDepth 100000 in
theorem calls_law {v : Value} {d : DataW H} {p : List MemPlace} (hv : Value.okWide Try.prog W .any base 26 v) (h : DataW.Trod enc Try.prog W 0 (fun _ => true) true 26 v d p) (n : Int) (w1 : (Lit.int .i64 n).wf = true) :
    Calls Try.prog 4 #[v, .int .i64 n] W fun e w' => e = .returned (.bool true) ∧ Below W.heap.size W w' := by
  obtain ⟨A, k, c, rfl⟩ := okWide_slice Try.underlying26 hv
  obtain ⟨f1, h1⟩ := h
  obtain ⟨A', ct, l, e0, s0, a0, u0, z0⟩ := ints_open Try.underlying26 Try.underlying5 cellsU8 h1
  have e1 : Value.slice A k c = .slice A' l.length ct := by
    have : [Value.slice A k c] = [.slice A' l.length ct] := e0
    injection this
  rw [e1]
  have hb : ∀ x ∈ l, Byte x := fun x hx => by
    have := bounds_u8 (u0 x hx)
    unfold Byte
    omega
  exact (calls_any a0 rfl hb z0 n (i64_of w1)).mono fun _ _ ⟨he, hk⟩ => ⟨he, hk.out⟩
end
end Go.Proofs.Ytnbooljaodkedaa
