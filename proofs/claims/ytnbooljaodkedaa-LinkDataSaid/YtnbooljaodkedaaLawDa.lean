/- LinkData, walked. Condition: the arguments are of their types. -/
import Derived.Test.YtnbooljaodkedaaDatP
namespace Go.Proofs.Ytnbooljaodkedaa
open Go.RowKit Go.Maps Go.ChangeShapes Go.WideShapes Go.Proofs.Ytnbooljaodkedaa.PC Go.Proofs.Ytnbooljaodkedaa.PW
set_option linter.unusedVariables false
set_option linter.unusedSimpArgs false
theorem byV_one (l : List Int) : ∀ u ∈ byV l, u.oneCell' = true := by
  intro u hu
  obtain ⟨x, _, rfl⟩ := List.mem_map.1 hu
  rfl
theorem bytes_news {w : World} {A : Option Addr} {l : List Int} (h : BytesAt w A l) : ∀ ad, A = some ad → ∀ j u, (byV l)[j]? = some u → w.cell? (ad.add j) = some u := by
  intro ad e j u hu
  have hj : j < l.length := by have := (List.getElem?_eq_some_iff.1 hu).1; simpa [byV] using this
  obtain ⟨g, off, hA, hg, hc⟩ := h (by rintro rfl; simp at hj)
  rw [hA] at e
  obtain rfl := Option.some.inj e
  rw [addr_add, hc j hj, ← hu]
  simp [byV, List.getD_eq_getElem?_getD, hj]
theorem own_slice_n4 {w : World} {base : Nat} {t : TypeId} {sz n : Nat} {v : Value} {xs : List Value} (h : w.ownsRow base t sz v n xs) : ∃ A c, v = .slice A n c := by
  rcases h.2 with ⟨h, h2⟩ | ⟨g, cap, cur, h, _⟩
  · exact ⟨_, _, by rw [h, h2]⟩
  · exact ⟨_, _, h⟩
/-- The length of a slice. -/
def slLen : Value → Nat
  | .slice _ n _ => n
  | _ => 0
/-- How long the data become. -/
def datL (n : Nat) : Nat := if n ≤ 8 then 8 else (n + 7) / 8 * 8
theorem datL_fact (n : Nat) : n ≤ datL n ∧ 8 ≤ datL n ∧ datL n % 8 = 0 ∧ datL n ≤ n + 8 := by
  unfold datL
  split <;> omega
theorem datL_more {n m : Nat} (h : n ≤ m) (h1 : m ≤ datL n) (h2 : ¬(m % 8 = 0 ∧ 8 ≤ m)) : m + 1 ≤ datL n := by
  unfold datL at *
  split at h1
  · rw [if_pos (by assumption)]; omega
  · rw [if_neg (by assumption)]; omega
theorem datL_end {n m : Nat} (h : n ≤ m) (h1 : m ≤ datL n) (h2 : m % 8 = 0 ∧ 8 ≤ m) : m = datL n := by
  unfold datL at *
  split at h1
  · rw [if_pos (by assumption)]; omega
  · rw [if_neg (by assumption)]; omega
def padD (ds : List Int) (m : Nat) : List Int := ds ++ List.replicate (m - ds.length) 7
theorem padD_snoc {ds : List Int} {m : Nat} (h : ds.length ≤ m) : padD ds (m + 1) = padD ds m ++ [7] := by
  unfold padD
  rw [show m + 1 - ds.length = (m - ds.length) + 1 by omega, List.replicate_succ', List.append_assoc]
theorem padD_len {ds : List Int} {m : Nat} (h : ds.length ≤ m) : (padD ds m).length = m := by
  unfold padD
  rw [List.length_append, List.length_replicate]
  omega
theorem padD_byte {ds : List Int} (h : ∀ x ∈ ds, Byte x) (m : Nat) : ∀ x ∈ padD ds m, Byte x := by
  intro x hx
  unfold padD at hx
  rcases List.mem_append.1 hx with hx | hx
  · exact h x hx
  · obtain ⟨-, rfl⟩ := List.mem_replicate.1 hx
    exact ⟨by decide, by decide⟩
theorem own_slok {w : World} {base : Nat} {t : TypeId} {sz n m c : Nat} {A : Option Addr} {xs : List Value} (h : w.ownsRow base t sz (.slice A m c) n xs) : SlOk A m c := by
  rcases h.2 with ⟨h1, h2⟩ | ⟨g, cap, cur, h1, _, h3, h4, _⟩
  · injection h1 with e1 e2 e3
    exact ⟨by omega, fun _ => ⟨e2, e3⟩⟩
  · injection h1 with e1 e2 e3
    exact ⟨by omega, fun e => by rw [e] at e1; cases e1⟩
theorem bytes_ownD {w : World} {base : Nat} {A : Option Addr} {n c : Nat} {l : List Int} (h : rowBy w base (.slice A n c) l) : n = l.length ∧ BytesAt w A l := by
  rcases h.2 with ⟨h1, h2⟩ | ⟨g, cap, cur, h1, _, h3, h4, _, _, h7⟩
  · injection h1 with e1 e2 e3
    subst e1 e2 e3
    exact ⟨h2.symm, fun hne => absurd (List.eq_nil_of_length_eq_zero h2) hne⟩
  · injection h1 with e1 e2 e3
    subst e1 e2 e3
    refine ⟨rfl, fun _ => ⟨g, 0, rfl, (Array.getElem?_eq_some_iff.1 h3).1, fun i hi => ?_⟩⟩
    have e : cur[i]? = some (.int .u8 (l.getD i 0)) := by
      have : (cur.toList.take (l.length * 1))[i]? = (byV l)[i]? := by rw [h7]
      rw [List.getElem?_take, if_pos (by omega)] at this
      simp [byV, hi] at this
      rw [List.getD_eq_getElem?_getD, List.getElem?_eq_getElem hi]
      simpa using this
    rw [Nat.zero_add]
    simp [World.cell?, h3, e]
theorem bytes_blk {w : World} {g : Nat} {l : List Int} {ty : TypeId} (hb : Blk w g (byV l).toArray ty) : BytesAt w (some ⟨g, 0, none⟩) l := by
  intro _
  refine ⟨g, 0, rfl, hb.lt, fun i hi => ?_⟩
  rw [Nat.zero_add]
  refine (hb.cell i).trans ?_
  rw [List.getElem?_toArray]
  simp [byV, hi, List.getD_eq_getElem?_getD]
theorem rels_blk {w : World} {g : Nat} {l : List RelV} {ty : TypeId} (hb : Blk w g (l.flatMap RelV.cs).toArray ty) : RelsAt w (some ⟨g, 0, none⟩) l := by
  intro _
  refine ⟨g, 0, rfl, hb.lt, fun i s hs => ?_⟩
  have key : ∀ j x, j < 5 → s.cs[j]? = some x → w.cell? ⟨g, 0 + i * 5 + j, none⟩ = some x := by
    intro j x hj hx
    rw [Nat.zero_add]
    refine (hb.cell _).trans ?_
    rw [List.getElem?_toArray, flat_get (z := 5) (fun s => (rfl : s.cs.length = 5)) l i j hj, hs]
    exact hx
  exact ⟨key 0 _ (by decide) rfl, key 1 _ (by decide) rfl, key 2 _ (by decide) rfl, key 3 _ (by decide) rfl, key 4 _ (by decide) rfl⟩
/-- The first object, made. -/
def oneY (W : World) (A : Option Addr) (c : Nat) (a : Int) : ObjC := ⟨A, c, some ⟨W.heap.size, 0, none⟩, 8, some ⟨W.heap.size + 1, 0, none⟩, 3, some ⟨W.heap.size + 1 + 1, 0, none⟩, 3, oneD a⟩
def oneW (W : World) (A : Option Addr) (c : Nat) (a : Int) : World := (((W.alloc (.cells (memC (List.replicate 8 0)) 5)).alloc (.cells (([mainS, pS, vU].flatMap SymV.cs)).toArray 43)).alloc (.cells (((relsD a).flatMap RelV.cs)).toArray 46)).alloc (.cells ((oneY W A c a).cells).toArray 38)
theorem one_made {W : World} {A : Option Addr} {c : Nat} {a : Int} (hA : WordsAt W A (wordsL datT)) (hs : SlOk A (wordsL datT).length c) : Kp W (oneW W A c a) ∧ ObjG (oneW W A c a) (oneY W A c a) ∧ Blk (oneW W A c a) (W.heap.size + 1 + 1 + 1) ((oneY W A c a).cells).toArray 38 := by
  have k0 : Kp W (W.alloc (.cells (memC (List.replicate 8 0)) 5)) := (Kp.refl W).alloc _
  have b0 := Blk.new W (memC (List.replicate 8 0)) 5
  generalize hV0 : W.alloc (.cells (memC (List.replicate 8 0)) 5) = V0 at *
  have s0 : V0.heap.size = W.heap.size + 1 := by rw [← hV0, World.size_alloc]
  have k1 : Kp V0 (V0.alloc (.cells (([mainS, pS, vU].flatMap SymV.cs)).toArray 43)) := (Kp.refl V0).alloc _
  have b1 := Blk.new V0 (([mainS, pS, vU].flatMap SymV.cs)).toArray 43
  generalize hV1 : V0.alloc (.cells (([mainS, pS, vU].flatMap SymV.cs)).toArray 43) = V1 at *
  have s1 : V1.heap.size = W.heap.size + 1 + 1 := by rw [← hV1, World.size_alloc, s0]
  have k2 : Kp V1 (V1.alloc (.cells (((relsD a).flatMap RelV.cs)).toArray 46)) := (Kp.refl V1).alloc _
  have b2 := Blk.new V1 (((relsD a).flatMap RelV.cs)).toArray 46
  generalize hV2 : V1.alloc (.cells (((relsD a).flatMap RelV.cs)).toArray 46) = V2 at *
  have s2 : V2.heap.size = W.heap.size + 1 + 1 + 1 := by rw [← hV2, World.size_alloc, s1]
  have k3 : Kp V2 (V2.alloc (.cells ((oneY W A c a).cells).toArray 38)) := (Kp.refl V2).alloc _
  have b3 := Blk.new V2 ((oneY W A c a).cells).toArray 38
  have hV3 : oneW W A c a = V2.alloc (.cells ((oneY W A c a).cells).toArray 38) := by rw [← hV2, ← hV1, ← hV0]; rfl
  rw [hV3]
  generalize V2.alloc (.cells ((oneY W A c a).cells).toArray 38) = V3 at *
  rw [s0] at b1
  rw [s1] at b2
  rw [s2] at b3
  have kk := k0.trans (k1.trans (k2.trans k3))
  exact ⟨kk, ⟨⟨rfl, rfl, rfl, rfl, hA.kp kk, bytes_blk (b0.kp (k1.trans (k2.trans k3))), syms_blk (b1.kp (k2.trans k3)), rels_blk (b2.kp k3)⟩, hs, ⟨by show 8 ≤ 8; decide, fun e => by cases e⟩⟩, b3⟩
def twoY (W : World) (A : Option Addr) (c : Nat) (own : List Int) (v : Int) : ObjC := ⟨none, 0, A, c, some ⟨W.heap.size, 0, none⟩, 1, none, 0, twoD own v⟩
def twoW (W : World) (A : Option Addr) (c : Nat) (own : List Int) (v : Int) : World := (W.alloc (.cells (([vS v].flatMap SymV.cs)).toArray 43)).alloc (.cells ((twoY W A c own v).cells).toArray 38)
theorem two_made {W : World} {A : Option Addr} {c : Nat} {own : List Int} {v : Int} (hA : BytesAt W A own) (hs : SlOk A own.length c) : Kp W (twoW W A c own v) ∧ ObjG (twoW W A c own v) (twoY W A c own v) ∧ Blk (twoW W A c own v) (W.heap.size + 1) ((twoY W A c own v).cells).toArray 38 := by
  have k0 : Kp W (W.alloc (.cells (([vS v].flatMap SymV.cs)).toArray 43)) := (Kp.refl W).alloc _
  have b0 := Blk.new W (([vS v].flatMap SymV.cs)).toArray 43
  generalize hV0 : W.alloc (.cells (([vS v].flatMap SymV.cs)).toArray 43) = V0 at *
  have s0 : V0.heap.size = W.heap.size + 1 := by rw [← hV0, World.size_alloc]
  have k3 : Kp V0 (V0.alloc (.cells ((twoY W A c own v).cells).toArray 38)) := (Kp.refl V0).alloc _
  have b3 := Blk.new V0 ((twoY W A c own v).cells).toArray 38
  have hV3 : twoW W A c own v = V0.alloc (.cells ((twoY W A c own v).cells).toArray 38) := by rw [← hV0]; rfl
  rw [hV3]
  generalize V0.alloc (.cells ((twoY W A c own v).cells).toArray 38) = V3 at *
  rw [s0] at b3
  have kk := k0.trans k3
  exact ⟨kk, ⟨⟨rfl, rfl, rfl, rfl, fun h => absurd rfl h, hA.kp kk, syms_blk (b0.kp k3), fun h => absurd rfl h⟩, ⟨Nat.le_refl _, fun _ => ⟨rfl, rfl⟩⟩, hs⟩, b3⟩
theorem four_mod (x : Int) {n1 : Nat} (h : n1 ≤ 200) : ∃ vn : Nat, wrap64 (4 * (x % ((n1 : Int) + 1))) = (vn : Int) ∧ vn % 4 = 0 ∧ vn ≤ 4 * n1 := by
  have h1 := Int.emod_nonneg x (show (n1 : Int) + 1 ≠ 0 by omega)
  have h2 := Int.emod_lt_of_pos x (show (0 : Int) < (n1 : Int) + 1 by omega)
  generalize x % ((n1 : Int) + 1) = y at *
  rw [PW.wrap64_id (by omega)]
  exact ⟨(4 * y).toNat, by omega, by omega, by omega⟩
theorem or_four {b0 b1 b2 b3 : Int} (h0 : 0 ≤ b0 ∧ b0 ≤ 255) (h1 : 0 ≤ b1 ∧ b1 ≤ 255) (h2 : 0 ≤ b2 ∧ b2 ≤ 255) (h3 : 0 ≤ b3 ∧ b3 ≤ 255) : bits .or .u32 (bits .or .u32 (bits .or .u32 b0 (b1 * 256)) (b2 * 65536)) (b3 * 16777216) = b0 + b1 * 256 + b2 * 65536 + b3 * 16777216 := by
  rw [lo_or 8 (x := b1 * 256) (y := b0) (by omega) (by omega) (by omega) (by omega) (by omega) (by omega)]
  rw [lo_or 16 (x := b2 * 65536) (by omega) (by omega) (by omega) (by omega) (by omega) (by omega)]
  rw [lo_or 24 (x := b3 * 16777216) (by omega) (by omega) (by omega) (by omega) (by omega) (by omega)]
set_option maxRecDepth 100000 in
set_option maxHeartbeats 8000000 in
theorem data_any {w : World} {A : Option Addr} {ln cn : Nat} {ds : List Int} (hN : BytesAt w A ds) (hn : ds.length = ln) (hb : ∀ x ∈ ds, Byte x) (hA : A = none → ln = 0 ∧ cn = 0) (hl : ln ≤ 9223372036854775807) (at_ add : Int) (ht : 0 ≤ at_ ∧ at_ ≤ 255) (hd : 0 ≤ add ∧ add ≤ 255) :
    Calls Try.prog 5 #[.slice A ln cn, .int .u8 at_, .int .u8 add] w fun e w' => e = .returned (.bool true) ∧ Kp w w' := by
  replace hN := Aside.mk hN
  replace hn := Aside.mk hn
  replace hb := Aside.mk hb
  replace hA := Aside.mk hA
  by_cases h400 : 400 < ln
  · have g1 : decide ((ln : Int) > 400) = true := decide_eq_true (by omega)
    go_enter Try.func5, Try.ntmps5
    go_wp2_with fail
    refine Calls.mono (awake09_calls _) ?_
    rintro e w1 ⟨rfl, k1⟩
    go_wp2_with fail
    refine Calls.mono (awake09_calls _) ?_
    rintro e w3 ⟨rfl, k3⟩
    go_wp2_with fail
    go_ret
    exact ⟨rfl, k1.trans k3⟩
  have g1 : decide ((ln : Int) > 400) = false := decide_eq_false (by omega)
  go_enter Try.func5, Try.ntmps5
  go_wp2_with fail
  refine Calls.mono (awake09_calls _) ?_
  rintro e w2 ⟨rfl, k2⟩
  have owE := Aside.mk (World.ownsRow_lit (base := w2.heap.size) (e := 5) (size := 1) w2 #[] 0 (Nat.le_refl _) (by decide) rfl)
  have kE : Kp w2 (w2.alloc (.cells #[] 5)) := (Kp.refl w2).alloc _
  have hnw := Aside.mk (bytes_news (hN.out.kp (k2.trans kE)))
  have hl4 : (byV ds).length = ln * 1 := by simp [byV, hn.out]
  have hE := kE.size
  replace kE := trivial
  replace k2 := Aside.mk k2
  go_upto_region 3 with fail
  go_wp2_with ((at_builtin); (refine wpList_app rfl (.tmp 28) (.tmp 29) 26 rfl w2.heap.size 5 1 1 Try.underlying26 info_u8L (by decide) (.slice (some ⟨w2.heap.size, 0, none⟩) 0 0) 0 [] rfl owE.out A ln cn (byV ds) rfl hA.out hl4 hnw.out (byV_one ds) (by omega) (by omega) hE ?_); (intro v4 w4 ow4 hg4); (have k24 : Aside (Kp w2 w4) := ⟨((Kp.refl w2).alloc _).grown hg4 (fun k e => by cases e; exact Nat.le_refl _)⟩))
  obtain ⟨A4, n4, c4, rfl⟩ := own_slice ow4
  have ow4' : Aside (n4 = ln ∧ w4.ownsRow w2.heap.size 5 1 (.slice A4 n4 c4) n4 (byV (padD ds n4))) := by
    rw [List.nil_append, Nat.zero_add] at ow4
    obtain ⟨A5, c5, e⟩ := own_slice_n4 ow4
    injection e with e1 e2 e3
    subst e2
    refine ⟨rfl, ?_⟩
    have : padD ds n4 = ds := by unfold padD; rw [hn.out, Nat.sub_self]; simp
    rw [this]
    exact ow4
  clear ow4 hg4
  obtain ⟨f1, f2, f3, f4⟩ := datL_fact ln
  generalize hD : datL ln = L at *
  replace hD := Aside.mk hD
  go_loopw [7] (fun v wr => ∃ (A' : Option Addr) (m c' : Nat), v = .slice A' m c' ∧ ln ≤ m ∧ m ≤ L ∧ Kp w2 wr ∧ wr.ownsRow w2.heap.size 5 1 v m (byV (padD ds m))) (fun v _ => L - slLen v)
  case atStart =>
    obtain ⟨h1, h2⟩ := ow4'.out
    exact ⟨_, _, _, rfl, by omega, by omega, k24.out, h2⟩
  case round =>
    obtain ⟨A', m, c', rfl, hm1, hm2, kp, hown⟩ := hrel
    clear ow4' k24
    have ksz := kp.size
    by_cases hdone : m % 8 = 0 ∧ 8 ≤ m
    · have hmL : m = L := by rw [← hD.out]; exact datL_end hm1 (by rw [hD.out]; exact hm2) hdone
      subst hmL
      have g3 : ((m : Int) % 8 != 0) = false := by simp; omega
      have g4 : decide ((m : Int) < 8) = false := decide_eq_false (by omega)
      replace kp := Aside.mk kp
      replace hown := Aside.mk hown
      go_upto_region 7 with fail
      obtain ⟨n1, hn1⟩ : ∃ n1 : Nat, m = 4 * (n1 + 1) := ⟨m / 4 - 1, by omega⟩
      have hs8 : (m : Int) / 4 - 1 = (n1 : Int) := by omega
      rw [hs8]
      have hn2 : 1 ≤ n1 ∧ n1 ≤ 101 := by omega
      have hnz : ¬((n1 : Int) + 1 = 0) := by omega
      replace hs8 := trivial
      replace hn1 := Aside.mk hn1
      go_quiet (fail)
      obtain ⟨vn, hv, hv4, hvl⟩ := four_mod at_ (n1 := n1) (by have := hn1.out; omega)
      obtain ⟨an, ha, ha4, hal⟩ := four_mod add (n1 := n1) (by have := hn1.out; omega)
      rw [hv, ha]
      have kpq := Aside.mk (kp.out.drewN nq)
      have hrow : Aside (rowBy (wr.drewN nq) w2.heap.size (.slice A' m c') (padD ds m)) := ⟨by
        have e := row_at hown.out (w' := wr.drewN nq) (fun j _ hj => ((Kp.refl wr).drewN nq).block hj)
        have hl : (padD ds m).length = m := padD_len (by rw [hn.out]; exact hm1)
        unfold rowBy
        rw [hl]
        exact e⟩
      have hpl : (padD ds m).length = m := padD_len (by rw [hn.out]; exact hm1)
      have hpb := Aside.mk (padD_byte hb.out m)
      replace hv := trivial
      replace ha := trivial
      replace hown := trivial
      generalize padD ds m = own at *
      generalize wr.drewN nq = W at *
      subst hpl
      by_cases hfit : vn + an + 4 ≤ own.length
      case neg =>
        go_wp2_with fail
        go_ret
        exact ⟨rfl, k2.out.trans kpq.out⟩
      obtain ⟨mE, mT, mem, hmem, hml, hby, hgo⟩ := osD_run (own := own) (v := (vn : Int)) (a := (an : Int)) (vn := vn) (an := an) f3 (by omega) hpb.out rfl rfl hv4 ha4 hfit
      have bI := Aside.mk (Blk.new W (insC datT).toArray 40)
      have kI : Aside (Kp W (W.alloc (.cells (insC datT).toArray 40))) := ⟨(Kp.refl W).alloc _⟩
      have wc := Aside.mk (Words_calls (I := W.heap.size) (c := 4) datT (by decide) datT_ok bI.out (by decide))
      have hmk : ∀ V : World, (Instr.makeSlice 26 (.int .i64 8) (.int .i64 8)).run Try.prog V = .ok (.slice (some ⟨V.heap.size, 0, none⟩) 8 8) (V.alloc (.cells (memC (List.replicate 8 0)) 5)) := fun V => made_u8 8 (by decide) V
      replace mE := Aside.mk mE
      replace mT := Aside.mk mT
      replace hmem := Aside.mk hmem
      replace hby := Aside.mk hby
      replace hgo := Aside.mk hgo
      go_wp2_with fail
      refine Calls.mono wc.out ?_
      rintro e w5 ⟨v5, rfl, k5, hr5⟩
      obtain ⟨A5, n5, c5, rfl⟩ := own_slice hr5
      obtain ⟨hn5, sl5, wa5⟩ := words_own (l := wordsL datT) hr5
      subst hn5
      have kW5 := Aside.mk (kI.out.trans k5)
      obtain ⟨kO, hG, bM⟩ := one_made (a := (an : Int)) wa5 sl5
      have kpW := Aside.mk (kpq.out.trans (kW5.out.trans kO))
      replace hrow := hrow.out
      have sl' := Aside.mk (own_slok hrow)
      obtain ⟨-, hBA⟩ := bytes_ownD hrow
      replace hBA := Aside.mk (hBA.kp (kW5.out.trans kO))
      replace hG := Aside.mk hG
      replace bM := Aside.mk bM
      clear hr5 k5 kO kW5 kI bI wc wa5 sl5 hrow
      go_upto_region 12 with fail
      show Code.wp Try.prog _ _ _ (oneW w5 A5 c5 (an : Int))
      have eY1 : (oneY w5 A5 c5 (an : Int)).o = oneD (an : Int) := rfl
      have bM1 := bM.out
      have e10 : (oneW w5 A5 c5 (an : Int)).cell? ⟨w5.heap.size + 1 + 1 + 1, 0, none⟩ = some (.slice A5 (wordsL datT).length c5) := bM1.cell 0
      have e11 : (oneW w5 A5 c5 (an : Int)).cell? ⟨w5.heap.size + 1 + 1 + 1, 1, none⟩ = some (.slice (some ⟨w5.heap.size, 0, none⟩) 8 8) := bM1.cell 1
      have e12 : (oneW w5 A5 c5 (an : Int)).cell? ⟨w5.heap.size + 1 + 1 + 1, 2, none⟩ = some (.slice (some ⟨w5.heap.size + 1, 0, none⟩) 3 3) := bM1.cell 2
      have e13 : (oneW w5 A5 c5 (an : Int)).cell? ⟨w5.heap.size + 1 + 1 + 1, 3, none⟩ = some (.slice (some ⟨w5.heap.size + 1 + 1, 0, none⟩) 3 3) := bM1.cell 3
      have l1 := bM1.lt
      generalize oneW w5 A5 c5 (an : Int) = W11 at *
      clear bM1
      replace bM := trivial
      replace eY1 := trivial
      obtain ⟨kT, hG2, bM2⟩ := two_made (v := (vn : Int)) hBA.out sl'.out
      have kpT := Aside.mk (kpW.out.trans kT)
      have kT0 := kT
      have hG1 := Aside.mk (hG.out.kp kT)
      have f10 := (kT.cell (p := ⟨w5.heap.size + 1 + 1 + 1, 0, none⟩) l1).trans e10
      have f11 := (kT.cell (p := ⟨w5.heap.size + 1 + 1 + 1, 1, none⟩) l1).trans e11
      have f12 := (kT.cell (p := ⟨w5.heap.size + 1 + 1 + 1, 2, none⟩) l1).trans e12
      have f13 := (kT.cell (p := ⟨w5.heap.size + 1 + 1 + 1, 3, none⟩) l1).trans e13
      have l1' := Nat.lt_of_lt_of_le l1 kT.size
      replace hG2 := Aside.mk hG2
      replace bM2 := Aside.mk bM2
      clear e10 e11 e12 e13 l1 kT hG kpW
      have hBT := Aside.mk (hBA.out.kp kT0)
      replace hBA := trivial
      go_upto_region 13 with fail
      show Code.wp Try.prog _ _ _ (twoW W11 A' c' own (vn : Int))
      have g20 : (twoW W11 A' c' own (vn : Int)).cell? ⟨W11.heap.size + 1, 0, none⟩ = some (.slice none 0 0) := bM2.out.cell 0
      have g21 : (twoW W11 A' c' own (vn : Int)).cell? ⟨W11.heap.size + 1, 1, none⟩ = some (.slice A' own.length c') := bM2.out.cell 1
      have g22 : (twoW W11 A' c' own (vn : Int)).cell? ⟨W11.heap.size + 1, 2, none⟩ = some (.slice (some ⟨W11.heap.size, 0, none⟩) 1 1) := bM2.out.cell 2
      have g23 : (twoW W11 A' c' own (vn : Int)).cell? ⟨W11.heap.size + 1, 3, none⟩ = some (.slice none 0 0) := bM2.out.cell 3
      have l2 := bM2.out.lt
      have kL : Kp (twoW W11 A' c' own (vn : Int)) ((twoW W11 A' c' own (vn : Int)).alloc (.cells (([oneY w5 A5 c5 (an : Int), twoY W11 A' c' own (vn : Int)].flatMap ObjC.cells)).toArray 38)) := (Kp.refl _).alloc _
      have bL := Blk.new (twoW W11 A' c' own (vn : Int)) (([oneY w5 A5 c5 (an : Int), twoY W11 A' c' own (vn : Int)].flatMap ObjC.cells)).toArray 38
      have hos := ObjsAt.of_blk bL (fun y hy => by
        rcases List.mem_cons.1 hy with rfl | hy
        · exact hG1.out.kp kL
        · obtain rfl := List.mem_singleton.1 hy
          exact hG2.out.kp kL)
      have lc := Aside.mk (Link_calls (os := osD own (vn : Int) (an : Int)) (c := 2) hos (fun o ho => by
        rcases osD_mem ho with rfl | rfl
        · exact oneD_wf (by omega)
        · exact twoD_wf hpb.out (by omega) (by omega)) rfl (show (2 : Nat) ≤ 1000 by decide))
      have kpL := Aside.mk (kpT.out.trans kL)
      have hBL := Aside.mk (hBT.out.kp kL)
      generalize twoW W11 A' c' own (vn : Int) = W12 at *
      replace hos := trivial
      clear bL kL kpT hG1 hG2 bM2 hBT
      go_wp2_with fail
      refine Calls.mono lc.out ?_
      rintro e w6 hR
      obtain ⟨k6, g6, rfl, -, bm, -⟩ := link_gives (m := 40 + own.length) hR mE.out mT.out (by rw [osD_len]; omega) hmem.out osD_len
      have kA : Kp w6 (w6.alloc (.cells #[.int .i64 0, .slice (some ⟨g6, 0, none⟩) (40 + own.length) (40 + own.length)] 28)) := (Kp.refl w6).alloc _
      have bm3 := rowBy_blk (base := 0) (m := 40 + own.length) (Nat.zero_le _) (bm.kp kA) hml (by omega)
      have kp6 := Aside.mk (kpL.out.trans (k6.trans kA))
      have hB6 := Aside.mk (hBL.out.kp (k6.trans kA))
      obtain ⟨fl, hfl⟩ : ∃ fl, upV mem.length = fl := ⟨_, rfl⟩
      obtain ⟨tp, htp⟩ : ∃ tp, upV (fl + 16) = tp := ⟨_, rfl⟩
      have hft : mem.length ≤ tp ∧ tp ≤ 2097152 := by unfold upV at hfl htp; omega
      have ld := Aside.mk (Load_at 0 16 16 fl tp rfl bm3 hby.out (by unfold U; decide) (by decide) (by omega) hfl htp hft.2)
      obtain ⟨r', hg, hst, hcd, hev0⟩ := hgo.out fl tp hft.1 hft.2
      replace hg := Aside.mk hg
      clear hR lc k6 kA bm bm3 kpL hBL g20 g21 g22 g23 f10 f11 f12 f13 l1' l2
      go_wp2_with fail
      refine Calls.mono ld.out ?_
      rintro e w7 ⟨M, Bm, K, rfl, ⟨gM, gB, gK⟩, k7, hmac⟩
      have s7 := kp6.out.size
      have hout : Aside (w2.heap.size ≤ M ∧ w2.heap.size ≤ Bm ∧ w2.heap.size ≤ K) := ⟨by omega⟩
      obtain ⟨gb, ob, rfl, hgb, hbc⟩ := hB6.out (by rintro rfl; simp at hfit)
      have hgb' : Aside (gb < M ∧ gb < Bm ∧ gb < K) := ⟨by omega⟩
      have hB7 := hB6.out.kp k7
      have kp7 := Aside.mk (kp6.out.trans k7)
      have rc := Run_goes hg.out 7 rfl 100 (.slice none 0 0) hmac words_none rfl (by decide) (by decide) (Or.inr (by rw [hst]; decide)) (by decide)
      rw [hst, hcd] at rc
      replace rc := Aside.mk rc
      replace hB7 := Aside.mk hB7
      replace hbc := trivial
      have hgn := getN_range hpb.out (vn + an) 4
      have hgx : Aside (getN own (vn + an) 4 = own.getD (vn + an) 0 * 256 ^ 0 + own.getD (vn + an + 1) 0 * 256 ^ 1 + own.getD (vn + an + 2) 0 * 256 ^ 2 + own.getD (vn + an + 3) 0 * 256 ^ 3) := ⟨by simp only [getN]; rw [Int.zero_add]; rfl⟩
      generalize getN own (vn + an) 4 = X at *
      clear k7 gM gB gK s7 hmac ld kp6 hB6
      go_wp2_with fail
      refine Calls.mono rc.out ?_
      rintro e w8 ⟨ev, rfl, hmod, hm8, hev⟩
      obtain ⟨A8, n8, c8, rfl⟩ := own_slice hev
      clear hev
      have kk8 := Aside.mk ((kp7.out.mod.behind hmod (S := fun _ => False) (fun k e => Or.inr (by have := hout.out; rcases e with e | e | e <;> omega))).toKp (fun k e => e.elim))
      have hb8 : Aside (∀ i, i < own.length → w8.cell? ⟨gb, ob + i, none⟩ = some (.int .u8 (own.getD i 0))) := ⟨fun i hi => by
        obtain ⟨g', o', e, hg', hc'⟩ := hB7.out (by rintro rfl; simp at hi)
        injection e with e
        injection e with e1 e2
        subst e1 e2
        have := hgb'.out
        exact (World.cell?_of_block (hmod.block gb hg' (by omega))).trans (hc' i hi)⟩
      have slc := sl'.out.1
      have hcn : ¬c' = vn + an := by omega
      have hjn : vn + an ≤ own.length := by omega
      clear hmod hm8 rc kp7 hB7
      go_upto_region 21 with fail
      have kR : Kp w8 (w8.alloc (.cells #[.int .i64 1, .int .u32 X, .slice A8 n8 c8, .int .i64 7] 53)) := (Kp.refl w8).alloc _
      have bR := Blk.new w8 #[.int .i64 1, .int .u32 X, .slice A8 n8 c8, .int .i64 7] 53
      have byteAt : ∀ i, i < own.length → 0 ≤ own.getD i 0 ∧ own.getD i 0 ≤ 255 := fun i hi => by
        have := hpb.out (own.getD i 0) (by rw [List.getD_eq_getElem?_getD, List.getElem?_eq_getElem hi]; exact List.getElem_mem hi)
        exact this
      have hgw8 : gb < w8.heap.size := by
        obtain ⟨b', o', e, hlt⟩ := cell_some (hb8.out 0 (by omega))
        injection e with e1 e2
        omega
      have x0 := (kR.cell (p := ⟨gb, ob + (vn + an), none⟩) hgw8).trans (hb8.out (vn + an) (by omega))
      have x1 := (kR.cell (p := ⟨gb, ob + (vn + an + 1), none⟩) hgw8).trans (hb8.out (vn + an + 1) (by omega))
      have x2 := (kR.cell (p := ⟨gb, ob + (vn + an + 2), none⟩) hgw8).trans (hb8.out (vn + an + 2) (by omega))
      have x3 := (kR.cell (p := ⟨gb, ob + (vn + an + 3), none⟩) hgw8).trans (hb8.out (vn + an + 3) (by omega))
      rw [show ob + (vn + an + 1) = ob + (vn + an) + 1 by omega] at x1
      rw [show ob + (vn + an + 2) = ob + (vn + an) + 2 by omega] at x2
      rw [show ob + (vn + an + 3) = ob + (vn + an) + 3 by omega] at x3
      have y0 := byteAt (vn + an) (by omega)
      have y1 := byteAt (vn + an + 1) (by omega)
      have y2 := byteAt (vn + an + 2) (by omega)
      have y3 := byteAt (vn + an + 3) (by omega)
      have z0 : (w8.alloc (.cells #[.int .i64 1, .int .u32 X, .slice A8 n8 c8, .int .i64 7] 53)).cell? ⟨w8.heap.size, 0, none⟩ = some (.int .i64 1) := bR.cell 0
      have z1 : (w8.alloc (.cells #[.int .i64 1, .int .u32 X, .slice A8 n8 c8, .int .i64 7] 53)).cell? ⟨w8.heap.size, 1, none⟩ = some (.int .u32 X) := bR.cell 1
      have hx := hgx.out
      have hlk : 4 ≤ own.length - (vn + an) := by omega
      have kfin := Aside.mk (kk8.out.trans kR)
      generalize own.getD (vn + an) 0 = b0 at *
      generalize own.getD (vn + an + 1) 0 = b1 at *
      generalize own.getD (vn + an + 2) 0 = b2 at *
      generalize own.getD (vn + an + 3) 0 = b3 at *
      generalize hll : own.length - (vn + an) = ll at *
      generalize hcc : c' - (vn + an) = cc at *
      generalize hoo : ob + (vn + an) = oo at *
      replace hx := Aside.mk hx
      replace hll := trivial
      replace hcc := trivial
      replace hoo := trivial
      generalize w8.alloc (.cells #[.int .i64 1, .int .u32 X, .slice A8 n8 c8, .int .i64 7] 53) = W9 at *
      clear kR bR byteAt hb8 kk8 hgx
      have hX : X = b0 + b1 * 256 + b2 * 65536 + b3 * 16777216 := by
        have := hx.out
        omega
      have hg4 := or_four y0 y1 y2 y3
      rw [← hX] at hg4
      go_quiet (fail)
      go_wp2_with fail
      go_ret
      exact ⟨rfl, k2.out.trans (kfin.out.drewN nq)⟩
    · have hmL : m + 1 ≤ L := by rw [← hD.out]; exact datL_more hm1 (by rw [hD.out]; exact hm2) hdone
      have hsn : Aside (byV (padD ds (m + 1)) = byV (padD ds m) ++ [.int .u8 7]) := ⟨by rw [padD_snoc (by rw [hn.out]; exact hm1)]; simp [byV]⟩
      by_cases h8 : m % 8 = 0
      · have g3 : ((m : Int) % 8 != 0) = false := by simp; omega
        have g4 : decide ((m : Int) < 8) = true := decide_eq_true (by omega)
        replace kp := Aside.mk kp
        go_wp2_with ((at_builtin); (refine wpList_pushm rfl (.tmp 40) (.tmp 41) 26 rfl w2.heap.size 5 1 1 1 Try.underlying26 info_u8L (by decide) (by decide) (.slice A' m c') m (byV (padD ds m)) ?_ ?_ ?_ ?_ ?_ ?_ ?_ ?_ ?_ ?_ ?_ ?_ ?_); (rfl); (focus repeat (first | assumption | refine World.ownsRow.drew ?_ | refine World.ownsRow.alloc ?_ _)); (rotate_left 3); (rfl); (refine heap_new ?_); (rfl); (rfl); (simp [Value.oneCell']); (omega); (omega); (simp only [World.size_alloc]; omega); (intro gf capf wf hof hgf hgf' hltf); (have kpn := Aside.mk (show Kp w2 wf from Kp.grown (kp.out.alloc _) hgf (own_ge hown))))
        go_roundw
        case rel => exact ⟨_, _, _, rfl, by omega, by omega, kpn.out, by rw [hsn.out]; exact hof⟩
        case measure => simp [slLen]; omega
      · have g3 : ((m : Int) % 8 != 0) = true := by simp; omega
        replace kp := Aside.mk kp
        go_wp2_with ((at_builtin); (refine wpList_pushm rfl (.tmp 40) (.tmp 41) 26 rfl w2.heap.size 5 1 1 1 Try.underlying26 info_u8L (by decide) (by decide) (.slice A' m c') m (byV (padD ds m)) ?_ ?_ ?_ ?_ ?_ ?_ ?_ ?_ ?_ ?_ ?_ ?_ ?_); (rfl); (focus repeat (first | assumption | refine World.ownsRow.drew ?_ | refine World.ownsRow.alloc ?_ _)); (rotate_left 3); (rfl); (refine heap_new ?_); (rfl); (rfl); (simp [Value.oneCell']); (omega); (omega); (simp only [World.size_alloc]; omega); (intro gf capf wf hof hgf hgf' hltf); (have kpn := Aside.mk (show Kp w2 wf from Kp.grown (kp.out.alloc _) hgf (own_ge hown))))
        go_roundw
        case rel => exact ⟨_, _, _, rfl, by omega, by omega, kpn.out, by rw [hsn.out]; exact hof⟩
        case measure => simp [slLen]; omega
section
variable {H : Type} {enc : TypeId × Value → H} {W : World} {base : Nat}
set_option maxRecDepth 100000 in
theorem data_law {v : Value} {d : DataW H} {p : List MemPlace} (hv : Value.okWide Try.prog W .any base 26 v) (h : DataW.Trod enc Try.prog W 0 (fun _ => true) true 26 v d p) (n : Int) (w1 : (Lit.int .u8 n).wf = true) (m : Int) (w2 : (Lit.int .u8 m).wf = true) :
    Calls Try.prog 5 #[v, .int .u8 n, .int .u8 m] W fun e w' => e = .returned (.bool true) ∧ Below W.heap.size W w' := by
  obtain ⟨A, k, c, rfl⟩ := okWide_slice Try.underlying26 hv
  obtain ⟨f1, h1⟩ := h
  obtain ⟨A', ct, l, e0, s0, a0, u0, z0⟩ := ints_open Try.underlying26 Try.underlying5 cellsU8 h1
  have e1 : Value.slice A k c = .slice A' l.length ct := by
    have : [Value.slice A k c] = [.slice A' l.length ct] := e0
    injection this
  rw [e1]
  have hb : ∀ x ∈ l, Byte x := fun x hx => by
    have := bounds_u8 (u0 x hx)
    unfold Byte
    omega
  have b1 := bounds_u8 w1
  have b2 := bounds_u8 w2
  exact (data_any a0 rfl hb s0.2 z0 n m (by omega) (by omega)).mono fun _ _ ⟨he, hk⟩ => ⟨he, hk.out⟩
end
end Go.Proofs.Ytnbooljaodkedaa
