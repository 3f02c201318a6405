/- The keys of a set of pairs, sorted: slices.SortedFunc, walked. Conditions stand at the theorem. -/
import Derived.Test.YtkianddaccoeiaaLivJ
import Derived.Test.YtkianddaccoeiaaLaidK
import Derived.Test.YtkianddaccoeiaaPlainPair
namespace Go.Proofs.Ytkianddaccoeiaa
open Go.RowKit Go.Maps Go.Sort Go.Shelf Go.Proofs.Ytkianddaccoeiaa.PL
set_option linter.unusedVariables false
set_option linter.unusedSimpArgs false
theorem lt_cmpP (p q : Int × Int) : ltOf cmpP p q = decide (p.1 < q.1 ∨ p.1 = q.1 ∧ p.2 < q.2) := by
  unfold ltOf cmpP orI cmpI
  rw [decide_eq_decide]
  (repeat' split) <;> omega
theorem swoP : SWO (ltOf cmpP) where
  irrefl x := by rw [lt_cmpP]; simp
  trans x y z h1 h2 := by rw [lt_cmpP] at *; simp only [decide_eq_true_eq] at *; omega
  ntrans x y z h1 h2 := by rw [lt_cmpP] at *; simp only [decide_eq_false_iff_not] at *; omega
theorem totP (x y : Int × Int) (h1 : ltOf cmpP x y = false) (h2 : ltOf cmpP y x = false) : x = y := by
  rw [lt_cmpP] at *
  simp only [decide_eq_false_iff_not] at *
  exact Prod.ext (by omega) (by omega)
theorem geP : (fun x y : Int × Int => !ltOf cmpP y x) = leP := by
  funext x y
  rw [lt_cmpP]
  unfold leP
  rw [← decide_not, decide_eq_decide]
  omega
/-- Pairs in a row, readable. -/
def PairsRow (w : World) (A : Option Addr) (l : List (Int × Int)) : Prop := l ≠ [] → ∃ g off, A = some ⟨g, off, none⟩ ∧ g < w.heap.size ∧ ∀ i p, l[i]? = some p → w.cell? ⟨g, off + i * 2, none⟩ = some (.int .i64 p.1) ∧ w.cell? ⟨g, off + i * 2 + 1, none⟩ = some (.int .i64 p.2)
theorem PairsRow.kp {w w' : World} {A : Option Addr} {l : List (Int × Int)} (h : PairsRow w A l) (k : Kp w w') : PairsRow w' A l := fun hne => by
  obtain ⟨g, off, e, hg, hc⟩ := h hne
  exact ⟨g, off, e, Nat.lt_of_lt_of_le hg k.size, fun i p hp => ⟨(k.cell (p := ⟨g, _, none⟩) hg).trans (hc i p hp).1, (k.cell (p := ⟨g, _, none⟩) hg).trans (hc i p hp).2⟩⟩
/-- What a list of pairs that is handed back is. -/
def PairsR (w : World) (l : List (Int × Int)) (e : Ending) (w' : World) : Prop := ∃ A c, e = .returned (.slice A l.length c) ∧ PairsRow w' A l ∧ Kp w w'
theorem cellsP_at : ∀ (l : List (Int × Int)) (i : Nat) (p : Int × Int), l[i]? = some p → (l.flatMap cellsP)[i * 2]? = some (.int .i64 p.1) ∧ (l.flatMap cellsP)[i * 2 + 1]? = some (.int .i64 p.2)
  | [], i, p, h => by simp at h
  | a :: l, 0, p, h => by
    simp at h
    subst h
    simp [cellsP]
  | a :: l, i + 1, p, h => by
    have := cellsP_at l i p (by simpa using h)
    show (cellsP a ++ l.flatMap cellsP)[(i + 1) * 2]? = _ ∧ (cellsP a ++ l.flatMap cellsP)[(i + 1) * 2 + 1]? = _
    rw [show (i + 1) * 2 = i * 2 + 2 by omega, show i * 2 + 2 + 1 = (i * 2 + 1) + 2 by omega]
    simpa [cellsP] using this
theorem len_cellsP (l : List (Int × Int)) : (l.flatMap cellsP).length = l.length * 2 := by
  induction l with
  | nil => rfl
  | cons a l ih => simp [cellsP, ih]; omega
theorem flatK_at (l : List (Int × Int)) (i : Nat) (p : Int × Int) (h : l[i]? = some p) : (flatK cellsP 2 l.toArray)[i * 2]! = .int .i64 p.1 ∧ (flatK cellsP 2 l.toArray)[i * 2 + 1]! = .int .i64 p.2 := by
  have hl := (List.getElem?_eq_some_iff.1 h).1
  have he : l.toArray[i]! = p := by
    rw [getElem!_pos _ i (by simpa using hl)]
    have := (List.getElem?_eq_some_iff.1 h).2
    simpa using this
  constructor
  · rw [get_flatK _ _ _ _ (by simp; omega), show i * 2 / 2 = i by omega, show i * 2 % 2 = 0 by omega, he]
    rfl
  · rw [get_flatK _ _ _ _ (by simp; omega), show (i * 2 + 1) / 2 = i by omega, show (i * 2 + 1) % 2 = 1 by omega, he]
    rfl
theorem flatK_eq (l : List (Int × Int)) : flatK cellsP 2 l.toArray = (l.flatMap cellsP).toArray := by
  apply Array.ext
  · rw [size_flatK, List.size_toArray, List.size_toArray, len_cellsP]
  · intro j h1 h2
    have hj : j < l.length * 2 := by simpa using h1
    obtain ⟨p, hp⟩ : ∃ p, l[j / 2]? = some p := ⟨_, List.getElem?_eq_getElem (by omega)⟩
    obtain ⟨a1, a2⟩ := flatK_at l (j / 2) p hp
    obtain ⟨b1, b2⟩ := cellsP_at l (j / 2) p hp
    rw [← getElem!_pos (flatK cellsP 2 l.toArray) j h1]
    have hr : (l.flatMap cellsP).toArray[j]? = some ((l.flatMap cellsP).toArray[j]'h2) := Array.getElem?_eq_getElem h2
    simp only [List.getElem?_toArray] at hr
    rcases Nat.mod_two_eq_zero_or_one j with e | e
    · rw [show j / 2 * 2 = j by omega] at a1 b1
      rw [a1]
      exact Option.some.inj (b1.symm.trans hr)
    · rw [show j / 2 * 2 + 1 = j by omega] at a2 b2
      rw [a2]
      exact Option.some.inj (b2.symm.trans hr)
theorem sortWorld_kp {w0 w : World} (h : Kp w0 w) (enc : Int × Int → List Value) (k blk off m : Nat) (dk : Array (Int × Int)) (os : Array Obj) (hb : w0.heap.size ≤ blk) : Kp w0 (sortWorldK enc k w blk off m dk os) := by
  refine ⟨h.out.trans ⟨rfl, rfl, rfl, size_sortWorldK_c _ _ _ _ _ _ _ _, fun i hi => ?_⟩⟩
  have hs := h.size
  unfold sortWorldK
  rw [heap_grow_old _ _ (by simp [putRowK, putRow, mapBlock, Sort.ahead]; omega)]
  unfold putRowK putRow mapBlock Sort.ahead
  simp only [Array.getElem?_modify]
  rw [if_neg (by omega)]
theorem all_perm {w : World} {b n K : Nat} {D : DataW Value} {R : Value → Option (DataW Value × List MemPlace)} (h : w.ownsMap Try.prog 39 R b n D) {S : Int → Int → Bool} (hK : K ≤ 10000) (h1 : ∀ x y : Int, (0 ≤ x ∧ x < K) → (0 ≤ y ∧ y < K) → Maps.has D (k2 x y) = S x y) (h2 : ∀ x y, S x y = true → (0 ≤ x ∧ x < K) ∧ 0 ≤ y ∧ y < K)
    (h3 : ∀ kl, Maps.has D kl = true → ∃ x y : Int, (0 ≤ x ∧ x < K) ∧ (0 ≤ y ∧ y < K) ∧ kl = k2 x y) {ss : List (Int × Int)} (ha : AllP D ss) : ss.Perm (listP K S) := by
  refine (List.perm_ext_iff_of_nodup ha.1 (listP_nodup K S)).2 (fun p => ?_)
  rw [mem_listP h2]
  constructor
  · intro hp
    obtain ⟨hw, hh⟩ := ha.2.1 p hp
    obtain ⟨x, y, hx, hy, e⟩ := h3 _ hh
    obtain ⟨e1, e2⟩ := k2_inj hw.1 hw.2 (by omega) (by omega) e
    rw [e] at hh
    rw [e1, e2, ← h1 x y hx hy]
    exact hh
  · intro hs
    obtain ⟨hx, hy⟩ := h2 _ _ hs
    obtain ⟨q, hq, e⟩ := ha.2.2 (k2 p.1 p.2) (by rw [h1 _ _ hx hy]; exact hs)
    obtain ⟨hw, -⟩ := ha.2.1 q hq
    obtain ⟨e1, e2⟩ := k2_inj (by omega) (by omega) hw.1 hw.2 e
    rw [show p = q from Prod.ext e1 e2]
    exact hq
set_option maxRecDepth 100000 in
set_option maxHeartbeats 2000000 in
theorem SortedFunc_calls {w : World} {b Bm K : Nat} {S : Int → Int → Bool} (hS : PairsAt w b K S) (hK : K ≤ 10000) (hm : w.cell? ⟨Bm, 0, none⟩ = some (.map (some b))) :
    Calls Try.prog 25 #[.func (.func 44) #[] #[.pointer (some ⟨Bm, 0, none⟩)], .func (.func 27) #[] #[]] w (PairsR w (listP K S)) := by
  obtain ⟨_, _, eBm, hBm⟩ := cell_some hm
  cases eBm
  obtain ⟨D, hown, h1, h2, h3⟩ := hS
  obtain ⟨es, ps0, -, -, -, -, hsz, hle⟩ := PairsAt.keys hown h3 hK
  have hKK : K * K ≤ 10000 * 10000 := Nat.mul_le_mul hK hK
  have e44 : ∀ args w, (callFunc 44 args).run Try.prog w = .ok (.enter 44 args) w := enters_of Try.func44 (by kernel_rfl) rfl
  have e27 : ∀ args w, (callFunc 27 args).run Try.prog w = .ok (.enter 27 args) w := enters_of Try.func27 (by kernel_rfl) rfl
  have cC := collectP_in 5 (by decide) 44 #[.pointer (some ⟨Bm, 0, none⟩)] e44 (AllP D) (Maps.size D) (by unfold maxLen; omega) (by omega) w (keysP_gives 3 (by decide) Bm b _ D w hBm hm hown)
  refine (callsIn_wide (n := 6)).1 ?_
  have hf1 : Fence.wide.fn 42 := trivial
  have hf2 : Fence.wide.fn 43 := trivial
  refine callsIn_of_wp Try.func25 rfl trivial ?_ rfl
  simp only [Try.ntmps25, List.size_toArray, List.length_cons, List.length_nil, Nat.reduceAdd, Nat.reduceSub, Array.replicate_succ, Array.replicate_zero, List.push_toArray, List.append_toArray, List.nil_append, List.cons_append]
  gi_wp2_with (gi_at_call 42; refine cC.mono ?_; rintro e W ⟨v, ss, rfl, hA, hrow, hnil, hb⟩)
  have hperm := all_perm hown hK h1 h2 h3 hA
  rcases hrow.2 with ⟨rfl, hz⟩ | ⟨gb, cap, cur, rfl, hbase, hgb, r1, r2, r3, r4⟩
  · have hss : ss = [] := List.eq_nil_of_length_eq_zero hz
    subst hss
    have hl : listP K S = [] := List.eq_nil_of_length_eq_zero (by rw [← hperm.length_eq]; rfl)
    have hS := AnyF.slices_SortFunc_none (P := Try.prog) (ρ := Try.sortF_ren) { Try.sortF with } none 0 (.func (.func 27) #[] #[]) W
    change Calls Try.prog 43 _ _ _ at hS
    gi_wp2_with (gi_at_call 43; refine (callsIn_wide.2 hS).mono ?_; rintro e w' ⟨rfl, rfl⟩)
    go_ret
    exact ⟨none, 0, by rw [hl]; rfl, (by rw [hl]; exact fun h => absurd rfl h), ⟨hb⟩⟩
  · have hgl : gb < W.heap.size := (Array.getElem?_eq_some_iff.1 hgb).1
    have hlen : ss.length < 4611686018427387904 := by
      have := hperm.length_eq
      have h4 := pairs_few (K := K) hA.1 (fun p hp => h2 _ _ ((mem_listP h2 p).1 (hperm.mem_iff.1 hp)))
      omega
    have hH : HoldsK cellsP 2 W gb 0 ss.toArray := by
      unfold HoldsK
      rw [flatK_eq]
      intro j hj
      have hj2 : j < ss.length * 2 := by rw [List.size_toArray, len_cellsP] at hj; exact hj
      have hc : cur[j]? = some ((ss.flatMap cellsP).toArray[j]!) := by
        have := congrArg (fun l => l[j]?) r4
        simp only [List.getElem?_take, if_pos hj2] at this
        rw [getElem!_pos _ j hj]
        have hr : (ss.flatMap cellsP).toArray[j]? = some ((ss.flatMap cellsP).toArray[j]'hj) := Array.getElem?_eq_getElem hj
        simp only [List.getElem?_toArray] at hr
        rw [← hr, ← this]
        simp
      constructor
      · rw [Nat.zero_add]
        simp [World.cell?, hgb, hc]
      · simp [World.frozen?, hgb]
    have hcmp : CmpLays Try.prog 27 #[] cellsP 2 cmpP gb 0 ss.toArray.size W := fun m os dk _ x y => clash2_calls x y _
    have hS := AnyQ.slices_SortFunc_total (P := Try.prog) (ρ := Try.sortF_ren) Try.sortF 2 Try.isAgg39 Try.sizeOf39 cellsP (fun _ => rfl) (by intro x v hv; simp only [cellsP, List.mem_cons, List.not_mem_nil, or_false] at hv; rcases hv with rfl | rfl <;> rfl) cmpP swoP 27 #[] gb 0 cap ss.toArray W e27 hcmp hH hgl (by simpa using hlen) totP
    rw [geP] at hS
    change Calls Try.prog 43 _ _ _ at hS
    rw [show ss.toArray.size = ss.length by simp, show ss.toArray.toList = ss by simp, sort_listP hperm] at hS
    replace hS := Aside.mk hS
    gi_wp2_with (gi_at_call 43; refine (callsIn_wide.2 hS.out).mono ?_; rintro e w' ⟨rfl, nn, os, rfl⟩)
    go_ret
    have hH2 := holdsK_sortWorldK cellsP 2 W gb 0 nn ss.toArray (listP K S).toArray os hgl hH (by simp [hperm.length_eq])
    unfold HoldsK at hH2
    rw [flatK_eq] at hH2
    refine ⟨some ⟨gb, 0, none⟩, cap, by rw [← hperm.length_eq]; rfl, fun _ => ⟨gb, 0, rfl, lt_sortWorldK cellsP 2 W gb 0 nn _ os hgl, fun i p hp => ?_⟩, sortWorld_kp ⟨hb⟩ cellsP 2 gb 0 nn _ os hbase⟩
    have hi := (List.getElem?_eq_some_iff.1 hp).1
    obtain ⟨b1, b2⟩ := cellsP_at _ i p hp
    have q1 := (hH2 (i * 2) (by rw [List.size_toArray, len_cellsP]; omega)).1
    have q2 := (hH2 (i * 2 + 1) (by rw [List.size_toArray, len_cellsP]; omega)).1
    rw [getElem!_pos _ _ (by rw [List.size_toArray, len_cellsP]; omega)] at q1 q2
    have e1 : (((listP K S).flatMap cellsP).toArray[i * 2]'(by rw [List.size_toArray, len_cellsP]; omega)) = .int .i64 p.1 := by
      have := (List.getElem?_eq_some_iff.1 b1).2
      simpa using this
    have e2 : (((listP K S).flatMap cellsP).toArray[i * 2 + 1]'(by rw [List.size_toArray, len_cellsP]; omega)) = .int .i64 p.2 := by
      have := (List.getElem?_eq_some_iff.1 b2).2
      simpa using this
    rw [e1] at q1
    rw [e2] at q2
    exact ⟨q1, q2⟩
end Go.Proofs.Ytkianddaccoeiaa
