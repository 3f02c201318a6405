/- LinkCalls: what is linked, and how it runs: by value. No condition. -/
import Derived.Test.YtnbooljaodkedaaCalP
namespace Go.Proofs.Ytnbooljaodkedaa
open Go.RowKit Go.Proofs.Ytnbooljaodkedaa.PC Go.Proofs.Ytnbooljaodkedaa.PW
set_option linter.unusedVariables false
set_option linter.unusedSimpArgs false
theorem sum_le {α : Type} (f : α → Nat) (b : Nat) : ∀ l : List α, (∀ a ∈ l, f a ≤ b) → (l.map f).sum ≤ l.length * b
  | [], _ => by simp
  | a :: l, h => by
    have h1 := h a (List.mem_cons_self ..)
    have h2 := sum_le f b l (fun x hx => h x (List.mem_cons_of_mem _ hx))
    rw [List.map_cons, List.sum_cons, List.length_cons, Nat.succ_mul]
    omega
section
variable {ns : List Int} {os : List ObjV}
theorem calls_os (hp : (callsO ns).Perm os) {o : ObjV} (h : o ∈ os) : o = mO ns.length ∨ ∃ i x, ns[i]? = some x ∧ o = fO i x := calls_mem (hp.mem_iff.2 h)
theorem calls_ok (hp : (callsO ns).Perm os) (hn : ns.length ≤ 10) : ∀ o ∈ os, objOk o := fun o ho => by
  rcases calls_os hp ho with rfl | ⟨i, x, hx, rfl⟩
  · exact mO_ok hn
  · have := (List.getElem?_eq_some_iff.1 hx).1
    exact fO_ok (by omega)
theorem calls_wf (hp : (callsO ns).Perm os) (hn : ns.length ≤ 10) : ∀ o ∈ os, o.wf := fun o ho => by
  rcases calls_os hp ho with rfl | ⟨i, x, hx, rfl⟩
  · exact mO_wf hn
  · exact fO_wf
theorem calls_main (hp : (callsO ns).Perm os) : ∃ im : Nat, os[im]? = some (mO ns.length) := List.mem_iff_getElem?.1 (hp.mem_iff.1 (List.mem_cons_self ..))
/-- Where a function's object stands. -/
def icF (os : List ObjV) (i : Nat) : Nat := ((findV os (nmF i)).getD (0, 0)).1
theorem calls_f (hp : (callsO ns).Perm os) (hn : ns.length ≤ 10) {i : Nat} {x : Int} (hx : ns[i]? = some x) : os[icF os i]? = some (fO i x) ∧ findV os (nmF i) = some (icF os i, 0) := by
  obtain ⟨ic, hic⟩ := List.mem_iff_getElem?.1 (hp.mem_iff.1 (List.mem_cons_of_mem _ (List.mem_of_getElem? (fsO_at hx))))
  have hf : findV os (defF i).name = some (ic, 0) := find_at (o := fO i x) (s := defF i) ((once_perm hp).2 (calls_once hn)) hic rfl rfl
  have e : icF os i = ic := by
    unfold icF
    rw [show nmF i = (defF i).name from rfl, hf]
    rfl
  rw [e]
  exact ⟨hic, hf⟩
theorem calls_allT (hp : (callsO ns).Perm os) (hn : ns.length ≤ 10) : allT os := by
  intro o ho s hs h0
  rcases calls_os hp ho with rfl | ⟨i, x, hx, rfl⟩
  · rcases List.mem_cons.1 hs with rfl | hs
    · exact absurd h0 (by decide)
    · obtain ⟨i, hi, rfl⟩ := uses_mem hs
      show (findV os (nmF i)).isSome
      rw [(calls_f hp hn (List.getElem?_eq_getElem hi)).2]
      rfl
  · obtain rfl := List.mem_singleton.1 hs
    exact absurd h0 (by show ¬(1 : Int) = 0; decide)
theorem calls_len (hp : (callsO ns).Perm os) (hn : ns.length ≤ 10) : imgLen os ≤ 1000 ∧ os.length ≤ 11 := by
  have hl : os.length = ns.length + 1 := by
    rw [← hp.length_eq]
    simp [callsO, fsO]
  have h1 := sum_le (fun o : ObjV => o.text.length) 13 os (fun o ho => by
    rcases calls_os hp ho with rfl | ⟨i, x, hx, rfl⟩
    · show (wordsL (mP ns.length)).length ≤ 13
      rw [wordsL_len, mP_len]
      omega
    · show 2 ≤ 13
      decide)
  have h2 := sum_le (fun o : ObjV => o.data.length) 0 os (fun o ho => by
    rcases calls_os hp ho with rfl | ⟨i, x, hx, rfl⟩
    · exact Nat.le_refl 0
    · exact Nat.le_refl 0)
  have h3 : os.length * 13 ≤ 11 * 13 := Nat.mul_le_mul_right 13 (by omega)
  refine ⟨?_, by omega⟩
  unfold imgLen base
  rw [sumT_eq, sumD_eq]
  omega
/-- The words of main, patched so far. -/
theorem fold_jal (hp : (callsO ns).Perm os) (hn : ns.length ≤ 10) {im : Nat} (him : os[im]? = some (mO ns.length)) : ∀ j, j ≤ ns.length →
    ∃ T, (relsF j).foldlM (stepR os im (mO ns.length)) (wordsL (mP ns.length), []) = some (T, []) ∧ T.length = ns.length + 3 ∧
      (∀ i, i < j → T[i + 2]? = some (⟨40, 1, 0, 0, (txtV os (icF os i) : Int) - ((txtV os im + 4 * (i + 2) : Nat) : Int)⟩ : Ins).word ∧ (⟨40, 1, 0, 0, (txtV os (icF os i) : Int) - ((txtV os im + 4 * (i + 2) : Nat) : Int)⟩ : Ins).ok) ∧ ∀ k, k < 2 ∨ j + 2 ≤ k → T[k]? = (wordsL (mP ns.length))[k]?
  | 0, _ => ⟨wordsL (mP ns.length), rfl, by rw [wordsL_len, mP_len], fun i hi => absurd hi (Nat.not_lt_zero _), fun _ _ => rfl⟩
  | j + 1, hj => by
    obtain ⟨T, hT, hl, h1, h2⟩ := fold_jal hp hn him j (by omega)
    have hx := List.getElem?_eq_getElem (show j < ns.length by omega)
    obtain ⟨hic, hf⟩ := calls_f hp hn hx
    obtain ⟨hlen, -⟩ := calls_len hp hn
    obtain ⟨f1, f2⟩ := txt_fit him
    obtain ⟨f3, f4⟩ := txt_fit hic
    have hwl : (mO ns.length).text.length = ns.length + 3 := by show (wordsL (mP ns.length)).length = _; rw [wordsL_len, mP_len]
    have hval : relVal os im (mO ns.length) (relF j) = (txtV os (icF os j) : Int) := by
      have e : ((mO ns.length).syms[(((j + 1 : Nat) : Int)).toNat]?).bind (tgtV os im (((j + 1 : Nat) : Int)).toNat) = some (icF os j, 0) := by
        rw [Int.toNat_natCast]
        have e1 : (mO ns.length).syms[j + 1]? = some (useF j) := by
          show (usesF ns.length)[j]? = _
          simp [usesF, show j < ns.length by omega]
        rw [e1]
        show tgtV os im (j + 1) (useF j) = _
        unfold tgtV
        rw [if_pos (show (useF j).sect = 0 from rfl)]
        exact hf
      have ea : adrV os (icF os j, 0) = (txtV os (icF os j) : Int) := by
        unfold adrV symAt
        rw [hic]
        show (((txtV os (icF os j) : Int) + 4 * 0) % 4294967296) = _
        omega
      unfold relVal
      show ((match ((mO ns.length).syms[(((j + 1 : Nat) : Int)).toNat]?).bind (tgtV os im (((j + 1 : Nat) : Int)).toNat) with | some t => adrV os t | none => 0) + 0) % 4294967296 = _
      rw [e]
      show (adrV os (icF os j, 0) + 0) % 4294967296 = _
      rw [ea]
      omega
    have hplace : addrV (txtV os im) (datV os im) 1 ((j + 2 : Nat) : Int) = ((txtV os im + 4 * (j + 2) : Nat) : Int) := by
      show (((txtV os im : Int) + 4 * ((j + 2 : Nat) : Int)) % 4294967296) = _
      omega
    have hw : T.getD (((j + 2 : Nat) : Int)).toNat 0 = insW 40 1 0 0 0 := by
      rw [Int.toNat_natCast, List.getD_eq_getElem?_getD, h2 (j + 2) (Or.inr (Nat.le_refl _))]
      unfold wordsL
      rw [List.getElem?_map, mP_jal (show j < ns.length by omega)]
      rfl
    have hm4 : ((txtV os (icF os j) : Int) - ((txtV os im + 4 * (j + 2) : Nat) : Int)) % 4 = 0 := by
      unfold txtV
      omega
    obtain ⟨p1, p2⟩ := jal_pat (v := (txtV os (icF os j) : Int)) (p := ((txtV os im + 4 * (j + 2) : Nat) : Int)) (by omega) (by omega) hm4
    have hs : stepR os im (mO ns.length) (T, []) (relF j) = some (T.set (j + 2) (⟨40, 1, 0, 0, (txtV os (icF os j) : Int) - ((txtV os im + 4 * (j + 2) : Nat) : Int)⟩ : Ins).word, []) := by
      unfold stepR
      rw [if_neg (show ¬(relF j).sect = 2 by show ¬(1 : Int) = 2; decide), hval]
      show (patO 4 (T.getD (((j + 2 : Nat) : Int)).toNat 0) _ (addrV (txtV os im) (datV os im) 1 ((j + 2 : Nat) : Int))).map _ = _
      rw [hw, hplace, p1]
      rfl
    refine ⟨T.set (j + 2) (⟨40, 1, 0, 0, (txtV os (icF os j) : Int) - ((txtV os im + 4 * (j + 2) : Nat) : Int)⟩ : Ins).word, ?_, by rw [List.length_set]; exact hl, fun i hi => ?_, fun k hk => ?_⟩
    rotate_left 1
    · by_cases e : i = j
      · subst e
        refine ⟨List.getElem?_set_self (by rw [hl]; omega), p2, ⟨by show (-9223372036854775808 : Int) ≤ 40; decide, by show (40 : Int) ≤ 9223372036854775807; decide⟩, ⟨by show (-9223372036854775808 : Int) ≤ _ - _; omega, by show _ - _ ≤ (9223372036854775807 : Int); omega⟩⟩
      · obtain ⟨a1, a2⟩ := h1 i (by omega)
        exact ⟨by rw [List.getElem?_set_ne (by omega)]; exact a1, a2⟩
    · rw [List.getElem?_set_ne (by omega)]
      exact h2 k (by omega)
    · have e : relsF (j + 1) = relsF j ++ [relF j] := by simp [relsF, List.range_succ]
      rw [e, List.foldlM_append, hT]
      show List.foldlM _ _ _ = _
      rw [List.foldlM_cons, hs]
      rfl
end
/-- Calls, one behind the other. -/
theorem calls_go {m : List Int} (hl : m.length ≤ 4294967292) {pm : Nat} {q : Nat → Nat} : ∀ (ns : List Int) (i0 : Nat) (r : RS) (X : Nat → Int) (s : Int), (∀ n ∈ ns, Byte n) → St m r X (pm + 4 * i0) → X 0 = 0 → X 5 = 4 → X 10 = s → 0 ≤ s → s + 255 * ns.length ≤ 4294967295 → pm % 4 = 0 →
    (∀ j x, ns[j]? = some x → Cd m (pm + 4 * (i0 + j)) ⟨40, 1, 0, 0, (q (i0 + j) : Int) - ((pm + 4 * (i0 + j) : Nat) : Int)⟩ ∧ Cd m (q (i0 + j)) (addI x) ∧ Cd m (q (i0 + j) + 4) ⟨41, 0, 1, 0, 0⟩) →
    ∃ r' X', Goes r (3 * ns.length) r' ∧ St m r' X' (pm + 4 * (i0 + ns.length)) ∧ X' 0 = 0 ∧ X' 5 = 4 ∧ X' 10 = s + ns.sum ∧ 0 ≤ ns.sum ∧ ns.sum ≤ 255 * ns.length
  | [], i0, r, X, s, _, h, h0, h5, h10, _, _, _, _ => ⟨r, X, .nil r, h, h0, h5, by simp [h10], by simp, by simp⟩
  | n :: ns, i0, r, X, s, hb, h, h0, h5, h10, hs0, hs, h4, hc => by
    obtain ⟨b0, b1⟩ := hb n (List.mem_cons_self ..)
    obtain ⟨c1, c2, c3⟩ := hc 0 n rfl
    rw [Nat.add_zero] at c1 c2 c3
    simp only [List.length_cons] at hs
    obtain ⟨r1, t1, g1⟩ := st_jal h hl (d := 1) (q := q i0) (by decide) (by omega) (by have := c2.fit; omega) c1
    obtain ⟨r2, t2, g2⟩ := st_addi g1 hl (d := 10) (e := 10) (n := n) (by decide) c2
    have e10 : (upd X 1 ((pm + 4 * i0 + 4 : Nat) : Int) 10 + n % 4294967296) % 4294967296 = s + n := by
      show (X 10 + n % 4294967296) % 4294967296 = s + n
      rw [h10]
      omega
    rw [e10] at g2
    obtain ⟨r3, t3, g3⟩ := st_jalr g2 hl (e := 1) (q := pm + 4 * i0 + 4) rfl (by simp [upd]) (by omega) (by have := c1.fit; omega) c3
    rw [show pm + 4 * i0 + 4 = pm + 4 * (i0 + 1) by omega] at g3
    obtain ⟨r4, X4, g4, s4, z0, z5, z10, y0, y1⟩ := calls_go hl (q := q) ns (i0 + 1) r3 _ (s + n) (fun x hx => hb x (List.mem_cons_of_mem _ hx)) g3 rfl (by simp [upd, h5]) (by simp [upd]) (by omega) (by omega) h4 (fun j x hx => by
      have := hc (j + 1) x hx
      rwa [show i0 + (j + 1) = i0 + 1 + j by omega] at this)
    refine ⟨r4, X4, ?_, ?_, z0, z5, by rw [z10, List.sum_cons]; omega, by rw [List.sum_cons]; omega, by rw [List.sum_cons, List.length_cons]; omega⟩
    · have g := (Goes.one h.run t1).trans ((Goes.one g1.run t2).trans ((Goes.one g2.run t3).trans g4))
      rw [List.length_cons, show 3 * (ns.length + 1) = 1 + (1 + (1 + 3 * ns.length)) by omega]
      exact g
    · rw [List.length_cons, show i0 + (ns.length + 1) = i0 + 1 + ns.length by omega]
      exact s4
/-- What is linked, and how it runs. -/
theorem calls_run {ns : List Int} {os : List ObjV} (hp : (callsO ns).Perm os) (hn : ns.length ≤ 10) (hb : ∀ n ∈ ns, Byte n) : mainE os = 0 ∧ ∃ t, mainT os = some t ∧ ∃ mem, imageV os t = some mem ∧ mem.length = imgLen os ∧ (∀ x ∈ mem, Byte x) ∧
    ∀ floor top, mem.length ≤ top → top ≤ 2097152 → ∃ r', Goes (bootM mem floor top) (3 * ns.length + 6) r' ∧ r'.s.state = 1 ∧ r'.s.code = ns.sum ∧ r'.ev = [] := by
  obtain ⟨hlen, hcount⟩ := calls_len hp hn
  have hok := calls_ok hp hn
  obtain ⟨im, him⟩ := calls_main hp
  obtain ⟨m1, m2, m3⟩ := main_zero hok ((once_perm hp).2 (calls_once hn)) (calls_allT hp hn) him (k := 0) rfl
  obtain ⟨f1, f2⟩ := txt_fit him
  have hwl : (mO ns.length).text.length = ns.length + 3 := by show (wordsL (mP ns.length)).length = _; rw [wordsL_len, mP_len]
  have hv : adrV os (im, 0) = ((txtV os im : Nat) : Int) := by rw [m3]; congr 1; omega
  have h4 : ∀ i, txtV os i % 4 = 0 := fun i => by unfold txtV; omega
  obtain ⟨T, hT, hTl, hT1, hT2⟩ := fold_jal hp hn him ns.length (Nat.le_refl _)
  have hR : objR os im (mO ns.length) = some (T, []) := hT
  obtain ⟨mem, hm⟩ := img_some (os := os) (t := (im, 0)) ⟨_, by rw [hv]; exact (jal_pat (v := ((txtV os im : Nat) : Int)) (p := 0) (by omega) (by decide) (by have := h4 im; omega)).1⟩ (fun i o ho => by
    rcases calls_os hp (List.mem_of_getElem? ho) with rfl | ⟨k, x, hx, rfl⟩
    · obtain ⟨T', hT', -⟩ := fold_jal hp hn ho ns.length (Nat.le_refl _)
      have hR' : objR os i (mO ns.length) = some (T', []) := hT'
      rw [hR']
      rfl
    · rw [objR_nil rfl]
      rfl)
  have hI := img_at hok hm
  refine ⟨m1, (im, 0), m2, mem, hm, hI.len, img_byte (fun o ho x hx => ?_) hm, fun floor top htop ht2 => ?_⟩
  · rcases calls_os hp ho with rfl | ⟨k, y, hy, rfl⟩
    · cases hx
    · cases hx
  obtain ⟨T0, D0, hp0, -⟩ := hI.obj im _ him
  have e := hp0.made
  rw [hR] at e
  injection e with e
  injection e with eT eD
  subst eT eD
  have hml := hI.len
  have hlm : (loadM mem top).length = top := loadM_length _ _ htop
  have code : ∀ k i, T[k]? = some i.word → i.ok → Cd (loadM mem top) (txtV os im + 4 * k) i := fun k i hk hi => cd_text hp0 him hI.len hk hi htop
  have c0 := code 0 ⟨18, 5, 1, 0, 0⟩ (by rw [hT2 0 (Or.inl (by decide))]; rfl) (mP_ok ns.length _ (List.mem_cons_self ..))
  have c1 := code 1 ⟨18, 10, 0, 0, 0⟩ (by rw [hT2 1 (Or.inl (by decide))]; rfl) first_ok
  have cl := code (ns.length + 2) ⟨41, 0, 5, 0, 0⟩ (by
    rw [hT2 _ (Or.inr (Nat.le_refl _))]
    unfold wordsL
    rw [List.getElem?_map]
    have : (mP ns.length)[ns.length + 2]? = some ⟨41, 0, 5, 0, 0⟩ := by
      show (List.replicate ns.length jalI ++ [⟨41, 0, 5, 0, 0⟩])[ns.length]? = _
      rw [List.getElem?_append_right (by simp), List.length_replicate, Nat.sub_self]
      rfl
    rw [this]
    rfl) (mP_ok ns.length _ (by unfold mP; simp))
  obtain ⟨r1, g1, s1⟩ := st_start (floor := floor) (top := top) hI hv (by omega) (h4 im) htop (by omega) (by omega)
  obtain ⟨r2, t2, s2⟩ := st_addi s1 (by omega) (d := 5) (e := 1) (n := 0) (by decide) c0
  obtain ⟨r3, t3, s3⟩ := st_addi s2 (by omega) (d := 10) (e := 0) (n := 0) (by decide) c1
  obtain ⟨r4, X4, g4, s4, z0, z5, z10, y0, y1⟩ := calls_go (by omega) (pm := txtV os im + 8) (q := fun i => txtV os (icF os i)) ns 0 r3 _ 0 hb s3 rfl (by simp [upd]) (by simp [upd]) (by decide) (by omega) (by have := h4 im; omega) (fun j x hx => by
    obtain ⟨hic, hf⟩ := calls_f hp hn hx
    have hj := (List.getElem?_eq_some_iff.1 hx).1
    obtain ⟨a1, a2⟩ := hT1 j hj
    obtain ⟨T2, D2, hp2, -⟩ := hI.obj _ _ hic
    obtain ⟨e1, e2⟩ := put_prog hp2 rfl
    have b0 := cd_text hp2 hic hI.len (k := 0) (x := addI x) (by rw [e1]; rfl) (addI_ok (hb x (List.mem_of_getElem? hx))) htop
    have b1 := cd_text hp2 hic hI.len (k := 1) (x := ⟨41, 0, 1, 0, 0⟩) (by rw [e1]; rfl) ret_ok htop
    have c := code (j + 2) _ a1 a2
    rw [Nat.zero_add]
    rw [show txtV os im + 8 + 4 * j = txtV os im + 4 * (j + 2) by omega]
    exact ⟨c, b0, b1⟩)
  rw [show txtV os im + 8 + 4 * (0 + ns.length) = txtV os im + 4 * (ns.length + 2) by omega] at s4
  obtain ⟨r5, t5, s5⟩ := st_jalr s4 (by omega) (e := 5) (q := 4) z0 (by rw [z5]; rfl) (by decide) (by omega) cl
  obtain ⟨r6, g6, a1, a2, a3⟩ := st_back hI hv (by omega) (h4 im) htop (by omega) s5 z0
  refine ⟨r6, ?_, a1, by rw [a2, z10]; omega, a3⟩
  have g := g1.trans ((Goes.one s1.run t2).trans ((Goes.one s2.run t3).trans (g4.trans ((Goes.one s4.run t5).trans g6))))
  rw [show 3 * ns.length + 6 = 1 + (1 + (1 + (3 * ns.length + (1 + 2)))) by omega]
  exact g
end Go.Proofs.Ytnbooljaodkedaa
