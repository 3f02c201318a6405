/- Objects in another order: what they come to, by value. No condition. · What is linked, ready to run: by value. Conditions stand at each. · An argument of objects, opened. Condition: it is one. · Objects in rows of cells; a program as an object. Conditions stand at each. · The fixed fact of layer 9 (link), walked. No condition. · Objects that are soon gone through: walked. Condition: they lie in memory. -/
import Derived.Test.YtnbooljaodkedaaLnkW
import Derived.Test.YtnbooljaodkedaaLnkMc
import Derived.Test.YtnbooljaodkedaaLnkK
import Derived.Deep.Slices
import Derived.ChangeArms
import Derived.ChangeSlices
namespace Go.Proofs.Ytnbooljaodkedaa
open Go.RowKit Go.Proofs.Ytnbooljaodkedaa.PC Go.Proofs.Ytnbooljaodkedaa.PW
set_option linter.unusedVariables false
set_option linter.unusedSimpArgs false
/-- The names that an object defines. -/
def namesO (o : ObjV) : List ByteArray := (o.syms.filter SymV.defs).map (·.name)
theorem defsO_names (i : Nat) : ∀ (l : List SymV) (k : Nat), (defsO i k l).map (·.1) = (l.filter SymV.defs).map (·.name)
  | [], _ => rfl
  | s :: ss, k => by
    rw [defsO_cons]
    by_cases h : s.defs = true
    · simp [h, defsO_names i ss (k + 1)]
    · simp [h, defsO_names i ss (k + 1)]
theorem defsA_names : ∀ (l : List ObjV) (i : Nat), (defsA i l).map (·.1) = l.flatMap namesO
  | [], _ => rfl
  | o :: os, i => by simp [defsA, defsO_names, defsA_names os (i + 1), namesO]
theorem once_iff (l : List (ByteArray × Nat × Nat)) : once l ↔ (l.map (·.1)).Nodup := by
  unfold once List.Nodup
  rw [List.pairwise_map]
theorem once_perm {os os' : List ObjV} (h : os.Perm os') : once (defsA 0 os') ↔ once (defsA 0 os) := by
  rw [once_iff, once_iff, defsA_names, defsA_names]
  exact (h.flatMap_right namesO).nodup_iff.symm
theorem lookV_isSome (l : List (ByteArray × Nat × Nat)) (n : ByteArray) : (lookV l n).isSome ↔ n ∈ l.map (·.1) := by
  unfold lookV
  rw [Option.isSome_map, List.find?_isSome]
  simp
theorem find_perm {os os' : List ObjV} (h : os.Perm os') (n : ByteArray) : (findV os' n).isSome ↔ (findV os n).isSome := by
  unfold findV
  rw [lookV_isSome, lookV_isSome, defsA_names, defsA_names]
  exact (h.flatMap_right namesO).mem_iff.symm
theorem allT_perm {os os' : List ObjV} (h : os.Perm os') : allT os' ↔ allT os := by
  unfold allT
  constructor
  · intro g o ho s hs h0
    exact (find_perm h s.name).1 (g o (h.mem_iff.1 ho) s hs h0)
  · intro g o ho s hs h0
    exact (find_perm h s.name).2 (g o (h.mem_iff.2 ho) s hs h0)
theorem lookV_mem {n : ByteArray} {t : Nat × Nat} : ∀ {l : List (ByteArray × Nat × Nat)}, once l → (n, t) ∈ l → lookV l n = some t
  | [], _, h => by simp at h
  | d :: l, h, hm => by
    unfold once at h
    rw [List.pairwise_cons] at h
    unfold lookV
    rcases List.mem_cons.1 hm with rfl | hm
    · simp
    · have : d.1 ≠ n := h.1 _ hm
      rw [List.find?_cons_of_neg (by simpa using this)]
      exact lookV_mem h.2 hm
/-- Some object defines main as text. -/
def hasMain (os : List ObjV) : Prop := ∃ o ∈ os, ∃ s ∈ o.syms, s.defs = true ∧ s.name = mainB ∧ s.sect = 1
theorem find_at {os : List ObjV} (h1 : once (defsA 0 os)) {i k : Nat} {o : ObjV} {s : SymV} (ho : os[i]? = some o) (hs : o.syms[k]? = some s) (hd : s.defs = true) : findV os s.name = some (i, k) := by
  obtain ⟨r, hr⟩ := defsK_pre ho hs hd
  exact lookV_mem h1 (by rw [hr]; simp)
theorem main_iff {os : List ObjV} (h1 : once (defsA 0 os)) : (mainT os).isSome ↔ hasMain os := by
  unfold mainT
  constructor
  · intro h
    obtain ⟨t, ht⟩ := Option.isSome_iff_exists.1 h
    obtain ⟨t', hf, h2⟩ := Option.bind_eq_some_iff.1 ht
    obtain ⟨s, hs, h3⟩ := Option.bind_eq_some_iff.1 h2
    obtain ⟨o, s', ho, hs', hn, hd⟩ := findV_some hf
    have e : s' = s := by
      unfold symAt at hs
      rw [ho] at hs
      exact Option.some.inj (hs'.symm.trans hs)
    subst e
    by_cases hc : s'.sect = 1
    · exact ⟨o, List.mem_of_getElem? ho, s', List.mem_of_getElem? hs', hd, hn, hc⟩
    · rw [if_neg hc] at h3
      cases h3
  · rintro ⟨o, ho, s, hs, hd, hn, hc⟩
    obtain ⟨i, hi⟩ := List.mem_iff_getElem?.1 ho
    obtain ⟨k, hk⟩ := List.mem_iff_getElem?.1 hs
    have hf := find_at h1 hi hk hd
    rw [hn] at hf
    rw [hf]
    have e : symAt os (i, k) = some s := by unfold symAt; rw [hi]; exact hk
    simp [e, hc]
theorem resE_perm {os os' : List ObjV} (h : os.Perm os') : resE os' = resE os := by
  have h1 : (∀ o ∈ os', objOk o) ↔ ∀ o ∈ os, objOk o := ⟨fun g o ho => g o (h.mem_iff.1 ho), fun g o ho => g o (h.mem_iff.2 ho)⟩
  by_cases a1 : ∀ o ∈ os, objOk o
  · by_cases a2 : once (defsA 0 os)
    · by_cases a3 : allT os
      · rw [resE_ok a1 a2 a3, resE_ok (h1.2 a1) ((once_perm h).2 a2) ((allT_perm h).2 a3)]
      · rw [resE_none a1 a2 a3, resE_none (h1.2 a1) ((once_perm h).2 a2) (fun e => a3 ((allT_perm h).1 e))]
    · rw [resE_twice a1 a2, resE_twice (h1.2 a1) (fun e => a2 ((once_perm h).1 e))]
  · rw [resE_form a1, resE_form (fun e => a1 (h1.1 e))]
theorem mainE_perm {os os' : List ObjV} (h : os.Perm os') : mainE os' = mainE os := by
  by_cases hr : resE os = 0
  · have hr' : resE os' = 0 := (resE_perm h).trans hr
    obtain ⟨-, h1, -⟩ := resE_cases hr
    obtain ⟨-, h1', -⟩ := resE_cases hr'
    have e : (mainT os').isSome ↔ (mainT os).isSome := by
      rw [main_iff h1, main_iff h1']
      exact ⟨fun ⟨o, ho, g⟩ => ⟨o, h.mem_iff.2 ho, g⟩, fun ⟨o, ho, g⟩ => ⟨o, h.mem_iff.1 ho, g⟩⟩
    cases hm : mainT os with
    | some t =>
      obtain ⟨t', ht'⟩ := Option.isSome_iff_exists.1 (e.2 (by rw [hm]; rfl))
      rw [mainE_ok hr hm, mainE_ok hr' ht']
    | none =>
      have : mainT os' = none := by
        cases hm' : mainT os' with
        | none => rfl
        | some t => have := e.1 (by rw [hm']; rfl); rw [hm] at this; cases this
      rw [mainE_none hr hm, mainE_none hr' this]
  · rw [mainE_res hr, mainE_res (by rw [resE_perm h]; exact hr), resE_perm h]
theorem sumTo_take {f : Nat → Nat} {l : List Nat} : ∀ n, n ≤ l.length → (∀ i, i < n → f i = l.getD i 0) → sumTo f n = (l.take n).sum
  | 0, _, _ => by simp [sumTo]
  | n + 1, h, hf => by
    have ih := sumTo_take (f := f) (l := l) n (by omega) (fun i hi => hf i (by omega))
    have e := hf n (by omega)
    rw [List.take_add_one, List.getElem?_eq_getElem (by omega)]
    simp only [sumTo, Option.toList_some, List.sum_append, List.sum_cons, List.sum_nil, ih, e]
    rw [List.getD_eq_getElem?_getD, List.getElem?_eq_getElem (by omega)]
    simp
theorem sumT_eq (os : List ObjV) : sumTo (tlen os) os.length = (os.map fun o => o.text.length).sum := by
  rw [sumTo_take (l := os.map fun o => o.text.length) os.length (by simp) (fun i hi => by simp [tlen, List.getD_eq_getElem?_getD])]
  rw [List.take_of_length_le (by simp)]
theorem sumD_eq (os : List ObjV) : sumTo (dlen os) os.length = (os.map fun o => o.data.length).sum := by
  rw [sumTo_take (l := os.map fun o => o.data.length) os.length (by simp) (fun i hi => by simp [dlen, List.getD_eq_getElem?_getD])]
  rw [List.take_of_length_le (by simp)]
theorem imgLen_perm {os os' : List ObjV} (h : os.Perm os') : imgLen os' = imgLen os := by
  have h1 : sumTo (tlen os') os'.length = sumTo (tlen os) os.length := by
    rw [sumT_eq, sumT_eq]
    exact (h.map _).sum_nat.symm
  have h2 : sumTo (dlen os') os'.length = sumTo (dlen os) os.length := by
    rw [sumD_eq, sumD_eq]
    exact (h.map _).sum_nat.symm
  unfold imgLen base
  rw [h1, h2]
theorem turn_perm {α : Type} (l : List α) (k : Nat) : l.Perm (l.drop k ++ l.take k) := by
  have := List.perm_append_comm (l₁ := l.take k) (l₂ := l.drop k)
  rwa [List.take_append_drop] at this
end Go.Proofs.Ytnbooljaodkedaa
namespace Go.Proofs.Ytnbooljaodkedaa
open Go.RowKit Go.Maps Go.Proofs.Ytnbooljaodkedaa.PC Go.Proofs.Ytnbooljaodkedaa.PW
set_option linter.unusedVariables false
set_option linter.unusedSimpArgs false
theorem pat_ok {k op rd rs1 rs2 v p : Int} (hk : ofK k op) (h0 : insE op rd rs1 rs2 0 = 0) (hfit : fitsOp op (immP k v p) = true) : patO k (insW op rd rs1 rs2 0) v p = some (insW op rd rs1 rs2 (immP k v p)) ∧ insE op rd rs1 rs2 (immP k v p) = 0 := by
  have hk5 : 1 ≤ k ∧ k ≤ 5 := by unfold ofK at hk; omega
  have g : PatR k (insW op rd rs1 rs2 0) v p (insW op rd rs1 rs2 (immP k v p)) 0 :=
    Or.inr (Or.inr ⟨hk5, op, rd, rs1, rs2, 0, 0, Or.inl ⟨rfl, h0, rfl⟩, Or.inr ⟨rfl, rfl, hk, Or.inr ⟨hfit, rfl, rfl⟩⟩⟩)
  exact ⟨patO_some g, by rw [ins_imm hk h0, if_pos hfit]⟩
theorem imm_four {v p : Int} (hv : 0 ≤ v ∧ v ≤ 1000000) (hp : 0 ≤ p ∧ p ≤ 1000000) : immP 4 v p = v - p := by
  rw [immP_4]
  unfold sgn
  split <;> omega
theorem fits40 (n : Int) (h : n % 4 = 0) (h1 : -1048576 ≤ n ∧ n ≤ 1048574) : fitsOp 40 n = true := by
  have e : fitsOp 40 n = decide (fitsK 74 n) := rfl
  rw [e]
  simp [fitsK]
  omega
theorem jal_pat {v p : Int} (hv : 0 ≤ v ∧ v ≤ 1000000) (hp : 0 ≤ p ∧ p ≤ 1000000) (h4 : (v - p) % 4 = 0) : patO 4 (insW 40 1 0 0 0) v p = some (insW 40 1 0 0 (v - p)) ∧ insE 40 1 0 0 (v - p) = 0 := by
  have h := pat_ok (k := 4) (op := 40) (rd := 1) (rs1 := 0) (rs2 := 0) (v := v) (p := p) (by unfold ofK; omega) jal_e (by rw [imm_four hv hp]; exact fits40 _ h4 (by omega))
  rwa [imm_four hv hp] at h
/-- An image there is, if each object gives its part. -/
theorem mem_some {os : List ObjV} (hok : ∀ i o, os[i]? = some o → (objR os i o).isSome) : ∀ (n i : Nat) (mem : List Int), i + n = os.length → ∃ mem', memFrom os i (os.drop i) mem = some mem'
  | 0, i, mem, hn => ⟨mem, mem_end (show os.length = i by omega)⟩
  | n + 1, i, mem, hn => by
    have ho := List.getElem?_eq_getElem (show i < os.length by omega)
    obtain ⟨TD, hTD⟩ := Option.isSome_iff_exists.1 (hok i _ ho)
    have h1 : objMem os i os[i] mem = some (splice (splice mem (txtV os i) (bytesL TD.1)) (datV os i) TD.2) := by unfold objMem; rw [hTD]; rfl
    obtain ⟨mem', h2⟩ := mem_some hok n (i + 1) (splice (splice mem (txtV os i) (bytesL TD.1)) (datV os i) TD.2) (by omega)
    refine ⟨mem', ?_⟩
    rw [mem_step ho, h1]
    exact h2
theorem img_some {os : List ObjV} {t : Nat × Nat} (hs : ∃ j, patO 4 (insW 40 1 0 0 0) (adrV os t) 0 = some j) (hok : ∀ i o, os[i]? = some o → (objR os i o).isSome) : ∃ mem, imageV os t = some mem := by
  obtain ⟨j, hj⟩ := hs
  unfold imageV startW
  rw [hj]
  exact mem_some hok os.length 0 _ (by omega)
theorem objR_nil {os : List ObjV} {i : Nat} {o : ObjV} (h : o.rels = []) : objR os i o = some (o.text, o.data) := by unfold objR; rw [h]; rfl
theorem rowBy_blk {w : World} {base g m : Nat} {mem : List Int} (hb : base ≤ g) (h : Blk w g (byV mem).toArray 5) (hm : mem.length = m) (hl : m ≤ 2097152) : rowBy w base (.slice (some ⟨g, 0, none⟩) m m) mem := by
  subst hm
  refine ⟨by simp [byV], Or.inr ⟨g, mem.length, _, rfl, hb, h, Nat.le_refl _, by unfold maxLen; omega, by simp [byV], ?_⟩⟩
  rw [List.take_of_length_le (by simp [byV])]
theorem cd_text {os : List ObjV} {i : Nat} {o : ObjV} {T D mem : List Int} {top : Nat} (hp : PutAt os i o T D mem) (ho : os[i]? = some o) (hm : mem.length = imgLen os) {k : Nat} {x : Ins} (hk : T[k]? = some x.word) (hx : x.ok) (ht : mem.length ≤ top) : Cd (loadM mem top) (txtV os i + 4 * k) x := by
  obtain ⟨f1, f2⟩ := txt_fit ho
  have hkl := (List.getElem?_eq_some_iff.1 hk).1
  have htl := hp.tl
  have e : T.getD k 0 = x.word := by rw [List.getD_eq_getElem?_getD, hk]; rfl
  refine ⟨hx, by unfold txtV; omega, by rw [loadM_length _ _ ht]; omega, ?_⟩
  rw [← e]
  refine getN_words (fun b hb => ?_) hkl (by rw [e]; exact insW_u _ _ _ _ _)
  rw [loadM_in _ _ _ (by omega)]
  exact hp.txt b hb
/-- The start, in memory. -/
theorem cd_start {os : List ObjV} {t : Nat × Nat} {mem : List Int} {top : Nat} {v : Int} (h : ImgAt os t mem) (hv : adrV os t = v) (h1 : 0 ≤ v ∧ v ≤ 1000000) (h4 : v % 4 = 0) (ht : mem.length ≤ top) : Cd (loadM mem top) 0 ⟨40, 1, 0, 0, v⟩ ∧ Cd (loadM mem top) 4 ⟨18, 17, 0, 0, 3⟩ ∧ Cd (loadM mem top) 8 ⟨42, 0, 0, 0, 0⟩ := by
  obtain ⟨j, hj, hb⟩ := h.start
  have hl : 12 ≤ mem.length := by rw [h.len]; exact img_ge os
  obtain ⟨p1, p2⟩ := jal_pat (v := v) (p := 0) h1 (by omega) (by omega)
  rw [hv, p1] at hj
  have ej := Option.some.inj hj
  rw [Int.sub_zero] at ej p2
  have key : ∀ k x, k < 3 → [j, insW 18 17 0 0 3, insW 42 0 0 0 0].getD k 0 = Ins.word x → getN (loadM mem top) (4 * k) 4 = x.word := by
    intro k x hk e
    have := getN_words (m := loadM mem top) (l := [j, insW 18 17 0 0 3, insW 42 0 0 0 0]) (q := 0) (k := k) (fun b hb' => by
      rw [Nat.zero_add, loadM_in _ _ _ (by simp only [List.length_cons, List.length_nil] at hb'; omega)]
      exact hb b (by simp only [List.length_cons, List.length_nil] at hb'; omega)) (by simpa using hk) (by rw [e]; exact insW_u _ _ _ _ _)
    rw [Nat.zero_add] at this
    rw [this, e]
  have hlen : (loadM mem top).length = top := loadM_length _ _ ht
  refine ⟨⟨⟨p2, ⟨by show (-9223372036854775808 : Int) ≤ 40; decide, by show (40 : Int) ≤ 9223372036854775807; decide⟩, ⟨by show (-9223372036854775808 : Int) ≤ v; omega, by show v ≤ 9223372036854775807; omega⟩⟩, rfl, by omega, key 0 ⟨40, 1, 0, 0, v⟩ (by decide) ej.symm⟩, ⟨⟨by decide +kernel, by decide, by decide⟩, rfl, by omega, key 1 ⟨18, 17, 0, 0, 3⟩ (by decide) rfl⟩, ⟨⟨by decide +kernel, by decide, by decide⟩, rfl, by omega, key 2 ⟨42, 0, 0, 0, 0⟩ (by decide) rfl⟩⟩
/-- The start leads to main. -/
theorem st_start {os : List ObjV} {t : Nat × Nat} {mem : List Int} {top floor : Nat} {v : Nat} (h : ImgAt os t mem) (hv : adrV os t = v) (h1 : v ≤ 1000000) (h4 : v % 4 = 0) (ht : mem.length ≤ top) (ht2 : top ≤ 4294967292) (hvt : v ≤ top) :
    ∃ r', Goes (bootM mem floor top) 1 r' ∧ St (loadM mem top) r' (upd (fun i => if i = 2 then (top : Int) else if i = 27 then (floor : Int) else 0) 1 4) v := by
  obtain ⟨c1, -, -⟩ := cd_start h hv (by omega) (by omega) ht
  have hl : (loadM mem top).length ≤ 4294967292 := by rw [loadM_length _ _ ht]; exact ht2
  obtain ⟨r1, s1, g1⟩ := st_jal (boot_st mem floor top) hl (d := 1) (q := v) (by decide) (by omega) (by rw [loadM_length _ _ ht]; exact hvt) c1
  exact ⟨r1, Goes.one rfl s1, g1⟩
/-- Back in the start: it halts. -/
theorem st_back {os : List ObjV} {t : Nat × Nat} {mem : List Int} {top : Nat} {v : Nat} (h : ImgAt os t mem) (hv : adrV os t = v) (h1 : v ≤ 1000000) (h4 : v % 4 = 0) (ht : mem.length ≤ top) (ht2 : top ≤ 4294967292) {r : RS} {X : Nat → Int} (hr : St (loadM mem top) r X 4) (h0 : X 0 = 0) :
    ∃ r', Goes r 2 r' ∧ r'.s.state = 1 ∧ r'.s.code = X 10 ∧ r'.ev = [] := by
  obtain ⟨-, c2, c3⟩ := cd_start h hv (by omega) (by omega) ht
  have hl : (loadM mem top).length ≤ 4294967292 := by rw [loadM_length _ _ ht]; exact ht2
  obtain ⟨r1, s1, g1⟩ := st_addi hr hl (d := 17) (e := 0) (n := 3) (by decide) c2
  obtain ⟨r2, s2, a1, a2, a3⟩ := st_halt g1 (by simp [upd, h0]) c3
  exact ⟨r2, (Goes.one hr.run s1).trans (Goes.one g1.run s2), a1, by rw [a2]; simp [upd], a3⟩
end Go.Proofs.Ytnbooljaodkedaa
namespace Go.Proofs.Ytnbooljaodkedaa
open Go.RowKit Go.Maps Go.ChangeShapes Go.WideShapes Go.Deep Go.Proofs.Ytnbooljaodkedaa.PC
open Go.Proofs.Ytnbooljaodkedaa.PW (U)
set_option linter.unusedVariables false
set_option linter.unusedSimpArgs false
/-- An object's values are of their types. -/
structure ObjV.ty (o : ObjV) : Prop where
  text : ∀ i, U (o.text.getD i 0)
  data : ∀ x ∈ o.data, Byte x
  sym : ∀ s ∈ o.syms, I64 s.sect ∧ I64 s.val ∧ I64 s.frame
  rel : ∀ r ∈ o.rels, I64 r.sect ∧ I64 r.at_ ∧ I64 r.kind ∧ I64 r.sym ∧ I64 r.add
  size : o.text.length ≤ 9223372036854775807 ∧ o.data.length ≤ 9223372036854775807 ∧ o.syms.length ≤ 9223372036854775807 ∧ o.rels.length ≤ 9223372036854775807
  name : ∀ s ∈ o.syms, s.name.size ≤ 9223372036854775807
/-- An object that is soon gone through. -/
def fewO (o : ObjV) : Prop := o.text.length ≤ 300 ∧ o.data.length ≤ 600 ∧ o.syms.length ≤ 60 ∧ o.rels.length ≤ 100 ∧ ∀ s ∈ o.syms, s.name.size ≤ 100
theorem ObjV.ty.wf {o : ObjV} (h : o.ty) (hf : fewO o) : o.wf := by
  obtain ⟨f1, f2, f3, f4, f5⟩ := hf
  exact ⟨h.text, h.data, fun s hs => Nat.le_trans (f5 s hs) (by decide), h.sym, h.rel, by omega, by omega, by omega, by omega⟩
instance : Inhabited SymV := ⟨⟨ByteArray.empty, 0, 0, 0, false⟩⟩
instance : Inhabited RelV := ⟨⟨0, 0, 0, 0, 0⟩⟩
instance : Inhabited ObjV := ⟨⟨[], [], [], []⟩⟩
theorem i64_of {n : Int} (h : (Lit.int .i64 n).wf = true) : I64 n := by
  have := bounds_i64 h
  unfold I64
  omega
section
variable {H : Type} {enc : TypeId × Value → H} {W : World}
theorem ints_open {t e : TypeId} {k : IntKind} (ht : Try.prog.underlying t = some (.slice e)) (he : Try.prog.underlying e = some (.int k)) (hc : Try.prog.cellsOf e = 1) {n : Nat} {cs : List Value} {x : DataW H × List MemPlace} (h : DataW.trod enc Try.prog W 0 (fun _ => true) true n t cs = some x) :
    ∃ A c l, cs = [.slice A l.length c] ∧ SlOk A l.length c ∧ (l ≠ [] → ∃ g off, A = some ⟨g, off, none⟩ ∧ g < W.heap.size ∧ ∀ i, i < l.length → W.cell? ⟨g, off + i, none⟩ = some (.int k (l.getD i 0))) ∧ (∀ x ∈ l, (Lit.int k x).wf = true) ∧ l.length ≤ 9223372036854775807 := by
  rcases open_ints ht he hc h with ⟨rfl, _⟩ | ⟨a, len, cap, zs, rfl, _, hl, hm, hz, _, hcell, hw⟩
  · exact ⟨none, 0, [], rfl, ⟨Nat.le_refl _, fun _ => ⟨rfl, rfl⟩⟩, fun h => absurd rfl h, (fun _ h => nomatch h), Nat.zero_le _⟩
  · simp only [if_true] at hz
    have ll : (zs.take len).length = len := by rw [List.length_take]; omega
    refine ⟨some a, cap, zs.take len, by rw [ll], ⟨by rw [ll]; exact hl, fun h => by cases h⟩, fun hne => ?_, fun x hx => hw x (List.mem_of_mem_take hx), by rw [ll]; unfold maxLen at hm; omega⟩
    have h0 : 0 < len := by
      rcases Nat.eq_zero_or_pos len with e | e
      · rw [e] at hne; simp at hne
      · exact e
    have hx := hcell 0 (by omega)
    rw [addr_add0] at hx
    obtain ⟨b, off, rfl, hlt⟩ := cell_some hx
    refine ⟨b, off, rfl, hlt, fun i hi => ?_⟩
    rw [ll] at hi
    have hc := hcell i (by omega)
    have e : (⟨b, off, none⟩ : Addr).add i = ⟨b, off + i, none⟩ := addr_add b off i
    rw [e] at hc
    rw [hc]
    simp [List.getD_eq_getElem?_getD, List.getElem?_take, hi]
theorem getD_U32 {l : List Int} (h : ∀ x ∈ l, (Lit.int .u32 x).wf = true) (i : Nat) : U (l.getD i 0) := by
  rw [List.getD_eq_getElem?_getD]
  cases e : l[i]? with
  | none => exact (by unfold U; decide : U 0)
  | some x =>
    have := bounds_u32 (h x (List.mem_of_getElem? e))
    show U x
    unfold U
    omega
theorem len_map_range {α : Type} (f : Nat → α) (n : Nat) : ((List.range n).map f).length = n := by simp
theorem get_map_range {α : Type} {f : Nat → α} {n i : Nat} {x : α} (h : ((List.range n).map f)[i]? = some x) : i < n ∧ x = f i := by
  have hi : i < n := by
    have := (List.getElem?_eq_some_iff.1 h).1
    simpa using this
  rw [List.getElem?_map, List.getElem?_range hi] at h
  exact ⟨hi, (Option.some.inj h).symm⟩
theorem mem_map_range {α : Type} {f : Nat → α} {n : Nat} {x : α} (h : x ∈ (List.range n).map f) : ∃ i, i < n ∧ x = f i := by
  obtain ⟨i, hi, rfl⟩ := List.mem_map.1 h
  exact ⟨i, List.mem_range.1 hi, rfl⟩
theorem cellsStr : Try.prog.cellsOf 9 = 1 := by kernel_rfl
theorem cellsInt : Try.prog.cellsOf 3 = 1 := by kernel_rfl
theorem cellsBool : Try.prog.cellsOf 4 = 1 := by kernel_rfl
theorem cellsSym : Try.prog.cellsOf 43 = 5 := by kernel_rfl
theorem cellsRel : Try.prog.cellsOf 46 = 5 := by kernel_rfl
theorem cellsObj : Try.prog.cellsOf 38 = 4 := by kernel_rfl
theorem five_of {cs : List Value} (h : cs.length = 5) : ∃ a b c d e, cs = [a, b, c, d, e] := by
  match cs, h with
  | [a, b, c, d, e], _ => exact ⟨a, b, c, d, e, rfl⟩
theorem four_of {cs : List Value} (h : cs.length = 4) : ∃ a b c d, cs = [a, b, c, d] := by
  match cs, h with
  | [a, b, c, d], _ => exact ⟨a, b, c, d, rfl⟩
theorem sym_open {n : Nat} {cs : List Value} {x : DataW H × List MemPlace} (h : DataW.trod enc Try.prog W 0 (fun _ => true) true n 43 cs = some x) :
    ∃ s : SymV, cs = s.cs ∧ (I64 s.sect ∧ I64 s.val ∧ I64 s.frame) ∧ s.name.size ≤ 9223372036854775807 := by
  obtain ⟨xs, m, _, _, hl, hxl, hf⟩ := DataW.trod_struct Try.underlying43 h
  rw [cellsSym] at hl
  obtain ⟨a, b, c, d, e, rfl⟩ := five_of hl
  have g0 : DataW.trod enc Try.prog W 0 (fun _ => true) true m 9 (List.take (Try.prog.cellsOf 9) (List.drop 0 [a, b, c, d, e])) = xs[0]? := hf 0 _ rfl
  have g1 : DataW.trod enc Try.prog W 0 (fun _ => true) true m 3 (List.take (Try.prog.cellsOf 3) (List.drop 1 [a, b, c, d, e])) = xs[1]? := hf 1 _ rfl
  have g2 : DataW.trod enc Try.prog W 0 (fun _ => true) true m 3 (List.take (Try.prog.cellsOf 3) (List.drop 2 [a, b, c, d, e])) = xs[2]? := hf 2 _ rfl
  have g3 : DataW.trod enc Try.prog W 0 (fun _ => true) true m 3 (List.take (Try.prog.cellsOf 3) (List.drop 3 [a, b, c, d, e])) = xs[3]? := hf 3 _ rfl
  have g4 : DataW.trod enc Try.prog W 0 (fun _ => true) true m 4 (List.take (Try.prog.cellsOf 4) (List.drop 4 [a, b, c, d, e])) = xs[4]? := hf 4 _ rfl
  simp only [cellsStr, cellsInt, cellsBool, List.drop_zero, List.drop_succ_cons, List.take_succ_cons, List.take_zero] at g0 g1 g2 g3 g4
  have hx5 : xs.length = 5 := hxl
  rw [List.getElem?_eq_getElem (by omega)] at g0 g1 g2 g3 g4
  obtain ⟨s, e0, -, w0⟩ := DataW.trod_string Try.underlying9 g0
  obtain ⟨n1, e1, -, w1⟩ := DataW.trod_int Try.underlying3 g1
  obtain ⟨n2, e2, -, w2⟩ := DataW.trod_int Try.underlying3 g2
  obtain ⟨n3, e3, -, w3⟩ := DataW.trod_int Try.underlying3 g3
  obtain ⟨b4, e4, -⟩ := DataW.trod_bool Try.underlying4 g4
  injection e0 with e0
  injection e1 with e1
  injection e2 with e2
  injection e3 with e3
  injection e4 with e4
  subst e0 e1 e2 e3 e4
  exact ⟨⟨s, n1, n2, n3, b4⟩, rfl, ⟨i64_of w1, i64_of w2, i64_of w3⟩, by unfold maxLen at w0; exact w0⟩
theorem rel_open {n : Nat} {cs : List Value} {x : DataW H × List MemPlace} (h : DataW.trod enc Try.prog W 0 (fun _ => true) true n 46 cs = some x) :
    ∃ s : RelV, cs = s.cs ∧ (I64 s.sect ∧ I64 s.at_ ∧ I64 s.kind ∧ I64 s.sym ∧ I64 s.add) := by
  obtain ⟨xs, m, _, _, hl, hxl, hf⟩ := DataW.trod_struct Try.underlying46 h
  rw [cellsRel] at hl
  obtain ⟨a, b, c, d, e, rfl⟩ := five_of hl
  have g0 : DataW.trod enc Try.prog W 0 (fun _ => true) true m 3 (List.take (Try.prog.cellsOf 3) (List.drop 0 [a, b, c, d, e])) = xs[0]? := hf 0 _ rfl
  have g1 : DataW.trod enc Try.prog W 0 (fun _ => true) true m 3 (List.take (Try.prog.cellsOf 3) (List.drop 1 [a, b, c, d, e])) = xs[1]? := hf 1 _ rfl
  have g2 : DataW.trod enc Try.prog W 0 (fun _ => true) true m 3 (List.take (Try.prog.cellsOf 3) (List.drop 2 [a, b, c, d, e])) = xs[2]? := hf 2 _ rfl
  have g3 : DataW.trod enc Try.prog W 0 (fun _ => true) true m 3 (List.take (Try.prog.cellsOf 3) (List.drop 3 [a, b, c, d, e])) = xs[3]? := hf 3 _ rfl
  have g4 : DataW.trod enc Try.prog W 0 (fun _ => true) true m 3 (List.take (Try.prog.cellsOf 3) (List.drop 4 [a, b, c, d, e])) = xs[4]? := hf 4 _ rfl
  simp only [cellsInt, List.drop_zero, List.drop_succ_cons, List.take_succ_cons, List.take_zero] at g0 g1 g2 g3 g4
  have hx5 : xs.length = 5 := hxl
  rw [List.getElem?_eq_getElem (by omega)] at g0 g1 g2 g3 g4
  obtain ⟨n0, e0, -, w0⟩ := DataW.trod_int Try.underlying3 g0
  obtain ⟨n1, e1, -, w1⟩ := DataW.trod_int Try.underlying3 g1
  obtain ⟨n2, e2, -, w2⟩ := DataW.trod_int Try.underlying3 g2
  obtain ⟨n3, e3, -, w3⟩ := DataW.trod_int Try.underlying3 g3
  obtain ⟨n4, e4, -, w4⟩ := DataW.trod_int Try.underlying3 g4
  injection e0 with e0
  injection e1 with e1
  injection e2 with e2
  injection e3 with e3
  injection e4 with e4
  subst e0 e1 e2 e3 e4
  exact ⟨⟨n0, n1, n2, n3, n4⟩, rfl, i64_of w0, i64_of w1, i64_of w2, i64_of w3, i64_of w4⟩
/-- A slice of structs, opened by what each of them is. -/
theorem rows_open {α : Type} [Inhabited α] {t e : TypeId} {z : Nat} (cs_ : α → List Value) (good : α → Prop) (ht : Try.prog.underlying t = some (.slice e)) (hz : Try.prog.cellsOf e = z) (h0z : 0 < z) (hlen : ∀ a, (cs_ a).length = z)
    (hone : ∀ {n : Nat} {cs : List Value} {x : DataW H × List MemPlace}, DataW.trod enc Try.prog W 0 (fun _ => true) true n e cs = some x → ∃ a, cs = cs_ a ∧ good a)
    {n : Nat} {cs : List Value} {x : DataW H × List MemPlace} (h : DataW.trod enc Try.prog W 0 (fun _ => true) true n t cs = some x) :
    ∃ (A : Option Addr) (c : Nat) (l : List α), cs = [.slice A l.length c] ∧ SlOk A l.length c ∧ (l ≠ [] → ∃ g off, A = some ⟨g, off, none⟩ ∧ g < W.heap.size ∧ ∀ i a, l[i]? = some a → ∀ j, j < z → W.cell? ⟨g, off + i * z + j, none⟩ = (cs_ a)[j]?) ∧ (∀ a ∈ l, good a) ∧ l.length ≤ 9223372036854775807 := by
  rcases open_slice ht h with ⟨rfl, _⟩ | ⟨a, len, cap, m, k, D, Pl, rfl, _, hl, hm, hmm, _, hx⟩
  · exact ⟨none, 0, [], rfl, ⟨Nat.le_refl _, fun _ => ⟨rfl, rfl⟩⟩, fun h => absurd rfl h, (fun _ h => nomatch h), Nat.zero_le _⟩
  · simp only [if_true] at hmm
    subst hmm
    have each : ∀ i, i < len → ∃ s : α, (∀ j, j < z → W.cell? (a.add (i * z + j)) = (cs_ s)[j]?) ∧ good s := by
      intro i hi
      obtain ⟨cs', h1, h2⟩ := hx i (by omega)
      rw [hz] at h1
      obtain ⟨_, _, hcell⟩ := World.cells?_some h1
      obtain ⟨s, rfl, hg⟩ := hone h2
      refine ⟨s, fun j hj => ?_, hg⟩
      have := hcell j hj
      rwa [Go.Deep.add_add] at this
    obtain ⟨f, hf⟩ := choose_lt each
    refine ⟨some a, m, (List.range len).map f, by rw [len_map_range], ⟨by rw [len_map_range]; exact hl, fun h => by cases h⟩, fun hne => ?_, fun s hs => ?_, by rw [len_map_range]; unfold maxLen at hm; omega⟩
    · have h0 : 0 < len := by
        rcases Nat.eq_zero_or_pos len with e | e
        · subst e; simp at hne
        · exact e
      have hx0 := (hf 0 h0).1 0 h0z
      rw [Nat.zero_mul, Nat.zero_add, addr_add0, List.getElem?_eq_getElem (by rw [hlen]; exact h0z)] at hx0
      obtain ⟨b, off, rfl, hlt⟩ := cell_some hx0
      refine ⟨b, off, rfl, hlt, fun i s hs j hj => ?_⟩
      obtain ⟨hi, rfl⟩ := get_map_range hs
      have := (hf i hi).1 j hj
      rw [addr_add, ← Nat.add_assoc] at this
      exact this
    · obtain ⟨i, hi, rfl⟩ := mem_map_range hs
      exact (hf i hi).2
theorem syms_open {n : Nat} {cs : List Value} {x : DataW H × List MemPlace} (h : DataW.trod enc Try.prog W 0 (fun _ => true) true n 35 cs = some x) :
    ∃ A c l, cs = [.slice A l.length c] ∧ SlOk A l.length c ∧ SymsAt W A l ∧ (∀ s ∈ l, (I64 s.sect ∧ I64 s.val ∧ I64 s.frame) ∧ s.name.size ≤ 9223372036854775807) ∧ l.length ≤ 9223372036854775807 := by
  obtain ⟨A, c, l, h1, h2, h3, h4, h5⟩ := rows_open (α := SymV) SymV.cs _ Try.underlying35 cellsSym (by decide) (fun _ => rfl) sym_open h
  refine ⟨A, c, l, h1, h2, fun hne => ?_, h4, h5⟩
  obtain ⟨g, off, e, hg, hc⟩ := h3 hne
  exact ⟨g, off, e, hg, fun i s hs => ⟨hc i s hs 0 (by decide), hc i s hs 1 (by decide), hc i s hs 2 (by decide), hc i s hs 3 (by decide), hc i s hs 4 (by decide)⟩⟩
theorem rels_open {n : Nat} {cs : List Value} {x : DataW H × List MemPlace} (h : DataW.trod enc Try.prog W 0 (fun _ => true) true n 36 cs = some x) :
    ∃ A c l, cs = [.slice A l.length c] ∧ SlOk A l.length c ∧ RelsAt W A l ∧ (∀ s ∈ l, I64 s.sect ∧ I64 s.at_ ∧ I64 s.kind ∧ I64 s.sym ∧ I64 s.add) ∧ l.length ≤ 9223372036854775807 := by
  obtain ⟨A, c, l, h1, h2, h3, h4, h5⟩ := rows_open (α := RelV) RelV.cs _ Try.underlying36 cellsRel (by decide) (fun _ => rfl) rel_open h
  refine ⟨A, c, l, h1, h2, fun hne => ?_, h4, h5⟩
  obtain ⟨g, off, e, hg, hc⟩ := h3 hne
  exact ⟨g, off, e, hg, fun i s hs => ⟨hc i s hs 0 (by decide), hc i s hs 1 (by decide), hc i s hs 2 (by decide), hc i s hs 3 (by decide), hc i s hs 4 (by decide)⟩⟩
theorem cellsU32 : Try.prog.cellsOf 44 = 1 := by kernel_rfl
theorem cellsU8 : Try.prog.cellsOf 5 = 1 := by kernel_rfl
theorem cellsSl1 : Try.prog.cellsOf 34 = 1 := by kernel_rfl
theorem cellsSl2 : Try.prog.cellsOf 26 = 1 := by kernel_rfl
theorem cellsSl3 : Try.prog.cellsOf 35 = 1 := by kernel_rfl
theorem cellsSl4 : Try.prog.cellsOf 36 = 1 := by kernel_rfl
/-- An object's cells. -/
structure ObjC where
  A : Option Addr
  ct : Nat
  B : Option Addr
  cd : Nat
  C : Option Addr
  cs : Nat
  D : Option Addr
  cr : Nat
  o : ObjV
instance : Inhabited ObjC := ⟨⟨none, 0, none, 0, none, 0, none, 0, default⟩⟩
def ObjC.cells (x : ObjC) : List Value := [.slice x.A x.o.text.length x.ct, .slice x.B x.o.data.length x.cd, .slice x.C x.o.syms.length x.cs, .slice x.D x.o.rels.length x.cr]
theorem obj_open {n : Nat} {cs : List Value} {x : DataW H × List MemPlace} (h : DataW.trod enc Try.prog W 0 (fun _ => true) true n 38 cs = some x) :
    ∃ y : ObjC, cs = y.cells ∧ ObjAt W y.A y.o.text.length y.B y.o.data.length y.C y.o.syms.length y.D y.o.rels.length y.o ∧ y.o.ty ∧ SlOk y.A y.o.text.length y.ct ∧ SlOk y.B y.o.data.length y.cd ∧ SlOk y.C y.o.syms.length y.cs ∧ SlOk y.D y.o.rels.length y.cr := by
  obtain ⟨xs, m, _, _, hl, hxl, hf⟩ := DataW.trod_struct Try.underlying38 h
  rw [cellsObj] at hl
  obtain ⟨a, b, c, d, rfl⟩ := four_of hl
  have g0 : DataW.trod enc Try.prog W 0 (fun _ => true) true m 34 (List.take (Try.prog.cellsOf 34) (List.drop 0 [a, b, c, d])) = xs[0]? := hf 0 _ rfl
  have g1 : DataW.trod enc Try.prog W 0 (fun _ => true) true m 26 (List.take (Try.prog.cellsOf 26) (List.drop 1 [a, b, c, d])) = xs[1]? := hf 1 _ rfl
  have g2 : DataW.trod enc Try.prog W 0 (fun _ => true) true m 35 (List.take (Try.prog.cellsOf 35) (List.drop 2 [a, b, c, d])) = xs[2]? := hf 2 _ rfl
  have g3 : DataW.trod enc Try.prog W 0 (fun _ => true) true m 36 (List.take (Try.prog.cellsOf 36) (List.drop 3 [a, b, c, d])) = xs[3]? := hf 3 _ rfl
  simp only [cellsSl1, cellsSl2, cellsSl3, cellsSl4, List.drop_zero, List.drop_succ_cons, List.take_succ_cons, List.take_zero] at g0 g1 g2 g3
  have hx4 : xs.length = 4 := hxl
  rw [List.getElem?_eq_getElem (by omega)] at g0 g1 g2 g3
  obtain ⟨A, ct, l0, e0, s0, a0, u0, z0⟩ := ints_open Try.underlying34 Try.underlying44 cellsU32 g0
  obtain ⟨B, cd, l1, e1, s1, a1, u1, z1⟩ := ints_open Try.underlying26 Try.underlying5 cellsU8 g1
  obtain ⟨C, cs, l2, e2, s2, a2, u2, z2⟩ := syms_open g2
  obtain ⟨D, cr, l3, e3, s3, a3, u3, z3⟩ := rels_open g3
  injection e0 with e0
  injection e1 with e1
  injection e2 with e2
  injection e3 with e3
  subst e0 e1 e2 e3
  refine ⟨⟨A, ct, B, cd, C, cs, D, cr, ⟨l0, l1, l2, l3⟩⟩, rfl, ⟨rfl, rfl, rfl, rfl, a0, a1, a2, a3⟩, ⟨getD_U32 u0, fun x hx => ?_, fun s hs => (u2 s hs).1, u3, ⟨z0, z1, z2, z3⟩, fun s hs => (u2 s hs).2⟩, s0, s1, s2, s3⟩
  have := bounds_u8 (u1 x hx)
  show Byte x
  unfold Byte
  omega
set_option maxRecDepth 100000 in
/-- Objects, opened. -/
theorem objs_open {v : Value} {d : DataW H} {p : List MemPlace} {base : Nat} (hv : Value.okWide Try.prog W .any base 22 v) (h : DataW.Trod enc Try.prog W 0 (fun _ => true) true 22 v d p) :
    ∃ (G : Option Addr) (c : Nat) (os : List ObjV), v = .slice G os.length c ∧ SlOk G os.length c ∧ ObjsAt W G os ∧ (∀ o ∈ os, o.ty) ∧ os.length ≤ 9223372036854775807 := by
  obtain ⟨A, n, c, rfl⟩ := okWide_slice Try.underlying22 hv
  obtain ⟨fuel, hf⟩ := h
  obtain ⟨G, c', l, h1, h2, h3, h4, h5⟩ := rows_open (α := ObjC) ObjC.cells _ Try.underlying22 cellsObj (by decide) (fun _ => rfl) obj_open hf
  have h1' : Value.slice A n c = .slice G l.length c' := by
    have : [Value.slice A n c] = [.slice G l.length c'] := h1
    injection this
  injection h1' with e1 e2 e3
  subst e1 e2 e3
  refine ⟨A, c, l.map (·.o), by rw [List.length_map], by rw [List.length_map]; exact h2, fun hne => ?_, fun o ho => ?_, by rw [List.length_map]; exact h5⟩
  · obtain ⟨g, off, e, hg, hc⟩ := h3 (by rintro rfl; exact hne rfl)
    refine ⟨g, off, e, hg, fun i o ho => ?_⟩
    rw [List.getElem?_map] at ho
    obtain ⟨y, hy, rfl⟩ := Option.map_eq_some_iff.1 ho
    obtain ⟨q1, q2, q3, q4, q5, q6⟩ := h4 y (List.mem_of_getElem? hy)
    exact ⟨y.A, y.ct, y.B, y.cd, y.C, y.cs, y.D, y.cr, hc i y hy 0 (by decide), hc i y hy 1 (by decide), hc i y hy 2 (by decide), hc i y hy 3 (by decide), q1, q3, q4⟩
  · obtain ⟨y, hy, rfl⟩ := List.mem_map.1 ho
    exact (h4 y hy).2.1
end
end Go.Proofs.Ytnbooljaodkedaa
namespace Go.Proofs.Ytnbooljaodkedaa
open Go.RowKit Go.Maps Go.Deep Go.Proofs.Ytnbooljaodkedaa.PC
open Go.Proofs.Ytnbooljaodkedaa.PW (U)
set_option linter.unusedVariables false
set_option linter.unusedSimpArgs false
theorem flat_get {α : Type} {cs : α → List Value} {z : Nat} (hz : ∀ a, (cs a).length = z) : ∀ (l : List α) (i j : Nat), j < z → (l.flatMap cs)[i * z + j]? = (l[i]?).bind fun a => (cs a)[j]?
  | [], i, j, _ => by simp
  | a :: l, 0, j, hj => by
    rw [List.flatMap_cons, Nat.zero_mul, Nat.zero_add, List.getElem?_append_left (by rw [hz]; exact hj)]
    rfl
  | a :: l, i + 1, j, hj => by
    rw [List.flatMap_cons, List.getElem?_append_right (by rw [hz, Nat.succ_mul]; omega), hz, show (i + 1) * z + j - z = i * z + j by rw [Nat.succ_mul]; omega]
    exact flat_get hz l i j hj
theorem flat_len {α : Type} {cs : α → List Value} {z : Nat} (hz : ∀ a, (cs a).length = z) : ∀ (l : List α), (l.flatMap cs).length = l.length * z
  | [] => by simp
  | a :: l => by rw [List.flatMap_cons, List.length_append, hz, flat_len hz l, List.length_cons, Nat.succ_mul, Nat.add_comm]
theorem ObjC.cells_len (y : ObjC) : y.cells.length = 4 := rfl
/-- An object's slices, readable. -/
def ObjG (w : World) (y : ObjC) : Prop := ObjAt w y.A y.o.text.length y.B y.o.data.length y.C y.o.syms.length y.D y.o.rels.length y.o ∧ SlOk y.A y.o.text.length y.ct ∧ SlOk y.B y.o.data.length y.cd
theorem ObjG.kp {w w' : World} {y : ObjC} (h : ObjG w y) (k : Kp w w') : ObjG w' y := ⟨h.1.kp k, h.2⟩
theorem ObjsAt.rows {w : World} {G : Option Addr} {os : List ObjV} (h : ObjsAt w G os) : ∃ L : List ObjC, L.map (·.o) = os ∧ (os ≠ [] → ∃ g off, G = some ⟨g, off, none⟩ ∧ g < w.heap.size ∧ ∀ i y, L[i]? = some y → ∀ j, j < 4 → w.cell? ⟨g, off + i * 4 + j, none⟩ = y.cells[j]?) ∧ ∀ y ∈ L, ObjG w y := by
  by_cases hne : os = []
  · subst hne
    exact ⟨[], rfl, fun h => absurd rfl h, fun y hy => by cases hy⟩
  obtain ⟨g, off, hG, hg, hc⟩ := h hne
  have each : ∀ i, i < os.length → ∃ y : ObjC, os[i]? = some y.o ∧ (∀ j, j < 4 → w.cell? ⟨g, off + i * 4 + j, none⟩ = y.cells[j]?) ∧ ObjG w y := by
    intro i hi
    obtain ⟨A, ct, B, cd, C, cs, D, cr, q0, q1, q2, q3, hat, s1, s2⟩ := hc i _ (List.getElem?_eq_getElem hi)
    refine ⟨⟨A, ct, B, cd, C, cs, D, cr, os[i]⟩, List.getElem?_eq_getElem hi, fun j hj => ?_, hat, s1, s2⟩
    match j, hj with
    | 0, _ => exact q0
    | 1, _ => exact q1
    | 2, _ => exact q2
    | 3, _ => exact q3
  obtain ⟨f, hf⟩ := choose_lt each
  refine ⟨(List.range os.length).map f, ?_, fun _ => ⟨g, off, hG, hg, fun i y hy j hj => ?_⟩, fun y hy => ?_⟩
  · apply List.ext_getElem?
    intro i
    by_cases hi : i < os.length
    · rw [List.getElem?_map, List.getElem?_map, List.getElem?_range hi, (hf i hi).1]
      rfl
    · rw [List.getElem?_eq_none (by simp; omega), List.getElem?_eq_none (by omega)]
  · obtain ⟨hi, rfl⟩ := get_map_range hy
    exact (hf i hi).2.1 j hj
  · obtain ⟨i, hi, rfl⟩ := mem_map_range hy
    exact (hf i hi).2.2
theorem ObjsAt.of_rows {w : World} {g off : Nat} {L : List ObjC} (hg : g < w.heap.size) (hc : ∀ (i : Nat) (x : Value), (L.flatMap ObjC.cells)[i]? = some x → w.cell? ⟨g, off + i, none⟩ = some x) (hL : ∀ y ∈ L, ObjG w y) : ObjsAt w (some ⟨g, off, none⟩) (L.map (·.o)) := by
  intro _
  refine ⟨g, off, rfl, hg, fun i o ho => ?_⟩
  rw [List.getElem?_map] at ho
  obtain ⟨y, hy, rfl⟩ := Option.map_eq_some_iff.1 ho
  obtain ⟨h1, h2, h3⟩ := hL y (List.mem_of_getElem? hy)
  have key : ∀ j x, j < 4 → y.cells[j]? = some x → w.cell? ⟨g, off + i * 4 + j, none⟩ = some x := by
    intro j x hj hx
    have := hc (i * 4 + j) x (by rw [flat_get ObjC.cells_len L i j hj, hy]; exact hx)
    rwa [← Nat.add_assoc] at this
  exact ⟨y.A, y.ct, y.B, y.cd, y.C, y.cs, y.D, y.cr, key 0 _ (by decide) rfl, key 1 _ (by decide) rfl, key 2 _ (by decide) rfl, key 3 _ (by decide) rfl, h1, h2, h3⟩
/-- The cells of objects, one behind the other. -/
theorem ObjsAt.of_blk {w : World} {g : Nat} {L : List ObjC} {ty : TypeId} (hb : Blk w g (L.flatMap ObjC.cells).toArray ty) (hL : ∀ y ∈ L, ObjG w y) : ObjsAt w (some ⟨g, 0, none⟩) (L.map (·.o)) :=
  ObjsAt.of_rows hb.lt (fun i x hx => by rw [Nat.zero_add]; exact (hb.cell i).trans (by rw [List.getElem?_toArray]; exact hx)) hL
/-- Words of a row of one's own. -/
theorem words_own {w : World} {base : Nat} {A : Option Addr} {n c : Nat} {l : List Int} (h : w.ownsRow base 44 1 (.slice A n c) l.length (u32V l)) : n = l.length ∧ SlOk A l.length c ∧ WordsAt w A l := by
  rcases h.2 with ⟨h1, h2⟩ | ⟨g, cap, cur, h1, _, h3, h4, _, _, h7⟩
  · injection h1 with e1 e2 e3
    subst e1 e2 e3
    exact ⟨h2.symm, ⟨by omega, fun _ => ⟨h2, rfl⟩⟩, fun hne => absurd (List.eq_nil_of_length_eq_zero h2) hne⟩
  · injection h1 with e1 e2 e3
    subst e1 e2 e3
    refine ⟨rfl, ⟨h4, fun e => by cases e⟩, fun _ => ⟨g, 0, rfl, (Array.getElem?_eq_some_iff.1 h3).1, fun i hi => ?_⟩⟩
    have e : cur[i]? = some (.int .u32 (l.getD i 0)) := by
      have : (cur.toList.take (l.length * 1))[i]? = (u32V l)[i]? := by rw [h7]
      rw [List.getElem?_take, if_pos (by omega)] at this
      simp [u32V, hi] at this
      rw [List.getD_eq_getElem?_getD, List.getElem?_eq_getElem hi]
      simpa using this
    rw [Nat.zero_add]
    simp [World.cell?, h3, e]
/-- Symbols of a block. -/
theorem syms_blk {w : World} {g : Nat} {l : List SymV} {ty : TypeId} (hb : Blk w g (l.flatMap SymV.cs).toArray ty) : SymsAt w (some ⟨g, 0, none⟩) l := by
  intro _
  refine ⟨g, 0, rfl, hb.lt, fun i s hs => ?_⟩
  have key : ∀ j x, j < 5 → s.cs[j]? = some x → w.cell? ⟨g, 0 + i * 5 + j, none⟩ = some x := by
    intro j x hj hx
    rw [Nat.zero_add]
    refine (hb.cell _).trans ?_
    rw [List.getElem?_toArray, flat_get (z := 5) (fun s => (rfl : s.cs.length = 5)) l i j hj, hs]
    exact hx
  exact ⟨key 0 _ (by decide) rfl, key 1 _ (by decide) rfl, key 2 _ (by decide) rfl, key 3 _ (by decide) rfl, key 4 _ (by decide) rfl⟩
def mainS : SymV := ⟨mainB, 1, 0, 0, true⟩
/-- A program as an object. -/
def progO (P : List Ins) : ObjV := ⟨wordsL P, [], [mainS], []⟩
theorem wordsL_len (l : List Ins) : (wordsL l).length = l.length := by simp [wordsL]
theorem getD_wordsL (l : List Ins) (i : Nat) : U ((wordsL l).getD i 0) := by
  rw [List.getD_eq_getElem?_getD]
  cases e : (wordsL l)[i]? with
  | none => exact (by unfold U; decide : U 0)
  | some x =>
    obtain ⟨j, _, rfl⟩ := List.mem_map.1 (List.mem_of_getElem? e)
    exact insW_u _ _ _ _ _
theorem nameV_main : nameV mainB = true := by decide +kernel
theorem progO_wf {P : List Ins} (h : P.length ≤ 10000) : (progO P).wf := by
  refine ⟨getD_wordsL P, (fun x hx => nomatch hx), fun s hs => ?_, fun s hs => ?_, (fun r hr => nomatch hr), by show (wordsL P).length ≤ _; rw [wordsL_len]; omega, by show 0 ≤ _; omega, by show 1 ≤ _; omega, by show 0 ≤ _; omega⟩
  · obtain rfl := List.mem_singleton.1 hs
    exact (by decide : mainB.size ≤ 140737488355328)
  · obtain rfl := List.mem_singleton.1 hs
    exact ⟨by show I64 1; unfold I64; omega, by show I64 0; unfold I64; omega, by show I64 0; unfold I64; omega⟩
theorem progO_ok {P : List Ins} (h : P.length ≤ 10000) : objOk (progO P) := by
  refine ⟨⟨by show (wordsL P).length ≤ _; rw [wordsL_len]; omega, by show 0 ≤ _; omega, rfl, by show 1 ≤ _; omega, by show 0 ≤ _; omega⟩, fun s hs => ?_, List.pairwise_singleton _ _, fun j hj => absurd hj (Nat.not_lt_zero _), (fun r hr => nomatch hr)⟩
  obtain rfl := List.mem_singleton.1 hs
  refine ⟨nameV_main, ?_⟩
  show (if (1 : Int) = 0 then _ else if (1 : Int) = 1 then _ else _) = true
  rw [if_neg (by decide), if_pos rfl]
  exact decide_eq_true ⟨by decide, by show (0 : Int) ≤ _; omega, by decide, by decide, by decide⟩
/-- What is linked of objects that are good. -/
theorem main_zero {os : List ObjV} (hok : ∀ o ∈ os, objOk o) (h1 : once (defsA 0 os)) (hT : allT os) {i k : Nat} {o : ObjV} (ho : os[i]? = some o) (hs : o.syms[k]? = some mainS) : mainE os = 0 ∧ mainT os = some (i, k) ∧ adrV os (i, k) = ((txtV os i % 4294967296 : Nat) : Int) := by
  have hf : findV os mainB = some (i, k) := find_at h1 ho hs rfl
  have hsy : symAt os (i, k) = some mainS := by unfold symAt; rw [ho]; exact hs
  have hm : mainT os = some (i, k) := by
    unfold mainT
    rw [hf]
    simp [hsy, mainS]
  refine ⟨mainE_ok (resE_ok hok h1 hT) hm, hm, ?_⟩
  unfold adrV
  rw [hsy]
  show (if (1 : Int) = 1 then _ else _) = _
  rw [if_pos rfl]
  show ((txtV os i : Int) + 4 * 0) % 4294967296 = _
  omega
end Go.Proofs.Ytnbooljaodkedaa
namespace Go.Proofs.Ytnbooljaodkedaa
open Go.RowKit Go.Maps Go.Proofs.Ytnbooljaodkedaa.PC Go.Proofs.Ytnbooljaodkedaa.PW
set_option linter.unusedVariables false
set_option linter.unusedSimpArgs false
theorem own_slice {w : World} {base : Nat} {t : TypeId} {sz n : Nat} {v : Value} {xs : List Value} (h : w.ownsRow base t sz v n xs) : ∃ A m c, v = .slice A m c := by
  rcases h.2 with ⟨h, _⟩ | ⟨g, cap, cur, h, _⟩
  · exact ⟨_, _, _, h⟩
  · exact ⟨_, _, _, h⟩
theorem one_once (P : List Ins) : once (defsA 0 [progO P]) := by
  show List.Pairwise _ [(mainB, 0, 0)]
  exact List.pairwise_singleton _ _
theorem one_allT (P : List Ins) : allT [progO P] := by
  intro o ho s hs h0
  obtain rfl := List.mem_singleton.1 ho
  obtain rfl := List.mem_singleton.1 hs
  exact absurd h0 (by decide)
theorem one_len (P : List Ins) : imgLen [progO P] = (12 + 4 * P.length + 7) / 8 * 8 := by
  have e1 : sumTo (tlen [progO P]) 1 = P.length := by
    show 0 + (wordsL P).length = _
    rw [wordsL_len, Nat.zero_add]
  have e2 : sumTo (dlen [progO P]) 1 = 0 := rfl
  show base _ 1 + sumTo _ 1 = _
  unfold base
  rw [e1, e2]
  omega
theorem one_main {P : List Ins} (h : P.length ≤ 10000) : mainE [progO P] = 0 ∧ mainT [progO P] = some (0, 0) ∧ adrV [progO P] (0, 0) = ((12 : Nat) : Int) :=
  main_zero (fun o ho => by obtain rfl := List.mem_singleton.1 ho; exact progO_ok h) (one_once P) (one_allT P) (i := 0) (k := 0) rfl rfl
theorem one_img {P : List Ins} (h : P.length ≤ 10000) : ∃ mem, imageV [progO P] (0, 0) = some mem ∧ ImgAt [progO P] (0, 0) mem := by
  obtain ⟨mem, hm⟩ := img_some (os := [progO P]) (t := (0, 0)) ⟨_, by rw [(one_main h).2.2]; exact (jal_pat (v := ((12 : Nat) : Int)) (p := 0) (by decide) (by decide) (by decide)).1⟩ (fun i o ho => by
    have : o = progO P := by
      have := List.mem_of_getElem? ho
      exact List.mem_singleton.1 this
    subst this
    rw [objR_nil rfl]
    rfl)
  exact ⟨mem, hm, img_at (fun o ho => by obtain rfl := List.mem_singleton.1 ho; exact progO_ok h) hm⟩
/-- What is put there of a program that nothing is patched in. -/
theorem put_prog {os : List ObjV} {i : Nat} {o : ObjV} {T D mem : List Int} (hp : PutAt os i o T D mem) (h : o.rels = []) : T = o.text ∧ D = o.data := by
  have e := hp.made
  rw [objR_nil h] at e
  injection e with e
  injection e with e1 e2
  exact ⟨e1.symm, e2.symm⟩
/-- Link, where it gives an image. -/
theorem link_gives {w w' : World} {os : List ObjV} {t : Nat × Nat} {mem : List Int} {e : Ending} {m : Nat} (h : LinkR w os e w') (h1 : mainE os = 0) (h2 : mainT os = some t) (h3 : imgLen os ≤ 2097152) (h4 : imageV os t = some mem) (hm : imgLen os = m) :
    Kp w w' ∧ ∃ g, e = .returned (.tuple #[.agg #[.int .i64 0, .slice (some ⟨g, 0, none⟩) m m], .int .i64 0]) ∧ w.heap.size ≤ g ∧ Blk w' g (byV mem).toArray 5 ∧ mem.length = m := by
  subst hm
  obtain ⟨k, v, E, rfl, ⟨a, _⟩ | ⟨_, a, _⟩ | ⟨_, _, t', a1, ⟨a2, _⟩ | ⟨mem', g, a2, a3, rfl, rfl, a4, a5⟩⟩⟩ := h
  · exact absurd h1 a
  · exact absurd h3 (by omega)
  · obtain rfl := Option.some.inj (h2.symm.trans a1)
    rw [h4] at a2
    cases a2
  · obtain rfl := Option.some.inj (h2.symm.trans a1)
    obtain rfl := Option.some.inj (h4.symm.trans a2)
    exact ⟨k, g, rfl, a4, a5, a3⟩
def awP : List Ins := [⟨18, 10, 0, 0, 7⟩, ⟨41, 0, 1, 0, 0⟩]
theorem awP_ok : ∀ i ∈ awP, i.ok := by
  intro i hi
  simp only [awP, List.mem_cons, List.not_mem_nil, or_false] at hi
  rcases hi with rfl | rfl
  · exact ⟨by decide +kernel, by decide, by decide⟩
  · exact ⟨by decide +kernel, by decide, by decide⟩
theorem aw_goes {mem : List Int} (h : ImgAt [progO awP] (0, 0) mem) : mem.length = 24 ∧ ∃ r', Goes (bootM mem 32 32) 5 r' ∧ r'.s.state = 1 ∧ r'.s.code = 7 ∧ r'.ev = [] := by
  have hl : mem.length = 24 := h.len.trans (one_len awP)
  have hv := (one_main (P := awP) (by decide)).2.2
  obtain ⟨T, D, hp, -⟩ := h.obj 0 _ rfl
  obtain ⟨rfl, rfl⟩ := put_prog hp rfl
  have hlm : (loadM mem 32).length ≤ 4294967292 := by rw [loadM_length _ _ (by omega)]; decide
  have c0 := cd_text hp rfl h.len (k := 0) (x := ⟨18, 10, 0, 0, 7⟩) rfl (awP_ok _ (by simp [awP])) (top := 32) (by omega)
  have c1 := cd_text hp rfl h.len (k := 1) (x := ⟨41, 0, 1, 0, 0⟩) rfl (awP_ok _ (by simp [awP])) (top := 32) (by omega)
  obtain ⟨r1, g1, s1⟩ := st_start (floor := 32) (top := 32) h hv (by decide) (by decide) (by omega) (by decide) (by decide)
  obtain ⟨r2, t2, s2⟩ := st_addi s1 hlm (d := 10) (e := 0) (n := 7) (by decide) c0
  obtain ⟨r3, t3, s3⟩ := st_jalr s2 hlm (e := 1) (q := 4) rfl (by simp [upd]) (by decide) (by rw [loadM_length _ _ (by omega)]; decide) c1
  obtain ⟨r4, g4, a1, a2, a3⟩ := st_back h hv (by decide) (by decide) (by omega) (by decide) s3 rfl
  refine ⟨hl, r4, ?_, a1, by rw [a2]; simp [upd], a3⟩
  exact g1.trans ((Goes.one s1.run t2).trans ((Goes.one s2.run t3).trans g4))
set_option maxRecDepth 100000 in
set_option maxHeartbeats 4000000 in
theorem awake09_calls (w : World) : Calls Try.prog 8 #[] w fun e w' => e = .returned (.bool true) ∧ Kp w w' := by
  obtain ⟨mem, hmem, hI⟩ := one_img (P := awP) (by decide)
  obtain ⟨hl24, r', hg, hst, hcd, hev0⟩ := aw_goes hI
  have hmE := one_main (P := awP) (by decide)
  have bI := Aside.mk (Blk.new w (insC awP).toArray 40)
  have kI : Aside (Kp w (w.alloc (.cells (insC awP).toArray 40))) := ⟨(Kp.refl w).alloc _⟩
  have wc := Words_calls (I := w.heap.size) (c := 2) awP (by decide) awP_ok bI.out (by decide)
  replace wc := Aside.mk wc
  replace hg := Aside.mk hg
  replace hI := Aside.mk hI
  replace hmE := Aside.mk hmE
  have hby := Aside.mk (img_byte (fun o ho x hx => by obtain rfl := List.mem_singleton.1 ho; cases hx) hmem)
  replace hmem := Aside.mk hmem
  go_enter Try.func8, Try.ntmps8
  go_wp2_with fail
  refine Calls.mono wc.out ?_
  rintro e w1 ⟨v, rfl, k1, hr1⟩
  obtain ⟨A1, n1, c1, rfl⟩ := own_slice hr1
  obtain ⟨hn1, sl1, wa1⟩ := words_own (l := wordsL awP) hr1
  subst hn1
  replace kI : Aside (Kp w w1) := ⟨kI.out.trans k1⟩
  clear k1 hr1
  have kS : Kp w1 (w1.alloc (.cells (([mainS].flatMap SymV.cs)).toArray 43)) := (Kp.refl w1).alloc _
  have bS := Blk.new w1 (([mainS].flatMap SymV.cs)).toArray 43
  have hG : ObjG (w1.alloc (.cells (([mainS].flatMap SymV.cs)).toArray 43)) ⟨A1, c1, none, 0, some ⟨w1.heap.size, 0, none⟩, 1, none, 0, progO awP⟩ := ⟨⟨rfl, rfl, rfl, rfl, wa1.kp kS, fun h => absurd rfl h, syms_blk bS, fun h => absurd rfl h⟩, sl1, ⟨Nat.le_refl _, fun _ => ⟨rfl, rfl⟩⟩⟩
  have kO : Kp (w1.alloc (.cells (([mainS].flatMap SymV.cs)).toArray 43)) ((w1.alloc (.cells (([mainS].flatMap SymV.cs)).toArray 43)).alloc (.cells (([(⟨A1, c1, none, 0, some ⟨w1.heap.size, 0, none⟩, 1, none, 0, progO awP⟩ : ObjC)].flatMap ObjC.cells)).toArray 38)) := (Kp.refl _).alloc _
  have bO := Blk.new (w1.alloc (.cells (([mainS].flatMap SymV.cs)).toArray 43)) (([(⟨A1, c1, none, 0, some ⟨w1.heap.size, 0, none⟩, 1, none, 0, progO awP⟩ : ObjC)].flatMap ObjC.cells)).toArray 38
  have hos := ObjsAt.of_blk bO (fun y hy => by obtain rfl := List.mem_singleton.1 hy; exact hG.kp kO)
  have lc := Link_calls (os := [progO awP]) (c := 1) hos (fun o ho => by obtain rfl := List.mem_singleton.1 ho; exact progO_wf (by decide)) rfl (show (1 : Nat) ≤ 1000 by decide)
  rw [World.size_alloc] at lc
  replace lc := Aside.mk lc
  have kL : Aside (Kp w ((w1.alloc (.cells (([mainS].flatMap SymV.cs)).toArray 43)).alloc (.cells (([(⟨A1, c1, none, 0, some ⟨w1.heap.size, 0, none⟩, 1, none, 0, progO awP⟩ : ObjC)].flatMap ObjC.cells)).toArray 38))) := ⟨kI.out.trans (kS.trans kO)⟩
  clear hos bO hG bS sl1 wa1
  replace kS := trivial
  replace kO := trivial
  go_wp2_with fail
  refine Calls.mono lc.out ?_
  rintro e w2 hR
  obtain ⟨k2, g, rfl, hg2, bm, -⟩ := link_gives (m := 24) hR hmE.out.1 hmE.out.2.1 (by rw [one_len]; decide) hmem.out (one_len awP)
  replace kI : Aside (Kp w w2) := ⟨kL.out.trans k2⟩
  clear hR lc k2 kL
  replace hg2 := trivial
  replace bm := Aside.mk bm
  go_wp2_with fail
  have kA : Kp w2 (w2.alloc (.cells #[.int .i64 0, .slice (some ⟨g, 0, none⟩) 24 24] 28)) := (Kp.refl w2).alloc _
  have bm3 := rowBy_blk (base := 0) (m := 24) (Nat.zero_le _) (bm.out.kp kA) hl24 (by decide)
  have kA2 : Aside (Kp w (w2.alloc (.cells #[.int .i64 0, .slice (some ⟨g, 0, none⟩) 24 24] 28))) := ⟨kI.out.trans kA⟩
  have ld := Aside.mk (Load_at 0 0 0 32 32 rfl bm3 hby.out (by unfold U; decide) (by decide) (by rw [hl24]; decide) (by rw [hl24]; decide) (by decide) (by decide))
  clear bm3 bm kI
  replace kA := trivial
  refine Calls.mono ld.out ?_
  rintro e w7 ⟨M, B, K, rfl, ⟨gM, gB, gK⟩, k7, hm⟩
  have s7 := kA2.out.size
  have hout : Aside (w.heap.size ≤ M ∧ w.heap.size ≤ B ∧ w.heap.size ≤ K) := ⟨by omega⟩
  have kI2 : Aside (Kp w w7) := ⟨kA2.out.trans k7⟩
  have rc := Run_goes hg.out 5 rfl 50 (.slice none 0 0) hm words_none rfl (by decide) (by decide) (Or.inr (by rw [hst]; decide)) (by decide)
  rw [hst, hcd] at rc
  replace rc := Aside.mk rc
  clear k7 gM gB gK s7 hm ld kA2
  go_wp2_with fail
  refine Calls.mono rc.out ?_
  rintro e w8 ⟨ev, rfl, hmod, hm8, hev⟩
  obtain ⟨A8, n8, c8, rfl⟩ := own_slice hev
  clear hev
  have kk8 : Aside (Kp w w8) := ⟨(kI2.out.mod.behind hmod (S := fun _ => False) (fun k e => Or.inr (by have := hout.out; rcases e with e | e | e <;> omega))).toKp (fun k e => e.elim)⟩
  clear hmod hm8
  go_wp2_with fail
  all_goals go_ret
  all_goals exact ⟨rfl, kk8.out.alloc _⟩
end Go.Proofs.Ytnbooljaodkedaa
namespace Go.Proofs.Ytnbooljaodkedaa
open Go.RowKit Go.Maps Go.Proofs.Ytnbooljaodkedaa.PC Go.Proofs.Ytnbooljaodkedaa.PW
set_option linter.unusedVariables false
set_option linter.unusedSimpArgs false
set_option maxRecDepth 100000 in
set_option maxHeartbeats 4000000 in
theorem Few1_calls {w : World} {A : Option Addr} {nt ct : Nat} {B : Option Addr} {nd cd : Nat} {C : Option Addr} {ns cs : Nat} {D : Option Addr} {nr cr : Nat} {o : ObjV} (h : ObjAt w A nt B nd C ns D nr o) (hty : o.ty) :
    Calls Try.prog 16 #[.agg #[.slice A nt ct, .slice B nd cd, .slice C ns cs, .slice D nr cr]] w fun e w' => ∃ b : Bool, e = .returned (.bool b) ∧ (b = true ↔ fewO o) ∧ Kp w w' := by
  have e1 := h.nt
  have e2 := h.nd
  have e3 := h.ns
  have e4 := h.nr
  have hsz := hty.size
  rw [e1, e2, e3, e4] at hsz
  obtain ⟨z1, z2, z3, z4⟩ := hsz
  have hbig : Aside (¬(nt ≤ 300 ∧ nd ≤ 600 ∧ ns ≤ 60 ∧ nr ≤ 100) → ¬fewO o) := ⟨fun hn hf => hn (by unfold fewO at hf; omega)⟩
  have hok : Aside (nt ≤ 300 ∧ nd ≤ 600 ∧ ns ≤ 60 ∧ nr ≤ 100 → (∀ s ∈ o.syms, s.name.size ≤ 100) → fewO o) := ⟨fun hn hf => by unfold fewO; exact ⟨by omega, by omega, by omega, by omega, hf⟩⟩
  replace e1 := Aside.mk e1
  replace e2 := Aside.mk e2
  replace e3 := Aside.mk e3
  replace e4 := Aside.mk e4
  replace hty := Aside.mk hty
  replace h := Aside.mk h
  have b0 := Aside.mk (Blk.new w #[.slice A nt ct, .slice B nd cd, .slice C ns cs, .slice D nr cr] 38)
  by_cases h1 : 300 < nt
  · have g1 : decide ((nt : Int) > 300) = true := decide_eq_true (by omega)
    have hno := Aside.mk (hbig.out (by omega))
    go_enter Try.func16, Try.ntmps16
    go_wp2_with fail
    go_ret
    exact ⟨false, rfl, ⟨(fun e => by cases e), fun e => absurd e hno.out⟩, (Kp.refl w).alloc _⟩
  have g1 : decide ((nt : Int) > 300) = false := decide_eq_false (by omega)
  by_cases h2 : 600 < nd
  · have g2 : decide ((nd : Int) > 600) = true := decide_eq_true (by omega)
    have hno := Aside.mk (hbig.out (by omega))
    go_enter Try.func16, Try.ntmps16
    go_wp2_with fail
    go_ret
    exact ⟨false, rfl, ⟨(fun e => by cases e), fun e => absurd e hno.out⟩, (Kp.refl w).alloc _⟩
  have g2 : decide ((nd : Int) > 600) = false := decide_eq_false (by omega)
  by_cases h3 : 60 < ns
  · have g3 : decide ((ns : Int) > 60) = true := decide_eq_true (by omega)
    have hno := Aside.mk (hbig.out (by omega))
    go_enter Try.func16, Try.ntmps16
    go_wp2_with fail
    go_ret
    exact ⟨false, rfl, ⟨(fun e => by cases e), fun e => absurd e hno.out⟩, (Kp.refl w).alloc _⟩
  have g3 : decide ((ns : Int) > 60) = false := decide_eq_false (by omega)
  by_cases h4 : 100 < nr
  · have g4 : decide ((nr : Int) > 100) = true := decide_eq_true (by omega)
    have hno := Aside.mk (hbig.out (by omega))
    go_enter Try.func16, Try.ntmps16
    go_wp2_with fail
    go_ret
    exact ⟨false, rfl, ⟨(fun e => by cases e), fun e => absurd e hno.out⟩, (Kp.refl w).alloc _⟩
  have g4 : decide ((nr : Int) > 100) = false := decide_eq_false (by omega)
  replace hok := Aside.mk (hok.out (by omega))
  replace hbig := trivial
  go_enter Try.func16, Try.ntmps16
  go_wp2_with fail
  go_loopw [30] (fun i wr => ∃ k : Nat, k ≤ ns ∧ i = .int .i64 k ∧ Kp w wr ∧ Aside (∀ s ∈ o.syms.take k, s.name.size ≤ 100)) (fun i _ => ns - (intOf i).toNat)
  case atStart => exact ⟨0, Nat.zero_le _, rfl, (Kp.refl w).alloc _, ⟨fun s hs => by simp at hs⟩⟩
  case round =>
    obtain ⟨k, hk, rfl, kp, hall⟩ := hrel
    by_cases hlt : k < ns
    · obtain ⟨s, hs⟩ : ∃ s, Aside (o.syms[k]? = some s) := ⟨_, ⟨List.getElem?_eq_getElem (by have := e3.out; omega)⟩⟩
      obtain ⟨g, off, hC, hg, hc⟩ := (h.out.syms.kp kp) (by intro e; have := e3.out; rw [e] at this; simp at this; omega)
      obtain ⟨q0, q1, q2, q3, q4⟩ := hc k s hs.out
      have hnm := hty.out.name s (List.mem_of_getElem? hs.out)
      have hsn : Aside (s.name.size ≤ 100 → ∀ s ∈ o.syms.take (k + 1), s.name.size ≤ 100) := ⟨fun h s' hs' => by
        rw [List.take_add_one, hs.out] at hs'
        rcases List.mem_append.1 hs' with hs' | hs'
        · exact hall.out s' hs'
        · simp at hs'
          subst hs'
          exact h⟩
      have hno : Aside (¬s.name.size ≤ 100 → ¬fewO o) := ⟨fun h hf => h (hf.2.2.2.2 s (List.mem_of_getElem? hs.out))⟩
      subst hC
      clear hc hs hall
      obtain ⟨nm, sect, val, frame, glob⟩ := s
      simp only at q0 q1 q2 q3 q4 hnm hsn hno
      by_cases hb : 100 < nm.size
      · replace hno := Aside.mk (hno.out (by omega))
        have gb : decide ((nm.size : Int) > 100) = true := decide_eq_true (by omega)
        replace kp := Aside.mk kp
        go_wp2_with fail
        go_ret
        exact ⟨false, rfl, ⟨(fun e => by cases e), fun e => absurd e hno.out⟩, kp.out.alloc _⟩
      · replace hsn := Aside.mk (hsn.out (by omega))
        have gb : decide ((nm.size : Int) > 100) = false := decide_eq_false (by omega)
        replace kp := Aside.mk kp
        go_wp2_with fail
        go_roundw
        case rel => exact ⟨k + 1, by omega, by go_num, kp.out.alloc _, hsn⟩
        case measure => simp [intOf]; omega
    · obtain rfl : k = ns := by omega
      replace hall := hok.out (by have := hall.out; rwa [List.take_of_length_le (by have := e3.out; omega)] at this)
      replace hall := Aside.mk hall
      go_wp2_with fail
      go_ret
      exact ⟨true, rfl, ⟨fun _ => hall.out, fun _ => rfl⟩, kp⟩
set_option maxRecDepth 100000 in
set_option maxHeartbeats 4000000 in
theorem Few_calls {w : World} {G : Option Addr} {n c : Nat} {os : List ObjV} (h : ObjsAt w G os) (hty : ∀ o ∈ os, o.ty) (hn : os.length = n) (hl : n ≤ 9223372036854775807) :
    Calls Try.prog 9 #[.slice G n c] w fun e w' => ∃ b : Bool, e = .returned (.bool b) ∧ (b = true ↔ n ≤ 12 ∧ ∀ o ∈ os, fewO o) ∧ Kp w w' := by
  by_cases h12 : 12 < n
  · have g1 : decide ((n : Int) > 12) = true := decide_eq_true (by omega)
    go_enter Try.func9, Try.ntmps9
    go_wp2_with fail
    go_ret
    exact ⟨false, rfl, ⟨(fun e => by cases e), fun e => by omega⟩, Kp.refl w⟩
  have g1 : decide ((n : Int) > 12) = false := decide_eq_false (by omega)
  replace h := Aside.mk h
  replace hty := Aside.mk hty
  replace hn := Aside.mk hn
  go_enter Try.func9, Try.ntmps9
  go_wp2_with fail
  go_loopw [10] (fun i wr => ∃ k : Nat, k ≤ n ∧ i = .int .i64 k ∧ Kp w wr ∧ Aside (∀ i o, i < k → os[i]? = some o → fewO o)) (fun i _ => n - (intOf i).toNat)
  case atStart => exact ⟨0, Nat.zero_le _, rfl, Kp.refl w, ⟨fun i o hi => absurd hi (by omega)⟩⟩
  case round =>
    obtain ⟨k, hk, rfl, kp, hall⟩ := hrel
    by_cases hlt : k < n
    · obtain ⟨o, ho⟩ : ∃ o, Aside (os[k]? = some o) := ⟨_, ⟨List.getElem?_eq_getElem (by have := hn.out; omega)⟩⟩
      obtain ⟨g, off, hG, hg, hc⟩ := (h.out.kp kp) (by intro e; have := hn.out; rw [e] at this; simp at this; omega)
      obtain ⟨A, ct, B, cd, C, cs, D, cr, q0, q1, q2, q3, hat, -⟩ := hc k o ho.out
      have hfew := Aside.mk (fun (W : World) (hW : Kp wr W) => Few1_calls (ct := ct) (cd := cd) (cs := cs) (cr := cr) (hat.kp hW) (hty.out o (List.mem_of_getElem? ho.out)))
      subst hG
      clear hc
      replace hat := Aside.mk hat
      replace kp := Aside.mk kp
      go_wp2_with fail
      refine Calls.mono (hfew.out _ ((Kp.refl wr).alloc _)) ?_
      rintro e w2 ⟨b, rfl, hb, k2⟩
      have kp2 := Aside.mk (kp.out.trans (((Kp.refl wr).alloc _).trans k2))
      cases b with
      | false =>
        replace hb : Aside (¬fewO o) := ⟨fun e => by have := hb.2 e; cases this⟩
        clear k2
        go_wp2_with fail
        go_ret
        exact ⟨false, rfl, ⟨(fun e => by cases e), fun e => absurd (e.2 o (List.mem_of_getElem? ho.out)) hb.out⟩, kp2.out⟩
      | true =>
        replace hb : Aside (fewO o) := ⟨hb.1 rfl⟩
        clear k2
        go_wp2_with fail
        go_roundw
        case rel =>
          refine ⟨k + 1, by omega, by go_num, kp2.out, ⟨fun i o' hi ho' => ?_⟩⟩
          by_cases hik : i < k
          · exact hall.out i o' hik ho'
          · obtain rfl : i = k := by omega
            obtain rfl : o = o' := Option.some.inj (ho.out.symm.trans ho')
            exact hb.out
        case measure => simp [intOf]; omega
    · obtain rfl : k = n := by omega
      go_wp2_with fail
      go_ret
      refine ⟨true, rfl, ⟨fun _ => ⟨by omega, fun o ho => ?_⟩, fun _ => rfl⟩, kp⟩
      obtain ⟨i, hi⟩ := List.mem_iff_getElem?.1 ho
      exact hall.out i o (by have := hn.out; have := (List.getElem?_eq_some_iff.1 hi).1; omega) hi
end Go.Proofs.Ytnbooljaodkedaa
