/- LinkMore: by value. No condition. -/
import Derived.Test.YtnbooljaodkedaaLnkWd
namespace Go.Proofs.Ytnbooljaodkedaa
open Go.RowKit Go.Proofs.Ytnbooljaodkedaa.PC Go.Proofs.Ytnbooljaodkedaa.PW
set_option linter.unusedVariables false
set_option linter.unusedSimpArgs false
def noB : ByteArray := ⟨#[110, 111, 98, 111, 100, 121]⟩
def noS : SymV := ⟨noB, 1, 0, 0, true⟩
def moreO (ws : List Int) : ObjV := ⟨ws, [], [noS], []⟩
def addI (n : Int) : Ins := ⟨18, 10, 10, 0, n⟩
def progM (ns : List Int) : List Ins := ⟨18, 10, 0, 0, 0⟩ :: (ns.map addI ++ [⟨41, 0, 1, 0, 0⟩])
theorem progM_len (ns : List Int) : (progM ns).length = ns.length + 2 := by simp [progM]
theorem enc_add : ∀ i : Fin 256, insE 18 10 10 0 (i.val : Int) = 0 := by decide +kernel
theorem addI_ok {n : Int} (h : Byte n) : (addI n).ok := by
  obtain ⟨h0, h1⟩ := h
  have e := enc_add ⟨n.toNat, by omega⟩
  have e2 : ((n.toNat : Nat) : Int) = n := by omega
  rw [e2] at e
  exact ⟨e, ⟨by show (-9223372036854775808 : Int) ≤ 18; decide, by show (18 : Int) ≤ 9223372036854775807; decide⟩, ⟨by show (-9223372036854775808 : Int) ≤ n; omega, by show n ≤ 9223372036854775807; omega⟩⟩
theorem first_ok : (⟨18, 10, 0, 0, 0⟩ : Ins).ok := ⟨by decide +kernel, by decide, by decide⟩
theorem ret_ok : (⟨41, 0, 1, 0, 0⟩ : Ins).ok := ⟨by decide +kernel, by decide, by decide⟩
theorem progM_ok {ns : List Int} (h : ∀ n ∈ ns, Byte n) : ∀ i ∈ progM ns, i.ok := by
  intro i hi
  unfold progM at hi
  rcases List.mem_cons.1 hi with rfl | hi
  · exact first_ok
  · rcases List.mem_append.1 hi with hi | hi
    · obtain ⟨n, hn, rfl⟩ := List.mem_map.1 hi
      exact addI_ok (h n hn)
    · obtain rfl := List.mem_singleton.1 hi
      exact ret_ok
theorem nameV_no : nameV noB = true := by decide +kernel
theorem moreO_wf {ws : List Int} (h : ws.length ≤ 10000) (hu : ∀ x ∈ ws, U x) : (moreO ws).wf := by
  refine ⟨fun i => ?_, (fun x hx => nomatch hx), fun s hs => ?_, fun s hs => ?_, (fun r hr => nomatch hr), by show ws.length ≤ _; omega, by show 0 ≤ _; omega, by show 1 ≤ _; omega, by show 0 ≤ _; omega⟩
  · show U (ws.getD i 0)
    rw [List.getD_eq_getElem?_getD]
    cases e : ws[i]? with
    | none => exact (by unfold U; decide : U 0)
    | some x => exact hu x (List.mem_of_getElem? e)
  · obtain rfl := List.mem_singleton.1 hs
    exact (by decide : noB.size ≤ 140737488355328)
  · obtain rfl := List.mem_singleton.1 hs
    exact ⟨by show I64 1; unfold I64; omega, by show I64 0; unfold I64; omega, by show I64 0; unfold I64; omega⟩
theorem moreO_ok {ws : List Int} (h : ws.length ≤ 10000) : objOk (moreO ws) := by
  refine ⟨⟨by show ws.length ≤ _; omega, by show 0 ≤ _; omega, rfl, by show 1 ≤ _; omega, by show 0 ≤ _; omega⟩, fun s hs => ?_, List.pairwise_singleton _ _, fun j hj => absurd hj (Nat.not_lt_zero _), (fun r hr => nomatch hr)⟩
  obtain rfl := List.mem_singleton.1 hs
  refine ⟨nameV_no, ?_⟩
  show (if (1 : Int) = 0 then _ else if (1 : Int) = 1 then _ else _) = true
  rw [if_neg (by decide), if_pos rfl]
  exact decide_eq_true ⟨by decide, by show (0 : Int) ≤ _; omega, by decide, by decide, by decide⟩
/-- The three lists of objects. -/
def threeO (ns ws : List Int) : Nat → List ObjV
  | 0 => [progO (progM ns)]
  | 1 => [progO (progM ns), moreO ws]
  | _ => [moreO ws, progO (progM ns)]
def threeI : Nat → Nat
  | 0 => 0
  | 1 => 0
  | _ => 1
theorem three_mem {ns ws : List Int} {k : Nat} {o : ObjV} (h : o ∈ threeO ns ws k) : o = progO (progM ns) ∨ o = moreO ws := by
  match k with
  | 0 => exact Or.inl (List.mem_singleton.1 h)
  | 1 => rcases List.mem_cons.1 h with h | h; exact Or.inl h; exact Or.inr (List.mem_singleton.1 h)
  | k + 2 => rcases List.mem_cons.1 h with h | h; exact Or.inr h; exact Or.inl (List.mem_singleton.1 h)
theorem three_at (ns ws : List Int) (k : Nat) : (threeO ns ws k)[threeI k]? = some (progO (progM ns)) := by
  match k with
  | 0 => rfl
  | 1 => rfl
  | k + 2 => rfl
theorem names_ne : mainB ≠ noB := by decide
theorem three_once (ns ws : List Int) (k : Nat) : once (defsA 0 (threeO ns ws k)) := by
  match k with
  | 0 => exact one_once _
  | 1 =>
    show List.Pairwise _ [(mainB, 0, 0), (noB, 1, 0)]
    exact List.pairwise_cons.2 ⟨fun d hd => by obtain rfl := List.mem_singleton.1 hd; exact names_ne, List.pairwise_singleton _ _⟩
  | k + 2 =>
    show List.Pairwise _ [(noB, 0, 0), (mainB, 1, 0)]
    exact List.pairwise_cons.2 ⟨fun d hd => by obtain rfl := List.mem_singleton.1 hd; exact names_ne.symm, List.pairwise_singleton _ _⟩
theorem three_rels {ns ws : List Int} {k : Nat} {o : ObjV} (h : o ∈ threeO ns ws k) : o.rels = [] ∧ o.data = [] := by
  rcases three_mem h with rfl | rfl
  · exact ⟨rfl, rfl⟩
  · exact ⟨rfl, rfl⟩
theorem three_allT (ns ws : List Int) (k : Nat) : allT (threeO ns ws k) := by
  intro o ho s hs h0
  rcases three_mem ho with rfl | rfl
  · obtain rfl := List.mem_singleton.1 hs
    exact absurd h0 (by decide)
  · obtain rfl := List.mem_singleton.1 hs
    exact absurd h0 (by decide)
theorem three_len {ns ws : List Int} {k : Nat} (h1 : ns.length ≤ 20) (h2 : ws.length ≤ 100) : imgLen (threeO ns ws k) ≤ 600 ∧ (threeO ns ws k).length ≤ 2 := by
  have hl : (wordsL (progM ns)).length = ns.length + 2 := by rw [wordsL_len, progM_len]
  have e2 : ((threeO ns ws k).map fun o => o.data.length).sum = 0 := by
    match k with
    | 0 => rfl
    | 1 => rfl
    | k + 2 => rfl
  have e1 : ((threeO ns ws k).map fun o => o.text.length).sum ≤ ns.length + 2 + ws.length := by
    match k with
    | 0 => show (wordsL (progM ns)).length + 0 ≤ _; omega
    | 1 => show (wordsL (progM ns)).length + (ws.length + 0) ≤ _; omega
    | k + 2 => show ws.length + ((wordsL (progM ns)).length + 0) ≤ _; omega
  refine ⟨?_, ?_⟩
  · unfold imgLen base
    rw [sumT_eq, sumD_eq, e2]
    omega
  · match k with
    | 0 => exact (by decide : 1 ≤ 2)
    | 1 => exact (by decide : 2 ≤ 2)
    | k + 2 => exact (by decide : 2 ≤ 2)
/-- Sums of what is added. -/
theorem adds_go {m : List Int} (hl : m.length ≤ 4294967292) : ∀ (ns : List Int) (r : RS) (X : Nat → Int) (p : Nat) (s : Int), (∀ n ∈ ns, Byte n) → St m r X p → X 0 = 0 → X 10 = s → 0 ≤ s → s + 255 * ns.length ≤ 4294967295 → (∀ j n, ns[j]? = some n → Cd m (p + 4 * j) (addI n)) →
    ∃ r' X', Goes r ns.length r' ∧ St m r' X' (p + 4 * ns.length) ∧ X' 0 = 0 ∧ X' 1 = X 1 ∧ X' 5 = X 5 ∧ X' 10 = s + ns.sum ∧ 0 ≤ ns.sum ∧ ns.sum ≤ 255 * ns.length
  | [], r, X, p, s, _, h, h0, h10, _, _, _ => ⟨r, X, .nil r, h, h0, rfl, rfl, by simp [h10], by simp, by simp⟩
  | n :: ns, r, X, p, s, hb, h, h0, h10, hs0, hs, hc => by
    obtain ⟨b0, b1⟩ := hb n (List.mem_cons_self ..)
    obtain ⟨r1, t1, h1⟩ := st_addi h hl (d := 10) (e := 10) (n := n) (by decide) (hc 0 n rfl)
    simp only [List.length_cons] at hs
    have e10 : (X 10 + n % 4294967296) % 4294967296 = s + n := by rw [h10]; omega
    rw [e10] at h1
    obtain ⟨r2, X2, g2, h2, z0, z1, z5, z10, y0, y1⟩ := adds_go hl ns r1 (upd X 10 (s + n)) (p + 4) (s + n) (fun x hx => hb x (List.mem_cons_of_mem _ hx)) h1 rfl (by simp [upd]) (by omega) (by omega) (fun j x hx => by
      have := hc (j + 1) x hx
      rwa [show p + 4 * (j + 1) = p + 4 + 4 * j by omega] at this)
    refine ⟨r2, X2, ?_, ?_, z0, by rw [z1]; simp [upd], by rw [z5]; simp [upd], by rw [z10, List.sum_cons]; omega, by rw [List.sum_cons]; omega, by rw [List.sum_cons, List.length_cons]; omega⟩
    · have g := (Goes.one h.run t1).trans g2
      rw [List.length_cons, Nat.add_comm]
      exact g
    · rw [List.length_cons, show p + 4 * (ns.length + 1) = p + 4 + 4 * ns.length by omega]
      exact h2
/-- What is linked of the three, and how it runs. -/
theorem three_run {ns ws : List Int} {k : Nat} (h1 : ns.length ≤ 20) (hb : ∀ n ∈ ns, Byte n) (h2 : ws.length ≤ 100) : mainE (threeO ns ws k) = 0 ∧ mainT (threeO ns ws k) = some (threeI k, 0) ∧ ∃ mem, imageV (threeO ns ws k) (threeI k, 0) = some mem ∧ mem.length = imgLen (threeO ns ws k) ∧ (∀ x ∈ mem, Byte x) ∧
    ∀ floor top, mem.length ≤ top → top ≤ 2097152 → ∃ r', Goes (bootM mem floor top) (ns.length + 5) r' ∧ r'.s.state = 1 ∧ r'.s.code = ns.sum ∧ r'.ev = [] := by
  obtain ⟨hlen, hcount⟩ := three_len (k := k) h1 h2
  have hok : ∀ o ∈ threeO ns ws k, objOk o := fun o ho => by
    rcases three_mem ho with rfl | rfl
    · exact progO_ok (by rw [progM_len]; omega)
    · exact moreO_ok (by omega)
  have ho := three_at ns ws k
  obtain ⟨m1, m2, m3⟩ := main_zero hok (three_once ns ws k) (three_allT ns ws k) ho (k := 0) rfl
  obtain ⟨f1, f2⟩ := txt_fit ho
  have hd0 : datV (threeO ns ws k) (threeI k) ≤ 600 := by omega
  have ht0 : txtV (threeO ns ws k) (threeI k) ≤ 600 := by omega
  have hv : adrV (threeO ns ws k) (threeI k, 0) = ((txtV (threeO ns ws k) (threeI k) : Nat) : Int) := by rw [m3]; congr 1; omega
  have h4 : txtV (threeO ns ws k) (threeI k) % 4 = 0 := by unfold txtV; omega
  obtain ⟨mem, hm⟩ := img_some (os := threeO ns ws k) (t := (threeI k, 0)) ⟨_, by rw [hv]; exact (jal_pat (v := ((txtV (threeO ns ws k) (threeI k) : Nat) : Int)) (p := 0) (by omega) (by decide) (by omega)).1⟩ (fun i o ho => by rw [objR_nil (three_rels (List.mem_of_getElem? ho)).1]; rfl)
  have hI := img_at hok hm
  refine ⟨m1, m2, mem, hm, hI.len, img_byte (fun o ho x hx => by rw [(three_rels ho).2] at hx; cases hx) hm, fun floor top htop ht2 => ?_⟩
  obtain ⟨T, D, hp, -⟩ := hI.obj _ _ ho
  obtain ⟨rfl, rfl⟩ := put_prog hp rfl
  have hlm : (loadM mem top).length = top := loadM_length _ _ htop
  have hok2 := progM_ok hb
  have code : ∀ j i, (progM ns)[j]? = some i → Cd (loadM mem top) (txtV (threeO ns ws k) (threeI k) + 4 * j) i := fun j i hj => cd_text hp ho hI.len (k := j) (x := i) (by show (wordsL (progM ns))[j]? = _; unfold wordsL; rw [List.getElem?_map, hj]; rfl) (hok2 i (List.mem_of_getElem? hj)) htop
  generalize hpv : txtV (threeO ns ws k) (threeI k) = pv at *
  have hml := hI.len
  have hfit : pv + 4 * (ns.length + 2) ≤ mem.length := by rw [hml]; have : (progO (progM ns)).text.length = ns.length + 2 := by show (wordsL (progM ns)).length = _; rw [wordsL_len, progM_len]
                                                          omega
  obtain ⟨r1, g1, s1⟩ := st_start (floor := floor) (top := top) hI hv (by omega) h4 htop (by omega) (by omega)
  obtain ⟨r2, t2, s2⟩ := st_addi s1 (by omega) (d := 10) (e := 0) (n := 0) (by decide) (code 0 _ rfl)
  obtain ⟨r3, X3, g3, s3, z0, z1, -, z10, y0, y1⟩ := adds_go (by omega) ns r2 _ (pv + 4 * 0 + 4) 0 hb s2 rfl rfl (by decide) (by omega) (fun j n hj => by
    have := code (j + 1) (addI n) (by
      show (ns.map addI ++ _)[j]? = _
      rw [List.getElem?_append_left (by rw [List.length_map]; exact (List.getElem?_eq_some_iff.1 hj).1), List.getElem?_map, hj]
      rfl)
    rwa [show pv + 4 * (j + 1) = pv + 4 * 0 + 4 + 4 * j by omega] at this)
  have cl := code (ns.length + 1) ⟨41, 0, 1, 0, 0⟩ (by
    show (ns.map addI ++ _)[ns.length]? = _
    rw [List.getElem?_append_right (by rw [List.length_map]; omega), List.length_map, Nat.sub_self]
    rfl)
  rw [show pv + 4 * (ns.length + 1) = pv + 4 * 0 + 4 + 4 * ns.length by omega] at cl
  obtain ⟨r4, t4, s4⟩ := st_jalr s3 (by omega) (e := 1) (q := 4) z0 (by rw [z1]; simp [upd]) (by decide) (by omega) cl
  obtain ⟨r5, g5, a1, a2, a3⟩ := st_back hI hv (by omega) h4 htop (by omega) s4 z0
  refine ⟨r5, ?_, a1, by rw [a2, z10]; omega, a3⟩
  have g := g1.trans ((Goes.one s1.run t2).trans (g3.trans ((Goes.one s3.run t4).trans g5)))
  rw [show ns.length + 5 = 1 + (1 + (ns.length + (1 + 2))) by omega]
  exact g
end Go.Proofs.Ytnbooljaodkedaa
