/- LinkData: by value. No condition. -/
import Derived.Test.YtnbooljaodkedaaLnkWd
namespace Go.Proofs.Ytnbooljaodkedaa
open Go.RowKit Go.Proofs.Ytnbooljaodkedaa.PC Go.Proofs.Ytnbooljaodkedaa.PW
set_option linter.unusedVariables false
set_option linter.unusedSimpArgs false
def vB : ByteArray := ⟨#[118]⟩
def pB : ByteArray := ⟨#[112]⟩
def pS : SymV := ⟨pB, 2, 4, 0, false⟩
def vU : SymV := ⟨vB, 0, 0, 0, true⟩
def vS (v : Int) : SymV := ⟨vB, 2, v, 0, true⟩
def datT : List Ins := [⟨38, 6, 0, 0, 0⟩, ⟨29, 6, 6, 0, 0⟩, ⟨29, 10, 6, 0, 0⟩, ⟨41, 0, 1, 0, 0⟩]
def datT2 : List Ins := [⟨38, 6, 0, 0, 0⟩, ⟨29, 6, 6, 0, 36⟩, ⟨29, 10, 6, 0, 0⟩, ⟨41, 0, 1, 0, 0⟩]
def relsD (a : Int) : List RelV := [⟨1, 0, 1, 1, 0⟩, ⟨1, 1, 2, 1, 0⟩, ⟨2, 4, 6, 2, a⟩]
def oneD (a : Int) : ObjV := ⟨wordsL datT, [0, 0, 0, 0, 0, 0, 0, 0], [mainS, pS, vU], relsD a⟩
def twoD (own : List Int) (v : Int) : ObjV := ⟨[], own, [vS v], []⟩
def osD (own : List Int) (v a : Int) : List ObjV := [oneD a, twoD own v]
theorem datT_ok : ∀ i ∈ datT, i.ok := by
  intro i hi
  simp only [datT, List.mem_cons, List.not_mem_nil, or_false] at hi
  rcases hi with rfl | rfl | rfl | rfl
  · exact ⟨by decide +kernel, by decide, by decide⟩
  · exact ⟨by decide +kernel, by decide, by decide⟩
  · exact ⟨by decide +kernel, by decide, by decide⟩
  · exact ⟨by decide +kernel, by decide, by decide⟩
theorem datT2_ok : ∀ i ∈ datT2, i.ok := by
  intro i hi
  simp only [datT2, List.mem_cons, List.not_mem_nil, or_false] at hi
  rcases hi with rfl | rfl | rfl | rfl
  · exact ⟨by decide +kernel, by decide, by decide⟩
  · exact ⟨by decide +kernel, by decide, by decide⟩
  · exact ⟨by decide +kernel, by decide, by decide⟩
  · exact ⟨by decide +kernel, by decide, by decide⟩
theorem nameV_p : nameV pB = true := by decide +kernel
theorem nameV_v : nameV vB = true := by decide +kernel
theorem oneD_ok {a : Int} (h : 0 ≤ a ∧ a ≤ 1000) : objOk (oneD a) := by
  refine ⟨⟨by show 4 ≤ 65536; decide, by show 8 ≤ 65536; decide, by show 8 % 8 = 0; decide, by show 3 ≤ 600; decide, by show 3 ≤ 65536; decide⟩, fun s hs => ?_, ?_, fun j hj => ?_, fun r hr => ?_⟩
  · have hs' : s ∈ [mainS, pS, vU] := hs
    simp only [List.mem_cons, List.not_mem_nil, or_false] at hs'
    rcases hs' with rfl | rfl | rfl
    · exact ⟨nameV_main, by show symOk 4 8 mainS = true; decide⟩
    · exact ⟨nameV_p, by show symOk 4 8 pS = true; decide⟩
    · exact ⟨nameV_v, by show symOk 4 8 vU = true; decide⟩
  · show List.Pairwise _ [mainS, pS, vU]
    refine List.pairwise_cons.2 ⟨fun s hs => ?_, List.pairwise_cons.2 ⟨fun s hs => ?_, List.pairwise_singleton _ _⟩⟩
    · simp only [List.mem_cons, List.not_mem_nil, or_false] at hs
      rcases hs with rfl | rfl
      · exact (by decide : mainB ≠ pB)
      · exact (by decide : mainB ≠ vB)
    · obtain rfl := List.mem_singleton.1 hs
      exact (by decide : pB ≠ vB)
  · have hj' : j < 3 := hj
    match j, hj' with
    | 0, _ => exact Or.inl (by decide : (0 : Int) < 1)
    | 1, _ => exact Or.inr ⟨rfl, (by decide : (0 : Int) < 1)⟩
    | 2, _ => exact Or.inl (by decide : (1 : Int) < 2)
  · have hr' : r ∈ relsD a := hr
    simp only [relsD, List.mem_cons, List.not_mem_nil, or_false] at hr'
    rcases hr' with rfl | rfl | rfl
    · exact ⟨⟨by decide, by show (1 : Int) < 3; decide, by decide, by decide⟩, Or.inr ⟨rfl, by decide, by show (0 : Int) < 4; decide, 38, 6, 0, 0, by decide +kernel, rfl, by decide⟩⟩
    · exact ⟨⟨by decide, by show (1 : Int) < 3; decide, by decide, by decide⟩, Or.inr ⟨rfl, by decide, by show (1 : Int) < 4; decide, 29, 6, 6, 0, by decide +kernel, rfl, by decide⟩⟩
    · exact ⟨⟨by show (0 : Int) ≤ 2; decide, by show (2 : Int) < 3; decide, by show (-2147483648 : Int) ≤ a; omega, by show a < 2147483648; omega⟩, Or.inl ⟨rfl, rfl, by show (0 : Int) ≤ 4; decide, by show (4 : Int) % 4 = 0; decide, by show (4 : Int) ≤ 8 - 4; decide⟩⟩
theorem twoD_ok {own : List Int} {v : Int} (h8 : own.length % 8 = 0) (hl : own.length ≤ 1000) (hv : 0 ≤ v ∧ v ≤ own.length) : objOk (twoD own v) := by
  refine ⟨⟨by show 0 ≤ _; omega, by show own.length ≤ _; omega, h8, by show 1 ≤ _; omega, by show 0 ≤ _; omega⟩, fun s hs => ?_, List.pairwise_singleton _ _, fun j hj => absurd hj (Nat.not_lt_zero _), (fun r hr => nomatch hr)⟩
  obtain rfl := List.mem_singleton.1 hs
  refine ⟨nameV_v, ?_⟩
  show (if (2 : Int) = 0 then _ else if (2 : Int) = 1 then _ else if (2 : Int) = 2 then _ else _) = true
  rw [if_neg (by decide), if_neg (by decide), if_pos rfl]
  exact decide_eq_true ⟨hv.1, hv.2, rfl⟩
theorem oneD_wf {a : Int} (h : 0 ≤ a ∧ a ≤ 1000) : (oneD a).wf := by
  refine ⟨getD_wordsL datT, fun x hx => ?_, fun s hs => ?_, fun s hs => ?_, fun r hr => ?_, by show 4 ≤ 140737488355328; decide, by show 8 ≤ 140737488355328; decide, by show 3 ≤ 140737488355328; decide, by show 3 ≤ 140737488355328; decide⟩
  · have hx' : x ∈ List.replicate 8 (0 : Int) := hx
    obtain ⟨-, rfl⟩ := List.mem_replicate.1 hx'
    exact ⟨by decide, by decide⟩
  · have hs' : s ∈ [mainS, pS, vU] := hs
    simp only [List.mem_cons, List.not_mem_nil, or_false] at hs'
    rcases hs' with rfl | rfl | rfl
    · exact (by decide : mainB.size ≤ 140737488355328)
    · exact (by decide : pB.size ≤ 140737488355328)
    · exact (by decide : vB.size ≤ 140737488355328)
  · have hs' : s ∈ [mainS, pS, vU] := hs
    simp only [List.mem_cons, List.not_mem_nil, or_false] at hs'
    rcases hs' with rfl | rfl | rfl
    · exact ⟨by show I64 1; unfold I64; omega, by show I64 0; unfold I64; omega, by show I64 0; unfold I64; omega⟩
    · exact ⟨by show I64 2; unfold I64; omega, by show I64 4; unfold I64; omega, by show I64 0; unfold I64; omega⟩
    · exact ⟨by show I64 0; unfold I64; omega, by show I64 0; unfold I64; omega, by show I64 0; unfold I64; omega⟩
  · have hr' : r ∈ relsD a := hr
    simp only [relsD, List.mem_cons, List.not_mem_nil, or_false] at hr'
    have i0 : I64 0 := by unfold I64; omega
    have i1 : I64 1 := by unfold I64; omega
    have i2 : I64 2 := by unfold I64; omega
    have i4 : I64 4 := by unfold I64; omega
    have i6 : I64 6 := by unfold I64; omega
    have ia : I64 a := by unfold I64; omega
    rcases hr' with rfl | rfl | rfl
    · exact ⟨i1, i0, i1, i1, i0⟩
    · exact ⟨i1, i1, i2, i1, i0⟩
    · exact ⟨i2, i4, i6, i2, ia⟩
theorem twoD_wf {own : List Int} {v : Int} (hb : ∀ x ∈ own, Byte x) (hl : own.length ≤ 1000) (hv : 0 ≤ v ∧ v ≤ 1000) : (twoD own v).wf := by
  refine ⟨fun i => (by unfold U; decide : U 0), hb, fun s hs => ?_, fun s hs => ?_, (fun r hr => nomatch hr), by show 0 ≤ _; omega, by show own.length ≤ _; omega, by show 1 ≤ _; omega, by show 0 ≤ _; omega⟩
  · obtain rfl := List.mem_singleton.1 hs
    exact (by decide : vB.size ≤ 140737488355328)
  · obtain rfl := List.mem_singleton.1 hs
    exact ⟨by show I64 2; unfold I64; omega, by show I64 v; unfold I64; omega, by show I64 0; unfold I64; omega⟩
section
variable {own : List Int} {v a : Int}
theorem osD_mem {o : ObjV} (h : o ∈ osD own v a) : o = oneD a ∨ o = twoD own v := by
  rcases List.mem_cons.1 h with h | h
  · exact Or.inl h
  · exact Or.inr (List.mem_singleton.1 h)
theorem osD_once : once (defsA 0 (osD own v a)) := by
  show List.Pairwise _ [(mainB, 0, 0), (vB, 1, 0)]
  exact List.pairwise_cons.2 ⟨fun d hd => by obtain rfl := List.mem_singleton.1 hd; exact (by decide : mainB ≠ vB), List.pairwise_singleton _ _⟩
theorem osD_v : findV (osD own v a) vB = some (1, 0) := find_at (o := twoD own v) (s := vS v) osD_once (i := 1) (k := 0) rfl rfl rfl
theorem osD_allT : allT (osD own v a) := by
  intro o ho s hs h0
  rcases osD_mem ho with rfl | rfl
  · have hs' : s ∈ [mainS, pS, vU] := hs
    simp only [List.mem_cons, List.not_mem_nil, or_false] at hs'
    rcases hs' with rfl | rfl | rfl
    · exact absurd h0 (by decide)
    · exact absurd h0 (by decide)
    · show (findV _ vB).isSome
      rw [osD_v]
      rfl
  · obtain rfl := List.mem_singleton.1 hs
    exact absurd h0 (by show ¬(2 : Int) = 0; decide)
theorem osD_tlen : sumTo (tlen (osD own v a)) 2 = 4 := rfl
theorem osD_len : imgLen (osD own v a) = 40 + own.length := by
  have e2 : sumTo (dlen (osD own v a)) 2 = 0 + 8 + own.length := rfl
  show base _ 2 + sumTo _ 2 = _
  unfold base
  rw [osD_tlen, e2]
  omega
theorem osD_base : base (tlen (osD own v a)) (osD own v a).length = 32 := by
  rw [show (osD own v a).length = 2 from rfl]
  unfold base
  rw [osD_tlen]
theorem osD_d0 : datV (osD own v a) 0 = 32 := by
  unfold datV
  rw [osD_base]
  rfl
theorem osD_d1 : datV (osD own v a) 1 = 40 := by
  unfold datV
  rw [osD_base, show sumTo (dlen (osD own v a)) 1 = 8 from rfl]
theorem osD_t0 : txtV (osD own v a) 0 = 12 := rfl
theorem osD_aP : adrV (osD own v a) (0, 1) = 36 := by
  show addrV (txtV (osD own v a) 0) (datV (osD own v a) 0) 2 4 = 36
  rw [osD_d0]
  rfl
theorem osD_aV : adrV (osD own v a) (1, 0) = (40 + v) % 4294967296 := by
  show addrV (txtV (osD own v a) 1) (datV (osD own v a) 1) 2 v = _
  rw [osD_d1]
  rfl
theorem osD_one (h : 0 ≤ v ∧ 0 ≤ a ∧ v + a ≤ 1000) : objR (osD own v a) 0 (oneD a) = some (wordsL datT2, splice [0, 0, 0, 0, 0, 0, 0, 0] 4 (bytesL [40 + v + a])) := by
  have v0 : relVal (osD own v a) 0 (oneD a) ⟨1, 0, 1, 1, 0⟩ = 36 := by
    show (adrV (osD own v a) (0, 1) + 0) % 4294967296 = 36
    rw [osD_aP]
    rfl
  have v1 : relVal (osD own v a) 0 (oneD a) ⟨1, 1, 2, 1, 0⟩ = 36 := by
    show (adrV (osD own v a) (0, 1) + 0) % 4294967296 = 36
    rw [osD_aP]
    rfl
  have v2 : relVal (osD own v a) 0 (oneD a) ⟨2, 4, 6, 2, a⟩ = 40 + v + a := by
    have e : (((oneD a).syms[2]?).bind (tgtV (osD own v a) 0 2)) = some (1, 0) := by
      show tgtV (osD own v a) 0 2 vU = _
      unfold tgtV
      rw [if_pos (show vU.sect = 0 from rfl)]
      exact osD_v
    unfold relVal
    show ((match (((oneD a).syms[2]?).bind (tgtV (osD own v a) 0 2)) with | some t => adrV (osD own v a) t | none => 0) + a) % 4294967296 = _
    rw [e]
    show (adrV (osD own v a) (1, 0) + a) % 4294967296 = _
    rw [osD_aV]
    omega
  have p0 := (pat_ok (k := 1) (op := 38) (rd := 6) (rs1 := 0) (rs2 := 0) (v := 36) (p := 12) (by decide) (by decide +kernel) (by decide +kernel)).1
  have p1 := (pat_ok (k := 2) (op := 29) (rd := 6) (rs1 := 6) (rs2 := 0) (v := 36) (p := 16) (by decide) (by decide +kernel) (by decide +kernel)).1
  have i0 : immP 1 36 12 = 0 := by decide +kernel
  have i1 : immP 2 36 16 = 36 := by decide +kernel
  rw [i0] at p0
  rw [i1] at p1
  unfold objR
  show (relsD a).foldlM _ _ = _
  have s0 : stepR (osD own v a) 0 (oneD a) ((oneD a).text, (oneD a).data) ⟨1, 0, 1, 1, 0⟩ = some ((oneD a).text.set 0 (insW 38 6 0 0 0), (oneD a).data) := by
    unfold stepR
    rw [if_neg (show ¬(1 : Int) = 2 by decide), v0]
    show (patO 1 (insW 38 6 0 0 0) 36 12).map _ = _
    rw [p0]
    rfl
  have s1 : stepR (osD own v a) 0 (oneD a) ((oneD a).text.set 0 (insW 38 6 0 0 0), (oneD a).data) ⟨1, 1, 2, 1, 0⟩ = some (wordsL datT2, (oneD a).data) := by
    unfold stepR
    rw [if_neg (show ¬(1 : Int) = 2 by decide), v1]
    show (patO 2 (insW 29 6 6 0 0) 36 16).map _ = _
    rw [p1]
    rfl
  have s2 : stepR (osD own v a) 0 (oneD a) (wordsL datT2, (oneD a).data) ⟨2, 4, 6, 2, a⟩ = some (wordsL datT2, splice [0, 0, 0, 0, 0, 0, 0, 0] 4 (bytesL [40 + v + a])) := by
    unfold stepR
    rw [if_pos (show (2 : Int) = 2 from rfl), v2]
    rfl
  unfold relsD
  rw [List.foldlM_cons, s0]
  show List.foldlM _ _ _ = _
  rw [List.foldlM_cons, s1]
  show List.foldlM _ _ _ = _
  rw [List.foldlM_cons, s2]
  rfl
/-- What is linked, and how it runs. -/
theorem osD_run (h8 : own.length % 8 = 0) (hl : own.length ≤ 1000) (hb : ∀ x ∈ own, Byte x) {vn an : Nat} (hv : v = vn) (ha : a = an) (hv4 : vn % 4 = 0) (ha4 : an % 4 = 0) (hfit : vn + an + 4 ≤ own.length) :
    mainE (osD own v a) = 0 ∧ mainT (osD own v a) = some (0, 0) ∧ ∃ mem, imageV (osD own v a) (0, 0) = some mem ∧ mem.length = 40 + own.length ∧ (∀ x ∈ mem, Byte x) ∧
    ∀ floor top, mem.length ≤ top → top ≤ 2097152 → ∃ r', Goes (bootM mem floor top) 7 r' ∧ r'.s.state = 1 ∧ r'.s.code = getN own (vn + an) 4 ∧ r'.ev = [] := by
  have hok : ∀ o ∈ osD own v a, objOk o := fun o ho => by
    rcases osD_mem ho with rfl | rfl
    · exact oneD_ok (by omega)
    · exact twoD_ok h8 hl (by omega)
  obtain ⟨m1, m2, m3⟩ := main_zero hok osD_once osD_allT (i := 0) (k := 0) (o := oneD a) rfl rfl
  have hv12 : adrV (osD own v a) (0, 0) = ((12 : Nat) : Int) := m3
  have hR := osD_one (own := own) (v := v) (a := a) (by omega)
  obtain ⟨mem, hm⟩ := img_some (os := osD own v a) (t := (0, 0)) ⟨_, by rw [hv12]; exact (jal_pat (v := ((12 : Nat) : Int)) (p := 0) (by decide) (by decide) (by decide)).1⟩ (fun i o ho => by
    match i, ho with
    | 0, ho =>
      obtain rfl : oneD a = o := Option.some.inj ho
      rw [hR]
      rfl
    | 1, ho =>
      obtain rfl : twoD own v = o := Option.some.inj ho
      rw [objR_nil rfl]
      rfl
    | i + 2, ho => cases ho)
  have hI := img_at hok hm
  have hml : mem.length = 40 + own.length := hI.len.trans osD_len
  refine ⟨m1, m2, mem, hm, hml, img_byte (fun o ho x hx => ?_) hm, fun floor top htop ht2 => ?_⟩
  · rcases osD_mem ho with rfl | rfl
    · have hx' : x ∈ List.replicate 8 (0 : Int) := hx
      obtain ⟨-, rfl⟩ := List.mem_replicate.1 hx'
      exact ⟨by decide, by decide⟩
    · exact hb x hx
  obtain ⟨T, D, hp, -⟩ := hI.obj 0 (oneD a) rfl
  have e := hp.made
  rw [hR] at e
  injection e with e
  injection e with eT eD
  subst eT eD
  obtain ⟨T2, D2, hp2, -⟩ := hI.obj 1 (twoD own v) rfl
  obtain ⟨eT2, eD2⟩ := put_prog hp2 rfl
  subst eT2
  replace eD2 : D2 = own := eD2
  subst D2
  have hlm : (loadM mem top).length = top := loadM_length _ _ htop
  have code : ∀ j i, datT2[j]? = some i → Cd (loadM mem top) (12 + 4 * j) i := fun j i hj => cd_text hp rfl hI.len (k := j) (x := i) (by unfold wordsL; rw [List.getElem?_map, hj]; rfl) (datT2_ok i (List.mem_of_getElem? hj)) htop
  have c0 := code 0 _ rfl
  have c1 := code 1 _ rfl
  have c2 := code 2 _ rfl
  have c3 := code 3 _ rfl
  have x36 : getN (loadM mem top) 36 4 = 40 + v + a := by
    have hU : U (40 + v + a) := by unfold U; omega
    have := getN_words (m := loadM mem top) (l := [40 + v + a]) (q := 36) (k := 0) (fun b hb' => by
      simp only [List.length_cons, List.length_nil] at hb'
      rw [loadM_in _ _ _ (by omega)]
      have hd := hp.dat (4 + b) (by rw [splice_len _ _ _ (by rw [bytesL_length]; exact (by decide : 4 + 4 * 1 ≤ 8))]; simp only [List.length_cons, List.length_nil]; omega)
      rw [osD_d0, splice_get _ _ _ (by rw [bytesL_length]; exact (by decide : 4 + 4 * 1 ≤ 8)), if_pos (by rw [bytesL_length]; simp only [List.length_cons, List.length_nil]; omega), show 4 + b - 4 = b by omega, show 32 + (4 + b) = 36 + b by omega] at hd
      exact hd) (show 0 < 1 by decide) hU
    simpa using this
  have xv : getN (loadM mem top) (40 + (vn + an)) 4 = getN own (vn + an) 4 := by
    refine getN_get (fun b hb' => ?_)
    rw [loadM_in _ _ _ (by omega)]
    have hd := hp2.dat (vn + an + b) (by show _ < own.length; omega)
    rw [osD_d1] at hd
    rw [show 40 + (vn + an) + b = 40 + (vn + an + b) by omega]
    exact hd
  have hn4 := getN_range hb (vn + an) 4
  obtain ⟨r1, g1, s1⟩ := st_start (floor := floor) (top := top) hI hv12 (by decide) (by decide) htop (by omega) (by omega)
  obtain ⟨r2, t2, s2⟩ := st_lui s1 (by omega) (d := 6) (n := 0) (by decide) c0
  obtain ⟨r3, t3, s3⟩ := st_lw s2 (by omega) (d := 6) (e := 6) (q := 36) (n := 36) (by decide) (by simp [upd]) (by decide) (by omega) c1
  rw [x36] at s3
  obtain ⟨r4, t4, s4⟩ := st_lw s3 (by omega) (d := 10) (e := 6) (q := 40 + (vn + an)) (n := 0) (by decide) (by simp [upd]; omega) (by omega) (by omega) c2
  rw [xv] at s4
  obtain ⟨r5, t5, s5⟩ := st_jalr s4 (by omega) (e := 1) (q := 4) rfl (by simp [upd]) (by decide) (by omega) c3
  obtain ⟨r6, g6, a1, a2, a3⟩ := st_back hI hv12 (by decide) (by decide) htop (by omega) s5 rfl
  refine ⟨r6, ?_, a1, by rw [a2]; simp [upd], a3⟩
  exact g1.trans ((Goes.one s1.run t2).trans ((Goes.one s2.run t3).trans ((Goes.one s3.run t4).trans ((Goes.one s4.run t5).trans g6))))
end
end Go.Proofs.Ytnbooljaodkedaa
