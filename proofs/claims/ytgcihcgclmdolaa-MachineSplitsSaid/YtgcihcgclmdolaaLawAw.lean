/- The fixed fact of layer 4 (machine), walked. No condition. -/
import Derived.Test.YtgcihcgclmdolaaMachG
namespace Go.Proofs.Ytgcihcgclmdolaa
open Go.RowKit Go.Maps Go.Proofs.Ytgcihcgclmdolaa.PC Go.Proofs.Ytgcihcgclmdolaa.PW
set_option linter.unusedVariables false
set_option linter.unusedSimpArgs false
theorem own_slice {w : World} {base : Nat} {t : TypeId} {sz n : Nat} {v : Value} {xs : List Value} (h : w.ownsRow base t sz v n xs) : ∃ A m c, v = .slice A m c := by
  rcases h.2 with ⟨h, _⟩ | ⟨g, cap, cur, h, _⟩
  · exact ⟨_, _, _, h⟩
  · exact ⟨_, _, _, h⟩
/-- The words' bytes, of a row of words. -/
theorem Bytes_row {w : World} {base : Nat} {A : Option Addr} {n c : Nat} (l : List Int) (hl : l.length ≤ 100000) (hu : ∀ x ∈ l, U x) (h : w.ownsRow base 28 1 (.slice A n c) l.length (u32V l)) :
    Calls Try.prog 11 #[.slice A n c] w fun e w' => ∃ A' n' c', e = .returned (.slice A' n' c') ∧ Kp w w' ∧ rowBy w' w.heap.size (.slice A' n' c') (bytesL l) := by
  have hud : ∀ i, U (l.getD i 0) := by
    intro i
    rw [List.getD_eq_getElem?_getD]
    cases hi : l[i]? with
    | none => exact (by unfold U; decide : U 0)
    | some x => exact hu x (List.mem_of_getElem? hi)
  have fin : ∀ (e : Ending) (w' : World), (∃ v, e = .returned v ∧ Kp w w' ∧ rowBy w' w.heap.size v (bytesL l)) → ∃ A' n' c', e = .returned (.slice A' n' c') ∧ Kp w w' ∧ rowBy w' w.heap.size (.slice A' n' c') (bytesL l) := by
    rintro e w' ⟨v, rfl, hk, hr⟩
    obtain ⟨A', n', c', rfl⟩ := own_slice hr
    exact ⟨_, _, _, rfl, hk, hr⟩
  rcases h.2 with ⟨h1, h2⟩ | ⟨g, cap, cur, h1, h2, h3, h4, h5, h6, h7⟩
  · injection h1 with e1 e2 e3
    subst e1 e2 e3
    have hc := Bytes_calls (w := w) none 0 l hl hud (by omega) (fun hne => absurd (List.eq_nil_of_length_eq_zero h2) hne)
    rw [h2] at hc
    exact hc.mono fin
  · injection h1 with e1 e2 e3
    subst e1 e2 e3
    refine (Bytes_calls (w := w) (some ⟨g, 0, none⟩) c l hl hud h4 (fun _ => ⟨g, 0, rfl, (Array.getElem?_eq_some_iff.1 h3).1, fun i hi => ?_⟩)).mono fin
    have e : cur[i]? = some (.int .u32 (l.getD i 0)) := by
      have : (cur.toList.take (l.length * 1))[i]? = (u32V l)[i]? := by rw [h7]
      rw [List.getElem?_take, if_pos (by omega)] at this
      simp [u32V, hi] at this
      rw [List.getD_eq_getElem?_getD, List.getElem?_eq_getElem hi]
      simpa using this
    rw [Nat.zero_add]
    simp [World.cell?, h3, e]
theorem wordsL_U (l : List Ins) : ∀ x ∈ wordsL l, U x := by
  intro x hx
  obtain ⟨i, _, rfl⟩ := List.mem_map.1 hx
  exact insW_u _ _ _ _ _
theorem wordsL_length (l : List Ins) : (wordsL l).length = l.length := by simp [wordsL]
/-- What is loaded of a program. -/
def bootP (P : List Ins) (floor top : Nat) : RS := ⟨loadS 0 (bytesL (wordsL P)) floor top, [], []⟩
theorem boot_is (P : List Ins) (inp : List Int) (floor top : Nat) : Is (loadM (bytesL (wordsL P)) top) ⟨loadS 0 (bytesL (wordsL P)) floor top, inp, []⟩ (fun i => if i = 2 then (top : Int) else if i = 27 then (floor : Int) else 0) 0 inp [] := by
  refine ⟨rfl, rfl, fun i => ?_, rfl, rfl, rfl, rfl⟩
  show (((List.replicate 32 0).set 2 (top : Int)).set 27 (floor : Int)).getD i 0 = _
  rw [getD_set, getD_set]
  by_cases h2 : i = 2
  · subst h2; simp
  · by_cases h27 : i = 27
    · subst h27; simp
    · rw [if_neg (fun e => h27 e.1.symm), if_neg (fun e => h2 e.1.symm), if_neg h2, if_neg h27]
      show (List.replicate 32 (0 : Int)).getD i 0 = 0
      rw [List.getD_eq_getElem?_getD, List.getElem?_replicate]
      split <;> rfl
def awakeP : List Ins := [⟨18, 17, 0, 0, 3⟩, ⟨42, 0, 0, 0, 0⟩]
theorem awakeP_ok : ∀ i ∈ awakeP, i.ok := by
  intro i hi
  simp only [awakeP, List.mem_cons, List.not_mem_nil, or_false] at hi
  rcases hi with rfl | rfl
  · exact ⟨by decide +kernel, by decide, by decide⟩
  · exact ⟨by decide +kernel, by decide, by decide⟩
theorem awake_goes : ∃ r', Goes (bootP awakeP 16 80) 2 r' ∧ r'.s.state = 1 ∧ r'.s.code = 0 := by
  have hP : ProgAt (loadM (bytesL (wordsL awakeP)) 80) awakeP 80 := ⟨rfl, by decide, awakeP_ok⟩
  have h0 := boot_is awakeP [] 16 80
  obtain ⟨r1, s1, h1⟩ := is_addi h0 hP (by decide) (d := 17) (e := 0) (n := 3) (by decide) rfl
  obtain ⟨r2, s2, h2, h3, -⟩ := is_halt h1 hP (by simp [upd]) rfl
  exact ⟨r2, (Goes.one h0.run s1).trans (Goes.one h1.run s2), h2, by rw [h3]; simp [upd]⟩
set_option maxRecDepth 100000 in
theorem fld_res (W : World) (a b n : Int) (A : Option Addr) (m c : Nat) : (Instr.field 41 (.agg #[.int .i64 a, .int .u32 b, .slice A m c, .int .i64 n]) 3).run Try.prog W = .ok (.int .i64 n) W := by rfl
set_option maxRecDepth 100000 in
set_option maxHeartbeats 2000000 in
theorem awake04_calls (w : World) : Calls Try.prog 8 #[] w fun e w' => e = .returned (.bool true) ∧ Kp w w' := by
  obtain ⟨r', hg, hst, hcd⟩ := awake_goes
  have bI := Aside.mk (Blk.new w (insC awakeP).toArray 26)
  have kI : Aside (Kp w (w.alloc (.cells (insC awakeP).toArray 26))) := ⟨(Kp.refl w).alloc _⟩
  have wc := Words_calls (I := w.heap.size) (c := 2) awakeP (by decide) awakeP_ok bI.out (by decide)
  replace wc := Aside.mk wc
  replace hg := Aside.mk hg
  go_enter Try.func8, Try.ntmps8
  go_wp2_with fail
  refine Calls.mono wc.out ?_
  rintro e w1 ⟨v, rfl, k1, hr1⟩
  obtain ⟨A1, n1, c1, rfl⟩ := own_slice hr1
  have h1 : Aside (w1.ownsRow (w.alloc (.cells (insC awakeP).toArray 26)).heap.size 28 1 (.slice A1 n1 c1) (wordsL awakeP).length (u32V (wordsL awakeP))) := ⟨hr1⟩
  replace kI : Aside (Kp w w1) := ⟨kI.out.trans k1⟩
  clear k1 hr1
  go_wp2_with fail
  refine Calls.mono (Bytes_row (wordsL awakeP) (by decide) (wordsL_U _) h1.out) ?_
  rintro e w2 ⟨A2, n2, c2, rfl, k2, hr2⟩
  replace hr2 := Aside.mk hr2
  replace kI : Aside (Kp w w2) := ⟨kI.out.trans k2⟩
  clear k2
  go_wp2_with fail
  refine Calls.mono (Load_at 0 64 64 16 80 rfl hr2.out (bytesL_byte _) (by unfold U; decide) (by decide) (by rw [bytesL_length, wordsL_length]; decide) (by rw [bytesL_length, wordsL_length]; decide) (by decide) (by decide)) ?_
  rintro e w7 ⟨M, B, K, rfl, ⟨gM, gB, gK⟩, k7, hm⟩
  have s7 := kI.out.size
  have lM := hm.m.lt
  have hout : w.heap.size ≤ M ∧ w.heap.size ≤ B ∧ w.heap.size ≤ K := by omega
  replace kI : Aside (Kp w w7) := ⟨kI.out.trans k7⟩
  clear k7 gM gB gK s7
  have rc := Run_goes hg.out 2 rfl 9 (.slice none 0 0) hm words_none rfl (by decide) (by decide) (Or.inr (by rw [hst]; decide)) (by decide)
  rw [hst, hcd] at rc
  replace rc := Aside.mk rc
  replace hm := Aside.mk hm
  replace hout := Aside.mk hout
  go_wp2_with fail
  refine Calls.mono rc.out ?_
  rintro e w8 ⟨ev, rfl, hmod, hm8, hev⟩
  obtain ⟨A8, n8, c8, rfl⟩ := own_slice hev
  clear hev
  have kk8 : Aside (Kp w w8) := ⟨(kI.out.mod.behind hmod (S := fun _ => False) (fun k e => Or.inr (by have := hout.out; rcases e with e | e | e <;> omega))).toKp (fun k e => e.elim)⟩
  clear hmod hm8
  go_wp2_with fail
  all_goals go_ret
  all_goals exact ⟨rfl, kk8.out.alloc _⟩
end Go.Proofs.Ytgcihcgclmdolaa
