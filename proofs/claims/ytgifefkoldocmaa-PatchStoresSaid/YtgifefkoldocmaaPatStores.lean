/- Patched instructions in the machine: PatchStores, walked. Condition: the arguments are numbers of their types. -/
import Derived.Test.YtgifefkoldocmaaPatMach
import Derived.Test.YtgifefkoldocmaaPatG
import Derived.Test.YtgifefkoldocmaaPatEn
namespace Go.Proofs.Ytgifefkoldocmaa
open Go.RowKit Go.Maps Go.Proofs.Ytgifefkoldocmaa.PC Go.Proofs.Ytgifefkoldocmaa.PW
set_option linter.unusedVariables false
set_option linter.unusedSimpArgs false
theorem enc_lui : insE 38 5 0 0 0 = 0 := by decide +kernel
theorem enc_sw : insE 31 0 5 10 0 = 0 := by decide +kernel
theorem fits_31 (n : Int) (h : -2048 ≤ n ∧ n < 2048) : fitsOp 31 n = true := by
  have e : fitsOp 31 n = decide (fitsK 83 n) := rfl
  rw [e]
  simp [fitsK]
  omega
def headP : List Ins := [⟨18, 17, 0, 0, 2⟩, ⟨42, 0, 0, 0, 0⟩]
def storeP (hi lo : Int) : List Ins := [⟨18, 17, 0, 0, 2⟩, ⟨42, 0, 0, 0, 0⟩, ⟨38, 5, 0, 0, hi⟩, ⟨31, 0, 5, 10, lo⟩]
theorem ok17 : (⟨18, 17, 0, 0, 2⟩ : Ins).ok := ⟨by decide +kernel, by decide, by decide⟩
theorem ok42 : (⟨42, 0, 0, 0, 0⟩ : Ins).ok := ⟨by decide +kernel, by decide, by decide⟩
theorem headP_ok : ∀ i ∈ headP, i.ok := by
  intro i hi
  simp only [headP, List.mem_cons, List.not_mem_nil, or_false] at hi
  rcases hi with rfl | rfl
  · exact ok17
  · exact ok42
theorem headP_enc : ∀ i ∈ headP, ∀ w, Calls Try.prog 31 #[.agg i.cs.toArray] w fun e w' => e = .returned (.tuple #[.int .u32 i.word, .int .i64 0]) ∧ Kp w w' := by
  intro i hi w
  simp only [headP, List.mem_cons, List.not_mem_nil, or_false] at hi
  rcases hi with rfl | rfl
  · exact enc_17 w
  · exact enc_42 w
theorem storeP_ok {hi lo : Int} (h1 : insE 38 5 0 0 hi = 0) (h2 : insE 31 0 5 10 lo = 0) (b1 : 0 ≤ hi ∧ hi < 1048576) (b2 : -2048 ≤ lo ∧ lo < 2048) : ∀ i ∈ storeP hi lo, i.ok := by
  intro i hi
  simp only [storeP, List.mem_cons, List.not_mem_nil, or_false] at hi
  rcases hi with rfl | rfl | rfl | rfl
  · exact ok17
  · exact ok42
  · exact ⟨h1, by show -9223372036854775808 ≤ (38 : Int) ∧ (38 : Int) ≤ 9223372036854775807; decide, ⟨by show _ ≤ hi; omega, by show hi ≤ _; omega⟩⟩
  · exact ⟨h2, by show -9223372036854775808 ≤ (31 : Int) ∧ (31 : Int) ≤ 9223372036854775807; decide, ⟨by show _ ≤ lo; omega, by show lo ≤ _; omega⟩⟩
theorem wordsL_length' (l : List Ins) : (wordsL l).length = l.length := by simp [wordsL]
theorem boot_is' (P : List Ins) (inp : List Int) (floor top : Nat) : Is (loadM (bytesL (wordsL P)) top) ⟨loadS 0 (bytesL (wordsL P)) floor top, inp, []⟩ (fun i => if i = 2 then (top : Int) else if i = 27 then (floor : Int) else 0) 0 inp [] := by
  refine ⟨rfl, rfl, fun i => ?_, rfl, rfl, rfl, rfl⟩
  show (((List.replicate 32 0).set 2 (top : Int)).set 27 (floor : Int)).getD i 0 = _
  rw [getD_set, getD_set]
  by_cases h2 : i = 2
  · subst h2; simp
  · by_cases h27 : i = 27
    · subst h27; simp
    · rw [if_neg (fun e => h27 e.1.symm), if_neg (fun e => h2 e.1.symm), if_neg h2, if_neg h27]
      show (List.replicate 32 (0 : Int)).getD i 0 = 0
      rw [List.getD_eq_getElem?_getD, List.getElem?_replicate]
      split <;> rfl
section
variable {mem : List Int} {P : List Ins} {top k : Nat} {r : RS} {X : Nat → Int} {inp : List Int} {ev : List Ev}
theorem is_lui (h : Is mem r X k inp ev) (hP : ProgAt mem P top) (hk : k < 100000) {d : Nat} {n : Int} (hd : d < 32) (hi : P[k]? = some ⟨38, d, 0, 0, n⟩) : ∃ r', StepC r r' ∧ Is mem r' (upd X d (n * 4096 % 4294967296)) (k + 1) inp ev := by
  obtain ⟨hkl, hdec⟩ := h.dec hP hi
  refine ⟨_, fun w b1 b2 R M B K N hr hT hN => (step_lui (b2 := b2) hr (by omega) (h.inside hP hkl) (n := n) (d := d) (e := 0) (f := 0) hdec).mono (fun e' w' ⟨he, hm, hr⟩ => ⟨he, hm, hr.more (by omega)⟩), ⟨h.mem, ?_, ?_, pc_next h hk, h.run, h.inp, h.ev⟩⟩
  · show ((r.s.x.set d _).set 0 0).length = 32
    rw [List.length_set, List.length_set, h.len]
  · intro i
    exact upd_reg h.reg h.len hd _ i
theorem is_sw (h : Is mem r X k inp ev) (hP : ProgAt mem P top) (hk : k < 100000) {e f : Nat} {n : Int} {a : Nat} (ha : (X e + n) % 4294967296 = (a : Int)) (h4 : a % 4 = 0) (ht : a + 4 ≤ mem.length) (hi : P[k]? = some ⟨31, 0, e, f, n⟩) : ∃ r', StepC r r' ∧ r'.s.mem = putN mem a (X f) 4 ∧ r'.s.state = 0 := by
  obtain ⟨hkl, hdec⟩ := h.dec hP hi
  have ea : (r.s.x.getD e 0 + n) % 4294967296 = (a : Int) := by rw [h.reg]; exact ha
  refine ⟨_, fun w b1 b2 R M B K N hr hT hN => (step_SW (b2 := b2) hr (by omega) (h.inside hP hkl) (n := n) (d := 0) (e := e) (f := f) hdec (by rw [ea]; omega) (by rw [ea, h.mem]; omega)).mono (fun e' w' ⟨he, hm, hr⟩ => ⟨he, hm, hr.more (by omega)⟩), ?_, h.run⟩
  show putN r.s.mem ((r.s.x.getD e 0 + n) % 4294967296).toNat (r.s.x.getD f 0) 4 = _
  rw [ea, h.mem, h.reg, Int.toNat_natCast]
end
theorem put_bytes (mem : List Int) (a : Nat) (v : Int) (h : a + 4 ≤ mem.length) : ((putN mem a v 4).drop a).take 4 = bytesL [v] := by
  have hl := putN_length mem a v 4
  apply List.ext_getElem?
  intro i
  by_cases hi : i < 4
  · rw [List.getElem?_take, if_pos hi, List.getElem?_drop, List.getElem?_eq_getElem (by omega)]
    have e : (putN mem a v 4).getD (a + i) 0 = v / 256 ^ i % 256 := by
      rw [putN_getD mem a v 4 (a + i) h, if_pos ⟨by omega, by omega⟩, Nat.add_sub_cancel_left]
    rw [List.getD_eq_getElem?_getD, List.getElem?_eq_getElem (by omega)] at e
    simp only [Option.getD_some] at e
    rw [e]
    obtain rfl | rfl | rfl | rfl : i = 0 ∨ i = 1 ∨ i = 2 ∨ i = 3 := by omega
    all_goals simp [bytesL]
  · rw [List.getElem?_eq_none (by rw [List.length_take]; omega), List.getElem?_eq_none (by simp [bytesL]; omega)]
theorem store_goes {v : Nat} {u : Int} (hv : 64 ≤ v ∧ v + 4 ≤ 17024) (h4 : v % 4 = 0) (hok : ∀ i ∈ storeP (hiV v) (loV v), i.ok) :
    ∃ r', Goes ⟨loadS 0 (bytesL (wordsL (storeP (hiV v) (loV v)))) 16 17024, [u], []⟩ 4 r' ∧ r'.s.state = 0 ∧ (r'.s.mem.drop v).take 4 = bytesL [u] ∧ r'.s.mem.length = 17024 := by
  have hP : ProgAt (loadM (bytesL (wordsL (storeP (hiV v) (loV v)))) 17024) (storeP (hiV v) (loV v)) 17024 := ⟨rfl, by show 4 * 4 ≤ 17024; decide, hok⟩
  have ml : (loadM (bytesL (wordsL (storeP (hiV v) (loV v)))) 17024).length = 17024 := loadM_length _ _ (by rw [bytesL_length, wordsL_length']; show 4 * 4 ≤ 17024; decide)
  have h0 := boot_is' (storeP (hiV v) (loV v)) [u] 16 17024
  obtain ⟨r1, s1, h1⟩ := is_addi h0 hP (by decide) (d := 17) (e := 0) (n := 2) (by decide) rfl
  obtain ⟨r2, s2, h2⟩ := is_get h1 hP (by decide) (by simp [upd]) rfl rfl
  obtain ⟨r3, s3, h3⟩ := is_lui h2 hP (by decide) (d := 5) (n := hiV v) (by decide) rfl
  have pl := parts_law (v := (v : Int)) (by unfold U; omega)
  obtain ⟨r4, s4, hm, hst⟩ := is_sw h3 hP (by decide) (e := 5) (f := 10) (n := loV v) (a := v) (by
    show (upd _ 5 (hiV v * 4096 % 4294967296) 5 + loV v) % 4294967296 = _
    rw [show ∀ X : Nat → Int, upd X 5 (hiV (v : Int) * 4096 % 4294967296) 5 = hiV (v : Int) * 4096 % 4294967296 from fun X => by simp [upd]]
    omega) h4 (by omega) rfl
  have x10 : upd (upd (upd (fun i => if i = 2 then ((17024 : Nat) : Int) else if i = 27 then ((16 : Nat) : Int) else 0) 17 ((0 + 2 % 4294967296) % 4294967296)) 10 u) 5 (hiV (v : Int) * 4096 % 4294967296) 10 = u := by simp [upd]
  refine ⟨r4, (Goes.one h0.run s1).trans ((Goes.one h1.run s2).trans ((Goes.one h2.run s3).trans (Goes.one h3.run s4))), hst, ?_, by rw [hm, putN_length, ml]⟩
  rw [hm, put_bytes _ _ _ (by omega)]
  congr 1
theorem conv_four {W : World} {g c : Nat} {b0 b1 b2 b3 : Int} (h0 : W.cell? ⟨g, 0, none⟩ = some (.int .u8 b0)) (h1 : W.cell? ⟨g, 1, none⟩ = some (.int .u8 b1)) (h2 : W.cell? ⟨g, 2, none⟩ = some (.int .u8 b2)) (h3 : W.cell? ⟨g, 3, none⟩ = some (.int .u8 b3)) :
    (convert 38 9 (.slice (some ⟨g, 0, none⟩) 4 c)).run Try.prog W = .ok (.string (strOfNums [b0, b1, b2, b3])) W := by
  refine run_convert_bytes_arg W _ _ Try.underlying38 Try.underlying5 g 0 _ c [b0, b1, b2, b3] rfl (fun i hi => ?_) _ Try.underlying9
  have hi : i < 4 := hi
  obtain rfl | rfl | rfl | rfl : i = 0 ∨ i = 1 ∨ i = 2 ∨ i = 3 := by omega
  · exact h0
  · exact h1
  · exact h2
  · exact h3
theorem four_form {w : World} {base : Nat} {v : Value} {u : Int} (h : rowBy w base v (bytesL [u])) : ∃ g c, v = .slice (some ⟨g, 0, none⟩) 4 c ∧ g < w.heap.size ∧ base ≤ g ∧ w.cell? ⟨g, 0, none⟩ = some (.int .u8 (u % 256)) ∧ w.cell? ⟨g, 1, none⟩ = some (.int .u8 (u / 256 % 256)) ∧ w.cell? ⟨g, 2, none⟩ = some (.int .u8 (u / 65536 % 256)) ∧ w.cell? ⟨g, 3, none⟩ = some (.int .u8 (u / 16777216 % 256)) := by
  have e : bytesL [u] = [u % 256, u / 256 % 256, u / 65536 % 256, u / 16777216 % 256] := by simp [bytesL]
  rw [e] at h
  rcases h.2 with ⟨h1, h2⟩ | ⟨g, cap, cur, h1, hb, h3, h4, h5, h6, h7⟩
  · simp at h2
  · subst h1
    have cg : ∀ j, j < 4 * 1 → w.cell? ⟨g, j, none⟩ = (byV [u % 256, u / 256 % 256, u / 65536 % 256, u / 16777216 % 256])[j]? := fun j hj => World.ownsRow.cellAt h j hj
    exact ⟨g, cap, rfl, (Array.getElem?_eq_some_iff.1 h3).1, hb, cg 0 (by decide), cg 1 (by decide), cg 2 (by decide), cg 3 (by decide)⟩
/-- The words' bytes, of a row of words. -/
theorem Bytes_row {w : World} {base : Nat} {A : Option Addr} {n c : Nat} (l : List Int) (hl : l.length ≤ 100000) (hu : ∀ x ∈ l, U x) (h : w.ownsRow base 22 1 (.slice A n c) l.length (u32V l)) :
    Calls Try.prog 16 #[.slice A n c] w fun e w' => ∃ A' n' c', e = .returned (.slice A' n' c') ∧ Kp w w' ∧ rowBy w' w.heap.size (.slice A' n' c') (bytesL l) := by
  have hud : ∀ i, U (l.getD i 0) := by
    intro i
    rw [List.getD_eq_getElem?_getD]
    cases hi : l[i]? with
    | none => exact (by unfold U; decide : U 0)
    | some x => exact hu x (List.mem_of_getElem? hi)
  have fin : ∀ (e : Ending) (w' : World), (∃ v, e = .returned v ∧ Kp w w' ∧ rowBy w' w.heap.size v (bytesL l)) → ∃ A' n' c', e = .returned (.slice A' n' c') ∧ Kp w w' ∧ rowBy w' w.heap.size (.slice A' n' c') (bytesL l) := by
    rintro e w' ⟨v, rfl, hk, hr⟩
    obtain ⟨A', n', c', rfl⟩ := own_slice hr
    exact ⟨_, _, _, rfl, hk, hr⟩
  rcases h.2 with ⟨h1, h2⟩ | ⟨g, cap, cur, h1, h2, h3, h4, h5, h6, h7⟩
  · injection h1 with e1 e2 e3
    subst e1 e2 e3
    have hc := Bytes_calls (w := w) none 0 l hl hud (by omega) (fun hne => absurd (List.eq_nil_of_length_eq_zero h2) hne)
    rw [h2] at hc
    exact hc.mono fin
  · injection h1 with e1 e2 e3
    subst e1 e2 e3
    refine (Bytes_calls (w := w) (some ⟨g, 0, none⟩) c l hl hud h4 (fun _ => ⟨g, 0, rfl, (Array.getElem?_eq_some_iff.1 h3).1, fun i hi => ?_⟩)).mono fin
    have e : cur[i]? = some (.int .u32 (l.getD i 0)) := by
      have : (cur.toList.take (l.length * 1))[i]? = (u32V l)[i]? := by rw [h7]
      rw [List.getElem?_take, if_pos (by omega)] at this
      simp [u32V, hi] at this
      rw [List.getD_eq_getElem?_getD, List.getElem?_eq_getElem hi]
      simpa using this
    rw [Nat.zero_add]
    simp [World.cell?, h3, e]
theorem wordsL_U' (l : List Ins) : ∀ x ∈ wordsL l, U x := by
  intro x hx
  obtain ⟨i, _, rfl⟩ := List.mem_map.1 hx
  exact insW_u _ _ _ _ _
theorem one_word {u : Int} (hu : U u) {W : World} {I : Nat} (hb : Blk W I #[.int .u32 u] 22) : Calls Try.prog 16 #[.slice (some ⟨I, 0, none⟩) 1 1] W fun e w' => ∃ g c, e = .returned (.slice (some ⟨g, 0, none⟩) 4 c) ∧ Kp W w' ∧ g < w'.heap.size ∧ w'.cell? ⟨g, 0, none⟩ = some (.int .u8 (u % 256)) ∧ w'.cell? ⟨g, 1, none⟩ = some (.int .u8 (u / 256 % 256)) ∧ w'.cell? ⟨g, 2, none⟩ = some (.int .u8 (u / 65536 % 256)) ∧ w'.cell? ⟨g, 3, none⟩ = some (.int .u8 (u / 16777216 % 256)) := by
  refine (Bytes_calls (some ⟨I, 0, none⟩) 1 [u] (by simp) ?_ (by simp) (fun _ => ⟨I, 0, rfl, hb.lt, fun i hi => ?_⟩)).mono ?_
  · intro i
    match i with
    | 0 => exact hu
    | i + 1 => exact (by unfold U; decide : U 0)
  · obtain rfl : i = 0 := by simpa using hi
    exact hb.cell 0
  · rintro e w' ⟨v, rfl, hk, hr⟩
    obtain ⟨g, c, rfl, lg, _, h⟩ := four_form hr
    exact ⟨g, c, rfl, hk, lg, h⟩
set_option maxRecDepth 100000 in
set_option maxHeartbeats 4000000 in
theorem patchStores_any (u a : Int) (hu : U u) (ha : 0 ≤ a ∧ a ≤ 65535) (w : World) : Calls Try.prog 7 #[.int .u32 u, .int .u16 a] w fun e w' => e = .returned (.bool true) ∧ Kp w w' := by
  obtain ⟨v, hv⟩ : ∃ v : Nat, 64 + 4 * (a % 4000) = (v : Int) := ⟨(64 + 4 * (a % 4000)).toNat, by omega⟩
  have bv : 64 ≤ v ∧ v + 4 ≤ 17024 := by omega
  have v4 : v % 4 = 0 := by omega
  have Uv : U (v : Int) := by unfold U; omega
  have ec1 := fun w => Encode_calls 38 5 0 0 0 (by decide) (by decide) w
  have ec2 := fun w => Encode_calls 31 0 5 10 0 (by decide) (by decide) w
  have ua := insW_range 38 5 0 0 0
  have ub := insW_range 31 0 5 10 0
  rw [enc_lui] at ec1
  rw [enc_sw] at ec2
  obtain ⟨x0, hx0⟩ : ∃ a, Aside (insW 38 5 0 0 0 = a) := ⟨_, ⟨rfl⟩⟩
  obtain ⟨y0, hy0⟩ : ∃ b, Aside (insW 31 0 5 10 0 = b) := ⟨_, ⟨rfl⟩⟩
  rw [hx0.out] at ec1 ua
  rw [hy0.out] at ec2 ub
  have pc1 := fun w => Patch_calls 1 x0 v 8 ua Uv (by unfold U; decide) w
  have pc2 := fun w => Patch_calls 3 y0 v 12 ub Uv (by unfold U; decide) w
  replace ec1 := Aside.mk ec1
  replace ec2 := Aside.mk ec2
  replace pc1 := Aside.mk pc1
  replace pc2 := Aside.mk pc2
  replace hv := Aside.mk hv
  go_enter Try.func7, Try.ntmps7
  go_wp2_with fail
  refine Calls.mono (awake08_calls _) ?_
  rintro e w1 ⟨rfl, k1⟩
  go_wp2_with fail
  refine Calls.mono (ec1.out _) ?_
  rintro e w2 ⟨rfl, k2⟩
  go_wp2_with fail
  refine Calls.mono (ec2.out _) ?_
  rintro e w3 ⟨rfl, k3⟩
  go_wp2_with fail
  rw [hv.out]
  refine Calls.mono (pc1.out _) ?_
  rintro e w4 ⟨x, E1, rfl, hp1, k4⟩
  rw [← hx0.out] at hp1
  obtain ⟨hx, rfl, ex⟩ := patR_ok (Or.inl ⟨rfl, rfl⟩) enc_lui (fits_38 _ (hiV_range v)) hp1
  clear hp1
  replace hx := Aside.mk hx
  replace ex := Aside.mk ex
  go_wp2_with fail
  refine Calls.mono (pc2.out _) ?_
  rintro e w5 ⟨y, E2, rfl, hp2, k5⟩
  rw [← hy0.out] at hp2
  obtain ⟨hy, rfl, ey⟩ := patR_ok (by unfold ofK; omega) enc_sw (fits_31 (immP 3 v 12) (show -2048 ≤ immP 3 v 12 ∧ immP 3 v 12 < 2048 from loV_range v)) hp2
  clear hp2
  have kk : Aside (Kp w w5) := ⟨(((k1.trans k2).trans k3).trans k4).trans k5⟩
  clear k1 k2 k3 k4 k5 ua ub ec1 ec2 pc1 pc2
  have hok := storeP_ok (hi := hiV v) (lo := loV v) ex.out ey (hiV_range v) (loV_range v)
  obtain ⟨r', hg, hst, hmem, hml⟩ := store_goes (u := u) bv v4 hok
  have hwd : Aside (u32V (wordsL headP) ++ [.int .u32 x, .int .u32 y] = u32V (wordsL (storeP (hiV v) (loV v)))) := ⟨by rw [hx.out, hy]; rfl⟩
  replace hg := Aside.mk hg
  replace hst := Aside.mk hst
  replace hmem := Aside.mk hmem
  replace hml := Aside.mk hml
  replace hok := Aside.mk hok
  replace hy := Aside.mk hy
  replace ey := Aside.mk ey
  have bI := Aside.mk (Blk.new w5 (insC headP).toArray 36)
  have kI : Aside (Kp w (w5.alloc (.cells (insC headP).toArray 36))) := ⟨kk.out.alloc _⟩
  have hle : Aside (w.heap.size ≤ w5.heap.size) := ⟨kk.out.size⟩
  have wc := Words_any (I := w5.heap.size) (c := 2) headP (by decide) headP_ok headP_enc bI.out (by decide)
  replace wc := Aside.mk wc
  clear kk
  go_wp2_with fail
  refine Calls.mono wc.out ?_
  rintro e w6 ⟨v6, rfl, k6, hr6⟩
  obtain ⟨A6, n6, c6, rfl⟩ := own_slice hr6
  have h6 : w6.ownsRow (w5.heap.size + 1) 22 1 (.slice A6 n6 c6) 2 (u32V (wordsL headP)) := by rw [sz1] at hr6; exact hr6
  have l6 : w5.heap.size + 1 ≤ w6.heap.size := by have := k6.size; rw [sz1] at this; exact this
  replace kI : Aside (Kp w w6) := ⟨kI.out.trans k6⟩
  clear k6 hr6 wc bI
  replace h6 := Aside.mk h6
  go_wp2_with ((at_builtin); (refine wpList_pushm rfl (.tmp 65) (.tmp 68) 40 rfl (w5.heap.size + 1) 22 1 4 2 Try.underlying40 info_u32 (by decide) (by decide) (.slice A6 n6 c6) 2 (u32V (wordsL headP)) rfl (World.ownsRow.alloc h6.out _) w6.heap.size #[.int .u32 x, .int .u32 y] 22 rfl (heap_new rfl) rfl (by simp [Value.oneCell']) (by decide) (by decide) (by rw [sz1]; omega) ?_); (intro g7 c7 w7 h7 hg7 _ _))
  have k7 : Kp w w7 := (kI.out.alloc _).grown hg7 (fun k hk => by have h1 := own_ge h6.out k hk; have h2 := kI.out.size; have h3 := hle.out; omega)
  rw [hwd.out] at h7
  replace h7 := Aside.mk h7
  replace kI := Aside.mk k7
  clear hg7 k7 h6
  go_wp2_with fail
  refine Calls.mono (Bytes_row (wordsL (storeP (hiV v) (loV v))) (by rw [wordsL_length']; show 4 ≤ 100000; decide) (wordsL_U' _) h7.out) ?_
  rintro e w8 ⟨A8, n8, c8, rfl, k8, hr8⟩
  replace hr8 := Aside.mk hr8
  replace kI : Aside (Kp w w8) := ⟨kI.out.trans k8⟩
  clear k8 h7
  go_wp2_with fail
  refine Calls.mono (Load_at 0 17000 17000 16 17024 rfl hr8.out (bytesL_byte _) (by unfold U; decide) (by decide) (by rw [bytesL_length, wordsL_length']; show 4 * 4 ≤ _; decide) (by rw [bytesL_length, wordsL_length']; show upV (4 * 4) = 16; decide) (by decide) (by decide)) ?_
  rintro e w9 ⟨M, B, K, rfl, ⟨gM, gB, gK⟩, k9, hma⟩
  have s9 := kI.out.size
  have lM := hma.m.lt
  have lB := hma.b.lt
  have lK := hma.kl
  have hout : w.heap.size ≤ M ∧ w.heap.size ≤ B ∧ w.heap.size ≤ K := by omega
  replace kI : Aside (Kp w w9) := ⟨kI.out.trans k9⟩
  clear k9 gM gB gK hr8
  have bw := Blk.new w9 #[.int .u32 u] 22
  have hw : Words (w9.alloc (.cells #[.int .u32 u] 22)) (w9.alloc (.cells #[.int .u32 u] 22)).heap.size M B K (.slice (some ⟨w9.heap.size, 0, none⟩) 1 1) [u] := by
    refine ⟨⟨some ⟨w9.heap.size, 0, none⟩, 1, rfl, Nat.le_refl _, fun _ => ⟨_, 0, rfl, by rw [sz1]; omega, by omega, by omega, by omega, fun j hj => ?_⟩⟩, by simpa using hu, by simp⟩
    obtain rfl : j = 0 := by simpa using hj
    exact bw.cell 0
  have rc := Run_goes hg.out 4 rfl 4 (.slice (some ⟨w9.heap.size, 0, none⟩) 1 1) (hma.kp ((Kp.refl w9).alloc _)) hw rfl (by decide) (by decide) (Or.inl (by decide)) (by decide)
  rw [hst.out] at rc
  replace rc := Aside.mk rc
  replace hma := Aside.mk hma
  replace hout := Aside.mk hout
  clear hw s9 bw
  have hfl := fld_res
  go_wp2_with fail
  refine Calls.mono rc.out ?_
  rintro e w10 ⟨ev, rfl, hmod, hm10, hev10⟩
  obtain ⟨A10, n10, c10, rfl⟩ := own_slice hev10
  have k10 : Aside (Kp w w10) := ⟨((kI.out.alloc _).mod.behind hmod (S := fun _ => False) (fun k e => Or.inr (by have := hout.out; rcases e with e | e | e <;> omega))).toKp (fun k e => e.elim)⟩
  have mb := mBytes_at hm10 v 4 v 4 rfl rfl (by rw [hml.out]; omega)
  rw [hmem.out] at mb
  replace mb := Aside.mk mb
  clear hmod hev10 rc hm10 hma kI
  go_wp2_with fail
  refine Calls.mono mb.out ?_
  rintro e w11 ⟨A11, n11, c11, rfl, k11, hr11⟩
  obtain ⟨g, cg, e11, lg, gg, q0, q1, q2, q3⟩ := four_form hr11
  rw [e11]
  replace k10 : Aside (Kp w w11) := ⟨k10.out.trans k11⟩
  clear k11 hr11 mb e11 gg
  have cv := fun W c h0 h1 h2 h3 => conv_four (W := W) (g := g) (c := c) (b0 := u % 256) (b1 := u / 256 % 256) (b2 := u / 65536 % 256) (b3 := u / 16777216 % 256) h0 h1 h2 h3
  go_upto_region 17 with fail
  have e0 : ((0 : Int) == 0) = true := rfl
  go_region_law ((go_simp); (go_at_call 16); (refine Calls.mono (one_word (W := (w11.alloc (.cells #[.int .u32 u] 22)).drew) hu ((Blk.new w11 _ _).kp ((Kp.refl _).drew))) ?_); (rintro e w12 ⟨g2, c2, rfl, k12, l2, p0, p1, p2, p3⟩); (have kx := (((Kp.refl w11).alloc _).drew).trans k12); (have r0 := kp_cell kx q0); (have r1 := kp_cell kx q1); (have r2 := kp_cell kx q2); (have r3 := kp_cell kx q3); (have cv2 := conv_four (W := w12) (c := c2) p0 p1 p2 p3); (replace k12 := Aside.mk k12); (replace kx := Aside.mk kx))
  all_goals
    go_wp2
    go_ret
    exact ⟨rfl, k10.out.trans kx.out⟩
theorem patchStores_law (u a : Int) (w0 : (Lit.int .u32 u).wf = true) (w1 : (Lit.int .u16 a).wf = true) (w : World) : Calls Try.prog 7 #[.int .u32 u, .int .u16 a] w fun e w' => e = .returned (.bool true) ∧ Below w.heap.size w w' :=
  (patchStores_any u a (U_of w0) (bounds_u16 w1) w).mono fun _ _ ⟨he, hk⟩ => ⟨he, hk.out⟩
end Go.Proofs.Ytgifefkoldocmaa
