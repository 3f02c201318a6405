/- MachineLoops, walked. Condition: the argument is a number of its type. -/
import Derived.Test.YtgcihcgclmdolaaLawAw
namespace Go.Proofs.Ytgcihcgclmdolaa
open Go.RowKit Go.Maps Go.Proofs.Ytgcihcgclmdolaa.PC Go.Proofs.Ytgcihcgclmdolaa.PW
set_option linter.unusedVariables false
set_option linter.unusedSimpArgs false
theorem rOf_calls (n : Int) (h0 : -9223372036854775808 ≤ n) (h1 : n ≤ 9223372036854775807) (w : World) : Calls Try.prog 13 #[.int .i64 n] w fun e w' => e = .returned (.int .u32 (n % 4294967296)) ∧ Dr w w' := by
  have hm : -4294967296 < Int.tmod n 4294967296 ∧ Int.tmod n 4294967296 < 4294967296 ∧ (Int.tmod n 4294967296) % 4294967296 = n % 4294967296 := by
    by_cases h : 0 ≤ n
    · rw [tmod_pos h]; omega
    · have e := Int.neg_tmod (-n) 4294967296
      rw [Int.neg_neg] at e
      rw [e, tmod_pos (n := -n) (by omega)]; omega
  generalize hr : Int.tmod n 4294967296 = r at hm
  obtain ⟨r0, r1, r2⟩ := hm
  have R2 := Aside.mk r2
  clear r2
  by_cases h : r < 0
  all_goals
    go_enter Try.func13, Try.ntmps13
    go_wp2
    go_ret
    refine ⟨?_, Dr.refl _⟩
    have := R2.out
    show Ending.returned (Value.int IntKind.u32 _) = _
    congr 2
    omega
def loopP (m : Nat) : List Ins := [⟨18, 10, 0, 0, m⟩, ⟨18, 17, 0, 0, 1⟩, ⟨42, 0, 0, 0, 0⟩, ⟨18, 10, 10, 0, -1⟩, ⟨33, 0, 10, 0, -8⟩, ⟨18, 17, 0, 0, 3⟩, ⟨42, 0, 0, 0, 0⟩]
theorem enc_ten : ∀ i : Fin 501, insE 18 10 0 0 (i.val : Int) = 0 := by decide +kernel
theorem loopP_ok {m : Nat} (hm : m ≤ 500) : ∀ i ∈ loopP m, i.ok := by
  intro i hi
  simp only [loopP, List.mem_cons, List.not_mem_nil, or_false] at hi
  rcases hi with rfl | rfl | rfl | rfl | rfl | rfl | rfl
  · exact ⟨enc_ten ⟨m, by omega⟩, ⟨by show (-9223372036854775808 : Int) ≤ 18; decide, by show (18 : Int) ≤ 9223372036854775807; decide⟩, ⟨by show (-9223372036854775808 : Int) ≤ (m : Int); omega, by show (m : Int) ≤ 9223372036854775807; omega⟩⟩
  · exact ⟨by decide +kernel, by decide, by decide⟩
  · exact ⟨by decide +kernel, by decide, by decide⟩
  · exact ⟨by decide +kernel, by decide, by decide⟩
  · exact ⟨by decide +kernel, by decide, by decide⟩
  · exact ⟨by decide +kernel, by decide, by decide⟩
  · exact ⟨by decide +kernel, by decide, by decide⟩
def evs : Nat → List Ev
  | 0 => []
  | j + 1 => ⟨1, ((j + 1 : Nat) : Int), 0⟩ :: evs j
theorem evs_length (m : Nat) : (evs m).length = m := by
  induction m with
  | zero => rfl
  | succ m ih => simp [evs, ih]
theorem evs_cells (m i j : Nat) (hi : i < m) (hj : j < 3) : (evC (evs m))[i * 3 + j]? = [Value.int .i64 1, .int .u32 ((m - i : Nat) : Int), .int .u64 0][j]? := by
  induction m generalizing i with
  | zero => omega
  | succ m ih =>
    have e : evC (evs (m + 1)) = [Value.int .i64 1, .int .u32 ((m + 1 : Nat) : Int), .int .u64 0] ++ evC (evs m) := by simp [evC, evs]
    cases i with
    | zero => rw [e, Nat.zero_mul, Nat.zero_add, List.getElem?_append_left (by simpa using hj)]; rfl
    | succ i =>
      rw [e, List.getElem?_append_right (by simp; omega)]
      have h := ih i (by omega)
      simp only [List.length_cons, List.length_nil]
      rw [show (i + 1) * 3 + j - (0 + 1 + 1 + 1) = i * 3 + j by omega, h, show m + 1 - (i + 1) = m - i by omega]
theorem loop_goes {m : Nat} {mem : List Int} {top : Nat} (hP : ProgAt mem (loopP m) top) : ∀ (j : Nat) (r : RS) (X : Nat → Int) (ev : List Ev), j < 500 → Is mem r X 2 [] ev → X 0 = 0 → X 10 = ((j + 1 : Nat) : Int) → X 17 = 1 →
    ∃ r' X', Goes r (3 * (j + 1)) r' ∧ Is mem r' X' 5 [] (ev ++ evs (j + 1)) ∧ X' 0 = 0 ∧ X' 10 = 0 := by
  intro j
  induction j with
  | zero =>
    intro r X ev _ h h0 h10 h17
    obtain ⟨r1, s1, h1⟩ := is_put h hP (by decide) h0 h17 rfl
    obtain ⟨r2, s2, h2⟩ := is_addi h1 hP (by decide) (d := 10) (e := 10) (n := -1) (by decide) rfl
    have e10 : (X 10 + -1 % 4294967296) % 4294967296 = 0 := by rw [h10]; rfl
    rw [e10] at h2
    obtain ⟨r3, s3, h3⟩ := is_bn h2 hP (by decide) rfl (op := 33) (e := 10) (f := 0) (n := -8) (by decide) (by simp [takenV, upd]) rfl
    refine ⟨r3, upd X 10 0, (Goes.one h.run s1).trans ((Goes.one h1.run s2).trans (Goes.one h2.run s3)), ?_, rfl, by simp [upd]⟩
    rw [h10] at h3
    exact h3
  | succ j ih =>
    intro r X ev hj h h0 h10 h17
    obtain ⟨r1, s1, h1⟩ := is_put h hP (by decide) h0 h17 rfl
    obtain ⟨r2, s2, h2⟩ := is_addi h1 hP (by decide) (d := 10) (e := 10) (n := -1) (by decide) rfl
    have e10 : (X 10 + -1 % 4294967296) % 4294967296 = ((j + 1 : Nat) : Int) := by rw [h10]; omega
    rw [e10] at h2
    obtain ⟨r3, s3, h3⟩ := is_bt h2 hP rfl (op := 33) (e := 10) (f := 0) (n := -8) (k' := 2) (by decide) (by simp [takenV, upd]; omega) (by decide) (by decide) rfl
    obtain ⟨r4, X4, g4, h4, z4, t4⟩ := ih r3 _ _ (by omega) h3 rfl (by simp [upd]) (by simp [upd, h17])
    refine ⟨r4, X4, ?_, ?_, z4, t4⟩
    · have g := (Goes.one h.run s1).trans ((Goes.one h1.run s2).trans ((Goes.one h2.run s3).trans g4))
      rw [show 3 * (j + 1 + 1) = 1 + (1 + (1 + 3 * (j + 1))) by omega]
      exact g
    · rw [h10, List.append_assoc] at h4
      exact h4
theorem loops_goes {m : Nat} (h1 : 1 ≤ m) (hm : m ≤ 500) : ∃ r', Goes (bootP (loopP m) 32 32) (4 + 3 * m) r' ∧ r'.s.state = 1 ∧ r'.s.code = 0 ∧ r'.ev = evs m := by
  have hP : ProgAt (loadM (bytesL (wordsL (loopP m))) 32) (loopP m) 32 := ⟨rfl, by simp [loopP], loopP_ok hm⟩
  have h0 := boot_is (loopP m) [] 32 32
  obtain ⟨r1, s1, g1⟩ := is_addi h0 hP (by decide) (d := 10) (e := 0) (n := m) (by decide) rfl
  obtain ⟨r2, s2, g2⟩ := is_addi g1 hP (by decide) (d := 17) (e := 0) (n := 1) (by decide) rfl
  obtain ⟨j, rfl⟩ : ∃ j, m = j + 1 := ⟨m - 1, by omega⟩
  obtain ⟨r3, X3, g3, i3, z3, t3⟩ := loop_goes hP j r2 _ _ (by omega) g2 rfl (by simp [upd]; omega) (by simp [upd])
  obtain ⟨r4, s4, g4⟩ := is_addi i3 hP (by decide) (d := 17) (e := 0) (n := 3) (by decide) rfl
  obtain ⟨r5, s5, e1, e2, e3⟩ := is_halt g4 hP (by simp [upd, z3]) rfl
  refine ⟨r5, ?_, e1, by rw [e2]; simp [upd, t3], e3⟩
  have g := (Goes.one h0.run s1).trans ((Goes.one g1.run s2).trans (g3.trans ((Goes.one i3.run s4).trans (Goes.one g4.run s5))))
  rw [show 4 + 3 * (j + 1) = 1 + (1 + (3 * (j + 1) + (1 + 1))) by omega]
  exact g
theorem own_cells {w : World} {base : Nat} {t : TypeId} {sz n : Nat} {v : Value} {xs : List Value} (h0 : 0 < n) (h : w.ownsRow base t sz v n xs) : ∃ g c, v = .slice (some ⟨g, 0, none⟩) n c ∧ g < w.heap.size ∧ ∀ (i : Nat) (x : Value), xs[i]? = some x → w.cell? ⟨g, i, none⟩ = some x := by
  rcases h.2 with ⟨_, h2⟩ | ⟨g, cap, cur, h1, _, h3, _, _, _, h7⟩
  · omega
  · refine ⟨g, cap, h1, (Array.getElem?_eq_some_iff.1 h3).1, fun i x hx => ?_⟩
    rw [← h7, List.getElem?_take] at hx
    split at hx
    · have : cur[i]? = some x := by simpa using hx
      simp [World.cell?, h3, this]
    · cases hx
theorem own_slice_n {w : World} {base : Nat} {t : TypeId} {sz n : Nat} {v : Value} {xs : List Value} (h : w.ownsRow base t sz v n xs) : ∃ A c, v = .slice A n c := by
  rcases h.2 with ⟨h, h2⟩ | ⟨g, cap, cur, h, _⟩
  · exact ⟨_, _, by rw [h, h2]⟩
  · exact ⟨_, _, h⟩
theorem loop_count (n : Int) : ∃ m : Nat, 1 ≤ m ∧ m ≤ 500 ∧ wrap64 (wrap64 ((IntKind.u64.wrap n).tmod 500) + 1) = (m : Int) := by
  have e : IntKind.u64.wrap n = n % 18446744073709551616 := PW.wrap_u64 n
  rw [e, Int.tmod_eq_emod_of_nonneg (by omega)]
  have h : 0 ≤ n % 18446744073709551616 % 500 ∧ n % 18446744073709551616 % 500 < 500 := by omega
  generalize n % 18446744073709551616 % 500 = y at *
  rw [PW.wrap64_id (a := y) (by omega), PW.wrap64_id (by omega)]
  exact ⟨(y + 1).toNat, by omega, by omega, by omega⟩
set_option maxRecDepth 100000 in
set_option maxHeartbeats 2000000 in
theorem loops_any (n : Int) (hn : -9223372036854775808 ≤ n ∧ n ≤ 9223372036854775807) (w : World) : Calls Try.prog 3 #[.int .i64 n] w fun e w' => e = .returned (.bool true) ∧ Kp w w' := by
  obtain ⟨m, m1, m2, hq⟩ := loop_count n
  replace hq := Aside.mk hq
  obtain ⟨r', hg, hst, hcd, hev⟩ := loops_goes m1 m2
  have hok := Aside.mk (loopP_ok m2)
  replace hg := Aside.mk hg
  obtain ⟨l, hl⟩ : ∃ l, Aside (loopP m = l) := ⟨_, ⟨rfl⟩⟩
  have h7 : Aside (l.length = 7) := ⟨by rw [← hl.out]; rfl⟩
  rw [hl.out] at hok hg
  go_enter Try.func3, Try.ntmps3
  go_wp2_with fail
  refine Calls.mono (awake04_calls _) ?_
  rintro e w1 ⟨rfl, k1⟩
  go_upto_region 5 with fail
  rw [hq.out]
  have bI : Aside (Blk (w1.alloc (.cells (insC l).toArray 26)) w1.heap.size (insC l).toArray 26) := ⟨Blk.new _ _ _⟩
  rw [← hl.out] at bI
  replace bI := Aside.mk bI.out
  have kI : Aside (Kp w (w1.alloc (.cells (insC (loopP m)).toArray 26))) := ⟨k1.alloc _⟩
  have s1 := Aside.mk k1.size
  clear k1
  go_wp2_with fail
  go_loopw [3, 31] (fun v i wr => ∃ k : Nat, k ≤ 7 ∧ i = .int .i64 k ∧ Kp w wr ∧ Blk wr w1.heap.size (insC l).toArray 26 ∧ wr.ownsRow (w1.heap.size + 1) 28 1 v k (u32V (wordsL (l.take k)))) (fun _ i _ => 7 - (intOf i).toNat)
  case atStart => exact ⟨0, Nat.zero_le _, rfl, kI.out, by rw [← hl.out]; exact bI.out, World.ownsRow_nil _ _ _ _⟩
  case round =>
    obtain ⟨k, hk, rfl, kp, bw, hown⟩ := hrel
    by_cases hlt : k < 7
    · have hkl : k < l.length := by have := h7.out; omega
      have hokk := hok.out _ (List.getElem_mem hkl)
      have hI := bw.lt
      have cg : ∀ j, j < 5 → wr.cell? ⟨w1.heap.size, k * 5 + j, none⟩ = (l[k]).cs[j]? := fun j hj => (bw.cell _).trans (by rw [List.getElem?_toArray]; exact insC_get l k hkl j hj)
      have c0 := cg 0 (by decide)
      have c1 := cg 1 (by decide)
      have c2 := cg 2 (by decide)
      have c3 := cg 3 (by decide)
      have c4 := cg 4 (by decide)
      have hsn := Aside.mk (words_snoc hkl)
      obtain ⟨x, hx⟩ : ∃ x, l[k] = x := ⟨_, rfl⟩
      rw [hx] at c0 c1 c2 c3 c4 hokk
      obtain ⟨op, rd, rs1, rs2, n'⟩ := x
      simp only [Ins.cs, Nat.add_zero, List.getElem?_cons_zero, List.getElem?_cons_succ] at c0 c1 c2 c3 c4
      replace hx := Aside.mk hx
      have ec := fun w => Encode_calls op rd rs1 rs2 n' hokk.o hokk.m w
      have he : insE op rd rs1 rs2 n' = 0 := hokk.e
      rw [he] at ec
      clear he
      obtain ⟨a, ha⟩ : ∃ a, Aside (insW op rd rs1 rs2 n' = a) := ⟨_, ⟨rfl⟩⟩
      rw [ha.out] at ec
      replace ec := Aside.mk ec
      replace hokk := Aside.mk hokk
      have sz := kp.size
      clear cg
      have xr : 0 ≤ a ∧ a ≤ 4294967295 := by rw [← ha.out]; exact insW_u op rd rs1 rs2 n'
      replace bw := Aside.mk bw
      go_wp2_with fail
      refine Calls.mono (ec.out _) ?_
      rintro e w2 ⟨rfl, k2⟩
      have kp2 := Aside.mk ((kp.alloc (.cells #[.int .i64 op, .int .i64 rd, .int .i64 rs1, .int .i64 rs2, .int .i64 n'] 26)).trans k2)
      have hown2 := row_at hown (w' := w2) (fun j _ hj => (((Kp.refl _).alloc _).trans k2).block hj)
      have bw2 := Aside.mk (bw.out.kp (((Kp.refl _).alloc (.cells #[.int .i64 op, .int .i64 rd, .int .i64 rs1, .int .i64 rs2, .int .i64 n'] 26)).trans k2))
      clear k2 hown kp c0 c1 c2 c3 c4 bw
      have s2 := kp2.out.size
      have s2b := bw2.out.lt
      go_wp2_with ((at_builtin); (refine wpList_pushm rfl (.tmp 42) (.tmp 44) 24 rfl (w1.heap.size + 1) 28 1 4 1 Try.underlying24 info_u32 (by decide) (by decide) u3 k (u32V (wordsL (l.take k))) ?_ ?_ ?_ ?_ ?_ ?_ ?_ ?_ ?_ ?_ ?_ ?_ ?_); (rfl); (focus repeat (first | assumption | refine World.ownsRow.drew ?_ | refine World.ownsRow.alloc ?_ _)); (rotate_left 3); (rfl); (refine heap_new ?_); (rfl); (rfl); (simp [Value.oneCell']); (omega); (omega); (simp only [World.size_alloc]; omega); (intro gf capf wf hof hgf hgf' hltf); (have kpn := Aside.mk (show Kp w wf from Kp.grown ((kp2.out).alloc _) hgf (fun j hj => by have h1 := own_ge hown2 j hj; have h2 := s1.out; omega))); (have bwf := Aside.mk (show Blk wf w1.heap.size (insC l).toArray 26 from (hgf.block _ (by simp only [World.size_alloc]; have := bw2.out.lt; omega) (fun e => by have h1 := own_ge hown2 _ e.symm; omega)).trans (bw2.out.alloc _))))
      go_roundw
      case rel =>
        have e := hsn.out
        rw [hx.out] at e
        have e2 : u32V (wordsL (l.take (k + 1))) = u32V (wordsL (l.take k)) ++ [.int .u32 a] := by rw [e, show (⟨op, rd, rs1, rs2, n'⟩ : Ins).word = insW op rd rs1 rs2 n' from rfl, ha.out]
        exact ⟨k + 1, by omega, by go_num, kpn.out, bwf.out, by rw [e2]; exact hof⟩
      case measure => simp [intOf]; omega
    · obtain rfl : k = 7 := by omega
      obtain ⟨A1, n1, c1, rfl⟩ := own_slice hown
      rw [List.take_of_length_le (by have := h7.out; omega)] at hown
      have h1 : Aside (wr.ownsRow (w1.heap.size + 1) 28 1 (.slice A1 n1 c1) (wordsL l).length (u32V (wordsL l))) := ⟨by rw [wordsL_length, h7.out]; exact hown⟩
      have bl : (bytesL (wordsL l)).length = 28 := by rw [bytesL_length, wordsL_length, h7.out]
      replace kI := Aside.mk kp
      clear kp hown bw bI
      go_wp2_with fail
      refine Calls.mono (Bytes_row (wordsL l) (by rw [wordsL_length, h7.out]; decide) (wordsL_U _) h1.out) ?_
      rintro e w2 ⟨A2, n2, c2, rfl, k2, hr2⟩
      replace hr2 := Aside.mk hr2
      replace kI : Aside (Kp w w2) := ⟨kI.out.trans k2⟩
      clear k2
      go_wp2_with fail
      refine Calls.mono (Load_at 0 0 0 32 32 rfl hr2.out (bytesL_byte _) (by unfold U; decide) (by decide) (by omega) (by rw [bl]; decide) (by decide) (by decide)) ?_
      rintro e w7 ⟨M, B, K, rfl, ⟨gM, gB, gK⟩, k7, hm⟩
      have s7 := kI.out.size
      have lM := hm.m.lt
      have hout : w.heap.size ≤ M ∧ w.heap.size ≤ B ∧ w.heap.size ≤ K := by omega
      replace kI : Aside (Kp w w7) := ⟨kI.out.trans k7⟩
      clear k7 gM gB gK s7
      have rc := Run_goes hg.out (4 + 3 * (m : Int)) (by omega) 10000 (.slice none 0 0) hm words_none rfl (by decide) (by omega) (Or.inr (by rw [hst]; decide)) (by omega)
      rw [hst, hcd, hev, evs_length] at rc
      replace rc := Aside.mk rc
      replace hm := Aside.mk hm
      replace hout := Aside.mk hout
      go_wp2_with fail
      refine Calls.mono rc.out ?_
      rintro e w8 ⟨ev, rfl, hmod, hm8, hev8⟩
      obtain ⟨g8, c8, rfl, gl8, hcell⟩ := own_cells (by omega) hev8
      have kk8 : Aside (Kp w w8) := ⟨(kI.out.mod.behind hmod (S := fun _ => False) (fun k e => Or.inr (by have := hout.out; rcases e with e | e | e <;> omega))).toKp (fun k e => e.elim)⟩
      replace hm8 := Aside.mk hm8
      replace hcell := Aside.mk hcell
      clear hmod hev8 bl
      go_wp2_with fail
      have kR : Aside (Kp w (w8.alloc (.cells #[.int .i64 1, .int .u32 0, .slice (some ⟨g8, 0, none⟩) m c8, .int .i64 (4 + 3 * (m : Int))] 41))) := ⟨kk8.out.alloc _⟩
      have k8 : Aside (Kp w8 (w8.alloc (.cells #[.int .i64 1, .int .u32 0, .slice (some ⟨g8, 0, none⟩) m c8, .int .i64 (4 + 3 * (m : Int))] 41))) := ⟨(Kp.refl _).alloc _⟩
      go_loopw [88] (fun i wr => ∃ k : Nat, k ≤ m ∧ i = .int .i64 k ∧ Kp w8 wr) (fun i _ => m - (intOf i).toNat)
      case atStart => exact ⟨0, Nat.zero_le _, rfl, k8.out⟩
      case round =>
        obtain ⟨k, hk, rfl, kp⟩ := hrel
        by_cases hlt : k < m
        · obtain ⟨q, hq2⟩ : ∃ q : Int, Aside (((m - k : Nat) : Int) = q) := ⟨_, ⟨rfl⟩⟩
          have cg : ∀ j, j < 3 → wr.cell? ⟨g8, k * 3 + j, none⟩ = [Value.int .i64 1, .int .u32 ((m - k : Nat) : Int), .int .u64 0][j]? := fun j hj => by
            rw [kp.cell (p := ⟨g8, k * 3 + j, none⟩) gl8]
            have e := evs_cells m k j hlt hj
            rw [← e]
            rw [hcell.out (k * 3 + j) _ (by rw [e]; exact List.getElem?_eq_getElem (by simpa using hj))]
            rw [e]
            exact (List.getElem?_eq_getElem (by simpa using hj)).symm
          have c0 := cg 0 (by decide)
          have c1 := cg 1 (by decide)
          have c2 := cg 2 (by decide)
          rw [hq2.out] at c1
          simp only [Nat.add_zero, List.getElem?_cons_zero, List.getElem?_cons_succ] at c0 c1 c2
          have gl := Nat.lt_of_lt_of_le gl8 kp.size
          have oc := fun W => rOf_calls ((m : Int) - (k : Int)) (by omega) (by omega) W
          have eo : ((m : Int) - (k : Int)) % 4294967296 = q := by rw [← hq2.out]; omega
          rw [eo] at oc
          replace oc := Aside.mk oc
          clear cg eo
          go_wp2_with fail
          go_quiet ((go_at_call 13; exact quiet_dr (oc.out _)))
          all_goals go_wp2_with fail
          go_roundw
          case rel => exact ⟨k + 1, by omega, by go_num, (kp.alloc _).drewN _⟩
          case measure => simp [intOf]; omega
        · obtain rfl : k = m := by omega
          have hm9 := hm8.out.kp kp
          have lM9 := hm9.m.lt
          have rc2 := Run_goes (Goes.nil ⟨r'.s, [], []⟩) 0 rfl 5 (.slice none 0 0) hm9 words_none rfl (by decide) (Or.inl (by decide)) (Or.inr (by show r'.s.state ≠ 0; rw [hst]; decide)) (by omega)
          rw [show (⟨r'.s, [], []⟩ : RS).s.state = 1 from hst, show (⟨r'.s, [], []⟩ : RS).s.code = 0 from hcd] at rc2
          replace rc2 := Aside.mk rc2
          replace hm9 := Aside.mk hm9
          replace kp := Aside.mk kp
          go_wp2_with fail
          refine Calls.mono rc2.out ?_
          rintro e w10 ⟨ev2, rfl, hmod2, -, hev2⟩
          obtain ⟨A10, c10, rfl⟩ := own_slice_n hev2
          have kkA : Aside (Kp w w10) := ⟨((kk8.out.trans kp.out).mod.behind hmod2 (S := fun _ => False) (fun k e => Or.inr (by have := hout.out; rcases e with e | e | e <;> omega))).toKp (fun k e => e.elim)⟩
          clear hmod2 hev2
          go_wp2_with fail
          all_goals go_ret
          all_goals exact ⟨rfl, kkA.out.alloc _⟩
theorem loops_law (n : Int) (w0 : (Lit.int .i64 n).wf = true) (w : World) : Calls Try.prog 3 #[.int .i64 n] w fun e w' => e = .returned (.bool true) ∧ Below w.heap.size w w' :=
  (loops_any n (bounds_i64 w0) w).mono fun _ _ ⟨he, hk⟩ => ⟨he, hk.out⟩
end Go.Proofs.Ytgcihcgclmdolaa
