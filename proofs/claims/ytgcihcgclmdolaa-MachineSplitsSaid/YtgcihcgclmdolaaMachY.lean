/- The machine's bytes told, walked; what is out of range. Conditions stand at each. -/
import Derived.Test.YtgcihcgclmdolaaMachW
namespace Go.Proofs.Ytgcihcgclmdolaa
open Go.RowKit Go.Maps Go.Proofs.Ytgcihcgclmdolaa.PC Go.Proofs.Ytgcihcgclmdolaa.PW
set_option linter.unusedVariables false
set_option linter.unusedSimpArgs false
set_option maxRecDepth 100000 in
set_option maxHeartbeats 1000000 in
theorem Clone_calls {w : World} {B : Nat} (a n c : Nat) (bs : List Int) (hl : bs.length = n) (hn : n ≤ 3000000) (hB : B < w.heap.size) (hc : ∀ j, j < n → w.cell? ⟨B, a + j, none⟩ = some (.int .u8 (bs.getD j 0))) :
    Calls Try.prog 29 #[.slice (some ⟨B, a, none⟩) n c] w fun e w' => ∃ v, e = .returned v ∧ Kp w w' ∧ rowBy w' w.heap.size v bs := by
  obtain ⟨i8, z8, q1, q2, q3, q4, q5⟩ := info_u8
  have ho := World.ownsRow_lit (base := w.heap.size) (e := 5) (size := 1) w #[] 0 (Nat.le_refl _) (by decide) rfl
  have hnews : ∀ j u, (byV bs)[j]? = some u → (w.alloc (.cells #[] 5)).cell? ((⟨B, a, none⟩ : Addr).add j) = some u := by
    intro j u hu
    rw [addr_add, cell_kept w _ hB]
    have hj : j < bs.length := by
      rcases Nat.lt_or_ge j bs.length with h | h
      · exact h
      · rw [byV, List.getElem?_eq_none (by simpa using h)] at hu; cases hu
    rw [hc j (by omega), ← hu, byV, List.getElem?_map, List.getD_eq_getElem?_getD, List.getElem?_eq_getElem hj]
    rfl
  have hnil := fun W a l c => Lib.run_eql_slice_nil (P := Try.prog) W 35 5 a l c 0 0 Try.underlying35
  replace hnews := Aside.mk hnews
  replace ho := Aside.mk ho
  replace hc := Aside.mk hc
  replace hl := Aside.mk hl
  replace q1 := Aside.mk q1
  replace q2 := Aside.mk q2
  replace q3 := Aside.mk q3
  replace q4 := Aside.mk q4
  replace q5 := Aside.mk q5
  go_enter Try.func29, Try.ntmps29
  go_wp2_with ((at_builtin); go_loud (refine wpList_append_own (w := w.alloc (.cells #[] 5)) rfl (.tmp 5) (.tmp 6) 35 rfl w.heap.size 5 i8 z8 1 1 Try.underlying35 q1.out q2.out q3.out q4.out q5.out (by decide) (.slice (some ⟨w.heap.size, 0, none⟩) 0 0) 0 [] rfl ho.out ⟨B, a, none⟩ n c (byV bs) rfl (by simp [byV, hl.out]) hnews.out (by simp [byV, Value.oneCell']) (by unfold maxLen; omega) (by omega) (by simp) ?_); (intro v' w1 hown hg _))
  go_ret
  refine ⟨_, rfl, ((Kp.refl w).alloc _).grown hg (own_ge ho.out), ?_⟩
  unfold rowBy
  rw [hl.out]
  simpa using hown
theorem drop_get (l : List Int) (a n j : Nat) (hj : j < n) : ((l.drop a).take n).getD j 0 = l.getD (a + j) 0 := by
  simp only [List.getD_eq_getElem?_getD, List.getElem?_take, List.getElem?_drop, if_pos hj]
set_option maxRecDepth 100000 in
set_option maxHeartbeats 1000000 in
theorem mBytes_ok {w : World} {M B K N : Nat} {s : MS} (hm : Mac w M B K s N) (a n : Nat) (h : a + n ≤ s.mem.length) :
    Calls Try.prog 17 #[.pointer (some ⟨M, 0, none⟩), .int .i64 a, .int .i64 n] w fun e w' => ∃ v, e = .returned (.tuple #[v, .int .i64 0]) ∧ Kp w w' ∧ rowBy w' w.heap.size v ((s.mem.drop a).take n) := by
  obtain ⟨lm, lb, c0, -⟩ := hm.facts
  have hl := hm.ok.lm
  have cc : ∀ off c, (n = 0 ∨ off = a) → Calls Try.prog 29 #[.slice (some ⟨B, off, none⟩) n c] w fun e w' => ∃ v, e = .returned v ∧ Kp w w' ∧ rowBy w' w.heap.size v ((s.mem.drop a).take n) := by
    intro off c ho
    refine Clone_calls off n _ _ (by rw [List.length_take, List.length_drop]; omega) (by omega) lb (fun j hj => ?_)
    obtain rfl : off = a := by omega
    rw [drop_get _ _ _ _ hj]
    exact hm.cb (by omega)
  replace hm := Aside.mk hm
  replace cc := Aside.mk cc
  by_cases e : a = s.mem.length
  · have hn0 : n = 0 := by omega
    subst hn0
    replace e := Aside.mk e
    rw [← e.out] at c0
    go_enter Try.func17, Try.ntmps17
    go_wp2_with fail
    refine Calls.mono (cc.out _ _ (by simp)) ?_
    rintro e w1 ⟨v, rfl, k1, hr⟩
    go_wp2_with fail
    go_ret2
    exact ⟨v, rfl, k1, hr⟩
  · have ha : a < s.mem.length := by omega
    have cc1 := Aside.mk (cc.out a (s.mem.length - a) (Or.inr rfl))
    clear cc
    replace e := Aside.mk e
    have e1 : a + n - a = n := by omega
    go_enter Try.func17, Try.ntmps17
    go_wp2_with fail
    refine Calls.mono cc1.out ?_
    rintro e w1 ⟨v, rfl, k1, hr⟩
    go_wp2_with fail
    go_ret2
    exact ⟨v, rfl, k1, hr⟩
theorem mBytes_at {w : World} {M B K N : Nat} {s : MS} (hm : Mac w M B K s N) (aI nI : Int) (a n : Nat) (ha : aI = a) (hn : nI = n) (h : a + n ≤ s.mem.length) :
    Calls Try.prog 17 #[.pointer (some ⟨M, 0, none⟩), .int .i64 aI, .int .i64 nI] w fun e w' => ∃ A m c, e = .returned (.tuple #[.slice A m c, .int .i64 0]) ∧ Kp w w' ∧ rowBy w' w.heap.size (.slice A m c) ((s.mem.drop a).take n) := by
  subst ha hn
  refine (mBytes_ok hm a n h).mono ?_
  rintro e w' ⟨v, rfl, hk, hr⟩
  rcases hr.2 with ⟨h, _⟩ | ⟨g, cap, cur, h, _⟩
  · subst h; exact ⟨_, _, _, rfl, hk, hr⟩
  · subst h; exact ⟨_, _, _, rfl, hk, hr⟩
set_option maxRecDepth 100000 in
set_option maxHeartbeats 1000000 in
theorem mBytes_bad {w : World} {M B K N : Nat} {s : MS} (hm : Mac w M B K s N) (a n : Int) (ha : -9223372036854775808 ≤ a ∧ a ≤ 9223372036854775807) (hn : -9223372036854775808 ≤ n ∧ n ≤ 9223372036854775807) (h : a < 0 ∨ n < 0 ∨ (s.mem.length : Int) < a + n) :
    Calls Try.prog 17 #[.pointer (some ⟨M, 0, none⟩), .int .i64 a, .int .i64 n] w fun e w' => e = .returned (.tuple #[.slice none 0 0, .int .i64 1]) ∧ Dr w w' := by
  obtain ⟨lm, lb, c0, -⟩ := hm.facts
  have hl := hm.ok.lm
  replace hm := Aside.mk hm
  by_cases h1 : a < 0
  · clear h
    go_enter Try.func17, Try.ntmps17
    go_wp2_with fail
    go_ret2
    exact ⟨rfl, by repeat (first | exact Dr.refl _ | assumption | refine Dr.step ?_ _ | refine Dr.trans ?_ (by assumption))⟩
  by_cases h2 : n < 0
  · clear h
    go_enter Try.func17, Try.ntmps17
    go_wp2_with fail
    go_ret2
    exact ⟨rfl, by repeat (first | exact Dr.refl _ | assumption | refine Dr.step ?_ _ | refine Dr.trans ?_ (by assumption))⟩
  have h3 : (s.mem.length : Int) < a + n := by omega
  clear h
  by_cases h4 : (s.mem.length : Int) < a
  · go_enter Try.func17, Try.ntmps17
    go_wp2_with fail
    go_ret2
    exact ⟨rfl, by repeat (first | exact Dr.refl _ | assumption | refine Dr.step ?_ _ | refine Dr.trans ?_ (by assumption))⟩
  · have h5 : (s.mem.length : Int) - a < n := by omega
    clear h3
    go_enter Try.func17, Try.ntmps17
    go_wp2_with fail
    go_ret2
    exact ⟨rfl, by repeat (first | exact Dr.refl _ | assumption | refine Dr.step ?_ _ | refine Dr.trans ?_ (by assumption))⟩
set_option maxHeartbeats 1000000 in
theorem Word_dr {w : World} {M B K N : Nat} {s : MS} (hm : Mac w M B K s N) (r : Nat) (hr : r < 32) : Calls Try.prog 15 #[.pointer (some ⟨M, 0, none⟩), .int .i64 r] w fun e w' => e = .returned (.int .u32 (s.x.getD r 0)) ∧ Dr w w' := by
  have hc := hm.cx hr
  have hl := hm.m.lt
  obtain ⟨q, hq⟩ : ∃ q, Aside (s.x.getD r 0 = q) := ⟨_, ⟨rfl⟩⟩
  rw [hq.out] at hc ⊢
  replace hm := Aside.mk hm
  go_enter Try.func15, Try.ntmps15
  go_wp2_with fail
  all_goals go_ret
  all_goals exact ⟨rfl, by repeat (first | exact Dr.refl _ | assumption | refine Dr.step ?_ _ | refine Dr.trans ?_ (by assumption))⟩
set_option maxHeartbeats 1000000 in
theorem Word_bad {w : World} (p : Value) (r : Int) (hr : r < 0 ∨ 31 < r) : Calls Try.prog 15 #[p, .int .i64 r] w fun e w' => e = .returned (.int .u32 0) ∧ Dr w w' := by
  by_cases h : r < 0
  · clear hr
    go_enter Try.func15, Try.ntmps15
    go_wp2_with fail
    all_goals go_ret
    all_goals exact ⟨rfl, by repeat (first | exact Dr.refl _ | assumption | refine Dr.step ?_ _ | refine Dr.trans ?_ (by assumption))⟩
  · have h2 : 31 < r := by omega
    clear hr
    go_enter Try.func15, Try.ntmps15
    go_wp2_with fail
    all_goals go_ret
    all_goals exact ⟨rfl, by repeat (first | exact Dr.refl _ | assumption | refine Dr.step ?_ _ | refine Dr.trans ?_ (by assumption))⟩
set_option maxHeartbeats 1000000 in
theorem Place_dr {w : World} {M B K N : Nat} {s : MS} (hm : Mac w M B K s N) : Calls Try.prog 18 #[.pointer (some ⟨M, 0, none⟩)] w fun e w' => e = .returned (.int .u32 s.pc) ∧ Dr w w' := by
  have hc := hm.facts.2.2.2.1
  have hl := hm.m.lt
  obtain ⟨q, hq⟩ : ∃ q, Aside (s.pc = q) := ⟨_, ⟨rfl⟩⟩
  rw [hq.out] at hc ⊢
  replace hm := Aside.mk hm
  go_enter Try.func18, Try.ntmps18
  go_wp2_with fail
  all_goals go_ret
  all_goals exact ⟨rfl, by repeat (first | exact Dr.refl _ | assumption | refine Dr.step ?_ _ | refine Dr.trans ?_ (by assumption))⟩
set_option maxRecDepth 100000 in
/-- The text of a row of bytes. -/
theorem conv_row {w : World} {base : Nat} {A : Option Addr} {n c : Nat} {bs : List Int} (h : rowBy w base (.slice A n c) bs) {w' : World} (hk : Kp w w') : (convert 35 9 (.slice A n c)).run Try.prog w' = .ok (.string (strOfNums bs)) w' := by
  rcases h.2 with ⟨e, el⟩ | ⟨g, cap, cur, e, hb, h3, h4, h5, h6, h7⟩
  · injection e with e1 e2 e3
    subst e1
    have : bs = [] := List.eq_nil_of_length_eq_zero el
    subst this
    exact run_convert_bytes_nil w' _ _ Try.underlying35 Try.underlying5 _ _ _ Try.underlying9
  · injection e with e1 e2 e3
    subst e1 e2 e3
    refine run_convert_bytes_arg w' _ _ Try.underlying35 Try.underlying5 g 0 _ c bs rfl (fun i hi => ?_) _ Try.underlying9
    have hl : g < w.heap.size := (Array.getElem?_eq_some_iff.1 h3).1
    rw [Nat.zero_add, hk.cell (p := ⟨g, i, none⟩) hl]
    have e : cur[i]? = some (.int .u8 (bs.getD i 0)) := by
      have : (cur.toList.take (bs.length * 1))[i]? = (byV bs)[i]? := by rw [h7]
      rw [List.getElem?_take, if_pos (by omega)] at this
      simp [byV, hi] at this
      rw [List.getD_eq_getElem?_getD, List.getElem?_eq_getElem hi]
      simpa using this
    simp [World.cell?, h3, e]
set_option maxRecDepth 100000 in
theorem conv_blk {w : World} {b : Nat} {bs : List Int} (h : Blk w b (memC bs) 5) {w' : World} (hk : Kp w w') (n c : Nat) (hn : bs.length = n) : (convert 35 9 (.slice (some ⟨b, 0, none⟩) n c)).run Try.prog w' = .ok (.string (strOfNums bs)) w' := by
  refine run_convert_bytes_arg w' _ _ Try.underlying35 Try.underlying5 b 0 _ c bs hn (fun i hi => ?_) _ Try.underlying9
  rw [Nat.zero_add, hk.cell (p := ⟨b, i, none⟩) h.lt]
  exact (h.cell i).trans (memC_at bs i (by omega))
end Go.Proofs.Ytgcihcgclmdolaa
