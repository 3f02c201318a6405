/- MachineEchoes, walked. Condition: the input is readable. -/
import Derived.Test.YtgcihcgclmdolaaLawAw
import Derived.Deep.Slices
import Derived.ChangeOld
import Derived.Carry
namespace Go.Proofs.Ytgcihcgclmdolaa
open Go.RowKit Go.Maps Go.Proofs.Ytgcihcgclmdolaa.PC Go.Proofs.Ytgcihcgclmdolaa.PW
set_option linter.unusedVariables false
set_option linter.unusedSimpArgs false
def echoP : List Ins := [⟨18, 17, 0, 0, 2⟩, ⟨42, 0, 0, 0, 0⟩, ⟨18, 17, 0, 0, 1⟩, ⟨42, 0, 0, 0, 0⟩, ⟨40, 0, 0, 0, -16⟩]
theorem echoP_ok : ∀ i ∈ echoP, i.ok := by
  intro i hi
  simp only [echoP, List.mem_cons, List.not_mem_nil, or_false] at hi
  rcases hi with rfl | rfl | rfl | rfl | rfl
  all_goals exact ⟨by decide +kernel, by decide, by decide⟩
def evE : List Int → Nat → List Ev
  | _, 0 => []
  | l, n + 1 => ⟨1, l.getD 0 0, 0⟩ :: evE l.tail n
theorem evE_length (l : List Int) (n : Nat) : (evE l n).length = n := by
  induction n generalizing l with
  | zero => rfl
  | succ n ih => simp [evE, ih]
theorem tail_getD (l : List Int) (i : Nat) : l.tail.getD i 0 = l.getD (i + 1) 0 := by cases l <;> simp [List.getD_eq_getElem?_getD]
theorem evE_cells (l : List Int) (n i j : Nat) (hi : i < n) (hj : j < 3) : (evC (evE l n))[i * 3 + j]? = [Value.int .i64 1, .int .u32 (l.getD i 0), .int .u64 0][j]? := by
  induction n generalizing i l with
  | zero => omega
  | succ n ih =>
    have e : evC (evE l (n + 1)) = [Value.int .i64 1, .int .u32 (l.getD 0 0), .int .u64 0] ++ evC (evE l.tail n) := by simp [evC, evE]
    cases i with
    | zero => rw [e, Nat.zero_mul, Nat.zero_add, List.getElem?_append_left (by simpa using hj)]
    | succ i =>
      rw [e, List.getElem?_append_right (by simp; omega)]
      have h := ih l.tail i (by omega)
      simp only [List.length_cons, List.length_nil]
      rw [show (i + 1) * 3 + j - (0 + 1 + 1 + 1) = i * 3 + j by omega, h, tail_getD]
theorem echo_goes {mem : List Int} {top : Nat} (hP : ProgAt mem echoP top) : ∀ (n : Nat) (r : RS) (X : Nat → Int) (l : List Int) (ev : List Ev), Is mem r X 0 l ev → X 0 = 0 →
    ∃ r', Goes r (5 * n) r' ∧ r'.s.state = 0 ∧ r'.ev = ev ++ evE l n := by
  intro n
  induction n with
  | zero => intro r X l ev h _; exact ⟨r, .nil r, h.run, by rw [h.ev]; simp [evE]⟩
  | succ n ih =>
    intro r X l ev h h0
    obtain ⟨r1, s1, h1⟩ := is_addi h hP (by decide) (d := 17) (e := 0) (n := 2) (by decide) rfl
    obtain ⟨r2, s2, h2⟩ : ∃ r2, StepC r1 r2 ∧ Is mem r2 (upd (upd X 17 ((X 0 + 2 % 4294967296) % 4294967296)) 10 (l.getD 0 0)) 2 l.tail ev := by
      cases l with
      | nil => exact is_none h1 hP (by decide) (by simp [upd, h0]) rfl
      | cons v l => exact is_get h1 hP (by decide) (by simp [upd, h0]) rfl rfl
    obtain ⟨r3, s3, h3⟩ := is_addi h2 hP (by decide) (d := 17) (e := 0) (n := 1) (by decide) rfl
    obtain ⟨r4, s4, h4⟩ := is_put h3 hP (by decide) rfl (by simp [upd]) rfl
    obtain ⟨r5, s5, h5⟩ := is_jmp h4 hP rfl (n := -16) (k' := 0) (by decide) (by decide) rfl
    obtain ⟨r6, g6, t6, e6⟩ := ih r5 _ _ _ h5 rfl
    refine ⟨r6, ?_, t6, ?_⟩
    · have g := (Goes.one h.run s1).trans ((Goes.one h1.run s2).trans ((Goes.one h2.run s3).trans ((Goes.one h3.run s4).trans ((Goes.one h4.run s5).trans g6))))
      rw [show 5 * (n + 1) = 1 + (1 + (1 + (1 + (1 + 5 * n)))) by omega]
      exact g
    · rw [e6]
      simp [upd, evE]
def bootE (inp : List Int) : RS := ⟨loadS 0 (bytesL (wordsL echoP)) 32 32, inp, []⟩
theorem echoes_goes (l : List Int) (n : Nat) : ∃ r', Goes (bootE l) (5 * n) r' ∧ r'.s.state = 0 ∧ r'.ev = evE l n := by
  have hP : ProgAt (loadM (bytesL (wordsL echoP)) 32) echoP 32 := ⟨rfl, by decide, echoP_ok⟩
  obtain ⟨r', h1, h2, h3⟩ := echo_goes hP n (bootE l) _ l [] (boot_is echoP l 32 32) rfl
  exact ⟨r', h1, h2, by simpa using h3⟩
/-- An input of words, readable. -/
structure InW (w : World) (A : Option Addr) (c : Nat) (l : List Int) : Prop where
  c : l.length ≤ c
  u : ∀ x ∈ l, U x
  at_ : l ≠ [] → ∃ I off, A = some ⟨I, off, none⟩ ∧ I < w.heap.size ∧ ∀ i, i < l.length → w.cell? ⟨I, off + i, none⟩ = some (.int .u32 (l.getD i 0))
theorem own_cells {w : World} {base : Nat} {t : TypeId} {sz n : Nat} {v : Value} {xs : List Value} (h : w.ownsRow base t sz v n xs) : ∃ A c, v = .slice A n c ∧ (0 < n → ∃ g, A = some ⟨g, 0, none⟩ ∧ g < w.heap.size ∧ ∀ (i : Nat) (x : Value), xs[i]? = some x → w.cell? ⟨g, i, none⟩ = some x) := by
  rcases h.2 with ⟨h1, h2⟩ | ⟨g, cap, cur, h1, _, h3, _, _, _, h7⟩
  · exact ⟨_, _, by rw [h1, h2], fun h => by omega⟩
  · refine ⟨_, _, h1, fun _ => ⟨g, rfl, (Array.getElem?_eq_some_iff.1 h3).1, fun i x hx => ?_⟩⟩
    rw [← h7, List.getElem?_take] at hx
    split at hx
    · have : cur[i]? = some x := by simpa using hx
      simp [World.cell?, h3, this]
    · cases hx
set_option maxRecDepth 100000 in
set_option maxHeartbeats 1000000 in
theorem echoes_any {w : World} {A : Option Addr} {c : Nat} (l : List Int) (n : Nat) (hn : n ≤ 255) (hi : InW w A c l) (hc64 : l.length ≤ 9223372036854775807) : Calls Try.prog 4 #[.slice A l.length c, .int .u8 n] w fun e w' => e = .returned (.bool true) ∧ Kp w w' := by
  obtain ⟨r', hg, hst, hev⟩ := echoes_goes l n
  replace hg := Aside.mk hg
  obtain ⟨p, hp⟩ : ∃ p, Aside (echoP = p) := ⟨_, ⟨rfl⟩⟩
  have p5 : Aside (p.length = 5) := ⟨by rw [← hp.out]; rfl⟩
  have pok : Aside (∀ i ∈ p, i.ok) := ⟨by rw [← hp.out]; exact echoP_ok⟩
  replace hi := Aside.mk hi
  obtain ⟨m, hm⟩ : ∃ m, Aside (l.length = m) := ⟨_, ⟨rfl⟩⟩
  rw [hm.out] at hc64 ⊢
  go_enter Try.func4, Try.ntmps4
  go_wp2_with fail
  refine Calls.mono (awake04_calls _) ?_
  rintro e w1 ⟨rfl, k1⟩
  by_cases hlong : 200 < m
  · go_wp2_with fail
    refine Calls.mono (awake04_calls _) ?_
    rintro e w2 ⟨rfl, k2⟩
    go_wp2_with fail
    all_goals go_ret
    all_goals exact ⟨rfl, k1.trans k2⟩
  · have bI := Aside.mk (Blk.new w1 (insC echoP).toArray 26)
    have wc := Words_calls (I := w1.heap.size) (c := 5) echoP (by decide) echoP_ok bI.out (by decide)
    have kI : Aside (Kp w (w1.alloc (.cells (insC echoP).toArray 26))) := ⟨k1.alloc _⟩
    replace wc := Aside.mk wc
    clear k1
    go_wp2_with fail
    refine Calls.mono wc.out ?_
    rintro e w2 ⟨v, rfl, k2, hr2⟩
    obtain ⟨A1, n1, c1, rfl⟩ := own_slice hr2
    have h1 : Aside (w2.ownsRow (w1.alloc (.cells (insC echoP).toArray 26)).heap.size 28 1 (.slice A1 n1 c1) (wordsL echoP).length (u32V (wordsL echoP))) := ⟨hr2⟩
    replace kI : Aside (Kp w w2) := ⟨kI.out.trans k2⟩
    clear k2 hr2
    go_wp2_with fail
    refine Calls.mono (Bytes_row (wordsL echoP) (by decide) (wordsL_U _) h1.out) ?_
    rintro e w3 ⟨A2, n2, c2, rfl, k2, hr2⟩
    replace hr2 := Aside.mk hr2
    replace kI : Aside (Kp w w3) := ⟨kI.out.trans k2⟩
    clear k2
    go_wp2_with fail
    refine Calls.mono (Load_at 0 0 0 32 32 rfl hr2.out (bytesL_byte _) (by unfold U; decide) (by decide) (by rw [bytesL_length, wordsL_length]; decide) (by rw [bytesL_length, wordsL_length]; decide) (by decide) (by decide)) ?_
    rintro e w7 ⟨M, B, K, rfl, ⟨gM, gB, gK⟩, k7, hma⟩
    have s7 := kI.out.size
    have lM := hma.m.lt
    have hout : w.heap.size ≤ M ∧ w.heap.size ≤ B ∧ w.heap.size ≤ K := by omega
    replace kI : Aside (Kp w w7) := ⟨kI.out.trans k7⟩
    clear k7 gM gB gK
    have hw : Words w7 w7.heap.size M B K (.slice A m c) l := by
      refine ⟨⟨A, c, by rw [hm.out], hi.out.c, fun hne => ?_⟩, hi.out.u, by rw [hm.out]; omega⟩
      obtain ⟨I, off, e1, e2, e3⟩ := hi.out.at_ hne
      have s8 := kI.out.size
      exact ⟨I, off, e1, by omega, by omega, by omega, by omega, fun i hi2 => (kI.out.cell (p := ⟨I, off + i, none⟩) e2).trans (e3 i hi2)⟩
    have rc := Run_goes hg.out (5 * (n : Int)) (by omega) (5 * (n : Int)) (.slice A m c) hma hw rfl (by omega) (by omega) (Or.inl (by omega)) (by omega)
    rw [hst, hev, evE_length] at rc
    replace rc := Aside.mk rc
    replace hma := Aside.mk hma
    replace hout := Aside.mk hout
    clear hw s7
    go_wp2_with fail
    refine Calls.mono rc.out ?_
    rintro e w8 ⟨ev, rfl, hmod, hm8, hev8⟩
    obtain ⟨A8, c8, rfl, hcell⟩ := own_cells hev8
    have kk8 : Aside (Kp w w8) := ⟨(kI.out.mod.behind hmod (S := fun _ => False) (fun k e => Or.inr (by have := hout.out; rcases e with e | e | e <;> omega))).toKp (fun k e => e.elim)⟩
    replace hcell := Aside.mk hcell
    clear hmod hev8 hm8
    go_wp2_with fail
    have k8 : Aside (Kp w8 (w8.alloc (.cells #[.int .i64 0, .int .u32 r'.s.code, .slice A8 n c8, .int .i64 (5 * (n : Int))] 41))) := ⟨(Kp.refl _).alloc _⟩
    go_loopw [60] (fun i wr => ∃ k : Nat, k ≤ n ∧ i = .int .i64 k ∧ Kp w8 wr) (fun i _ => n - (intOf i).toNat)
    case atStart => exact ⟨0, Nat.zero_le _, rfl, k8.out⟩
    case round =>
      obtain ⟨k, hk, rfl, kp⟩ := hrel
      by_cases hlt : k < n
      · obtain ⟨g8, rfl, gl8, hcl⟩ := hcell.out (by omega)
        obtain ⟨q, hq2⟩ : ∃ q : Int, Aside (l.getD k 0 = q) := ⟨_, ⟨rfl⟩⟩
        have cg : ∀ j, j < 3 → wr.cell? ⟨g8, k * 3 + j, none⟩ = [Value.int .i64 1, .int .u32 (l.getD k 0), .int .u64 0][j]? := fun j hj => by
          rw [kp.cell (p := ⟨g8, k * 3 + j, none⟩) gl8]
          have e := evE_cells l n k j hlt hj
          rw [← e]
          rw [hcl (k * 3 + j) _ (by rw [e]; exact List.getElem?_eq_getElem (by simpa using hj))]
          rw [e]
          exact (List.getElem?_eq_getElem (by simpa using hj)).symm
        have c0 := cg 0 (by decide)
        have c1 := cg 1 (by decide)
        have c2 := cg 2 (by decide)
        rw [hq2.out] at c1
        simp only [Nat.add_zero, List.getElem?_cons_zero, List.getElem?_cons_succ] at c0 c1 c2
        have gl := Nat.lt_of_lt_of_le gl8 kp.size
        replace hcl := Aside.mk hcl
        clear cg
        by_cases hin : k < m
        · obtain ⟨I, off, rfl, hI, hic⟩ := hi.out.at_ (by intro e; have := hm.out; rw [e] at this; simp at this; omega)
          have ci := ((kk8.out.trans kp).cell (p := ⟨I, off + k, none⟩) hI).trans (hic k (by have := hm.out; omega))
          rw [hq2.out] at ci
          have sI := Nat.lt_of_lt_of_le hI (kk8.out.trans kp).size
          replace hic := Aside.mk hic
          go_wp2_with fail
          all_goals go_roundw
          case rel => exact ⟨k + 1, by omega, by go_num, kp.alloc _⟩
          case measure => simp [intOf]; omega
        · have q0 : q = 0 := by rw [← hq2.out, List.getD_eq_getElem?_getD, List.getElem?_eq_none (by have := hm.out; omega)]; rfl
          subst q0
          go_wp2_with fail
          all_goals go_roundw
          case rel => exact ⟨k + 1, by omega, by go_num, kp.alloc _⟩
          case measure => simp [intOf]; omega
      · obtain rfl : k = n := by omega
        go_wp2_with fail
        all_goals go_ret
        all_goals exact ⟨rfl, kk8.out.trans kp⟩
section
open Go.WideShapes Go.Deep Go.ChangeShapes
variable {H : Type} {enc : TypeId × Value → H} {W : World} {base : Nat}
set_option maxRecDepth 100000 in
theorem input_open {v : Value} {d : DataW H} {p : List MemPlace} (hv : Value.okWide Try.prog W .any base 24 v) (h : DataW.Trod enc Try.prog W 0 (fun _ => true) true 24 v d p) :
    ∃ A c l, v = .slice A l.length c ∧ InW W A c l ∧ l.length ≤ 9223372036854775807 := by
  obtain ⟨A, n, c, rfl⟩ := okWide_slice Try.underlying24 hv
  obtain ⟨fuel, hf⟩ := h
  have hC1 : Try.prog.cellsOf 28 = 1 := by kernel_rfl
  rcases open_ints Try.underlying24 Try.underlying28 hC1 hf with ⟨hcs, _⟩ | ⟨a, len, cap, zs, hcs, _, hl, hm, hz, _, hcell, hw⟩
  · simp [Value.cells] at hcs
    obtain ⟨rfl, rfl, rfl⟩ := hcs
    exact ⟨none, 0, [], rfl, ⟨Nat.le_refl _, by simp, fun h => absurd rfl h⟩, by decide⟩
  · simp [Value.cells] at hcs
    obtain ⟨rfl, rfl, rfl⟩ := hcs
    simp only [if_true] at hz
    have ll : (zs.take n).length = n := by rw [List.length_take]; omega
    refine ⟨some a, c, zs.take n, by rw [ll], ⟨by rw [ll]; exact hl, fun x hx => U_of (hw x (List.mem_of_mem_take hx)), fun hne => ?_⟩, by rw [ll]; unfold maxLen at hm; omega⟩
    have h0 : 0 < n := by
      rcases Nat.eq_zero_or_pos n with e | e
      · rw [e] at hne; simp at hne
      · exact e
    have hx := hcell 0 (by omega)
    rw [addr_add0] at hx
    obtain ⟨b, off, rfl, hlt⟩ := cell_some hx
    refine ⟨b, off, rfl, hlt, fun i hi => ?_⟩
    rw [ll] at hi
    have hc := hcell i (by omega)
    have e : (⟨b, off, none⟩ : Addr).add i = ⟨b, off + i, none⟩ := by unfold Addr.add; split <;> simp_all
    rw [e] at hc
    rw [hc]
    simp [List.getD_eq_getElem?_getD, List.getElem?_take, hi]
set_option maxRecDepth 100000 in
theorem echoes_law {v : Value} {d : DataW H} {p : List MemPlace} (hv : Value.okWide Try.prog W .any base 24 v) (h : DataW.Trod enc Try.prog W 0 (fun _ => true) true 24 v d p) (n : Int) (w1 : (Lit.int .u8 n).wf = true) :
    Calls Try.prog 4 #[v, .int .u8 n] W fun e w' => e = .returned (.bool true) ∧ Below W.heap.size W w' := by
  obtain ⟨A, c, l, rfl, hi, hl⟩ := input_open hv h
  have hn := bounds_u8 w1
  obtain ⟨k, rfl⟩ := Int.eq_ofNat_of_zero_le hn.1
  exact (echoes_any l k (by omega) hi hl).mono fun _ _ ⟨he, hk⟩ => ⟨he, hk.out⟩
end
end Go.Proofs.Ytgcihcgclmdolaa
