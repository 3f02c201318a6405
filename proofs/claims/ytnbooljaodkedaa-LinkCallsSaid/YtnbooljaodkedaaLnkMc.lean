/- Programs in the machine: what each instruction brings about, by the registers' words. Conditions stand at each. · A machine's steps by its memory and its registers, wherever the instructions stand. Conditions stand at each. -/
import Derived.Test.YtnbooljaodkedaaCodeReZ
import Derived.Test.YtnbooljaodkedaaMachWa
import Derived.Test.YtnbooljaodkedaaMachS1
import Derived.Test.YtnbooljaodkedaaMachS2
import Derived.Test.YtnbooljaodkedaaMachS3
namespace Go.Proofs.Ytnbooljaodkedaa
open Go.RowKit Go.Maps Go.Proofs.Ytnbooljaodkedaa.PC Go.Proofs.Ytnbooljaodkedaa.PW
set_option linter.unusedVariables false
set_option linter.unusedSimpArgs false
/-- An instruction. -/
structure Ins where
  op : Int
  rd : Int
  rs1 : Int
  rs2 : Int
  n : Int
def Ins.cs (i : Ins) : List Value := [.int .i64 i.op, .int .i64 i.rd, .int .i64 i.rs1, .int .i64 i.rs2, .int .i64 i.n]
def Ins.word (i : Ins) : Int := insW i.op i.rd i.rs1 i.rs2 i.n
structure Ins.ok (i : Ins) : Prop where
  e : insE i.op i.rd i.rs1 i.rs2 i.n = 0
  o : -9223372036854775808 ≤ i.op ∧ i.op ≤ 9223372036854775807
  m : -9223372036854775808 ≤ i.n ∧ i.n ≤ 9223372036854775807
def wordsL (l : List Ins) : List Int := l.map Ins.word
def insC (l : List Ins) : List Value := l.flatMap Ins.cs
def u32V (l : List Int) : List Value := l.map (Value.int .u32)
set_option maxRecDepth 100000 in
theorem info_u32 : ∃ i z, Try.prog.info? 44 = some i ∧ i.zero = some z ∧ i.size = 1 ∧ i.bytes = 4 ∧ z.cells.size = 1 := ⟨_, _, rfl, rfl, rfl, rfl, rfl⟩
theorem insC_get (l : List Ins) (k : Nat) (h : k < l.length) (j : Nat) (hj : j < 5) : (insC l)[k * 5 + j]? = (l[k]).cs[j]? := by
  induction l generalizing k with
  | nil => simp at h
  | cons a l ih =>
    have e : insC (a :: l) = a.cs ++ insC l := by simp [insC]
    cases k with
    | zero => rw [e, Nat.zero_mul, Nat.zero_add, List.getElem?_append_left (by simp [Ins.cs]; omega)]; rfl
    | succ k =>
      have h' := ih k (by simpa using h)
      rw [e, List.getElem?_append_right (by simp [Ins.cs]; omega)]
      have e5 : a.cs.length = 5 := rfl
      rw [e5, show (k + 1) * 5 + j - 5 = k * 5 + j by omega, h']
      rfl
theorem words_snoc {l : List Ins} {k : Nat} (h : k < l.length) : u32V (wordsL (l.take (k + 1))) = u32V (wordsL (l.take k)) ++ [.int .u32 (l[k]).word] := by
  have e : l.take (k + 1) = l.take k ++ [l[k]] := by rw [List.take_add_one, List.getElem?_eq_getElem h]; rfl
  rw [e]
  simp only [u32V, wordsL, List.map_append, List.map_cons, List.map_nil]
theorem insW_u (op rd rs1 rs2 n : Int) : 0 ≤ insW op rd rs1 rs2 n ∧ insW op rd rs1 rs2 n ≤ 4294967295 := by
  by_cases h : insE op rd rs1 rs2 n = 0
  · obtain ⟨f, e1, e2, e3⟩ := insE_form h
    have := back (formOf_good e1).1 e2
    rw [e3]
    omega
  · have : insW op rd rs1 rs2 n = 0 := by
      unfold insW
      unfold insE at h
      cases hf : formOf op with
      | none => rfl
      | some f =>
        rw [hf] at h
        simp only at h
        simp [h]
    omega
set_option maxRecDepth 100000 in
set_option maxHeartbeats 2000000 in
theorem Words_calls {w : World} {I : Nat} {c : Nat} {ty : TypeId} (l : List Ins) (hl : l.length ≤ 10000) (hok : ∀ i ∈ l, i.ok) (hb : Blk w I (insC l).toArray ty) (hc : l.length ≤ c) :
    Calls Try.prog 12 #[.slice (some ⟨I, 0, none⟩) l.length c] w fun e w' => ∃ v, e = .returned v ∧ Kp w w' ∧ w'.ownsRow w.heap.size 44 1 v l.length (u32V (wordsL l)) := by
  replace hok := Aside.mk hok
  replace hb := Aside.mk hb
  generalize hm : l.length = m at *
  replace hm := Aside.mk hm
  go_enter Try.func12, Try.ntmps12
  go_wp2
  go_loopw [3, 10] (fun v i wr => ∃ k : Nat, k ≤ m ∧ i = .int .i64 k ∧ Kp w wr ∧ wr.ownsRow w.heap.size 44 1 v k (u32V (wordsL (l.take k)))) (fun _ i _ => m - (intOf i).toNat)
  case atStart => exact ⟨0, Nat.zero_le _, rfl, Kp.refl _, World.ownsRow_nil _ _ _ _⟩
  case round =>
    obtain ⟨k, hk, rfl, kp, hown⟩ := hrel
    by_cases hlt : k < m
    · have hkl : k < l.length := by have := hm.out; omega
      have hokk := hok.out _ (List.getElem_mem hkl)
      have hI := hb.out.lt
      have hI' := Nat.lt_of_lt_of_le hI kp.size
      have bw := hb.out.kp kp
      have cg : ∀ j, j < 5 → wr.cell? ⟨I, k * 5 + j, none⟩ = (l[k]).cs[j]? := fun j hj => (bw.cell _).trans (by rw [List.getElem?_toArray]; exact insC_get l k hkl j hj)
      have c0 := cg 0 (by decide)
      have c1 := cg 1 (by decide)
      have c2 := cg 2 (by decide)
      have c3 := cg 3 (by decide)
      have c4 := cg 4 (by decide)
      have hsn := Aside.mk (words_snoc hkl)
      obtain ⟨x, hx⟩ : ∃ x, l[k] = x := ⟨_, rfl⟩
      rw [hx] at c0 c1 c2 c3 c4 hokk
      obtain ⟨op, rd, rs1, rs2, n⟩ := x
      simp only [Ins.cs, Nat.add_zero, List.getElem?_cons_zero, List.getElem?_cons_succ] at c0 c1 c2 c3 c4
      replace hx := Aside.mk hx
      have ec := fun w => rEncode_calls op rd rs1 rs2 n hokk.m w
      have he : insE op rd rs1 rs2 n = 0 := hokk.e
      rw [he] at ec
      clear he
      obtain ⟨a, ha⟩ : ∃ a, Aside (insW op rd rs1 rs2 n = a) := ⟨_, ⟨rfl⟩⟩
      rw [ha.out] at ec
      replace ec := Aside.mk ec
      replace hokk := Aside.mk hokk
      replace bw := Aside.mk bw
      have s1 := kp.size
      clear cg
      have xr : 0 ≤ a ∧ a ≤ 4294967295 := by rw [← ha.out]; exact insW_u op rd rs1 rs2 n
      go_wp2_with fail
      refine Calls.mono (ec.out _) ?_
      rintro e w2 ⟨rfl, k2⟩
      have kp2 := Aside.mk ((kp.alloc (.cells #[.int .i64 op, .int .i64 rd, .int .i64 rs1, .int .i64 rs2, .int .i64 n] 40)).trans k2)
      have hown2 := row_at hown (w' := w2) (fun j _ hj => (((Kp.refl _).alloc _).trans k2).block hj)
      clear k2 hown kp c0 c1 c2 c3 c4
      have s2 := kp2.out.size
      go_wp2_with ((at_builtin); (refine wpList_pushm rfl (.tmp 21) (.tmp 23) 34 rfl w.heap.size 44 1 4 1 Try.underlying34 info_u32 (by decide) (by decide) u3 k (u32V (wordsL (l.take k))) ?_ ?_ ?_ ?_ ?_ ?_ ?_ ?_ ?_ ?_ ?_ ?_ ?_); (rfl); (focus repeat (first | assumption | refine World.ownsRow.drew ?_ | refine World.ownsRow.alloc ?_ _)); (rotate_left 3); (rfl); (refine heap_new ?_); (rfl); (rfl); (simp [Value.oneCell']); (omega); (omega); (simp only [World.size_alloc]; omega); (intro gf capf wf hof hgf hgf' hltf); (have kpn := Aside.mk (show Kp w wf from Kp.grown ((kp2.out).alloc _) hgf (own_ge hown2))))
      go_roundw
      case rel =>
        have e := hsn.out
        rw [hx.out] at e
        have e2 : u32V (wordsL (l.take (k + 1))) = u32V (wordsL (l.take k)) ++ [.int .u32 a] := by rw [e, show (⟨op, rd, rs1, rs2, n⟩ : Ins).word = insW op rd rs1 rs2 n from rfl, ha.out]
        exact ⟨k + 1, by omega, by go_num, kpn.out, by rw [e2]; exact hof⟩
      case measure => simp [intOf]; omega
    · obtain rfl : k = m := by omega
      go_wp2
      go_ret
      refine ⟨_, rfl, kp, ?_⟩
      rw [List.take_of_length_le (by have := hm.out; omega)] at hown
      exact hown
/-- So many steps lead there. -/
inductive Goes : RS → Nat → RS → Prop
  | nil (r : RS) : Goes r 0 r
  | cons {r r1 r2 : RS} {n : Nat} (h0 : r.s.state = 0) (h : StepC r r1) (g : Goes r1 n r2) : Goes r (n + 1) r2
theorem Goes.trans {r r1 r2 : RS} {n m : Nat} (h : Goes r n r1) (g : Goes r1 m r2) : Goes r (n + m) r2 := by
  induction h with
  | nil r => rw [Nat.zero_add]; exact g
  | cons h0 h _ ih => rw [Nat.add_right_comm]; exact .cons h0 h (ih g)
theorem Goes.one {r r1 : RS} (h0 : r.s.state = 0) (h : StepC r r1) : Goes r 1 r1 := .cons h0 h (.nil _)
theorem Goes.trace {r r' : RS} {n : Nat} (h : Goes r n r') : ∃ tr : Nat → RS, tr 0 = r ∧ tr n = r' ∧ ∀ k : Nat, k < n → (tr k).s.state = 0 ∧ StepC (tr k) (tr (k + 1)) := by
  induction h with
  | nil r => exact ⟨fun _ => r, rfl, rfl, fun k hk => by omega⟩
  | @cons r r1 r2 n h0 h _ ih =>
    obtain ⟨tr, t0, tn, ht⟩ := ih
    refine ⟨fun k => match k with | 0 => r | k + 1 => tr k, rfl, tn, fun k hk => ?_⟩
    match k, hk with
    | 0, _ => exact ⟨h0, by show StepC r (tr 0); rw [t0]; exact h⟩
    | k + 1, hk => exact ht k (by omega)
theorem Run_goes {w : World} {M B K N : Nat} {r r' : RS} {n : Nat} (hg : Goes r n r') (nI : Int) (hnI : nI = n) (fuel : Int) (iv : Value) (hm : Mac w M B K r.s N) (hw : Words w w.heap.size M B K iv r.inp) (hev : r.ev = []) (hf : -9223372036854775808 ≤ fuel ∧ fuel ≤ 9223372036854775807)
    (hn : (n : Int) ≤ fuel ∨ n = 0) (hend : fuel ≤ n ∨ r'.s.state ≠ 0) (hN : N + 2 * n < 999999990) :
    Calls Try.prog 14 #[.pointer (some ⟨M, 0, none⟩), iv, .int .i64 fuel] w fun e w' => ∃ ev, e = .returned (.agg #[.int .i64 r'.s.state, .int .u32 r'.s.code, ev, .int .i64 nI]) ∧ Mod (fun k => k = M ∨ k = B ∨ k = K) w w' ∧ Mac w' M B K r'.s (N + 2 * n) ∧ w'.ownsRow (w.heap.size + 1) 165 3 ev r'.ev.length (evC r'.ev) := by
  obtain ⟨tr, rfl, rfl, ht⟩ := hg.trace
  exact Run_at tr n nI hnI fuel iv hm hw hev hf (fun k hk => ⟨by omega, ht k hk⟩) hend hN _ rfl
/-- A program in memory. -/
structure ProgAt (mem : List Int) (P : List Ins) (top : Nat) : Prop where
  m : mem = loadM (bytesL (wordsL P)) top
  t : 4 * P.length ≤ top
  ok : ∀ i ∈ P, i.ok
def upd (X : Nat → Int) (d : Nat) (v : Int) : Nat → Int := fun i => if i = 0 then 0 else if i = d then v else X i
/-- A run's state by its registers. -/
structure Is (mem : List Int) (r : RS) (X : Nat → Int) (k : Nat) (inp : List Int) (ev : List Ev) : Prop where
  mem : r.s.mem = mem
  len : r.s.x.length = 32
  reg : ∀ i, r.s.x.getD i 0 = X i
  pc : r.s.pc = ((4 * k : Nat) : Int)
  run : r.s.state = 0
  inp : r.inp = inp
  ev : r.ev = ev
section
variable {mem : List Int} {P : List Ins} {top k : Nat} {r : RS} {X : Nat → Int} {inp : List Int} {ev : List Ev}
theorem Is.inside (h : Is mem r X k inp ev) (hP : ProgAt mem P top) (hk : k < P.length) : r.s.inside := by
  have ht := hP.t
  have hl : mem.length = top := by rw [hP.m]; exact loadM_length _ _ (by rw [bytesL_length]; simpa [wordsL] using ht)
  refine ⟨by rw [h.pc]; omega, ?_⟩
  rw [h.pc, h.mem, hl]
  omega
theorem Is.here (h : Is mem r X k inp ev) (hP : ProgAt mem P top) (hk : k < P.length) : DecR r.s.here (P[k]).op (P[k]).rd (P[k]).rs1 (P[k]).rs2 (P[k]).n 0 := by
  have e : r.s.here = (P[k]).word := by
    show getN r.s.mem r.s.pc.toNat 4 = _
    rw [h.mem, h.pc, Int.toNat_natCast, hP.m]
    have g : (wordsL P).getD k 0 = (P[k]).word := by simp [wordsL, List.getD_eq_getElem?_getD, hk]
    rw [load_word _ _ _ (by simpa [wordsL] using hk) (by rw [g]; exact insW_u _ _ _ _ _), g]
  rw [e]
  exact Or.inl ⟨rfl, (hP.ok _ (List.getElem_mem hk)).e, rfl⟩
theorem Is.dec (h : Is mem r X k inp ev) (hP : ProgAt mem P top) {i : Ins} (hi : P[k]? = some i) : k < P.length ∧ DecR r.s.here i.op i.rd i.rs1 i.rs2 i.n 0 := by
  obtain ⟨hk, rfl⟩ := List.getElem?_eq_some_iff.1 hi
  exact ⟨hk, h.here hP hk⟩
theorem upd_reg (h : ∀ i, r.s.x.getD i 0 = X i) (hl : r.s.x.length = 32) {d : Nat} (hd : d < 32) (v : Int) (i : Nat) : ((r.s.x.set d v).set 0 0).getD i 0 = upd X d v i := by
  have l2 : (r.s.x.set d v).length = 32 := by rw [List.length_set, hl]
  rw [getD_set, getD_set]
  unfold upd
  by_cases e0 : i = 0
  · subst e0; rw [if_pos ⟨rfl, by omega⟩, if_pos rfl]
  · rw [if_neg (fun e => e0 e.1.symm), if_neg e0]
    by_cases e1 : i = d
    · subst e1; rw [if_pos ⟨rfl, by omega⟩, if_pos rfl]
    · rw [if_neg (fun e => e1 e.1.symm), if_neg e1, h i]
theorem set0_reg (h : ∀ i, r.s.x.getD i 0 = X i) (h0 : X 0 = 0) (i : Nat) : (r.s.x.set 0 0).getD i 0 = X i := by
  rw [getD_set]
  by_cases e0 : i = 0
  · subst e0
    split
    · exact h0.symm
    · exact h 0
  · rw [if_neg (fun e => e0 e.1.symm), h i]
theorem pc_next (h : Is mem r X k inp ev) (hk : k < 100000) : (r.s.pc + 4) % 4294967296 = ((4 * (k + 1) : Nat) : Int) := by rw [h.pc]; omega
theorem is_addi (h : Is mem r X k inp ev) (hP : ProgAt mem P top) (hk : k < 100000) {d e : Nat} {n : Int} (hd : d < 32) (hi : P[k]? = some ⟨18, d, e, 0, n⟩) : ∃ r', StepC r r' ∧ Is mem r' (upd X d ((X e + n % 4294967296) % 4294967296)) (k + 1) inp ev := by
  obtain ⟨hkl, hdec⟩ := h.dec hP hi
  refine ⟨_, fun w b1 b2 R M B K N hr hT hN => (step_alui (b2 := b2) hr (by omega) (h.inside hP hkl) (op := 18) (n := n) (d := d) (e := e) (f := 0) hdec (by decide)).mono (fun e' w' ⟨he, hm, hr⟩ => ⟨he, hm, hr.more (by omega)⟩), ⟨h.mem, ?_, ?_, pc_next h hk, h.run, h.inp, h.ev⟩⟩
  · show ((r.s.x.set d _).set 0 0).length = 32
    rw [List.length_set, List.length_set, h.len]
  · intro i
    show ((r.s.x.set d _).set 0 0).getD i 0 = _
    rw [upd_reg h.reg h.len hd, h.reg e]
    rfl
theorem is_put (h : Is mem r X k inp ev) (hP : ProgAt mem P top) (hk : k < 100000) (h0 : X 0 = 0) (h17 : X 17 = 1) (hi : P[k]? = some ⟨42, 0, 0, 0, 0⟩) : ∃ r', StepC r r' ∧ Is mem r' X (k + 1) inp (ev ++ [⟨1, X 10, 0⟩]) := by
  obtain ⟨hkl, hdec⟩ := h.dec hP hi
  refine ⟨_, fun w b1 b2 R M B K N hr hT hN => (step_ecall (b2 := b2) hr (by omega) (h.inside hP hkl) (n := 0) (d := 0) (e := 0) (f := 0) hdec (r' := ⟨r.s, r.inp, r.ev ++ [⟨1, r.s.x.getD 10 0, 0⟩]⟩) hT (fun W N' h' hT' hN' => call_put h' (by rw [h.reg]; exact h17) hN' hT') rfl).mono (fun e' w' ⟨he, hm, hr⟩ => ⟨he, hm, hr⟩), ⟨h.mem, ?_, ?_, pc_next h hk, h.run, h.inp, ?_⟩⟩
  · show (r.s.x.set 0 0).length = 32
    rw [List.length_set, h.len]
  · exact fun i => set0_reg h.reg h0 i
  · show r.ev ++ [⟨1, r.s.x.getD 10 0, 0⟩] = _
    rw [h.ev, h.reg]
theorem is_get (h : Is mem r X k inp ev) (hP : ProgAt mem P top) (hk : k < 100000) (h17 : X 17 = 2) {v : Int} {l : List Int} (hin : inp = v :: l) (hi : P[k]? = some ⟨42, 0, 0, 0, 0⟩) : ∃ r', StepC r r' ∧ Is mem r' (upd X 10 v) (k + 1) l ev := by
  obtain ⟨hkl, hdec⟩ := h.dec hP hi
  refine ⟨_, fun w b1 b2 R M B K N hr hT hN => (step_ecall (b2 := b2) hr (by omega) (h.inside hP hkl) (n := 0) (d := 0) (e := 0) (f := 0) hdec (r' := ⟨r.s.setx 10 v, l, r.ev⟩) hT (fun W N' h' hT' hN' => (call_get h' (by rw [h.reg]; exact h17) (h.inp.trans hin) hT').mono (fun e' w' ⟨he, hm, hr⟩ => ⟨he, hm, hr.more (by omega)⟩)) rfl).mono (fun e' w' ⟨he, hm, hr⟩ => ⟨he, hm, hr⟩), ⟨h.mem, ?_, ?_, pc_next h hk, h.run, rfl, h.ev⟩⟩
  · show ((r.s.x.set 10 v).set 0 0).length = 32
    rw [List.length_set, List.length_set, h.len]
  · exact fun i => upd_reg h.reg h.len (by decide) v i
theorem is_none (h : Is mem r X k [] ev) (hP : ProgAt mem P top) (hk : k < 100000) (h17 : X 17 = 2) (hi : P[k]? = some ⟨42, 0, 0, 0, 0⟩) : ∃ r', StepC r r' ∧ Is mem r' (upd X 10 0) (k + 1) [] ev := by
  obtain ⟨hkl, hdec⟩ := h.dec hP hi
  refine ⟨_, fun w b1 b2 R M B K N hr hT hN => (step_ecall (b2 := b2) hr (by omega) (h.inside hP hkl) (n := 0) (d := 0) (e := 0) (f := 0) hdec (r' := r.on (r.s.setx 10 0)) hT (fun W N' h' hT' hN' => (call_none h' (by rw [h.reg]; exact h17) h.inp).mono (fun e' w' ⟨he, hm, hr⟩ => ⟨he, hm, hr.more (by omega)⟩)) rfl).mono (fun e' w' ⟨he, hm, hr⟩ => ⟨he, hm, hr⟩), ⟨h.mem, ?_, ?_, pc_next h hk, h.run, h.inp, h.ev⟩⟩
  · show ((r.s.x.set 10 0).set 0 0).length = 32
    rw [List.length_set, List.length_set, h.len]
  · exact fun i => upd_reg h.reg h.len (by decide) 0 i
theorem is_halt (h : Is mem r X k inp ev) (hP : ProgAt mem P top) (h17 : X 17 = 3) (hi : P[k]? = some ⟨42, 0, 0, 0, 0⟩) : ∃ r', StepC r r' ∧ r'.s.state = 1 ∧ r'.s.code = X 10 ∧ r'.ev = ev := by
  obtain ⟨hkl, hdec⟩ := h.dec hP hi
  refine ⟨_, fun w b1 b2 R M B K N hr hT hN => (step_ecall (b2 := b2) hr (by omega) (h.inside hP hkl) (n := 0) (d := 0) (e := 0) (f := 0) hdec (r' := r.on { r.s with state := 1, code := r.s.x.getD 10 0 }) hT (fun W N' h' hT' hN' => (call_halt h' (by rw [h.reg]; exact h17)).mono (fun e' w' ⟨he, hm, hr⟩ => ⟨he, hm, hr.more (by omega)⟩)) rfl).mono (fun e' w' ⟨he, hm, hr⟩ => ⟨he, hm, hr⟩), rfl, h.reg 10, h.ev⟩
theorem is_bt (h : Is mem r X k inp ev) (hP : ProgAt mem P top) (h0 : X 0 = 0) {op n : Int} {e f k' : Nat} (hop : 32 ≤ op ∧ op ≤ 37) (ht : takenV op (X e) (X f) = true) (hk' : ((4 * k : Nat) : Int) + n = ((4 * k' : Nat) : Int)) (hk2 : k' < 100000) (hi : P[k]? = some ⟨op, 0, e, f, n⟩) : ∃ r', StepC r r' ∧ Is mem r' X k' inp ev := by
  obtain ⟨hkl, hdec⟩ := h.dec hP hi
  refine ⟨_, fun w b1 b2 R M B K N hr hT hN => (step_bt (b2 := b2) hr (by omega) (h.inside hP hkl) (op := op) (n := n) (d := 0) (e := e) (f := f) hdec hop (by rw [h.reg, h.reg]; exact ht)).mono (fun e' w' ⟨he, hm, hr⟩ => ⟨he, hm, hr.more (by omega)⟩), ⟨h.mem, ?_, fun i => set0_reg h.reg h0 i, ?_, h.run, h.inp, h.ev⟩⟩
  · show (r.s.x.set 0 0).length = 32
    rw [List.length_set, h.len]
  · show (r.s.pc + n) % 4294967296 = _
    rw [h.pc]
    omega
theorem is_bn (h : Is mem r X k inp ev) (hP : ProgAt mem P top) (hk : k < 100000) (h0 : X 0 = 0) {op n : Int} {e f : Nat} (hop : 32 ≤ op ∧ op ≤ 37) (ht : takenV op (X e) (X f) = false) (hi : P[k]? = some ⟨op, 0, e, f, n⟩) : ∃ r', StepC r r' ∧ Is mem r' X (k + 1) inp ev := by
  obtain ⟨hkl, hdec⟩ := h.dec hP hi
  refine ⟨_, fun w b1 b2 R M B K N hr hT hN => (step_bn (b2 := b2) hr (by omega) (h.inside hP hkl) (op := op) (n := n) (d := 0) (e := e) (f := f) hdec hop (by rw [h.reg, h.reg]; exact ht)).mono (fun e' w' ⟨he, hm, hr⟩ => ⟨he, hm, hr.more (by omega)⟩), ⟨h.mem, ?_, fun i => set0_reg h.reg h0 i, pc_next h hk, h.run, h.inp, h.ev⟩⟩
  show (r.s.x.set 0 0).length = 32
  rw [List.length_set, h.len]
theorem is_jmp (h : Is mem r X k inp ev) (hP : ProgAt mem P top) (h0 : X 0 = 0) {n : Int} {k' : Nat} (hk' : ((4 * k : Nat) : Int) + n = ((4 * k' : Nat) : Int)) (hk2 : k' < 100000) (hi : P[k]? = some ⟨40, 0, 0, 0, n⟩) : ∃ r', StepC r r' ∧ Is mem r' X k' inp ev := by
  obtain ⟨hkl, hdec⟩ := h.dec hP hi
  refine ⟨_, fun w b1 b2 R M B K N hr hT hN => (step_jal (b2 := b2) hr (by omega) (h.inside hP hkl) (n := n) (d := 0) (e := 0) (f := 0) hdec).mono (fun e' w' ⟨he, hm, hr⟩ => ⟨he, hm, hr.more (by omega)⟩), ⟨h.mem, ?_, ?_, ?_, h.run, h.inp, h.ev⟩⟩
  · show ((r.s.x.set 0 _).set 0 0).length = 32
    rw [List.length_set, List.length_set, h.len]
  · intro i
    show ((r.s.x.set 0 _).set 0 0).getD i 0 = _
    rw [upd_reg h.reg h.len (by decide)]
    unfold upd
    by_cases e : i = 0
    · subst e; rw [if_pos rfl, h0]
    · rw [if_neg e, if_neg e]
  · show (r.s.pc + n) % 4294967296 = _
    rw [h.pc]
    omega
end
end Go.Proofs.Ytnbooljaodkedaa
namespace Go.Proofs.Ytnbooljaodkedaa
open Go.RowKit Go.Maps Go.Proofs.Ytnbooljaodkedaa.PC Go.Proofs.Ytnbooljaodkedaa.PW
set_option linter.unusedVariables false
set_option linter.unusedSimpArgs false
/-- An instruction stands there. -/
structure Cd (m : List Int) (p : Nat) (i : Ins) : Prop where
  ok : i.ok
  al : p % 4 = 0
  fit : p + 4 ≤ m.length
  word : getN m p 4 = i.word
/-- A run's state. -/
structure St (m : List Int) (r : RS) (X : Nat → Int) (p : Nat) : Prop where
  mem : r.s.mem = m
  len : r.s.x.length = 32
  reg : ∀ i, r.s.x.getD i 0 = X i
  pc : r.s.pc = (p : Int)
  run : r.s.state = 0
  inp : r.inp = []
  ev : r.ev = []
section
variable {m : List Int} {r : RS} {X : Nat → Int} {p : Nat}
theorem St.dec (h : St m r X p) {i : Ins} (hi : Cd m p i) : r.s.inside ∧ DecR r.s.here i.op i.rd i.rs1 i.rs2 i.n 0 := by
  have h1 := hi.al
  have h2 := hi.fit
  refine ⟨⟨by rw [h.pc]; omega, by rw [h.pc, h.mem]; omega⟩, ?_⟩
  have e : r.s.here = i.word := by
    show getN r.s.mem r.s.pc.toNat 4 = _
    rw [h.mem, h.pc, Int.toNat_natCast, hi.word]
  rw [e]
  exact Or.inl ⟨rfl, hi.ok.e, rfl⟩
theorem St.next (h : St m r X p) {i : Ins} (hi : Cd m p i) (hl : m.length ≤ 4294967292) : (r.s.pc + 4) % 4294967296 = ((p + 4 : Nat) : Int) := by
  have := hi.fit
  rw [h.pc]
  omega
theorem st_addi (h : St m r X p) (hl : m.length ≤ 4294967292) {d e : Nat} {n : Int} (hd : d < 32) (hi : Cd m p ⟨18, d, e, 0, n⟩) : ∃ r', StepC r r' ∧ St m r' (upd X d ((X e + n % 4294967296) % 4294967296)) (p + 4) := by
  obtain ⟨hin, hdec⟩ := h.dec hi
  refine ⟨_, fun w b1 b2 R M B K N hr hT hN => (step_alui (b2 := b2) hr (by omega) hin (op := 18) (n := n) (d := d) (e := e) (f := 0) hdec (by decide)).mono (fun e' w' ⟨he, hm, hr⟩ => ⟨he, hm, hr.more (by omega)⟩), ⟨h.mem, ?_, ?_, h.next hi hl, h.run, h.inp, h.ev⟩⟩
  · show ((r.s.x.set d _).set 0 0).length = 32
    rw [List.length_set, List.length_set, h.len]
  · intro i
    show ((r.s.x.set d _).set 0 0).getD i 0 = _
    rw [upd_reg h.reg h.len hd, h.reg e]
    rfl
theorem st_lui (h : St m r X p) (hl : m.length ≤ 4294967292) {d : Nat} {n : Int} (hd : d < 32) (hi : Cd m p ⟨38, d, 0, 0, n⟩) : ∃ r', StepC r r' ∧ St m r' (upd X d (n * 4096 % 4294967296)) (p + 4) := by
  obtain ⟨hin, hdec⟩ := h.dec hi
  refine ⟨_, fun w b1 b2 R M B K N hr hT hN => (step_lui (b2 := b2) hr (by omega) hin (n := n) (d := d) (e := 0) (f := 0) hdec).mono (fun e' w' ⟨he, hm, hr⟩ => ⟨he, hm, hr.more (by omega)⟩), ⟨h.mem, ?_, ?_, h.next hi hl, h.run, h.inp, h.ev⟩⟩
  · show ((r.s.x.set d _).set 0 0).length = 32
    rw [List.length_set, List.length_set, h.len]
  · intro i
    show ((r.s.x.set d _).set 0 0).getD i 0 = _
    rw [upd_reg h.reg h.len hd]
theorem st_jal (h : St m r X p) (hl : m.length ≤ 4294967292) {d q : Nat} {n : Int} (hd : d < 32) (hq : (p : Int) + n = (q : Int)) (hq2 : q ≤ m.length) (hi : Cd m p ⟨40, d, 0, 0, n⟩) : ∃ r', StepC r r' ∧ St m r' (upd X d ((p + 4 : Nat) : Int)) q := by
  obtain ⟨hin, hdec⟩ := h.dec hi
  refine ⟨_, fun w b1 b2 R M B K N hr hT hN => (step_jal (b2 := b2) hr (by omega) hin (n := n) (d := d) (e := 0) (f := 0) hdec).mono (fun e' w' ⟨he, hm, hr⟩ => ⟨he, hm, hr.more (by omega)⟩), ⟨h.mem, ?_, ?_, ?_, h.run, h.inp, h.ev⟩⟩
  · show ((r.s.x.set d _).set 0 0).length = 32
    rw [List.length_set, List.length_set, h.len]
  · intro i
    show ((r.s.x.set d _).set 0 0).getD i 0 = _
    rw [upd_reg h.reg h.len hd]
    rw [h.next hi hl]
  · show (r.s.pc + n) % 4294967296 = _
    rw [h.pc]
    omega
theorem st_jalr (h : St m r X p) (hl : m.length ≤ 4294967292) {e q : Nat} (h0 : X 0 = 0) (hq : X e = (q : Int)) (hq2 : q % 2 = 0) (hq3 : q ≤ m.length) (hi : Cd m p ⟨41, 0, e, 0, 0⟩) : ∃ r', StepC r r' ∧ St m r' X q := by
  obtain ⟨hin, hdec⟩ := h.dec hi
  refine ⟨_, fun w b1 b2 R M B K N hr hT hN => (step_jalr (b2 := b2) hr (by omega) hin (n := 0) (d := 0) (e := e) (f := 0) hdec).mono (fun e' w' ⟨he, hm, hr⟩ => ⟨he, hm, hr.more (by omega)⟩), ⟨h.mem, ?_, ?_, ?_, h.run, h.inp, h.ev⟩⟩
  · show ((r.s.x.set 0 _).set 0 0).length = 32
    rw [List.length_set, List.length_set, h.len]
  · intro i
    show ((r.s.x.set 0 _).set 0 0).getD i 0 = _
    rw [upd_reg h.reg h.len (by decide)]
    unfold upd
    by_cases e : i = 0
    · subst e; rw [if_pos rfl, h0]
    · rw [if_neg e, if_neg e]
  · show (r.s.x.getD e 0 + 0) % 4294967296 / 2 * 2 = _
    rw [h.reg, hq]
    omega
theorem st_lw (h : St m r X p) (hl : m.length ≤ 4294967292) {d e q : Nat} {n : Int} (hd : d < 32) (hq : (X e + n) % 4294967296 = (q : Int)) (h4 : q % 4 = 0) (hq2 : q + 4 ≤ m.length) (hi : Cd m p ⟨29, d, e, 0, n⟩) : ∃ r', StepC r r' ∧ St m r' (upd X d (getN m q 4)) (p + 4) := by
  obtain ⟨hin, hdec⟩ := h.dec hi
  have ea : (r.s.x.getD e 0 + n) % 4294967296 = (q : Int) := by rw [h.reg]; exact hq
  refine ⟨_, fun w b1 b2 R M B K N hr hT hN => (step_LW (b2 := b2) hr (by omega) hin (n := n) (d := d) (e := e) (f := 0) hdec (by rw [ea]; omega) (by rw [ea, h.mem]; omega)).mono (fun e' w' ⟨he, hm, hr⟩ => ⟨he, hm, hr.more (by omega)⟩), ⟨h.mem, ?_, ?_, h.next hi hl, h.run, h.inp, h.ev⟩⟩
  · show ((r.s.x.set d _).set 0 0).length = 32
    rw [List.length_set, List.length_set, h.len]
  · intro i
    show ((r.s.x.set d _).set 0 0).getD i 0 = _
    rw [upd_reg h.reg h.len hd, ea, Int.toNat_natCast, h.mem]
theorem st_halt (h : St m r X p) (h17 : X 17 = 3) (hi : Cd m p ⟨42, 0, 0, 0, 0⟩) : ∃ r', StepC r r' ∧ r'.s.state = 1 ∧ r'.s.code = X 10 ∧ r'.ev = [] := by
  obtain ⟨hin, hdec⟩ := h.dec hi
  refine ⟨_, fun w b1 b2 R M B K N hr hT hN => (step_ecall (b2 := b2) hr (by omega) hin (n := 0) (d := 0) (e := 0) (f := 0) hdec (r' := r.on { r.s with state := 1, code := r.s.x.getD 10 0 }) hT (fun W N' h' hT' hN' => (call_halt h' (by rw [h.reg]; exact h17)).mono (fun e' w' ⟨he, hm, hr⟩ => ⟨he, hm, hr.more (by omega)⟩)) rfl).mono (fun e' w' ⟨he, hm, hr⟩ => ⟨he, hm, hr⟩), rfl, h.reg 10, h.ev⟩
end
/-- What is loaded of an image: its run begins so. -/
def bootM (l : List Int) (floor top : Nat) : RS := ⟨loadS 0 l floor top, [], []⟩
theorem boot_st (l : List Int) (floor top : Nat) : St (loadM l top) (bootM l floor top) (fun i => if i = 2 then (top : Int) else if i = 27 then (floor : Int) else 0) 0 := by
  refine ⟨rfl, rfl, fun i => ?_, rfl, rfl, rfl, rfl⟩
  show (((List.replicate 32 0).set 2 (top : Int)).set 27 (floor : Int)).getD i 0 = _
  rw [getD_set, getD_set]
  by_cases h2 : i = 2
  · subst h2; simp
  · by_cases h27 : i = 27
    · subst h27; simp
    · rw [if_neg (fun e => h27 e.1.symm), if_neg (fun e => h2 e.1.symm), if_neg h2, if_neg h27]
      show (List.replicate 32 (0 : Int)).getD i 0 = 0
      rw [List.getD_eq_getElem?_getD, List.getElem?_replicate]
      split <;> rfl
theorem getN_get {m m' : List Int} {p q : Nat} (h : ∀ b, b < 4 → m[p + b]? = m'[q + b]?) : getN m p 4 = getN m' q 4 := by
  have e : ∀ b, b < 4 → m.getD (p + b) 0 = m'.getD (q + b) 0 := fun b hb => by rw [List.getD_eq_getElem?_getD, List.getD_eq_getElem?_getD, h b hb]
  simp only [getN]
  rw [e 0 (by decide), e 1 (by decide), e 2 (by decide), e 3 (by decide)]
theorem loadM_in (l : List Int) (top p : Nat) (h : p < l.length) : (loadM l top)[p]? = l[p]? := by
  unfold loadM
  rw [List.getElem?_append_left h]
/-- A word of a list of words that stands in a memory. -/
theorem getN_words {m : List Int} {l : List Int} {q k : Nat} (h : ∀ b, b < 4 * l.length → m[q + b]? = (bytesL l)[b]?) (hk : k < l.length) (hu : U (l.getD k 0)) : getN m (q + 4 * k) 4 = l.getD k 0 := by
  have e := load_word l (bytesL l).length k hk hu
  have e2 : loadM (bytesL l) (bytesL l).length = bytesL l := by simp [loadM]
  rw [e2] at e
  rw [← e]
  refine getN_get (fun b hb => ?_)
  rw [Nat.add_assoc]
  exact h _ (by omega)
end Go.Proofs.Ytnbooljaodkedaa
