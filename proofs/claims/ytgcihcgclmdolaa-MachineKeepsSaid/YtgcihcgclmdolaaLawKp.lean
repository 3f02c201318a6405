/- MachineKeeps: its program's run. No condition. -/
import Derived.Test.YtgcihcgclmdolaaLawAw
import Derived.Test.YtgcihcgclmdolaaMachS2
import Derived.Test.YtgcihcgclmdolaaMachS3
import Derived.Laws.FloatArith
namespace Go.Proofs.Ytgcihcgclmdolaa
open Go.RowKit Go.Maps Go.Proofs.Ytgcihcgclmdolaa.PC Go.Proofs.Ytgcihcgclmdolaa.PW
set_option linter.unusedVariables false
set_option linter.unusedSimpArgs false
theorem sc_far {w : World} {M i j : Nat} {v u : Value} (hn : i ≠ j) (h : w.cell? ⟨M, j, none⟩ = some u) : (w.setCell ⟨M, i, none⟩ v).drew.cell? ⟨M, j, none⟩ = some u := sc0' hn h
set_option maxRecDepth 100000 in
set_option maxHeartbeats 1000000 in
theorem reals_cvt {w : World} {b1 b2 R M B K N : Nat} {r : RS} (h : Rat w b1 R M B K r N) (d e f : Nat) (hd : d < 32) (he : e < 32) (hf : f < 32) (n : Int) (hu : ((floatOfInt .f64 (sgn (r.s.x.getD e 0)) : Nat) : Int) ≤ 18446744073709551615) :
    Calls Try.prog 46 #[.pointer (some ⟨R, 0, none⟩), insV 55 d e f n] w fun e' w' => e' = .returned (.tuple #[]) ∧ Mod (SR b1 b2 M B K) w w' ∧ Rat w' b1 R M B K (r.on (r.s.setf d (canV (floatOfInt .f64 (sgn (r.s.x.getD e 0)))))) N := by
  have hk : Kp w (w.alloc (.cells #[.int .i64 55, .int .i64 d, .int .i64 e, .int .i64 f, .int .i64 n] 26)) := (Kp.refl w).alloc _
  have hR := h.kp hk
  have hi := Blk.new w #[.int .i64 55, .int .i64 d, .int .i64 e, .int .i64 f, .int .i64 n] 26
  replace h := Aside.mk h
  unfold insV
  go_enter Try.func46, Try.ntmps46
  go_upto_region 1 with fail
  have nMq : M ≠ w.heap.size := by have := h.out.mac.m.lt; omega
  have nMR : M ≠ R := by have h1 := h.out.lR; have h2 := h.out.lM; omega
  generalize hqe : w.heap.size = q at *
  replace hqe := Aside.mk hqe
  generalize w.alloc (.cells #[.int .i64 55, .int .i64 d, .int .i64 e, .int .i64 f, .int .i64 n] 26) = W at *
  obtain ⟨il, i0, i1, i2, i3, i4, -⟩ := hi.five
  obtain ⟨iv, ev, hb, hw, ho, hn, rl, r0, r1, r2⟩ := hR.facts
  have ml := hR.mac.m.lt
  have ce := hR.mac.cf (r := e) he
  have cf := hR.mac.cf (r := f) hf
  have cx := hR.mac.cx (r := e) he
  have ux := getD_U hR.mac.ok.ux e
  have fb := hR.mac.m.frozen (33 + d)
  have cd := hR.mac.cf (r := d) hd
  generalize hxx : r.s.x.getD e 0 = xv at *
  generalize hye : r.s.f.getD e 0 = ye at *
  generalize hyf : r.s.f.getD f 0 = yf at *
  generalize hyd : r.s.f.getD d 0 = yd at *
  replace hxx := Aside.mk hxx
  replace hu := Aside.mk hu
  replace ux := Aside.mk ux
  clear hb hw ho hn r1 r2 i4
  replace hR := Aside.mk hR
  replace hk := Aside.mk hk
  replace hi := Aside.mk hi
  go_quiet (fail)
  go_upto_region 15 with fail
  have k2 : Kp W (W.drewN nq) := (Kp.refl W).drewN _
  have fb' : (W.drewN nq).frozen? ⟨M, 33 + d, none⟩ = false := (k2.frozen (p := ⟨M, 33 + d, none⟩) ml).trans fb
  replace r0 := kp_cell k2 r0
  replace i1 := kp_cell k2 i1
  replace i2 := kp_cell k2 i2
  replace cx := kp_cell k2 cx
  replace cd := kp_cell k2 cd
  have ml2 := Nat.lt_of_lt_of_le ml k2.size
  have rl2 := Nat.lt_of_lt_of_le rl k2.size
  have il2 := Nat.lt_of_lt_of_le il k2.size
  clear fb ce cf i0 i3 ml rl il
  generalize W.drewN nq = V at *
  replace k2 := Aside.mk k2
  have e0 : (0 : Int) ≤ (e : Int) := by omega
  have e2 : (e : Int) < 32 := by omega
  have d0 : (0 : Int) ≤ (d : Int) := by omega
  have d2 : (d : Int) < 32 := by omega
  go_region_held3 (fun w' => w'.cell? ⟨R, 0, none⟩ = some (.pointer (some ⟨M, 0, none⟩)) ∧ w'.cell? ⟨q, 1, none⟩ = some (.int .i64 d) ∧ w'.cell? ⟨q, 2, none⟩ = some (.int .i64 e) ∧ w'.cell? ⟨M, 1 + e, none⟩ = some (.int .u32 xv)) (first | (go_keep; done) | exact ⟨sc_cell nMR r0, sc_cell nMq i1, sc_cell nMq i2, sc_far (by omega) cx⟩)
    (first | ((go_at_call 59); ((with_reducible refine Calls.mono (OfInt_calls xv ux.out _) ?_)); (rintro e w1 ⟨rfl, rfl⟩)))
  go_wp2
  go_end0
  obtain rfl := hxx.out
  have hR2 := hR.out.kp k2.out
  have ho := hR2.mac.ok
  have h4 := hR2.setM (i := 33 + d) (v := .int .u64 (canV (floatOfInt .f64 (sgn (r.s.x.getD e 0))))) (s' := r.s.setf d (canV (floatOfInt .f64 (sgn (r.s.x.getD e 0))))) (set_f ho hd _) rfl (ok_f ho d (canV_U hu.out))
  exact ⟨rfl, (((hk.out.trans k2.out).mod.setCell (p := ⟨M, 33 + d, none⟩) (Or.inl rfl) _).drew), h4.kp ((Kp.refl _).drew)⟩
theorem cvt_U (x : Int) : ((floatOfInt .f64 x : Nat) : Int) ≤ 18446744073709551615 := by
  have h : floatOfInt .f64 x < 2 ^ 64 := of_decide_eq_true (floatOfInt_wf .f64 x)
  omega
theorem step_cvt {w : World} {b1 b2 R M B K N : Nat} {r : RS} (h : Rat w b1 R M B K r N) (hN : N < 999999999) (hin : r.s.inside) {n : Int} {d e f : Nat} (hd : DecR r.s.here 55 d e f n 0) :
    Calls Try.prog 34 #[.pointer (some ⟨R, 0, none⟩)] w fun e' w' => e' = .returned (.tuple #[]) ∧ Mod (SR b1 b2 M B K) w w' ∧ Rat w' b1 R M B K ((r.on (r.s.setf d (canV (floatOfInt .f64 (sgn (r.s.x.getD e 0)))))).fin ((r.s.pc + 4) % 4294967296)) (N + 1) := by
  obtain ⟨-, d1, e1, f1⟩ := decR_ops hd
  exact step_reals (b2 := b2) h hN hin hd (by decide) (fun W N' h' => reals_cvt h' d e f (by omega) (by omega) (by omega) n (cvt_U _)) rfl
/-- A run's state by its memory, its registers, its reals; the program's words stand in the memory. -/
structure At (r : RS) (P : List Ins) (m : List Int) (k : Nat) (X F : Nat → Int) (inp : List Int) : Prop where
  mem : r.s.mem = m
  code : ∀ j, (h : j < P.length) → getN m (4 * j) 4 = (P[j]).word
  top : 4 * P.length ≤ m.length
  small : P.length ≤ 100000
  lx : r.s.x.length = 32
  lf : r.s.f.length = 32
  reg : ∀ i, r.s.x.getD i 0 = X i
  fre : ∀ i, r.s.f.getD i 0 = F i
  pc : r.s.pc = ((4 * k : Nat) : Int)
  run : r.s.state = 0
  inp : r.inp = inp
  ok : ∀ i ∈ P, i.ok
section
variable {P : List Ins} {m : List Int} {k : Nat} {r : RS} {X F : Nat → Int} {inp : List Int}
theorem At.dec (h : At r P m k X F inp) {i : Ins} (hi : P[k]? = some i) : k < P.length ∧ r.s.inside ∧ DecR r.s.here i.op i.rd i.rs1 i.rs2 i.n 0 := by
  obtain ⟨hk, rfl⟩ := List.getElem?_eq_some_iff.1 hi
  have ht := h.top
  refine ⟨hk, ⟨by rw [h.pc]; omega, by rw [h.pc, h.mem]; omega⟩, ?_⟩
  have e : r.s.here = (P[k]).word := by
    show getN r.s.mem r.s.pc.toNat 4 = _
    rw [h.mem, h.pc, Int.toNat_natCast, h.code k hk]
  rw [e]
  exact Or.inl ⟨rfl, (h.ok _ (List.getElem_mem hk)).e, rfl⟩
theorem At.next (h : At r P m k X F inp) (hk : k < P.length) : (r.s.pc + 4) % 4294967296 = ((4 * (k + 1) : Nat) : Int) := by
  have := h.small
  rw [h.pc]
  omega
def updF (F : Nat → Int) (d : Nat) (v : Int) : Nat → Int := fun i => if i = d then v else F i
theorem at_addi (h : At r P m k X F inp) {d e : Nat} {n : Int} (hd : d < 32) (hi : P[k]? = some ⟨18, d, e, 0, n⟩) : ∃ r', StepC r r' ∧ At r' P m (k + 1) (upd X d ((X e + n % 4294967296) % 4294967296)) F inp := by
  obtain ⟨hk, hin, hdec⟩ := h.dec hi
  refine ⟨_, fun w b1 b2 R M B K N hr hT hN => (step_alui (b2 := b2) hr (by omega) hin (op := 18) (n := n) (d := d) (e := e) (f := 0) hdec (by decide)).mono (fun e' w' ⟨he, hm, hr⟩ => ⟨he, hm, hr.more (by omega)⟩), ⟨h.mem, h.code, h.top, h.small, ?_, h.lf, ?_, h.fre, h.next hk, h.run, h.inp, h.ok⟩⟩
  · show ((r.s.x.set d _).set 0 0).length = 32
    rw [List.length_set, List.length_set, h.lx]
  · intro i
    show ((r.s.x.set d _).set 0 0).getD i 0 = _
    rw [upd_reg h.reg h.lx hd, h.reg e]
    rfl
theorem at_get (h : At r P m k X F inp) (h17 : X 17 = 2) {v : Int} {l : List Int} (hin : inp = v :: l) (hi : P[k]? = some ⟨42, 0, 0, 0, 0⟩) : ∃ r', StepC r r' ∧ At r' P m (k + 1) (upd X 10 v) F l := by
  obtain ⟨hk, hins, hdec⟩ := h.dec hi
  refine ⟨_, fun w b1 b2 R M B K N hr hT hN => (step_ecall (b2 := b2) hr (by omega) hins (n := 0) (d := 0) (e := 0) (f := 0) hdec (r' := ⟨r.s.setx 10 v, l, r.ev⟩) hT (fun W N' h' hT' hN' => (call_get h' (by rw [h.reg]; exact h17) (h.inp.trans hin) hT').mono (fun e' w' ⟨he, hm, hr⟩ => ⟨he, hm, hr.more (by omega)⟩)) rfl).mono (fun e' w' ⟨he, hm, hr⟩ => ⟨he, hm, hr⟩), ⟨h.mem, h.code, h.top, h.small, ?_, h.lf, ?_, h.fre, h.next hk, h.run, rfl, h.ok⟩⟩
  · show ((r.s.x.set 10 v).set 0 0).length = 32
    rw [List.length_set, List.length_set, h.lx]
  · exact fun i => upd_reg h.reg h.lx (by decide) v i
theorem code_put {a : Nat} {v : Int} {n : Nat} (hc : ∀ j, (h : j < P.length) → getN m (4 * j) 4 = (P[j]).word) (ha : 4 * P.length ≤ a) (hn : a + n ≤ m.length) : ∀ j, (h : j < P.length) → getN (putN m a v n) (4 * j) 4 = (P[j]).word := by
  intro j hj
  rw [getN_apart m a v n (4 * j) 4 hn (Or.inl (by omega))]
  exact hc j hj
theorem at_sw (h : At r P m k X F inp) (h0 : X 0 = 0) {e f a : Nat} {n : Int} (ha : (X e + n) % 4294967296 = (a : Int)) (h4 : a % 4 = 0) (hP : 4 * P.length ≤ a) (ht : a + 4 ≤ m.length) (hi : P[k]? = some ⟨31, 0, e, f, n⟩) : ∃ r', StepC r r' ∧ At r' P (putN m a (X f) 4) (k + 1) X F inp := by
  obtain ⟨hk, hin, hdec⟩ := h.dec hi
  have ea : (r.s.x.getD e 0 + n) % 4294967296 = (a : Int) := by rw [h.reg]; exact ha
  refine ⟨_, fun w b1 b2 R M B K N hr hT hN => (step_SW (b2 := b2) hr (by omega) hin (n := n) (d := 0) (e := e) (f := f) hdec (by rw [ea]; omega) (by rw [ea, h.mem]; omega)).mono (fun e' w' ⟨he, hm, hr⟩ => ⟨he, hm, hr.more (by omega)⟩), ⟨?_, code_put h.code hP ht, by rw [putN_length]; exact h.top, h.small, ?_, h.lf, fun i => set0_reg h.reg h0 i, h.fre, h.next hk, h.run, h.inp, h.ok⟩⟩
  · show putN r.s.mem ((r.s.x.getD e 0 + n) % 4294967296).toNat (r.s.x.getD f 0) 4 = _
    rw [ea, h.mem, h.reg, Int.toNat_natCast]
  · show (r.s.x.set 0 0).length = 32
    rw [List.length_set, h.lx]
theorem at_lw (h : At r P m k X F inp) {d e a : Nat} {n : Int} (hd : d < 32) (ha : (X e + n) % 4294967296 = (a : Int)) (h4 : a % 4 = 0) (ht : a + 4 ≤ m.length) (hi : P[k]? = some ⟨29, d, e, 0, n⟩) : ∃ r', StepC r r' ∧ At r' P m (k + 1) (upd X d (getN m a 4)) F inp := by
  obtain ⟨hk, hin, hdec⟩ := h.dec hi
  have ea : (r.s.x.getD e 0 + n) % 4294967296 = (a : Int) := by rw [h.reg]; exact ha
  refine ⟨_, fun w b1 b2 R M B K N hr hT hN => (step_LW (b2 := b2) hr (by omega) hin (n := n) (d := d) (e := e) (f := 0) hdec (by rw [ea]; omega) (by rw [ea, h.mem]; omega)).mono (fun e' w' ⟨he, hm, hr⟩ => ⟨he, hm, hr.more (by omega)⟩), ⟨h.mem, h.code, h.top, h.small, ?_, h.lf, ?_, h.fre, h.next hk, h.run, h.inp, h.ok⟩⟩
  · show ((r.s.x.set d _).set 0 0).length = 32
    rw [List.length_set, List.length_set, h.lx]
  · intro i
    show ((r.s.x.set d (getN r.s.mem ((r.s.x.getD e 0 + n) % 4294967296).toNat 4)).set 0 0).getD i 0 = _
    rw [upd_reg h.reg h.lx hd, ea, h.mem, Int.toNat_natCast]
theorem at_lbu (h : At r P m k X F inp) {d e a : Nat} {n : Int} (hd : d < 32) (ha : (X e + n) % 4294967296 = (a : Int)) (ht : a + 1 ≤ m.length) (hi : P[k]? = some ⟨28, d, e, 0, n⟩) : ∃ r', StepC r r' ∧ At r' P m (k + 1) (upd X d (m.getD a 0)) F inp := by
  obtain ⟨hk, hin, hdec⟩ := h.dec hi
  have ea : (r.s.x.getD e 0 + n) % 4294967296 = (a : Int) := by rw [h.reg]; exact ha
  refine ⟨_, fun w b1 b2 R M B K N hr hT hN => (step_LBU (b2 := b2) hr (by omega) hin (n := n) (d := d) (e := e) (f := 0) hdec (by rw [ea]; omega) (by rw [ea, h.mem]; omega)).mono (fun e' w' ⟨he, hm, hr⟩ => ⟨he, hm, hr.more (by omega)⟩), ⟨h.mem, h.code, h.top, h.small, ?_, h.lf, ?_, h.fre, h.next hk, h.run, h.inp, h.ok⟩⟩
  · show ((r.s.x.set d _).set 0 0).length = 32
    rw [List.length_set, List.length_set, h.lx]
  · intro i
    show ((r.s.x.set d (r.s.mem.getD ((r.s.x.getD e 0 + n) % 4294967296).toNat 0)).set 0 0).getD i 0 = _
    rw [upd_reg h.reg h.lx hd, ea, h.mem, Int.toNat_natCast]
theorem at_lb (h : At r P m k X F inp) {d e a : Nat} {n : Int} (hd : d < 32) (ha : (X e + n) % 4294967296 = (a : Int)) (ht : a + 1 ≤ m.length) (hi : P[k]? = some ⟨27, d, e, 0, n⟩) : ∃ r', StepC r r' ∧ At r' P m (k + 1) (upd X d (Still.ext8 (m.getD a 0))) F inp := by
  obtain ⟨hk, hin, hdec⟩ := h.dec hi
  have ea : (r.s.x.getD e 0 + n) % 4294967296 = (a : Int) := by rw [h.reg]; exact ha
  refine ⟨_, fun w b1 b2 R M B K N hr hT hN => (step_LB (b2 := b2) hr (by omega) hin (n := n) (d := d) (e := e) (f := 0) hdec (by rw [ea]; omega) (by rw [ea, h.mem]; omega)).mono (fun e' w' ⟨he, hm, hr⟩ => ⟨he, hm, hr.more (by omega)⟩), ⟨h.mem, h.code, h.top, h.small, ?_, h.lf, ?_, h.fre, h.next hk, h.run, h.inp, h.ok⟩⟩
  · show ((r.s.x.set d _).set 0 0).length = 32
    rw [List.length_set, List.length_set, h.lx]
  · intro i
    show ((r.s.x.set d (Still.ext8 (r.s.mem.getD ((r.s.x.getD e 0 + n) % 4294967296).toNat 0))).set 0 0).getD i 0 = _
    rw [upd_reg h.reg h.lx hd, ea, h.mem, Int.toNat_natCast]
theorem fre_set (h : ∀ i, r.s.f.getD i 0 = F i) (hl : r.s.f.length = 32) {d : Nat} (hd : d < 32) (v : Int) (i : Nat) : (r.s.f.set d v).getD i 0 = updF F d v i := by
  rw [getD_set]
  unfold updF
  by_cases e1 : i = d
  · subst e1; rw [if_pos ⟨rfl, by omega⟩, if_pos rfl]
  · rw [if_neg (fun e => e1 e.1.symm), if_neg e1, h i]
theorem at_cvt (h : At r P m k X F inp) (h0 : X 0 = 0) {d e : Nat} (hd : d < 32) (hi : P[k]? = some ⟨55, d, e, 0, 0⟩) : ∃ r', StepC r r' ∧ At r' P m (k + 1) X (updF F d (canV (floatOfInt .f64 (sgn (X e))))) inp := by
  obtain ⟨hk, hin, hdec⟩ := h.dec hi
  refine ⟨_, fun w b1 b2 R M B K N hr hT hN => (step_cvt (b2 := b2) hr (by omega) hin (n := 0) (d := d) (e := e) (f := 0) hdec).mono (fun e' w' ⟨he, hm, hr⟩ => ⟨he, hm, hr.more (by omega)⟩), ⟨h.mem, h.code, h.top, h.small, ?_, ?_, fun i => set0_reg h.reg h0 i, ?_, h.next hk, h.run, h.inp, h.ok⟩⟩
  · show (r.s.x.set 0 0).length = 32
    rw [List.length_set, h.lx]
  · show (r.s.f.set d _).length = 32
    rw [List.length_set, h.lf]
  · intro i
    show (r.s.f.set d (canV (floatOfInt .f64 (sgn (r.s.x.getD e 0))))).getD i 0 = _
    rw [fre_set h.fre h.lf hd, h.reg]
theorem at_fld (h : At r P m k X F inp) (h0 : X 0 = 0) {d e a : Nat} {n : Int} (hd : d < 32) (ha : (X e + n) % 4294967296 = (a : Int)) (h8 : a % 8 = 0) (ht : a + 8 ≤ m.length) (hi : P[k]? = some ⟨43, d, e, 0, n⟩) : ∃ r', StepC r r' ∧ At r' P m (k + 1) X (updF F d (canV (getN m a 8).toNat)) inp := by
  obtain ⟨hk, hin, hdec⟩ := h.dec hi
  have ea : (r.s.x.getD e 0 + n) % 4294967296 = (a : Int) := by rw [h.reg]; exact ha
  refine ⟨_, fun w b1 b2 R M B K N hr hT hN => (step_FLD (b2 := b2) hr (by omega) hin (n := n) (d := d) (e := e) (f := 0) hdec (by rw [ea]; omega) (by rw [ea, h.mem]; omega)).mono (fun e' w' ⟨he, hm, hr⟩ => ⟨he, hm, hr.more (by omega)⟩), ⟨h.mem, h.code, h.top, h.small, ?_, ?_, fun i => set0_reg h.reg h0 i, ?_, h.next hk, h.run, h.inp, h.ok⟩⟩
  · show (r.s.x.set 0 0).length = 32
    rw [List.length_set, h.lx]
  · show (r.s.f.set d _).length = 32
    rw [List.length_set, h.lf]
  · intro i
    show (r.s.f.set d (canV (getN r.s.mem ((r.s.x.getD e 0 + n) % 4294967296).toNat 8).toNat)).getD i 0 = _
    rw [fre_set h.fre h.lf hd, ea, h.mem, Int.toNat_natCast]
theorem at_fsd (h : At r P m k X F inp) (h0 : X 0 = 0) {e f a : Nat} {n : Int} (ha : (X e + n) % 4294967296 = (a : Int)) (h8 : a % 8 = 0) (hP : 4 * P.length ≤ a) (ht : a + 8 ≤ m.length) (hi : P[k]? = some ⟨44, 0, e, f, n⟩) : ∃ r', StepC r r' ∧ At r' P (putN m a (F f) 8) (k + 1) X F inp := by
  obtain ⟨hk, hin, hdec⟩ := h.dec hi
  have ea : (r.s.x.getD e 0 + n) % 4294967296 = (a : Int) := by rw [h.reg]; exact ha
  refine ⟨_, fun w b1 b2 R M B K N hr hT hN => (step_FSD (b2 := b2) hr (by omega) hin (n := n) (d := 0) (e := e) (f := f) hdec (by rw [ea]; omega) (by rw [ea, h.mem]; omega)).mono (fun e' w' ⟨he, hm, hr⟩ => ⟨he, hm, hr.more (by omega)⟩), ⟨?_, code_put h.code hP ht, by rw [putN_length]; exact h.top, h.small, ?_, h.lf, fun i => set0_reg h.reg h0 i, h.fre, h.next hk, h.run, h.inp, h.ok⟩⟩
  · show putN r.s.mem ((r.s.x.getD e 0 + n) % 4294967296).toNat (r.s.f.getD f 0) 8 = _
    rw [ea, h.mem, h.fre, Int.toNat_natCast]
  · show (r.s.x.set 0 0).length = 32
    rw [List.length_set, h.lx]
theorem put1 (m : List Int) (a : Nat) (v : Int) : putN m a v 1 = m.set a (v % 256) := by simp [putN]
theorem at_sb (h : At r P m k X F inp) (h0 : X 0 = 0) {e f a : Nat} {n : Int} (ha : (X e + n) % 4294967296 = (a : Int)) (hP : 4 * P.length ≤ a) (ht : a + 1 ≤ m.length) (hi : P[k]? = some ⟨30, 0, e, f, n⟩) : ∃ r', StepC r r' ∧ At r' P (m.set a (X f % 256)) (k + 1) X F inp := by
  obtain ⟨hk, hin, hdec⟩ := h.dec hi
  have ea : (r.s.x.getD e 0 + n) % 4294967296 = (a : Int) := by rw [h.reg]; exact ha
  refine ⟨_, fun w b1 b2 R M B K N hr hT hN => (step_SB (b2 := b2) hr (by omega) hin (n := n) (d := 0) (e := e) (f := f) hdec (by rw [ea]; omega) (by rw [ea, h.mem]; omega)).mono (fun e' w' ⟨he, hm, hr⟩ => ⟨he, hm, hr.more (by omega)⟩), ⟨?_, by rw [← put1]; exact code_put h.code hP ht, by rw [List.length_set]; exact h.top, h.small, ?_, h.lf, fun i => set0_reg h.reg h0 i, h.fre, h.next hk, h.run, h.inp, h.ok⟩⟩
  · show r.s.mem.set ((r.s.x.getD e 0 + n) % 4294967296).toNat (r.s.x.getD f 0 % 256) = _
    rw [ea, h.mem, h.reg, Int.toNat_natCast]
  · show (r.s.x.set 0 0).length = 32
    rw [List.length_set, h.lx]
end
def keepP (off : Int) : List Ins := [⟨18, 17, 0, 0, 2⟩, ⟨42, 0, 0, 0, 0⟩, ⟨31, 0, 2, 10, off⟩, ⟨29, 5, 2, 0, off⟩, ⟨28, 6, 2, 0, off⟩, ⟨27, 7, 2, 0, off⟩, ⟨55, 1, 10, 0, 0⟩, ⟨44, 0, 2, 1, off⟩, ⟨43, 2, 2, 0, off⟩, ⟨30, 0, 2, 6, off + 1⟩, ⟨28, 8, 2, 0, off + 1⟩]
theorem keep_enc : ∀ i : Fin 30, (keepP (-8 * ((i.val : Int) + 1))).all (fun x => decide (insE x.op x.rd x.rs1 x.rs2 x.n = 0 ∧ (0 ≤ x.op ∧ x.op ≤ 60) ∧ (-5000 ≤ x.n ∧ x.n ≤ 5000))) = true := by decide +kernel
theorem keep_ok {i : Nat} (hi : i < 30) : ∀ x ∈ keepP (-8 * ((i : Int) + 1)), x.ok := by
  intro x hx
  have h := of_decide_eq_true (List.all_eq_true.1 (keep_enc ⟨i, hi⟩) x hx)
  exact ⟨h.1, by have := h.2.1; omega, by have := h.2.2; omega⟩
theorem keep_goes {i : Nat} (hi : i < 30) {v : Int} (hv : U v) (mem : List Int) (hmem : mem = loadM (bytesL (wordsL (keepP (-8 * ((i : Int) + 1))))) 304) :
    ∃ r', Goes ⟨loadS 0 (bytesL (wordsL (keepP (-8 * ((i : Int) + 1))))) 48 304, [v], []⟩ 11 r' ∧ r'.s.state = 0 ∧ r'.s.x.getD 5 0 = v ∧ r'.s.x.getD 6 0 = v % 256 ∧ r'.s.x.getD 7 0 = Still.ext8 (v % 256) ∧ r'.s.f.getD 2 0 = r'.s.f.getD 1 0 ∧ r'.s.x.getD 8 0 = v % 256 := by
  obtain ⟨X, hb, hX0, hX2⟩ : ∃ X : Nat → Int, Is (loadM (bytesL (wordsL (keepP (-8 * ((i : Int) + 1))))) 304) ⟨loadS 0 (bytesL (wordsL (keepP (-8 * ((i : Int) + 1))))) 48 304, [v], []⟩ X 0 [v] [] ∧ X 0 = 0 ∧ X 2 = 304 := ⟨_, boot_is (keepP (-8 * ((i : Int) + 1))) [v] 48 304, rfl, rfl⟩
  have hok := keep_ok hi
  have hu := hv
  have hu' : 0 ≤ v ∧ v ≤ 4294967295 := hv
  have hl : (keepP (-8 * ((i : Int) + 1))).length = 11 := rfl
  have ml : mem.length = 304 := by rw [hmem]; exact loadM_length _ _ (by rw [bytesL_length, wordsL_length, hl]; decide)
  rw [← hmem] at hb
  have h0 : At ⟨loadS 0 (bytesL (wordsL (keepP (-8 * ((i : Int) + 1))))) 48 304, [v], []⟩ (keepP (-8 * ((i : Int) + 1))) mem 0 X (fun _ => 0) [v] := by
    refine ⟨hb.mem, fun j hj => ?_, by rw [hl, ml]; decide, by rw [hl]; decide, hb.len, rfl, hb.reg, fun j => ?_, hb.pc, hb.run, hb.inp, hok⟩
    · have g : (wordsL (keepP (-8 * ((i : Int) + 1)))).getD j 0 = ((keepP (-8 * ((i : Int) + 1)))[j]).word := by simp [wordsL, List.getD_eq_getElem?_getD, hj]
      rw [hmem, load_word _ _ _ (by simpa [wordsL] using hj) (by rw [g]; exact insW_u _ _ _ _ _), g]
    · show (List.replicate 32 (0 : Int)).getD j 0 = 0
      rw [List.getD_eq_getElem?_getD, List.getElem?_replicate]
      split <;> rfl
  obtain ⟨a, ha⟩ : ∃ a : Nat, (304 + -8 * ((i : Int) + 1)) = (a : Int) := ⟨(304 + -8 * ((i : Int) + 1)).toNat, by omega⟩
  have ba : a % 8 = 0 ∧ 64 ≤ a ∧ a ≤ 296 := by omega
  have e2 : ((304 : Int) + -8 * ((i : Int) + 1)) % 4294967296 = (a : Int) := by omega
  have e3 : ((304 : Int) + (-8 * ((i : Int) + 1) + 1)) % 4294967296 = ((a + 1 : Nat) : Int) := by omega
  obtain ⟨r1, s1, h1⟩ := at_addi h0 (d := 17) (e := 0) (n := 2) (by decide) rfl
  obtain ⟨r2, s2, h2⟩ := at_get h1 (by simp [upd, hX0]) rfl rfl
  obtain ⟨r3, s3, h3⟩ := at_sw h2 rfl (e := 2) (f := 10) (a := a) (n := -8 * ((i : Int) + 1)) (by show (X 2 + _) % 4294967296 = _; rw [hX2]; exact e2) (by omega) (by rw [hl]; omega) (by omega) rfl
  have x10 : (upd (upd X 17 ((X 0 + 2 % 4294967296) % 4294967296)) 10 v) 10 = v := by simp [upd]
  rw [x10] at h3
  have l1 : (putN mem a v 4).length = 304 := by rw [putN_length, ml]
  have gw : getN (putN mem a v 4) a 4 = v := by rw [getN_putN mem a v 4 (by omega) 4 (Nat.le_refl _)]; show v % 256 ^ 4 = v; rw [show (256 : Int) ^ 4 = 4294967296 from rfl]; omega
  have gb : (putN mem a v 4).getD a 0 = v % 256 := by
    rw [putN_getD mem a v 4 a (by omega), if_pos ⟨Nat.le_refl _, by omega⟩, Nat.sub_self]
    simp
  generalize putN mem a v 4 = m1 at *
  obtain ⟨r4, s4, h4⟩ := at_lw h3 (d := 5) (e := 2) (a := a) (n := -8 * ((i : Int) + 1)) (by decide) (by show (X 2 + _) % 4294967296 = _; rw [hX2]; exact e2) (by omega) (by omega) rfl
  obtain ⟨r5, s5, h5⟩ := at_lbu h4 (d := 6) (e := 2) (a := a) (n := -8 * ((i : Int) + 1)) (by decide) (by show (X 2 + _) % 4294967296 = _; rw [hX2]; exact e2) (by omega) rfl
  obtain ⟨r6, s6, h6⟩ := at_lb h5 (d := 7) (e := 2) (a := a) (n := -8 * ((i : Int) + 1)) (by decide) (by show (X 2 + _) % 4294967296 = _; rw [hX2]; exact e2) (by omega) rfl
  obtain ⟨r7, s7, h7⟩ := at_cvt h6 rfl (d := 1) (e := 10) (by decide) rfl
  rw [gw, gb] at h7
  obtain ⟨c, hc⟩ : ∃ c, canV (floatOfInt .f64 (sgn v)) = c := ⟨_, rfl⟩
  have uc : U64 c := by rw [← hc]; exact canV_U (cvt_U _)
  have cc : canV c.toNat = c := by rw [← hc]; exact canV_again _
  obtain ⟨X7, F7, g7, q0, q2, q5, q6, q7, q1⟩ : ∃ X7 F7 : Nat → Int, At r7 (keepP (-8 * ((i : Int) + 1))) m1 7 X7 F7 [] ∧ X7 0 = 0 ∧ X7 2 = 304 ∧ X7 5 = v ∧ X7 6 = v % 256 ∧ X7 7 = Still.ext8 (v % 256) ∧ F7 1 = c :=
    ⟨_, _, h7, rfl, hX2, by simp [upd], by simp [upd], by simp [upd], by rw [← hc]; simp [updF, upd]⟩
  have E2 : (X7 2 + -8 * ((i : Int) + 1)) % 4294967296 = (a : Int) := by rw [q2]; exact e2
  have E3 : (X7 2 + (-8 * ((i : Int) + 1) + 1)) % 4294967296 = ((a + 1 : Nat) : Int) := by rw [q2]; exact e3
  obtain ⟨r8, s8, h8⟩ := at_fsd g7 q0 (e := 2) (f := 1) (a := a) (n := -8 * ((i : Int) + 1)) E2 (by omega) (by rw [hl]; omega) (by omega) rfl
  rw [q1] at h8
  have gr : getN (putN m1 a c 8) a 8 = c := by
    rw [getN_putN m1 a c 8 (by omega) 8 (Nat.le_refl _)]
    have h1 := uc.1
    have h2 := uc.2
    rw [show (256 : Int) ^ 8 = 18446744073709551616 from by decide]
    omega
  have l2 : (putN m1 a c 8).length = 304 := by rw [putN_length, l1]
  generalize putN m1 a c 8 = m2 at *
  obtain ⟨r9, s9, h9⟩ := at_fld h8 q0 (d := 2) (e := 2) (a := a) (n := -8 * ((i : Int) + 1)) (by decide) E2 (by omega) (by omega) rfl
  rw [gr, cc] at h9
  obtain ⟨r10, s10, h10⟩ := at_sb h9 q0 (e := 2) (f := 6) (a := a + 1) (n := -8 * ((i : Int) + 1) + 1) E3 (by rw [hl]; omega) (by omega) rfl
  rw [q6] at h10
  have gs : (m2.set (a + 1) (v % 256 % 256)).getD (a + 1) 0 = v % 256 := by rw [getD_set, if_pos ⟨rfl, by omega⟩]; omega
  obtain ⟨r11, s11, h11⟩ := at_lbu h10 (d := 8) (e := 2) (a := a + 1) (n := -8 * ((i : Int) + 1) + 1) (by decide) E3 (by rw [List.length_set]; omega) rfl
  rw [gs] at h11
  refine ⟨r11, ?_, h11.run, by rw [h11.reg]; simpa [upd] using q5, by rw [h11.reg]; simpa [upd] using q6, by rw [h11.reg]; simpa [upd] using q7, by rw [h11.fre, h11.fre]; simpa [updF] using q1.symm, by rw [h11.reg]; simp [upd]⟩
  exact (Goes.one h0.run s1).trans ((Goes.one h1.run s2).trans ((Goes.one h2.run s3).trans ((Goes.one h3.run s4).trans ((Goes.one h4.run s5).trans ((Goes.one h5.run s6).trans ((Goes.one h6.run s7).trans ((Goes.one g7.run s8).trans ((Goes.one h8.run s9).trans ((Goes.one h9.run s10).trans (Goes.one h10.run s11))))))))))
theorem ext_i8 (v : Int) : Still.ext8 (v % 256) = wrap32 (IntKind.i8.wrap v) % 4294967296 := by
  have e : IntKind.i8.wrap v = (v + 128) % 256 - 128 := by simp [IntKind.wrap, IntKind.bits, IntKind.signed]; omega
  rw [e]
  unfold Still.ext8 wrap32
  split <;> omega
theorem keepP_len (off : Int) : (keepP off).length = 11 := rfl
set_option maxHeartbeats 2000000 in
theorem Real_calls {w : World} {M B K N : Nat} {s : MS} (hm : Mac w M B K s N) (r : Nat) (hr : r < 32) : Calls Try.prog 16 #[.pointer (some ⟨M, 0, none⟩), .int .i64 r] w fun e w' => e = .returned (.int .u64 (s.f.getD r 0)) ∧ Kp w w' := by
  have hc := hm.cf hr
  have hl := hm.m.lt
  obtain ⟨q, hq⟩ : ∃ q, Aside (s.f.getD r 0 = q) := ⟨_, ⟨rfl⟩⟩
  rw [hq.out] at hc ⊢
  replace hm := Aside.mk hm
  go_enter Try.func16, Try.ntmps16
  go_wp2_with fail
  all_goals go_ret
  all_goals exact ⟨rfl, by repeat (with_reducible first | exact Kp.refl _ | assumption | exact Dr.kp (by assumption) | refine Kp.drewN ?_ _ | refine Kp.drew ?_ | refine Kp.alloc ?_ _ | refine Kp.setCell ?_ (by first | exact Nat.le_refl _ | assumption | omega) _ | refine Kp.trans ?_ (by assumption) | refine Kp.trans ?_ (Dr.kp (by assumption)))⟩
set_option maxRecDepth 100000 in
set_option maxHeartbeats 1000000 in
theorem keeps_any (v at_ : Int) (hv : U v) (hat : 0 ≤ at_ ∧ at_ ≤ 255) (w : World) : Calls Try.prog 5 #[.int .u32 v, .int .u8 at_] w fun e w' => e = .returned (.bool true) ∧ Kp w w' := by
  obtain ⟨i, hi⟩ : ∃ i : Nat, at_ % 30 = (i : Int) := ⟨(at_ % 30).toNat, by omega⟩
  have i30 : i < 30 := by omega
  obtain ⟨r', hg, hst, x5, x6, x7, f2, x8⟩ := keep_goes i30 hv _ rfl
  have hok := Aside.mk (keep_ok i30)
  replace hi := Aside.mk hi
  replace hg := Aside.mk hg
  go_enter Try.func5, Try.ntmps5
  go_wp2_with fail
  refine Calls.mono (awake04_calls _) ?_
  rintro e w1 ⟨rfl, k1⟩
  go_upto_region 4 with fail
  rw [hi.out]
  obtain ⟨p, hp⟩ : ∃ p, keepP (-8 * ((i : Int) + 1)) = p := ⟨_, rfl⟩
  have bI := Aside.mk (Blk.new w1 (insC (keepP (-8 * ((i : Int) + 1)))).toArray 26)
  have wc := Words_calls (I := w1.heap.size) (c := 11) (keepP (-8 * ((i : Int) + 1))) (by rw [keepP_len]; decide) hok.out bI.out (by rw [keepP_len]; decide)
  have kI : Aside (Kp w (w1.alloc (.cells (insC (keepP (-8 * ((i : Int) + 1)))).toArray 26))) := ⟨k1.alloc _⟩
  rw [keepP_len] at wc
  replace wc := Aside.mk wc
  replace hp := Aside.mk hp
  clear k1
  go_wp2_with fail
  refine Calls.mono wc.out ?_
  rintro e w2 ⟨vv, rfl, k2, hr2⟩
  obtain ⟨A1, n1, c1, rfl⟩ := own_slice hr2
  have hr3 := hr2
  rw [show (11 : Nat) = (wordsL (keepP (-8 * ((i : Int) + 1)))).length from by rw [wordsL_length, keepP_len]] at hr3
  replace kI : Aside (Kp w w2) := ⟨kI.out.trans k2⟩
  replace hr3 := Aside.mk hr3
  clear k2 hr2 bI wc
  go_wp2_with fail
  refine Calls.mono (Bytes_row (wordsL (keepP (-8 * ((i : Int) + 1)))) (by rw [wordsL_length, keepP_len]; decide) (wordsL_U _) hr3.out) ?_
  rintro e w3 ⟨A2, n2, c2, rfl, k2, hr2⟩
  replace hr2 := Aside.mk hr2
  replace kI : Aside (Kp w w3) := ⟨kI.out.trans k2⟩
  clear k2
  go_wp2_with fail
  refine Calls.mono (Load_at 0 256 256 48 304 rfl hr2.out (bytesL_byte _) (by unfold U; decide) (by decide) (by rw [bytesL_length, wordsL_length, keepP_len]; decide) (by rw [bytesL_length, wordsL_length, keepP_len]; decide) (by decide) (by decide)) ?_
  rintro e w7 ⟨M, B, K, rfl, ⟨gM, gB, gK⟩, k7, hma⟩
  have s7 := kI.out.size
  have lM := hma.m.lt
  have lB := hma.b.lt
  have lK := hma.kl
  have hout : w.heap.size ≤ M ∧ w.heap.size ≤ B ∧ w.heap.size ≤ K := by omega
  replace kI : Aside (Kp w w7) := ⟨kI.out.trans k7⟩
  clear k7 gM gB gK
  have bw := Blk.new w7 #[.int .u32 v] 28
  have hw : Words (w7.alloc (.cells #[.int .u32 v] 28)) (w7.alloc (.cells #[.int .u32 v] 28)).heap.size M B K (.slice (some ⟨w7.heap.size, 0, none⟩) 1 1) [v] := by
    refine ⟨⟨some ⟨w7.heap.size, 0, none⟩, 1, rfl, Nat.le_refl _, fun _ => ⟨_, 0, rfl, by rw [sz1]; omega, by omega, by omega, by omega, fun j hj => ?_⟩⟩, by simpa using hv, by simp⟩
    obtain rfl : j = 0 := by simpa using hj
    exact bw.cell 0
  have rc := Run_goes hg.out 11 rfl 11 (.slice (some ⟨w7.heap.size, 0, none⟩) 1 1) (hma.kp ((Kp.refl w7).alloc _)) hw rfl (by decide) (by decide) (Or.inl (by decide)) (by decide)
  rw [hst] at rc
  replace rc := Aside.mk rc
  replace hma := Aside.mk hma
  replace hout := Aside.mk hout
  clear hw s7 bw
  go_wp2_with fail
  refine Calls.mono rc.out ?_
  rintro e w8 ⟨ev, rfl, hmod, hm8, hev8⟩
  obtain ⟨A8, n8, c8, rfl⟩ := own_slice hev8
  have kk8 : Aside (Kp w w8) := ⟨((kI.out.alloc _).mod.behind hmod (S := fun _ => False) (fun k e => Or.inr (by have := hout.out; rcases e with e | e | e <;> omega))).toKp (fun k e => e.elim)⟩
  have c5 := fun W (k : Kp w8 W) => Word_calls (hm8.kp k) 5 (by decide)
  have c6 := fun W (k : Kp w8 W) => Word_calls (hm8.kp k) 6 (by decide)
  have c7 := fun W (k : Kp w8 W) => Word_calls (hm8.kp k) 7 (by decide)
  have c8' := fun W (k : Kp w8 W) => Word_calls (hm8.kp k) 8 (by decide)
  have d1 := fun W (k : Kp w8 W) => Real_calls (hm8.kp k) 1 (by decide)
  have d2 := fun W (k : Kp w8 W) => Real_calls (hm8.kp k) 2 (by decide)
  rw [x5] at c5
  rw [x6] at c6
  rw [x7] at c7
  rw [x8] at c8'
  rw [f2] at d2
  replace c5 := Aside.mk c5
  replace c6 := Aside.mk c6
  replace c7 := Aside.mk c7
  replace c8' := Aside.mk c8'
  replace d1 := Aside.mk d1
  replace d2 := Aside.mk d2
  have ha255 : bits .and .u32 v 255 = v % 256 := u32_and255 hv.1 (by have := hv.2; omega)
  have hx8 := ext_i8 v
  clear hmod hev8 hm8
  go_wp2_with (first | ((go_at_call 15); (first | (with_reducible refine Calls.mono (c5.out _ (by repeat (with_reducible first | exact Kp.refl _ | assumption | exact Dr.kp (by assumption) | refine Kp.drewN ?_ _ | refine Kp.drew ?_ | refine Kp.alloc ?_ _ | refine Kp.setCell ?_ (by first | exact Nat.le_refl _ | assumption | omega) _ | refine Kp.trans ?_ (by assumption) | refine Kp.trans ?_ (Dr.kp (by assumption))))) ?_) | (with_reducible refine Calls.mono (c6.out _ (by repeat (with_reducible first | exact Kp.refl _ | assumption | exact Dr.kp (by assumption) | refine Kp.drewN ?_ _ | refine Kp.drew ?_ | refine Kp.alloc ?_ _ | refine Kp.setCell ?_ (by first | exact Nat.le_refl _ | assumption | omega) _ | refine Kp.trans ?_ (by assumption) | refine Kp.trans ?_ (Dr.kp (by assumption))))) ?_) | (with_reducible refine Calls.mono (c7.out _ (by repeat (with_reducible first | exact Kp.refl _ | assumption | exact Dr.kp (by assumption) | refine Kp.drewN ?_ _ | refine Kp.drew ?_ | refine Kp.alloc ?_ _ | refine Kp.setCell ?_ (by first | exact Nat.le_refl _ | assumption | omega) _ | refine Kp.trans ?_ (by assumption) | refine Kp.trans ?_ (Dr.kp (by assumption))))) ?_) | (with_reducible refine Calls.mono (c8'.out _ (by repeat (with_reducible first | exact Kp.refl _ | assumption | exact Dr.kp (by assumption) | refine Kp.drewN ?_ _ | refine Kp.drew ?_ | refine Kp.alloc ?_ _ | refine Kp.setCell ?_ (by first | exact Nat.le_refl _ | assumption | omega) _ | refine Kp.trans ?_ (by assumption) | refine Kp.trans ?_ (Dr.kp (by assumption))))) ?_)); (rintro e w9 ⟨rfl, k9⟩)) | ((go_at_call 16); (first | (with_reducible refine Calls.mono (d2.out _ (by repeat (with_reducible first | exact Kp.refl _ | assumption | exact Dr.kp (by assumption) | refine Kp.drewN ?_ _ | refine Kp.drew ?_ | refine Kp.alloc ?_ _ | refine Kp.setCell ?_ (by first | exact Nat.le_refl _ | assumption | omega) _ | refine Kp.trans ?_ (by assumption) | refine Kp.trans ?_ (Dr.kp (by assumption))))) ?_) | (with_reducible refine Calls.mono (d1.out _ (by repeat (with_reducible first | exact Kp.refl _ | assumption | exact Dr.kp (by assumption) | refine Kp.drewN ?_ _ | refine Kp.drew ?_ | refine Kp.alloc ?_ _ | refine Kp.setCell ?_ (by first | exact Nat.le_refl _ | assumption | omega) _ | refine Kp.trans ?_ (by assumption) | refine Kp.trans ?_ (Dr.kp (by assumption))))) ?_)); (rintro e w9 ⟨rfl, k9⟩)))
  all_goals go_ret
  all_goals exact ⟨rfl, kk8.out.trans (by repeat (with_reducible first | exact Kp.refl _ | assumption | exact Dr.kp (by assumption) | refine Kp.drewN ?_ _ | refine Kp.drew ?_ | refine Kp.alloc ?_ _ | refine Kp.setCell ?_ (by first | exact Nat.le_refl _ | assumption | omega) _ | refine Kp.trans ?_ (by assumption) | refine Kp.trans ?_ (Dr.kp (by assumption))))⟩
theorem keeps_law (v a : Int) (w0 : (Lit.int .u32 v).wf = true) (w1 : (Lit.int .u8 a).wf = true) (w : World) : Calls Try.prog 5 #[.int .u32 v, .int .u8 a] w fun e w' => e = .returned (.bool true) ∧ Below w.heap.size w w' :=
  (keeps_any v a (U_of w0) (bounds_u8 w1) w).mono fun _ _ ⟨he, hk⟩ => ⟨he, hk.out⟩
end Go.Proofs.Ytgcihcgclmdolaa
