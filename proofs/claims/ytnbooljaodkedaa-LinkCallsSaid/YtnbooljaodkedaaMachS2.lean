/- Steps of the machine, walked, by their kinds. Conditions stand at each. -/
import Derived.Test.YtnbooljaodkedaaMachT
namespace Go.Proofs.Ytnbooljaodkedaa
open Go.RowKit Go.Maps Go.Proofs.Ytnbooljaodkedaa.PC Go.Proofs.Ytnbooljaodkedaa.PW
set_option linter.unusedVariables false
set_option linter.unusedSimpArgs false
set_option maxRecDepth 100000 in
set_option maxHeartbeats 4000000 in
theorem step_jal {w : World} {b1 b2 R M B K N : Nat} {r : RS} (h : Rat w b1 R M B K r N) (hN : N < 999999999) (hin : r.s.inside) {n : Int} {d e f : Nat} (hd : DecR r.s.here 40 d e f n 0) :
    Calls Try.prog 41 #[.pointer (some ⟨R, 0, none⟩)] w fun e' w' => e' = .returned (.tuple #[]) ∧ Mod (SR b1 b2 M B K) w w' ∧ Rat w' b1 R M B K ((r.on (r.s.setx d ((r.s.pc + 4) % 4294967296))).fin ((r.s.pc + n) % 4294967296)) (N + 1) := by
  obtain ⟨⟨o1, o2⟩, d1, e1, f1⟩ := decR_ops hd
  have fo := fetch_ok h.mac (by omega) hin hd
  unfold insV at fo
  replace fo := Aside.mk fo
  replace hin := Aside.mk hin
  replace hd := Aside.mk hd
  obtain ⟨iv, ev, -, -, -, -, rl, r0, -, -⟩ := h.facts
  replace h := Aside.mk h
  go_enter Try.func41, Try.ntmps41
  go_upto_region 1 with ((go_at_call 58); (refine Calls.mono fo.out ?_); (rintro e' w1 ⟨rfl, hm1, hM1⟩))
  have hR1 := h.out.turn hm1 (fun k hk => Or.inr (Or.inr hk)) hM1 (Nat.le_succ N)
  have hkT : Mod (fun k => k = K) w w1 := hm1
  have hk1 : Mod (SR b1 b2 M B K) w w1 := hm1.mono (fun k _ hk => Or.inr (Or.inr (Or.inl hk)))
  have hi1 := Blk.new w1 #[.int .i64 40, .int .i64 (d : Int), .int .i64 (e : Int), .int .i64 (f : Int), .int .i64 n] 40
  have hR2 := hR1.kp ((Kp.refl w1).alloc (.cells #[.int .i64 40, .int .i64 (d : Int), .int .i64 (e : Int), .int .i64 (f : Int), .int .i64 n] 40))
  have hk2 := Aside.mk (hk1.alloc (.cells #[.int .i64 40, .int .i64 (d : Int), .int .i64 (e : Int), .int .i64 (f : Int), .int .i64 n] 40))
  have nqe : Aside (M ≠ w1.heap.size ∧ B ≠ w1.heap.size ∧ K ≠ w1.heap.size ∧ R ≠ w1.heap.size) := ⟨by
    have h1 := hM1.m.lt
    have h2 := hM1.b.lt
    have h3 := hM1.kl
    have h4 : R < w1.heap.size := Nat.lt_of_lt_of_le rl hm1.size
    omega⟩
  generalize w1.alloc (.cells #[.int .i64 40, .int .i64 (d : Int), .int .i64 (e : Int), .int .i64 (f : Int), .int .i64 n] 40) = W at *
  generalize w1.heap.size = q at *
  clear hk1 hm1 hM1 hR1 rl r0 iv ev
  obtain ⟨il, i0, i1, i2, i3, i4, -⟩ := hi1.five
  obtain ⟨iv, ev, -, -, -, -, rl, r0, -, -⟩ := hR2.facts
  obtain ⟨lm, lb, -, c65, -, -, -⟩ := hR2.mac.facts
  have ce := hR2.mac.cx (r := e) (by omega)
  have cf := hR2.mac.cx (r := f) (by omega)
  have e0 : (0 : Int) ≤ (e : Int) := by omega
  have e2 : (e : Int) < 32 := by omega
  have f0 : (0 : Int) ≤ (f : Int) := by omega
  have f2 : (f : Int) < 32 := by omega
  replace hR2 := Aside.mk hR2
  replace hi1 := Aside.mk hi1
  go_quiet ((go_at_call 59; exact Calls.quiet_of_same (wof_still _ _)))
  go_upto_block 0 with fail
  have hi2 := hi1.out.kp ((Kp.refl W).drewN nq)
  have hR3 := hR2.out.kp ((Kp.refl W).drewN nq)
  replace hk2 := Aside.mk (hk2.out.drewN nq)
  clear hi1 hR2 il i0 i1 i2 i3 i4 rl r0 lm lb c65 ce cf iv ev
  generalize W.drewN nq = W2 at *
  have u1 : U (r.s.x.getD e 0) := getD_U hR3.mac.ok.ux e
  have u2 : U (r.s.x.getD f 0) := getD_U hR3.mac.ok.ux f
  have u3 : U r.s.pc := hR3.mac.ok.up
  obtain ⟨il, i0, i1, i2, i3, i4, -⟩ := hi2.five
  obtain ⟨iv, ev, -, -, -, -, rl, r0, -, -⟩ := hR3.facts
  obtain ⟨lm, lb, -, c65, -, -, -⟩ := hR3.mac.facts
  have cd := hR3.mac.cx (r := d) (by omega)
  have fd := hR3.mac.m.frozen (1 + d)
  have d0 : (0 : Int) ≤ (d : Int) := by omega
  have d2 : (d : Int) < 32 := by omega
  have nMR : M ≠ R := by have h1 := h.out.lR; have h2 := h.out.lM; omega
  have nMq : M ≠ q := nqe.out.1
  have ho := Aside.mk hR3.mac.ok
  replace hR3 := Aside.mk hR3
  replace hi2 := Aside.mk hi2
  go_cut [6] (fun s wx => s = .int .u32 ((r.s.pc + n) % 4294967296) ∧ Mod (SR b1 b2 M B K) w wx ∧ Rat wx b1 R M B K (r.on (r.s.setx d ((r.s.pc + 4) % 4294967296))) (N + 1))
  case first =>
    have wl : IntKind.u32.wrap (r.s.pc + n % 4294967296) = (r.s.pc + n) % 4294967296 := by rw [IntKind.wrap_u32]; omega
    go_wp2_with fail
    go_region_held3 (fun w' => w'.cell? ⟨R, 0, none⟩ = some (.pointer (some ⟨M, 0, none⟩)) ∧ w'.cell? ⟨q, 1, none⟩ = some (.int .i64 d) ∧ w'.cell? ⟨M, 65, none⟩ = some (.int .u32 r.s.pc)) (first | (go_keep; done) | exact ⟨sc_cell nMR r0, sc_cell nMq i1, sc65 (by omega) c65⟩) (fail)
    go_wp2
    go_meet
    have h4 := hR3.out.setM (i := 1 + d) (v := .int .u32 ((r.s.pc + 4) % 4294967296)) (s' := r.s.setx d ((r.s.pc + 4) % 4294967296)) (set_x ho.out (by omega) _) rfl (ok_x ho.out d (U_mod _))
    exact ⟨rfl, (hk2.out.setCell (p := ⟨M, 1 + d, none⟩) (Or.inl rfl) _).drew, h4.kp ((Kp.refl _).drew)⟩
  case rest =>
    clear hR3 hi2 il i0 i1 i2 i3 i4 rl r0 lm lb c65 cd fd hk2 iv ev
    obtain ⟨rfl, hm3, hR4⟩ := hcut
    obtain ⟨iv, ev, -, -, -, -, rl, r0, -, -⟩ := hR4.facts
    obtain ⟨lm, lb, -, c65, -, -, -⟩ := hR4.mac.facts
    have c1 := hR4.mac.cx (r := 0) (by decide)
    have f1' := hR4.mac.m.frozen 1
    have f65 := hR4.mac.m.frozen 65
    have g0 := sc0 (i := 1) (v := .int .u32 0) nMR r0
    have g65 := sc0' (i := 1) (j := 65) (v := .int .u32 0) (b := M) (by decide) c65
    have hU : U ((r.s.pc + n) % 4294967296) := by first | exact U_mod _ | exact U_mod' _
    replace hR4 := Aside.mk hR4
    replace hm3 := Aside.mk hm3
    simp only [Nat.add_zero] at c1
    go_wp2
    go_end0
    exact ⟨rfl, (hm3.out.setCell (p := ⟨M, 1, none⟩) (Or.inl rfl) _).setCell (p := ⟨M, 65, none⟩) (Or.inl rfl) _, hR4.out.done hU⟩
set_option maxRecDepth 100000 in
set_option maxHeartbeats 4000000 in
theorem step_jalr {w : World} {b1 b2 R M B K N : Nat} {r : RS} (h : Rat w b1 R M B K r N) (hN : N < 999999999) (hin : r.s.inside) {n : Int} {d e f : Nat} (hd : DecR r.s.here 41 d e f n 0) :
    Calls Try.prog 41 #[.pointer (some ⟨R, 0, none⟩)] w fun e' w' => e' = .returned (.tuple #[]) ∧ Mod (SR b1 b2 M B K) w w' ∧ Rat w' b1 R M B K ((r.on (r.s.setx d ((r.s.pc + 4) % 4294967296))).fin ((r.s.x.getD e 0 + n) % 4294967296 / 2 * 2)) (N + 1) := by
  obtain ⟨⟨o1, o2⟩, d1, e1, f1⟩ := decR_ops hd
  have fo := fetch_ok h.mac (by omega) hin hd
  unfold insV at fo
  replace fo := Aside.mk fo
  replace hin := Aside.mk hin
  replace hd := Aside.mk hd
  obtain ⟨iv, ev, -, -, -, -, rl, r0, -, -⟩ := h.facts
  replace h := Aside.mk h
  go_enter Try.func41, Try.ntmps41
  go_upto_region 1 with ((go_at_call 58); (refine Calls.mono fo.out ?_); (rintro e' w1 ⟨rfl, hm1, hM1⟩))
  have hR1 := h.out.turn hm1 (fun k hk => Or.inr (Or.inr hk)) hM1 (Nat.le_succ N)
  have hkT : Mod (fun k => k = K) w w1 := hm1
  have hk1 : Mod (SR b1 b2 M B K) w w1 := hm1.mono (fun k _ hk => Or.inr (Or.inr (Or.inl hk)))
  have hi1 := Blk.new w1 #[.int .i64 41, .int .i64 (d : Int), .int .i64 (e : Int), .int .i64 (f : Int), .int .i64 n] 40
  have hR2 := hR1.kp ((Kp.refl w1).alloc (.cells #[.int .i64 41, .int .i64 (d : Int), .int .i64 (e : Int), .int .i64 (f : Int), .int .i64 n] 40))
  have hk2 := Aside.mk (hk1.alloc (.cells #[.int .i64 41, .int .i64 (d : Int), .int .i64 (e : Int), .int .i64 (f : Int), .int .i64 n] 40))
  have nqe : Aside (M ≠ w1.heap.size ∧ B ≠ w1.heap.size ∧ K ≠ w1.heap.size ∧ R ≠ w1.heap.size) := ⟨by
    have h1 := hM1.m.lt
    have h2 := hM1.b.lt
    have h3 := hM1.kl
    have h4 : R < w1.heap.size := Nat.lt_of_lt_of_le rl hm1.size
    omega⟩
  generalize w1.alloc (.cells #[.int .i64 41, .int .i64 (d : Int), .int .i64 (e : Int), .int .i64 (f : Int), .int .i64 n] 40) = W at *
  generalize w1.heap.size = q at *
  clear hk1 hm1 hM1 hR1 rl r0 iv ev
  obtain ⟨il, i0, i1, i2, i3, i4, -⟩ := hi1.five
  obtain ⟨iv, ev, -, -, -, -, rl, r0, -, -⟩ := hR2.facts
  obtain ⟨lm, lb, -, c65, -, -, -⟩ := hR2.mac.facts
  have ce := hR2.mac.cx (r := e) (by omega)
  have cf := hR2.mac.cx (r := f) (by omega)
  have e0 : (0 : Int) ≤ (e : Int) := by omega
  have e2 : (e : Int) < 32 := by omega
  have f0 : (0 : Int) ≤ (f : Int) := by omega
  have f2 : (f : Int) < 32 := by omega
  replace hR2 := Aside.mk hR2
  replace hi1 := Aside.mk hi1
  go_quiet ((go_at_call 59; exact Calls.quiet_of_same (wof_still _ _)))
  go_upto_block 0 with fail
  have hi2 := hi1.out.kp ((Kp.refl W).drewN nq)
  have hR3 := hR2.out.kp ((Kp.refl W).drewN nq)
  replace hk2 := Aside.mk (hk2.out.drewN nq)
  clear hi1 hR2 il i0 i1 i2 i3 i4 rl r0 lm lb c65 ce cf iv ev
  generalize W.drewN nq = W2 at *
  have u1 : U (r.s.x.getD e 0) := getD_U hR3.mac.ok.ux e
  have u2 : U (r.s.x.getD f 0) := getD_U hR3.mac.ok.ux f
  have u3 : U r.s.pc := hR3.mac.ok.up
  obtain ⟨il, i0, i1, i2, i3, i4, -⟩ := hi2.five
  obtain ⟨iv, ev, -, -, -, -, rl, r0, -, -⟩ := hR3.facts
  obtain ⟨lm, lb, -, c65, -, -, -⟩ := hR3.mac.facts
  have cd := hR3.mac.cx (r := d) (by omega)
  have fd := hR3.mac.m.frozen (1 + d)
  have d0 : (0 : Int) ≤ (d : Int) := by omega
  have d2 : (d : Int) < 32 := by omega
  have nMR : M ≠ R := by have h1 := h.out.lR; have h2 := h.out.lM; omega
  have nMq : M ≠ q := nqe.out.1
  have ho := Aside.mk hR3.mac.ok
  replace hR3 := Aside.mk hR3
  replace hi2 := Aside.mk hi2
  go_cut [6] (fun s wx => s = .int .u32 ((r.s.x.getD e 0 + n) % 4294967296 / 2 * 2) ∧ Mod (SR b1 b2 M B K) w wx ∧ Rat wx b1 R M B K (r.on (r.s.setx d ((r.s.pc + 4) % 4294967296))) (N + 1))
  case first =>
    have an := Aside.mk (andNot1 (U_mod (r.s.x.getD e 0 + n)))
    have wl : Aside (IntKind.u32.wrap (r.s.x.getD e 0 + n % 4294967296) = (r.s.x.getD e 0 + n) % 4294967296) := ⟨by rw [IntKind.wrap_u32]; omega⟩
    go_wp2_with fail
    go_region_held3 (fun w' => w'.cell? ⟨R, 0, none⟩ = some (.pointer (some ⟨M, 0, none⟩)) ∧ w'.cell? ⟨q, 1, none⟩ = some (.int .i64 d)) (first | (go_keep; done) | exact ⟨sc_cell nMR r0, sc_cell nMq i1⟩) (fail)
    go_wp2
    go_meet
    have h4 := hR3.out.setM (i := 1 + d) (v := .int .u32 ((r.s.pc + 4) % 4294967296)) (s' := r.s.setx d ((r.s.pc + 4) % 4294967296)) (set_x ho.out (by omega) _) rfl (ok_x ho.out d (U_mod _))
    rw [← List.getD_eq_getElem?_getD, wl.out, an.out]
    exact ⟨rfl, (hk2.out.setCell (p := ⟨M, 1 + d, none⟩) (Or.inl rfl) _).drew, h4.kp ((Kp.refl _).drew)⟩
  case rest =>
    clear hR3 hi2 il i0 i1 i2 i3 i4 rl r0 lm lb c65 cd fd hk2 iv ev
    obtain ⟨rfl, hm3, hR4⟩ := hcut
    obtain ⟨iv, ev, -, -, -, -, rl, r0, -, -⟩ := hR4.facts
    obtain ⟨lm, lb, -, c65, -, -, -⟩ := hR4.mac.facts
    have c1 := hR4.mac.cx (r := 0) (by decide)
    have f1' := hR4.mac.m.frozen 1
    have f65 := hR4.mac.m.frozen 65
    have g0 := sc0 (i := 1) (v := .int .u32 0) nMR r0
    have g65 := sc0' (i := 1) (j := 65) (v := .int .u32 0) (b := M) (by decide) c65
    have hU : U ((r.s.x.getD e 0 + n) % 4294967296 / 2 * 2) := by first | exact U_mod _ | exact U_mod' _
    replace hR4 := Aside.mk hR4
    replace hm3 := Aside.mk hm3
    simp only [Nat.add_zero] at c1
    go_wp2
    go_end0
    exact ⟨rfl, (hm3.out.setCell (p := ⟨M, 1, none⟩) (Or.inl rfl) _).setCell (p := ⟨M, 65, none⟩) (Or.inl rfl) _, hR4.out.done hU⟩
set_option maxRecDepth 100000 in
set_option maxHeartbeats 4000000 in
theorem step_ecall {w : World} {b1 b2 R M B K N : Nat} {r : RS} (h : Rat w b1 R M B K r N) (hN : N < 999999999) (hin : r.s.inside) {n : Int} {d e f : Nat} (hd : DecR r.s.here 42 d e f n 0) {r' : RS} (hT : TopB w R M b2) (hc : ∀ (W : World) (N' : Nat), Rat W b1 R M B K r N' → TopB W R M b2 → N' < 1000000000 → Calls Try.prog 64 #[.pointer (some ⟨R, 0, none⟩)] W fun e' w' => e' = .returned (.tuple #[]) ∧ Mod (SR b1 b2 M B K) W w' ∧ Rat w' b1 R M B K r' (N' + 1)) (hpc : r'.s.pc = r.s.pc) :
    Calls Try.prog 41 #[.pointer (some ⟨R, 0, none⟩)] w fun e' w' => e' = .returned (.tuple #[]) ∧ Mod (SR b1 b2 M B K) w w' ∧ Rat w' b1 R M B K ((r').fin ((r.s.pc + 4) % 4294967296)) (N + 2) := by
  obtain ⟨⟨o1, o2⟩, d1, e1, f1⟩ := decR_ops hd
  have fo := fetch_ok h.mac (by omega) hin hd
  unfold insV at fo
  replace fo := Aside.mk fo
  replace hc := Aside.mk hc
  replace hT := Aside.mk hT
  replace hin := Aside.mk hin
  replace hd := Aside.mk hd
  obtain ⟨iv, ev, -, -, -, -, rl, r0, -, -⟩ := h.facts
  replace h := Aside.mk h
  go_enter Try.func41, Try.ntmps41
  go_upto_region 1 with ((go_at_call 58); (refine Calls.mono fo.out ?_); (rintro e' w1 ⟨rfl, hm1, hM1⟩))
  have hR1 := h.out.turn hm1 (fun k hk => Or.inr (Or.inr hk)) hM1 (Nat.le_succ N)
  have hT1 := hT.out.mod hm1 (show ¬(R = K) by have := h.out.lR; have := h.out.lK; omega) rl
  have hT2 := Aside.mk (hT1.kp ((Kp.refl w1).alloc (.cells #[.int .i64 42, .int .i64 (d : Int), .int .i64 (e : Int), .int .i64 (f : Int), .int .i64 n] 40)) (Nat.lt_of_lt_of_le rl hm1.size))
  clear hT1
  have hk1 : Mod (SR b1 b2 M B K) w w1 := hm1.mono (fun k _ hk => Or.inr (Or.inr (Or.inl hk)))
  have hi1 := Blk.new w1 #[.int .i64 42, .int .i64 (d : Int), .int .i64 (e : Int), .int .i64 (f : Int), .int .i64 n] 40
  have hR2 := hR1.kp ((Kp.refl w1).alloc (.cells #[.int .i64 42, .int .i64 (d : Int), .int .i64 (e : Int), .int .i64 (f : Int), .int .i64 n] 40))
  have hk2 := Aside.mk (hk1.alloc (.cells #[.int .i64 42, .int .i64 (d : Int), .int .i64 (e : Int), .int .i64 (f : Int), .int .i64 n] 40))
  have nqe : Aside (M ≠ w1.heap.size ∧ B ≠ w1.heap.size ∧ K ≠ w1.heap.size ∧ R ≠ w1.heap.size) := ⟨by
    have h1 := hM1.m.lt
    have h2 := hM1.b.lt
    have h3 := hM1.kl
    have h4 : R < w1.heap.size := Nat.lt_of_lt_of_le rl hm1.size
    omega⟩
  generalize w1.alloc (.cells #[.int .i64 42, .int .i64 (d : Int), .int .i64 (e : Int), .int .i64 (f : Int), .int .i64 n] 40) = W at *
  generalize w1.heap.size = q at *
  clear hk1 hm1 hM1 hR1 rl r0 iv ev
  obtain ⟨il, i0, i1, i2, i3, i4, -⟩ := hi1.five
  obtain ⟨iv, ev, -, -, -, -, rl, r0, -, -⟩ := hR2.facts
  obtain ⟨lm, lb, -, c65, -, -, -⟩ := hR2.mac.facts
  have ce := hR2.mac.cx (r := e) (by omega)
  have cf := hR2.mac.cx (r := f) (by omega)
  have e0 : (0 : Int) ≤ (e : Int) := by omega
  have e2 : (e : Int) < 32 := by omega
  have f0 : (0 : Int) ≤ (f : Int) := by omega
  have f2 : (f : Int) < 32 := by omega
  replace hR2 := Aside.mk hR2
  replace hi1 := Aside.mk hi1
  go_quiet ((go_at_call 59; exact Calls.quiet_of_same (wof_still _ _)))
  go_upto_block 0 with fail
  replace hT2 := Aside.mk (hT2.out.kp ((Kp.refl W).drewN nq) rl)
  have hi2 := hi1.out.kp ((Kp.refl W).drewN nq)
  have hR3 := hR2.out.kp ((Kp.refl W).drewN nq)
  replace hk2 := Aside.mk (hk2.out.drewN nq)
  clear hi1 hR2 il i0 i1 i2 i3 i4 rl r0 lm lb c65 ce cf iv ev
  generalize W.drewN nq = W2 at *
  have u1 : U (r.s.x.getD e 0) := getD_U hR3.mac.ok.ux e
  have u2 : U (r.s.x.getD f 0) := getD_U hR3.mac.ok.ux f
  have u3 : U r.s.pc := hR3.mac.ok.up
  obtain ⟨il, i0, i1, i2, i3, i4, -⟩ := hi2.five
  obtain ⟨iv, ev, -, -, -, -, rl, r0, -, -⟩ := hR3.facts
  obtain ⟨lm, lb, -, c65, -, -, -⟩ := hR3.mac.facts
  have cd := hR3.mac.cx (r := d) (by omega)
  have fd := hR3.mac.m.frozen (1 + d)
  have d0 : (0 : Int) ≤ (d : Int) := by omega
  have d2 : (d : Int) < 32 := by omega
  have nMR : M ≠ R := by have h1 := h.out.lR; have h2 := h.out.lM; omega
  have nMq : M ≠ q := nqe.out.1
  have ho := Aside.mk hR3.mac.ok
  replace hR3 := Aside.mk hR3
  replace hi2 := Aside.mk hi2
  go_cut [6] (fun s wx => s = .int .u32 ((r.s.pc + 4) % 4294967296) ∧ Mod (SR b1 b2 M B K) w wx ∧ Rat wx b1 R M B K (r') (N + 2))
  case first =>
    have mc := Aside.mk (hc.out _ _ hR3.out (hT2.out) (by omega))
    go_wp2_with ((go_at_call 64); (refine Calls.mono mc.out ?_); (rintro e' w3 ⟨rfl, hm3, hR4⟩))
    go_meet
    exact ⟨rfl, hk2.out.trans hm3, hR4⟩
  case rest =>
    clear hR3 hi2 il i0 i1 i2 i3 i4 rl r0 lm lb c65 cd fd hk2 iv ev
    obtain ⟨rfl, hm3, hR4⟩ := hcut
    obtain ⟨iv, ev, -, -, -, -, rl, r0, -, -⟩ := hR4.facts
    obtain ⟨lm, lb, -, c65, -, -, -⟩ := hR4.mac.facts
    have c1 := hR4.mac.cx (r := 0) (by decide)
    have f1' := hR4.mac.m.frozen 1
    have f65 := hR4.mac.m.frozen 65
    have g0 := sc0 (i := 1) (v := .int .u32 0) nMR r0
    have g65 := sc0' (i := 1) (j := 65) (v := .int .u32 0) (b := M) (by decide) c65
    have hU : U ((r.s.pc + 4) % 4294967296) := by first | exact U_mod _ | exact U_mod' _
    replace hR4 := Aside.mk hR4
    replace hm3 := Aside.mk hm3
    simp only [Nat.add_zero] at c1
    go_wp2
    go_end0
    exact ⟨rfl, (hm3.out.setCell (p := ⟨M, 1, none⟩) (Or.inl rfl) _).setCell (p := ⟨M, 65, none⟩) (Or.inl rfl) _, hR4.out.done hU⟩
set_option maxRecDepth 100000 in
set_option maxHeartbeats 4000000 in
theorem step_reals {w : World} {b1 b2 R M B K N : Nat} {r : RS} (h : Rat w b1 R M B K r N) (hN : N < 999999999) (hin : r.s.inside) {op n : Int} {d e f : Nat} (hd : DecR r.s.here op d e f n 0) (hop : 45 ≤ op) {r' : RS} (hc : ∀ (W : World) (N' : Nat), Rat W b1 R M B K r N' → Calls Try.prog 65 #[.pointer (some ⟨R, 0, none⟩), insV op d e f n] W fun e' w' => e' = .returned (.tuple #[]) ∧ Mod (SR b1 b2 M B K) W w' ∧ Rat w' b1 R M B K r' N') (hpc : r'.s.pc = r.s.pc) :
    Calls Try.prog 41 #[.pointer (some ⟨R, 0, none⟩)] w fun e' w' => e' = .returned (.tuple #[]) ∧ Mod (SR b1 b2 M B K) w w' ∧ Rat w' b1 R M B K ((r').fin ((r.s.pc + 4) % 4294967296)) (N + 1) := by
  obtain ⟨⟨o1, o2⟩, d1, e1, f1⟩ := decR_ops hd
  have fo := fetch_ok h.mac (by omega) hin hd
  unfold insV at fo
  replace fo := Aside.mk fo
  replace hc := Aside.mk hc
  replace hin := Aside.mk hin
  replace hd := Aside.mk hd
  obtain ⟨iv, ev, -, -, -, -, rl, r0, -, -⟩ := h.facts
  replace h := Aside.mk h
  go_enter Try.func41, Try.ntmps41
  go_upto_region 1 with ((go_at_call 58); (refine Calls.mono fo.out ?_); (rintro e' w1 ⟨rfl, hm1, hM1⟩))
  have hR1 := h.out.turn hm1 (fun k hk => Or.inr (Or.inr hk)) hM1 (Nat.le_succ N)
  have hkT : Mod (fun k => k = K) w w1 := hm1
  have hk1 : Mod (SR b1 b2 M B K) w w1 := hm1.mono (fun k _ hk => Or.inr (Or.inr (Or.inl hk)))
  have hi1 := Blk.new w1 #[.int .i64 op, .int .i64 (d : Int), .int .i64 (e : Int), .int .i64 (f : Int), .int .i64 n] 40
  have hR2 := hR1.kp ((Kp.refl w1).alloc (.cells #[.int .i64 op, .int .i64 (d : Int), .int .i64 (e : Int), .int .i64 (f : Int), .int .i64 n] 40))
  have hk2 := Aside.mk (hk1.alloc (.cells #[.int .i64 op, .int .i64 (d : Int), .int .i64 (e : Int), .int .i64 (f : Int), .int .i64 n] 40))
  have nqe : Aside (M ≠ w1.heap.size ∧ B ≠ w1.heap.size ∧ K ≠ w1.heap.size ∧ R ≠ w1.heap.size) := ⟨by
    have h1 := hM1.m.lt
    have h2 := hM1.b.lt
    have h3 := hM1.kl
    have h4 : R < w1.heap.size := Nat.lt_of_lt_of_le rl hm1.size
    omega⟩
  generalize w1.alloc (.cells #[.int .i64 op, .int .i64 (d : Int), .int .i64 (e : Int), .int .i64 (f : Int), .int .i64 n] 40) = W at *
  generalize w1.heap.size = q at *
  clear hk1 hm1 hM1 hR1 rl r0 iv ev
  obtain ⟨il, i0, i1, i2, i3, i4, -⟩ := hi1.five
  obtain ⟨iv, ev, -, -, -, -, rl, r0, -, -⟩ := hR2.facts
  obtain ⟨lm, lb, -, c65, -, -, -⟩ := hR2.mac.facts
  have ce := hR2.mac.cx (r := e) (by omega)
  have cf := hR2.mac.cx (r := f) (by omega)
  have e0 : (0 : Int) ≤ (e : Int) := by omega
  have e2 : (e : Int) < 32 := by omega
  have f0 : (0 : Int) ≤ (f : Int) := by omega
  have f2 : (f : Int) < 32 := by omega
  replace hR2 := Aside.mk hR2
  replace hi1 := Aside.mk hi1
  go_quiet ((go_at_call 59; exact Calls.quiet_of_same (wof_still _ _)))
  go_upto_block 0 with fail
  have hi2 := hi1.out.kp ((Kp.refl W).drewN nq)
  have hR3 := hR2.out.kp ((Kp.refl W).drewN nq)
  replace hk2 := Aside.mk (hk2.out.drewN nq)
  clear hi1 hR2 il i0 i1 i2 i3 i4 rl r0 lm lb c65 ce cf iv ev
  generalize W.drewN nq = W2 at *
  have u1 : U (r.s.x.getD e 0) := getD_U hR3.mac.ok.ux e
  have u2 : U (r.s.x.getD f 0) := getD_U hR3.mac.ok.ux f
  have u3 : U r.s.pc := hR3.mac.ok.up
  obtain ⟨il, i0, i1, i2, i3, i4, -⟩ := hi2.five
  obtain ⟨iv, ev, -, -, -, -, rl, r0, -, -⟩ := hR3.facts
  obtain ⟨lm, lb, -, c65, -, -, -⟩ := hR3.mac.facts
  have cd := hR3.mac.cx (r := d) (by omega)
  have fd := hR3.mac.m.frozen (1 + d)
  have d0 : (0 : Int) ≤ (d : Int) := by omega
  have d2 : (d : Int) < 32 := by omega
  have nMR : M ≠ R := by have h1 := h.out.lR; have h2 := h.out.lM; omega
  have nMq : M ≠ q := nqe.out.1
  have ho := Aside.mk hR3.mac.ok
  replace hR3 := Aside.mk hR3
  replace hi2 := Aside.mk hi2
  go_cut [6] (fun s wx => s = .int .u32 ((r.s.pc + 4) % 4294967296) ∧ Mod (SR b1 b2 M B K) w wx ∧ Rat wx b1 R M B K (r') (N + 1))
  case first =>
    have q43 : (op == 43) = false := by simp; omega
    have q44 : (op == 44) = false := by simp; omega
    have q38 : (op == 38) = false := by simp; omega
    have q39 : (op == 39) = false := by simp; omega
    have q40 : (op == 40) = false := by simp; omega
    have q41 : (op == 41) = false := by simp; omega
    have q42 : (op == 42) = false := by simp; omega
    have mc := hc.out _ _ hR3.out
    unfold insV at mc
    replace mc := Aside.mk mc
    go_wp2_with ((go_at_call 65); (refine Calls.mono mc.out ?_); (rintro e' w3 ⟨rfl, hm3, hR4⟩))
    go_meet
    exact ⟨rfl, hk2.out.trans hm3, hR4⟩
  case rest =>
    clear hR3 hi2 il i0 i1 i2 i3 i4 rl r0 lm lb c65 cd fd hk2 iv ev
    obtain ⟨rfl, hm3, hR4⟩ := hcut
    obtain ⟨iv, ev, -, -, -, -, rl, r0, -, -⟩ := hR4.facts
    obtain ⟨lm, lb, -, c65, -, -, -⟩ := hR4.mac.facts
    have c1 := hR4.mac.cx (r := 0) (by decide)
    have f1' := hR4.mac.m.frozen 1
    have f65 := hR4.mac.m.frozen 65
    have g0 := sc0 (i := 1) (v := .int .u32 0) nMR r0
    have g65 := sc0' (i := 1) (j := 65) (v := .int .u32 0) (b := M) (by decide) c65
    have hU : U ((r.s.pc + 4) % 4294967296) := by first | exact U_mod _ | exact U_mod' _
    replace hR4 := Aside.mk hR4
    replace hm3 := Aside.mk hm3
    simp only [Nat.add_zero] at c1
    go_wp2
    go_end0
    exact ⟨rfl, (hm3.out.setCell (p := ⟨M, 1, none⟩) (Or.inl rfl) _).setCell (p := ⟨M, 65, none⟩) (Or.inl rfl) _, hR4.out.done hU⟩
set_option maxRecDepth 100000 in
set_option maxHeartbeats 4000000 in
theorem step_LB {w : World} {b1 b2 R M B K N : Nat} {r : RS} (h : Rat w b1 R M B K r N) (hN : N < 999999999) (hin : r.s.inside) {n : Int} {d e f : Nat} (hd : DecR r.s.here 27 d e f n 0) (ha1 : ((r.s.x.getD e 0 + n) % 4294967296) % 1 = 0) (ha2 : ((r.s.x.getD e 0 + n) % 4294967296) + 1 ≤ r.s.mem.length) :
    Calls Try.prog 41 #[.pointer (some ⟨R, 0, none⟩)] w fun e' w' => e' = .returned (.tuple #[]) ∧ Mod (SR b1 b2 M B K) w w' ∧ Rat w' b1 R M B K ((r.on (r.s.setx d (Still.ext8 (r.s.mem.getD ((r.s.x.getD e 0 + n) % 4294967296).toNat 0)))).fin ((r.s.pc + 4) % 4294967296)) (N + 1) := by
  obtain ⟨⟨o1, o2⟩, d1, e1, f1⟩ := decR_ops hd
  have fo := fetch_ok h.mac (by omega) hin hd
  unfold insV at fo
  replace fo := Aside.mk fo
  replace ha1 := Aside.mk ha1
  replace ha2 := Aside.mk ha2
  replace hin := Aside.mk hin
  replace hd := Aside.mk hd
  obtain ⟨iv, ev, -, -, -, -, rl, r0, -, -⟩ := h.facts
  replace h := Aside.mk h
  go_enter Try.func41, Try.ntmps41
  go_upto_region 1 with ((go_at_call 58); (refine Calls.mono fo.out ?_); (rintro e' w1 ⟨rfl, hm1, hM1⟩))
  have hR1 := h.out.turn hm1 (fun k hk => Or.inr (Or.inr hk)) hM1 (Nat.le_succ N)
  have hkT : Mod (fun k => k = K) w w1 := hm1
  have hk1 : Mod (SR b1 b2 M B K) w w1 := hm1.mono (fun k _ hk => Or.inr (Or.inr (Or.inl hk)))
  have hi1 := Blk.new w1 #[.int .i64 27, .int .i64 (d : Int), .int .i64 (e : Int), .int .i64 (f : Int), .int .i64 n] 40
  have hR2 := hR1.kp ((Kp.refl w1).alloc (.cells #[.int .i64 27, .int .i64 (d : Int), .int .i64 (e : Int), .int .i64 (f : Int), .int .i64 n] 40))
  have hk2 := Aside.mk (hk1.alloc (.cells #[.int .i64 27, .int .i64 (d : Int), .int .i64 (e : Int), .int .i64 (f : Int), .int .i64 n] 40))
  have nqe : Aside (M ≠ w1.heap.size ∧ B ≠ w1.heap.size ∧ K ≠ w1.heap.size ∧ R ≠ w1.heap.size) := ⟨by
    have h1 := hM1.m.lt
    have h2 := hM1.b.lt
    have h3 := hM1.kl
    have h4 : R < w1.heap.size := Nat.lt_of_lt_of_le rl hm1.size
    omega⟩
  generalize w1.alloc (.cells #[.int .i64 27, .int .i64 (d : Int), .int .i64 (e : Int), .int .i64 (f : Int), .int .i64 n] 40) = W at *
  generalize w1.heap.size = q at *
  clear hk1 hm1 hM1 hR1 rl r0 iv ev
  obtain ⟨il, i0, i1, i2, i3, i4, -⟩ := hi1.five
  obtain ⟨iv, ev, -, -, -, -, rl, r0, -, -⟩ := hR2.facts
  obtain ⟨lm, lb, -, c65, -, -, -⟩ := hR2.mac.facts
  have ce := hR2.mac.cx (r := e) (by omega)
  have cf := hR2.mac.cx (r := f) (by omega)
  have e0 : (0 : Int) ≤ (e : Int) := by omega
  have e2 : (e : Int) < 32 := by omega
  have f0 : (0 : Int) ≤ (f : Int) := by omega
  have f2 : (f : Int) < 32 := by omega
  replace hR2 := Aside.mk hR2
  replace hi1 := Aside.mk hi1
  go_quiet ((go_at_call 59; exact Calls.quiet_of_same (wof_still _ _)))
  go_upto_block 0 with fail
  have hi2 := hi1.out.kp ((Kp.refl W).drewN nq)
  have hR3 := hR2.out.kp ((Kp.refl W).drewN nq)
  replace hk2 := Aside.mk (hk2.out.drewN nq)
  clear hi1 hR2 il i0 i1 i2 i3 i4 rl r0 lm lb c65 ce cf iv ev
  generalize W.drewN nq = W2 at *
  have u1 : U (r.s.x.getD e 0) := getD_U hR3.mac.ok.ux e
  have u2 : U (r.s.x.getD f 0) := getD_U hR3.mac.ok.ux f
  have u3 : U r.s.pc := hR3.mac.ok.up
  obtain ⟨il, i0, i1, i2, i3, i4, -⟩ := hi2.five
  obtain ⟨iv, ev, -, -, -, -, rl, r0, -, -⟩ := hR3.facts
  obtain ⟨lm, lb, -, c65, -, -, -⟩ := hR3.mac.facts
  have cd := hR3.mac.cx (r := d) (by omega)
  have fd := hR3.mac.m.frozen (1 + d)
  have d0 : (0 : Int) ≤ (d : Int) := by omega
  have d2 : (d : Int) < 32 := by omega
  have nMR : M ≠ R := by have h1 := h.out.lR; have h2 := h.out.lM; omega
  have nMq : M ≠ q := nqe.out.1
  have ho := Aside.mk hR3.mac.ok
  replace hR3 := Aside.mk hR3
  replace hi2 := Aside.mk hi2
  go_cut [6] (fun s wx => s = .int .u32 ((r.s.pc + 4) % 4294967296) ∧ Mod (SR b1 b2 M B K) w wx ∧ Rat wx b1 R M B K (r.on (r.s.setx d (Still.ext8 (r.s.mem.getD ((r.s.x.getD e 0 + n) % 4294967296).toNat 0)))) (N + 1))
  case first =>
    have mc := mem_LB (b2 := b2) hR3.out d (by omega) e f n ((r.s.x.getD e 0 + n) % 4294967296) (U_mod _) ha1.out ha2.out
    unfold insV at mc
    replace mc := Aside.mk mc
    go_wp2_with ((go_at_call 62); (refine Calls.mono mc.out ?_); (rintro e' w3 ⟨rfl, hm3, hR4⟩))
    go_meet
    exact ⟨rfl, hk2.out.trans hm3, hR4⟩
  case rest =>
    clear hR3 hi2 il i0 i1 i2 i3 i4 rl r0 lm lb c65 cd fd hk2 iv ev
    obtain ⟨rfl, hm3, hR4⟩ := hcut
    obtain ⟨iv, ev, -, -, -, -, rl, r0, -, -⟩ := hR4.facts
    obtain ⟨lm, lb, -, c65, -, -, -⟩ := hR4.mac.facts
    have c1 := hR4.mac.cx (r := 0) (by decide)
    have f1' := hR4.mac.m.frozen 1
    have f65 := hR4.mac.m.frozen 65
    have g0 := sc0 (i := 1) (v := .int .u32 0) nMR r0
    have g65 := sc0' (i := 1) (j := 65) (v := .int .u32 0) (b := M) (by decide) c65
    have hU : U ((r.s.pc + 4) % 4294967296) := by first | exact U_mod _ | exact U_mod' _
    replace hR4 := Aside.mk hR4
    replace hm3 := Aside.mk hm3
    simp only [Nat.add_zero] at c1
    go_wp2
    go_end0
    exact ⟨rfl, (hm3.out.setCell (p := ⟨M, 1, none⟩) (Or.inl rfl) _).setCell (p := ⟨M, 65, none⟩) (Or.inl rfl) _, hR4.out.done hU⟩
set_option maxRecDepth 100000 in
set_option maxHeartbeats 4000000 in
theorem step_LBU {w : World} {b1 b2 R M B K N : Nat} {r : RS} (h : Rat w b1 R M B K r N) (hN : N < 999999999) (hin : r.s.inside) {n : Int} {d e f : Nat} (hd : DecR r.s.here 28 d e f n 0) (ha1 : ((r.s.x.getD e 0 + n) % 4294967296) % 1 = 0) (ha2 : ((r.s.x.getD e 0 + n) % 4294967296) + 1 ≤ r.s.mem.length) :
    Calls Try.prog 41 #[.pointer (some ⟨R, 0, none⟩)] w fun e' w' => e' = .returned (.tuple #[]) ∧ Mod (SR b1 b2 M B K) w w' ∧ Rat w' b1 R M B K ((r.on (r.s.setx d (r.s.mem.getD ((r.s.x.getD e 0 + n) % 4294967296).toNat 0))).fin ((r.s.pc + 4) % 4294967296)) (N + 1) := by
  obtain ⟨⟨o1, o2⟩, d1, e1, f1⟩ := decR_ops hd
  have fo := fetch_ok h.mac (by omega) hin hd
  unfold insV at fo
  replace fo := Aside.mk fo
  replace ha1 := Aside.mk ha1
  replace ha2 := Aside.mk ha2
  replace hin := Aside.mk hin
  replace hd := Aside.mk hd
  obtain ⟨iv, ev, -, -, -, -, rl, r0, -, -⟩ := h.facts
  replace h := Aside.mk h
  go_enter Try.func41, Try.ntmps41
  go_upto_region 1 with ((go_at_call 58); (refine Calls.mono fo.out ?_); (rintro e' w1 ⟨rfl, hm1, hM1⟩))
  have hR1 := h.out.turn hm1 (fun k hk => Or.inr (Or.inr hk)) hM1 (Nat.le_succ N)
  have hkT : Mod (fun k => k = K) w w1 := hm1
  have hk1 : Mod (SR b1 b2 M B K) w w1 := hm1.mono (fun k _ hk => Or.inr (Or.inr (Or.inl hk)))
  have hi1 := Blk.new w1 #[.int .i64 28, .int .i64 (d : Int), .int .i64 (e : Int), .int .i64 (f : Int), .int .i64 n] 40
  have hR2 := hR1.kp ((Kp.refl w1).alloc (.cells #[.int .i64 28, .int .i64 (d : Int), .int .i64 (e : Int), .int .i64 (f : Int), .int .i64 n] 40))
  have hk2 := Aside.mk (hk1.alloc (.cells #[.int .i64 28, .int .i64 (d : Int), .int .i64 (e : Int), .int .i64 (f : Int), .int .i64 n] 40))
  have nqe : Aside (M ≠ w1.heap.size ∧ B ≠ w1.heap.size ∧ K ≠ w1.heap.size ∧ R ≠ w1.heap.size) := ⟨by
    have h1 := hM1.m.lt
    have h2 := hM1.b.lt
    have h3 := hM1.kl
    have h4 : R < w1.heap.size := Nat.lt_of_lt_of_le rl hm1.size
    omega⟩
  generalize w1.alloc (.cells #[.int .i64 28, .int .i64 (d : Int), .int .i64 (e : Int), .int .i64 (f : Int), .int .i64 n] 40) = W at *
  generalize w1.heap.size = q at *
  clear hk1 hm1 hM1 hR1 rl r0 iv ev
  obtain ⟨il, i0, i1, i2, i3, i4, -⟩ := hi1.five
  obtain ⟨iv, ev, -, -, -, -, rl, r0, -, -⟩ := hR2.facts
  obtain ⟨lm, lb, -, c65, -, -, -⟩ := hR2.mac.facts
  have ce := hR2.mac.cx (r := e) (by omega)
  have cf := hR2.mac.cx (r := f) (by omega)
  have e0 : (0 : Int) ≤ (e : Int) := by omega
  have e2 : (e : Int) < 32 := by omega
  have f0 : (0 : Int) ≤ (f : Int) := by omega
  have f2 : (f : Int) < 32 := by omega
  replace hR2 := Aside.mk hR2
  replace hi1 := Aside.mk hi1
  go_quiet ((go_at_call 59; exact Calls.quiet_of_same (wof_still _ _)))
  go_upto_block 0 with fail
  have hi2 := hi1.out.kp ((Kp.refl W).drewN nq)
  have hR3 := hR2.out.kp ((Kp.refl W).drewN nq)
  replace hk2 := Aside.mk (hk2.out.drewN nq)
  clear hi1 hR2 il i0 i1 i2 i3 i4 rl r0 lm lb c65 ce cf iv ev
  generalize W.drewN nq = W2 at *
  have u1 : U (r.s.x.getD e 0) := getD_U hR3.mac.ok.ux e
  have u2 : U (r.s.x.getD f 0) := getD_U hR3.mac.ok.ux f
  have u3 : U r.s.pc := hR3.mac.ok.up
  obtain ⟨il, i0, i1, i2, i3, i4, -⟩ := hi2.five
  obtain ⟨iv, ev, -, -, -, -, rl, r0, -, -⟩ := hR3.facts
  obtain ⟨lm, lb, -, c65, -, -, -⟩ := hR3.mac.facts
  have cd := hR3.mac.cx (r := d) (by omega)
  have fd := hR3.mac.m.frozen (1 + d)
  have d0 : (0 : Int) ≤ (d : Int) := by omega
  have d2 : (d : Int) < 32 := by omega
  have nMR : M ≠ R := by have h1 := h.out.lR; have h2 := h.out.lM; omega
  have nMq : M ≠ q := nqe.out.1
  have ho := Aside.mk hR3.mac.ok
  replace hR3 := Aside.mk hR3
  replace hi2 := Aside.mk hi2
  go_cut [6] (fun s wx => s = .int .u32 ((r.s.pc + 4) % 4294967296) ∧ Mod (SR b1 b2 M B K) w wx ∧ Rat wx b1 R M B K (r.on (r.s.setx d (r.s.mem.getD ((r.s.x.getD e 0 + n) % 4294967296).toNat 0))) (N + 1))
  case first =>
    have mc := mem_LBU (b2 := b2) hR3.out d (by omega) e f n ((r.s.x.getD e 0 + n) % 4294967296) (U_mod _) ha1.out ha2.out
    unfold insV at mc
    replace mc := Aside.mk mc
    go_wp2_with ((go_at_call 62); (refine Calls.mono mc.out ?_); (rintro e' w3 ⟨rfl, hm3, hR4⟩))
    go_meet
    exact ⟨rfl, hk2.out.trans hm3, hR4⟩
  case rest =>
    clear hR3 hi2 il i0 i1 i2 i3 i4 rl r0 lm lb c65 cd fd hk2 iv ev
    obtain ⟨rfl, hm3, hR4⟩ := hcut
    obtain ⟨iv, ev, -, -, -, -, rl, r0, -, -⟩ := hR4.facts
    obtain ⟨lm, lb, -, c65, -, -, -⟩ := hR4.mac.facts
    have c1 := hR4.mac.cx (r := 0) (by decide)
    have f1' := hR4.mac.m.frozen 1
    have f65 := hR4.mac.m.frozen 65
    have g0 := sc0 (i := 1) (v := .int .u32 0) nMR r0
    have g65 := sc0' (i := 1) (j := 65) (v := .int .u32 0) (b := M) (by decide) c65
    have hU : U ((r.s.pc + 4) % 4294967296) := by first | exact U_mod _ | exact U_mod' _
    replace hR4 := Aside.mk hR4
    replace hm3 := Aside.mk hm3
    simp only [Nat.add_zero] at c1
    go_wp2
    go_end0
    exact ⟨rfl, (hm3.out.setCell (p := ⟨M, 1, none⟩) (Or.inl rfl) _).setCell (p := ⟨M, 65, none⟩) (Or.inl rfl) _, hR4.out.done hU⟩
end Go.Proofs.Ytnbooljaodkedaa
