/- Steps of the machine, walked, by their kinds. Conditions stand at each. -/
import Derived.Test.YtnbooljaodkedaaMachT
namespace Go.Proofs.Ytnbooljaodkedaa
open Go.RowKit Go.Maps Go.Proofs.Ytnbooljaodkedaa.PC Go.Proofs.Ytnbooljaodkedaa.PW
set_option linter.unusedVariables false
set_option linter.unusedSimpArgs false
set_option maxRecDepth 100000 in
set_option maxHeartbeats 4000000 in
theorem step_LW {w : World} {b1 b2 R M B K N : Nat} {r : RS} (h : Rat w b1 R M B K r N) (hN : N < 999999999) (hin : r.s.inside) {n : Int} {d e f : Nat} (hd : DecR r.s.here 29 d e f n 0) (ha1 : ((r.s.x.getD e 0 + n) % 4294967296) % 4 = 0) (ha2 : ((r.s.x.getD e 0 + n) % 4294967296) + 4 ≤ r.s.mem.length) :
    Calls Try.prog 41 #[.pointer (some ⟨R, 0, none⟩)] w fun e' w' => e' = .returned (.tuple #[]) ∧ Mod (SR b1 b2 M B K) w w' ∧ Rat w' b1 R M B K ((r.on (r.s.setx d (getN r.s.mem ((r.s.x.getD e 0 + n) % 4294967296).toNat 4))).fin ((r.s.pc + 4) % 4294967296)) (N + 1) := by
  obtain ⟨⟨o1, o2⟩, d1, e1, f1⟩ := decR_ops hd
  have fo := fetch_ok h.mac (by omega) hin hd
  unfold insV at fo
  replace fo := Aside.mk fo
  replace ha1 := Aside.mk ha1
  replace ha2 := Aside.mk ha2
  replace hin := Aside.mk hin
  replace hd := Aside.mk hd
  obtain ⟨iv, ev, -, -, -, -, rl, r0, -, -⟩ := h.facts
  replace h := Aside.mk h
  go_enter Try.func41, Try.ntmps41
  go_upto_region 1 with ((go_at_call 58); (refine Calls.mono fo.out ?_); (rintro e' w1 ⟨rfl, hm1, hM1⟩))
  have hR1 := h.out.turn hm1 (fun k hk => Or.inr (Or.inr hk)) hM1 (Nat.le_succ N)
  have hkT : Mod (fun k => k = K) w w1 := hm1
  have hk1 : Mod (SR b1 b2 M B K) w w1 := hm1.mono (fun k _ hk => Or.inr (Or.inr (Or.inl hk)))
  have hi1 := Blk.new w1 #[.int .i64 29, .int .i64 (d : Int), .int .i64 (e : Int), .int .i64 (f : Int), .int .i64 n] 40
  have hR2 := hR1.kp ((Kp.refl w1).alloc (.cells #[.int .i64 29, .int .i64 (d : Int), .int .i64 (e : Int), .int .i64 (f : Int), .int .i64 n] 40))
  have hk2 := Aside.mk (hk1.alloc (.cells #[.int .i64 29, .int .i64 (d : Int), .int .i64 (e : Int), .int .i64 (f : Int), .int .i64 n] 40))
  have nqe : Aside (M ≠ w1.heap.size ∧ B ≠ w1.heap.size ∧ K ≠ w1.heap.size ∧ R ≠ w1.heap.size) := ⟨by
    have h1 := hM1.m.lt
    have h2 := hM1.b.lt
    have h3 := hM1.kl
    have h4 : R < w1.heap.size := Nat.lt_of_lt_of_le rl hm1.size
    omega⟩
  generalize w1.alloc (.cells #[.int .i64 29, .int .i64 (d : Int), .int .i64 (e : Int), .int .i64 (f : Int), .int .i64 n] 40) = W at *
  generalize w1.heap.size = q at *
  clear hk1 hm1 hM1 hR1 rl r0 iv ev
  obtain ⟨il, i0, i1, i2, i3, i4, -⟩ := hi1.five
  obtain ⟨iv, ev, -, -, -, -, rl, r0, -, -⟩ := hR2.facts
  obtain ⟨lm, lb, -, c65, -, -, -⟩ := hR2.mac.facts
  have ce := hR2.mac.cx (r := e) (by omega)
  have cf := hR2.mac.cx (r := f) (by omega)
  have e0 : (0 : Int) ≤ (e : Int) := by omega
  have e2 : (e : Int) < 32 := by omega
  have f0 : (0 : Int) ≤ (f : Int) := by omega
  have f2 : (f : Int) < 32 := by omega
  replace hR2 := Aside.mk hR2
  replace hi1 := Aside.mk hi1
  go_quiet ((go_at_call 59; exact Calls.quiet_of_same (wof_still _ _)))
  go_upto_block 0 with fail
  have hi2 := hi1.out.kp ((Kp.refl W).drewN nq)
  have hR3 := hR2.out.kp ((Kp.refl W).drewN nq)
  replace hk2 := Aside.mk (hk2.out.drewN nq)
  clear hi1 hR2 il i0 i1 i2 i3 i4 rl r0 lm lb c65 ce cf iv ev
  generalize W.drewN nq = W2 at *
  have u1 : U (r.s.x.getD e 0) := getD_U hR3.mac.ok.ux e
  have u2 : U (r.s.x.getD f 0) := getD_U hR3.mac.ok.ux f
  have u3 : U r.s.pc := hR3.mac.ok.up
  obtain ⟨il, i0, i1, i2, i3, i4, -⟩ := hi2.five
  obtain ⟨iv, ev, -, -, -, -, rl, r0, -, -⟩ := hR3.facts
  obtain ⟨lm, lb, -, c65, -, -, -⟩ := hR3.mac.facts
  have cd := hR3.mac.cx (r := d) (by omega)
  have fd := hR3.mac.m.frozen (1 + d)
  have d0 : (0 : Int) ≤ (d : Int) := by omega
  have d2 : (d : Int) < 32 := by omega
  have nMR : M ≠ R := by have h1 := h.out.lR; have h2 := h.out.lM; omega
  have nMq : M ≠ q := nqe.out.1
  have ho := Aside.mk hR3.mac.ok
  replace hR3 := Aside.mk hR3
  replace hi2 := Aside.mk hi2
  go_cut [6] (fun s wx => s = .int .u32 ((r.s.pc + 4) % 4294967296) ∧ Mod (SR b1 b2 M B K) w wx ∧ Rat wx b1 R M B K (r.on (r.s.setx d (getN r.s.mem ((r.s.x.getD e 0 + n) % 4294967296).toNat 4))) (N + 1))
  case first =>
    have mc := mem_LW (b2 := b2) hR3.out d (by omega) e f n ((r.s.x.getD e 0 + n) % 4294967296) (U_mod _) ha1.out ha2.out
    unfold insV at mc
    replace mc := Aside.mk mc
    go_wp2_with ((go_at_call 62); (refine Calls.mono mc.out ?_); (rintro e' w3 ⟨rfl, hm3, hR4⟩))
    go_meet
    exact ⟨rfl, hk2.out.trans hm3, hR4⟩
  case rest =>
    clear hR3 hi2 il i0 i1 i2 i3 i4 rl r0 lm lb c65 cd fd hk2 iv ev
    obtain ⟨rfl, hm3, hR4⟩ := hcut
    obtain ⟨iv, ev, -, -, -, -, rl, r0, -, -⟩ := hR4.facts
    obtain ⟨lm, lb, -, c65, -, -, -⟩ := hR4.mac.facts
    have c1 := hR4.mac.cx (r := 0) (by decide)
    have f1' := hR4.mac.m.frozen 1
    have f65 := hR4.mac.m.frozen 65
    have g0 := sc0 (i := 1) (v := .int .u32 0) nMR r0
    have g65 := sc0' (i := 1) (j := 65) (v := .int .u32 0) (b := M) (by decide) c65
    have hU : U ((r.s.pc + 4) % 4294967296) := by first | exact U_mod _ | exact U_mod' _
    replace hR4 := Aside.mk hR4
    replace hm3 := Aside.mk hm3
    simp only [Nat.add_zero] at c1
    go_wp2
    go_end0
    exact ⟨rfl, (hm3.out.setCell (p := ⟨M, 1, none⟩) (Or.inl rfl) _).setCell (p := ⟨M, 65, none⟩) (Or.inl rfl) _, hR4.out.done hU⟩
set_option maxRecDepth 100000 in
set_option maxHeartbeats 4000000 in
theorem step_FLD {w : World} {b1 b2 R M B K N : Nat} {r : RS} (h : Rat w b1 R M B K r N) (hN : N < 999999999) (hin : r.s.inside) {n : Int} {d e f : Nat} (hd : DecR r.s.here 43 d e f n 0) (ha1 : ((r.s.x.getD e 0 + n) % 4294967296) % 8 = 0) (ha2 : ((r.s.x.getD e 0 + n) % 4294967296) + 8 ≤ r.s.mem.length) :
    Calls Try.prog 41 #[.pointer (some ⟨R, 0, none⟩)] w fun e' w' => e' = .returned (.tuple #[]) ∧ Mod (SR b1 b2 M B K) w w' ∧ Rat w' b1 R M B K ((r.on (r.s.setf d (canV (getN r.s.mem ((r.s.x.getD e 0 + n) % 4294967296).toNat 8).toNat))).fin ((r.s.pc + 4) % 4294967296)) (N + 1) := by
  obtain ⟨⟨o1, o2⟩, d1, e1, f1⟩ := decR_ops hd
  have fo := fetch_ok h.mac (by omega) hin hd
  unfold insV at fo
  replace fo := Aside.mk fo
  replace ha1 := Aside.mk ha1
  replace ha2 := Aside.mk ha2
  replace hin := Aside.mk hin
  replace hd := Aside.mk hd
  obtain ⟨iv, ev, -, -, -, -, rl, r0, -, -⟩ := h.facts
  replace h := Aside.mk h
  go_enter Try.func41, Try.ntmps41
  go_upto_region 1 with ((go_at_call 58); (refine Calls.mono fo.out ?_); (rintro e' w1 ⟨rfl, hm1, hM1⟩))
  have hR1 := h.out.turn hm1 (fun k hk => Or.inr (Or.inr hk)) hM1 (Nat.le_succ N)
  have hkT : Mod (fun k => k = K) w w1 := hm1
  have hk1 : Mod (SR b1 b2 M B K) w w1 := hm1.mono (fun k _ hk => Or.inr (Or.inr (Or.inl hk)))
  have hi1 := Blk.new w1 #[.int .i64 43, .int .i64 (d : Int), .int .i64 (e : Int), .int .i64 (f : Int), .int .i64 n] 40
  have hR2 := hR1.kp ((Kp.refl w1).alloc (.cells #[.int .i64 43, .int .i64 (d : Int), .int .i64 (e : Int), .int .i64 (f : Int), .int .i64 n] 40))
  have hk2 := Aside.mk (hk1.alloc (.cells #[.int .i64 43, .int .i64 (d : Int), .int .i64 (e : Int), .int .i64 (f : Int), .int .i64 n] 40))
  have nqe : Aside (M ≠ w1.heap.size ∧ B ≠ w1.heap.size ∧ K ≠ w1.heap.size ∧ R ≠ w1.heap.size) := ⟨by
    have h1 := hM1.m.lt
    have h2 := hM1.b.lt
    have h3 := hM1.kl
    have h4 : R < w1.heap.size := Nat.lt_of_lt_of_le rl hm1.size
    omega⟩
  generalize w1.alloc (.cells #[.int .i64 43, .int .i64 (d : Int), .int .i64 (e : Int), .int .i64 (f : Int), .int .i64 n] 40) = W at *
  generalize w1.heap.size = q at *
  clear hk1 hm1 hM1 hR1 rl r0 iv ev
  obtain ⟨il, i0, i1, i2, i3, i4, -⟩ := hi1.five
  obtain ⟨iv, ev, -, -, -, -, rl, r0, -, -⟩ := hR2.facts
  obtain ⟨lm, lb, -, c65, -, -, -⟩ := hR2.mac.facts
  have ce := hR2.mac.cx (r := e) (by omega)
  have cf := hR2.mac.cx (r := f) (by omega)
  have e0 : (0 : Int) ≤ (e : Int) := by omega
  have e2 : (e : Int) < 32 := by omega
  have f0 : (0 : Int) ≤ (f : Int) := by omega
  have f2 : (f : Int) < 32 := by omega
  replace hR2 := Aside.mk hR2
  replace hi1 := Aside.mk hi1
  go_quiet ((go_at_call 59; exact Calls.quiet_of_same (wof_still _ _)))
  go_upto_block 0 with fail
  have hi2 := hi1.out.kp ((Kp.refl W).drewN nq)
  have hR3 := hR2.out.kp ((Kp.refl W).drewN nq)
  replace hk2 := Aside.mk (hk2.out.drewN nq)
  clear hi1 hR2 il i0 i1 i2 i3 i4 rl r0 lm lb c65 ce cf iv ev
  generalize W.drewN nq = W2 at *
  have u1 : U (r.s.x.getD e 0) := getD_U hR3.mac.ok.ux e
  have u2 : U (r.s.x.getD f 0) := getD_U hR3.mac.ok.ux f
  have u3 : U r.s.pc := hR3.mac.ok.up
  obtain ⟨il, i0, i1, i2, i3, i4, -⟩ := hi2.five
  obtain ⟨iv, ev, -, -, -, -, rl, r0, -, -⟩ := hR3.facts
  obtain ⟨lm, lb, -, c65, -, -, -⟩ := hR3.mac.facts
  have cd := hR3.mac.cx (r := d) (by omega)
  have fd := hR3.mac.m.frozen (1 + d)
  have d0 : (0 : Int) ≤ (d : Int) := by omega
  have d2 : (d : Int) < 32 := by omega
  have nMR : M ≠ R := by have h1 := h.out.lR; have h2 := h.out.lM; omega
  have nMq : M ≠ q := nqe.out.1
  have ho := Aside.mk hR3.mac.ok
  replace hR3 := Aside.mk hR3
  replace hi2 := Aside.mk hi2
  go_cut [6] (fun s wx => s = .int .u32 ((r.s.pc + 4) % 4294967296) ∧ Mod (SR b1 b2 M B K) w wx ∧ Rat wx b1 R M B K (r.on (r.s.setf d (canV (getN r.s.mem ((r.s.x.getD e 0 + n) % 4294967296).toNat 8).toNat))) (N + 1))
  case first =>
    have mc := mem_FLD (b2 := b2) hR3.out d (by omega) e f n ((r.s.x.getD e 0 + n) % 4294967296) (U_mod _) ha1.out ha2.out
    unfold insV at mc
    replace mc := Aside.mk mc
    go_wp2_with ((go_at_call 62); (refine Calls.mono mc.out ?_); (rintro e' w3 ⟨rfl, hm3, hR4⟩))
    go_meet
    exact ⟨rfl, hk2.out.trans hm3, hR4⟩
  case rest =>
    clear hR3 hi2 il i0 i1 i2 i3 i4 rl r0 lm lb c65 cd fd hk2 iv ev
    obtain ⟨rfl, hm3, hR4⟩ := hcut
    obtain ⟨iv, ev, -, -, -, -, rl, r0, -, -⟩ := hR4.facts
    obtain ⟨lm, lb, -, c65, -, -, -⟩ := hR4.mac.facts
    have c1 := hR4.mac.cx (r := 0) (by decide)
    have f1' := hR4.mac.m.frozen 1
    have f65 := hR4.mac.m.frozen 65
    have g0 := sc0 (i := 1) (v := .int .u32 0) nMR r0
    have g65 := sc0' (i := 1) (j := 65) (v := .int .u32 0) (b := M) (by decide) c65
    have hU : U ((r.s.pc + 4) % 4294967296) := by first | exact U_mod _ | exact U_mod' _
    replace hR4 := Aside.mk hR4
    replace hm3 := Aside.mk hm3
    simp only [Nat.add_zero] at c1
    go_wp2
    go_end0
    exact ⟨rfl, (hm3.out.setCell (p := ⟨M, 1, none⟩) (Or.inl rfl) _).setCell (p := ⟨M, 65, none⟩) (Or.inl rfl) _, hR4.out.done hU⟩
set_option maxRecDepth 100000 in
set_option maxHeartbeats 4000000 in
theorem step_SB {w : World} {b1 b2 R M B K N : Nat} {r : RS} (h : Rat w b1 R M B K r N) (hN : N < 999999999) (hin : r.s.inside) {n : Int} {d e f : Nat} (hd : DecR r.s.here 30 d e f n 0) (ha1 : ((r.s.x.getD e 0 + n) % 4294967296) % 1 = 0) (ha2 : ((r.s.x.getD e 0 + n) % 4294967296) + 1 ≤ r.s.mem.length) :
    Calls Try.prog 41 #[.pointer (some ⟨R, 0, none⟩)] w fun e' w' => e' = .returned (.tuple #[]) ∧ Mod (SR b1 b2 M B K) w w' ∧ Rat w' b1 R M B K ((r.on { r.s with mem := r.s.mem.set ((r.s.x.getD e 0 + n) % 4294967296).toNat (r.s.x.getD f 0 % 256) }).fin ((r.s.pc + 4) % 4294967296)) (N + 1) := by
  obtain ⟨⟨o1, o2⟩, d1, e1, f1⟩ := decR_ops hd
  have fo := fetch_ok h.mac (by omega) hin hd
  unfold insV at fo
  replace fo := Aside.mk fo
  replace ha1 := Aside.mk ha1
  replace ha2 := Aside.mk ha2
  replace hin := Aside.mk hin
  replace hd := Aside.mk hd
  obtain ⟨iv, ev, -, -, -, -, rl, r0, -, -⟩ := h.facts
  replace h := Aside.mk h
  go_enter Try.func41, Try.ntmps41
  go_upto_region 1 with ((go_at_call 58); (refine Calls.mono fo.out ?_); (rintro e' w1 ⟨rfl, hm1, hM1⟩))
  have hR1 := h.out.turn hm1 (fun k hk => Or.inr (Or.inr hk)) hM1 (Nat.le_succ N)
  have hkT : Mod (fun k => k = K) w w1 := hm1
  have hk1 : Mod (SR b1 b2 M B K) w w1 := hm1.mono (fun k _ hk => Or.inr (Or.inr (Or.inl hk)))
  have hi1 := Blk.new w1 #[.int .i64 30, .int .i64 (d : Int), .int .i64 (e : Int), .int .i64 (f : Int), .int .i64 n] 40
  have hR2 := hR1.kp ((Kp.refl w1).alloc (.cells #[.int .i64 30, .int .i64 (d : Int), .int .i64 (e : Int), .int .i64 (f : Int), .int .i64 n] 40))
  have hk2 := Aside.mk (hk1.alloc (.cells #[.int .i64 30, .int .i64 (d : Int), .int .i64 (e : Int), .int .i64 (f : Int), .int .i64 n] 40))
  have nqe : Aside (M ≠ w1.heap.size ∧ B ≠ w1.heap.size ∧ K ≠ w1.heap.size ∧ R ≠ w1.heap.size) := ⟨by
    have h1 := hM1.m.lt
    have h2 := hM1.b.lt
    have h3 := hM1.kl
    have h4 : R < w1.heap.size := Nat.lt_of_lt_of_le rl hm1.size
    omega⟩
  generalize w1.alloc (.cells #[.int .i64 30, .int .i64 (d : Int), .int .i64 (e : Int), .int .i64 (f : Int), .int .i64 n] 40) = W at *
  generalize w1.heap.size = q at *
  clear hk1 hm1 hM1 hR1 rl r0 iv ev
  obtain ⟨il, i0, i1, i2, i3, i4, -⟩ := hi1.five
  obtain ⟨iv, ev, -, -, -, -, rl, r0, -, -⟩ := hR2.facts
  obtain ⟨lm, lb, -, c65, -, -, -⟩ := hR2.mac.facts
  have ce := hR2.mac.cx (r := e) (by omega)
  have cf := hR2.mac.cx (r := f) (by omega)
  have e0 : (0 : Int) ≤ (e : Int) := by omega
  have e2 : (e : Int) < 32 := by omega
  have f0 : (0 : Int) ≤ (f : Int) := by omega
  have f2 : (f : Int) < 32 := by omega
  replace hR2 := Aside.mk hR2
  replace hi1 := Aside.mk hi1
  go_quiet ((go_at_call 59; exact Calls.quiet_of_same (wof_still _ _)))
  go_upto_block 0 with fail
  have hi2 := hi1.out.kp ((Kp.refl W).drewN nq)
  have hR3 := hR2.out.kp ((Kp.refl W).drewN nq)
  replace hk2 := Aside.mk (hk2.out.drewN nq)
  clear hi1 hR2 il i0 i1 i2 i3 i4 rl r0 lm lb c65 ce cf iv ev
  generalize W.drewN nq = W2 at *
  have u1 : U (r.s.x.getD e 0) := getD_U hR3.mac.ok.ux e
  have u2 : U (r.s.x.getD f 0) := getD_U hR3.mac.ok.ux f
  have u3 : U r.s.pc := hR3.mac.ok.up
  obtain ⟨il, i0, i1, i2, i3, i4, -⟩ := hi2.five
  obtain ⟨iv, ev, -, -, -, -, rl, r0, -, -⟩ := hR3.facts
  obtain ⟨lm, lb, -, c65, -, -, -⟩ := hR3.mac.facts
  have cd := hR3.mac.cx (r := d) (by omega)
  have fd := hR3.mac.m.frozen (1 + d)
  have d0 : (0 : Int) ≤ (d : Int) := by omega
  have d2 : (d : Int) < 32 := by omega
  have nMR : M ≠ R := by have h1 := h.out.lR; have h2 := h.out.lM; omega
  have nMq : M ≠ q := nqe.out.1
  have ho := Aside.mk hR3.mac.ok
  replace hR3 := Aside.mk hR3
  replace hi2 := Aside.mk hi2
  go_cut [6] (fun s wx => s = .int .u32 ((r.s.pc + 4) % 4294967296) ∧ Mod (SR b1 b2 M B K) w wx ∧ Rat wx b1 R M B K (r.on { r.s with mem := r.s.mem.set ((r.s.x.getD e 0 + n) % 4294967296).toNat (r.s.x.getD f 0 % 256) }) (N + 1))
  case first =>
    have mc := mem_SB (b2 := b2) hR3.out f (by omega) d e n ((r.s.x.getD e 0 + n) % 4294967296) (U_mod _) ha1.out ha2.out
    unfold insV at mc
    replace mc := Aside.mk mc
    go_wp2_with ((go_at_call 62); (refine Calls.mono mc.out ?_); (rintro e' w3 ⟨rfl, hm3, hR4⟩))
    go_meet
    exact ⟨rfl, hk2.out.trans hm3, hR4⟩
  case rest =>
    clear hR3 hi2 il i0 i1 i2 i3 i4 rl r0 lm lb c65 cd fd hk2 iv ev
    obtain ⟨rfl, hm3, hR4⟩ := hcut
    obtain ⟨iv, ev, -, -, -, -, rl, r0, -, -⟩ := hR4.facts
    obtain ⟨lm, lb, -, c65, -, -, -⟩ := hR4.mac.facts
    have c1 := hR4.mac.cx (r := 0) (by decide)
    have f1' := hR4.mac.m.frozen 1
    have f65 := hR4.mac.m.frozen 65
    have g0 := sc0 (i := 1) (v := .int .u32 0) nMR r0
    have g65 := sc0' (i := 1) (j := 65) (v := .int .u32 0) (b := M) (by decide) c65
    have hU : U ((r.s.pc + 4) % 4294967296) := by first | exact U_mod _ | exact U_mod' _
    replace hR4 := Aside.mk hR4
    replace hm3 := Aside.mk hm3
    simp only [Nat.add_zero] at c1
    go_wp2
    go_end0
    exact ⟨rfl, (hm3.out.setCell (p := ⟨M, 1, none⟩) (Or.inl rfl) _).setCell (p := ⟨M, 65, none⟩) (Or.inl rfl) _, hR4.out.done hU⟩
set_option maxRecDepth 100000 in
set_option maxHeartbeats 4000000 in
theorem step_SW {w : World} {b1 b2 R M B K N : Nat} {r : RS} (h : Rat w b1 R M B K r N) (hN : N < 999999999) (hin : r.s.inside) {n : Int} {d e f : Nat} (hd : DecR r.s.here 31 d e f n 0) (ha1 : ((r.s.x.getD e 0 + n) % 4294967296) % 4 = 0) (ha2 : ((r.s.x.getD e 0 + n) % 4294967296) + 4 ≤ r.s.mem.length) :
    Calls Try.prog 41 #[.pointer (some ⟨R, 0, none⟩)] w fun e' w' => e' = .returned (.tuple #[]) ∧ Mod (SR b1 b2 M B K) w w' ∧ Rat w' b1 R M B K ((r.on { r.s with mem := putN r.s.mem ((r.s.x.getD e 0 + n) % 4294967296).toNat (r.s.x.getD f 0) 4 }).fin ((r.s.pc + 4) % 4294967296)) (N + 1) := by
  obtain ⟨⟨o1, o2⟩, d1, e1, f1⟩ := decR_ops hd
  have fo := fetch_ok h.mac (by omega) hin hd
  unfold insV at fo
  replace fo := Aside.mk fo
  replace ha1 := Aside.mk ha1
  replace ha2 := Aside.mk ha2
  replace hin := Aside.mk hin
  replace hd := Aside.mk hd
  obtain ⟨iv, ev, -, -, -, -, rl, r0, -, -⟩ := h.facts
  replace h := Aside.mk h
  go_enter Try.func41, Try.ntmps41
  go_upto_region 1 with ((go_at_call 58); (refine Calls.mono fo.out ?_); (rintro e' w1 ⟨rfl, hm1, hM1⟩))
  have hR1 := h.out.turn hm1 (fun k hk => Or.inr (Or.inr hk)) hM1 (Nat.le_succ N)
  have hkT : Mod (fun k => k = K) w w1 := hm1
  have hk1 : Mod (SR b1 b2 M B K) w w1 := hm1.mono (fun k _ hk => Or.inr (Or.inr (Or.inl hk)))
  have hi1 := Blk.new w1 #[.int .i64 31, .int .i64 (d : Int), .int .i64 (e : Int), .int .i64 (f : Int), .int .i64 n] 40
  have hR2 := hR1.kp ((Kp.refl w1).alloc (.cells #[.int .i64 31, .int .i64 (d : Int), .int .i64 (e : Int), .int .i64 (f : Int), .int .i64 n] 40))
  have hk2 := Aside.mk (hk1.alloc (.cells #[.int .i64 31, .int .i64 (d : Int), .int .i64 (e : Int), .int .i64 (f : Int), .int .i64 n] 40))
  have nqe : Aside (M ≠ w1.heap.size ∧ B ≠ w1.heap.size ∧ K ≠ w1.heap.size ∧ R ≠ w1.heap.size) := ⟨by
    have h1 := hM1.m.lt
    have h2 := hM1.b.lt
    have h3 := hM1.kl
    have h4 : R < w1.heap.size := Nat.lt_of_lt_of_le rl hm1.size
    omega⟩
  generalize w1.alloc (.cells #[.int .i64 31, .int .i64 (d : Int), .int .i64 (e : Int), .int .i64 (f : Int), .int .i64 n] 40) = W at *
  generalize w1.heap.size = q at *
  clear hk1 hm1 hM1 hR1 rl r0 iv ev
  obtain ⟨il, i0, i1, i2, i3, i4, -⟩ := hi1.five
  obtain ⟨iv, ev, -, -, -, -, rl, r0, -, -⟩ := hR2.facts
  obtain ⟨lm, lb, -, c65, -, -, -⟩ := hR2.mac.facts
  have ce := hR2.mac.cx (r := e) (by omega)
  have cf := hR2.mac.cx (r := f) (by omega)
  have e0 : (0 : Int) ≤ (e : Int) := by omega
  have e2 : (e : Int) < 32 := by omega
  have f0 : (0 : Int) ≤ (f : Int) := by omega
  have f2 : (f : Int) < 32 := by omega
  replace hR2 := Aside.mk hR2
  replace hi1 := Aside.mk hi1
  go_quiet ((go_at_call 59; exact Calls.quiet_of_same (wof_still _ _)))
  go_upto_block 0 with fail
  have hi2 := hi1.out.kp ((Kp.refl W).drewN nq)
  have hR3 := hR2.out.kp ((Kp.refl W).drewN nq)
  replace hk2 := Aside.mk (hk2.out.drewN nq)
  clear hi1 hR2 il i0 i1 i2 i3 i4 rl r0 lm lb c65 ce cf iv ev
  generalize W.drewN nq = W2 at *
  have u1 : U (r.s.x.getD e 0) := getD_U hR3.mac.ok.ux e
  have u2 : U (r.s.x.getD f 0) := getD_U hR3.mac.ok.ux f
  have u3 : U r.s.pc := hR3.mac.ok.up
  obtain ⟨il, i0, i1, i2, i3, i4, -⟩ := hi2.five
  obtain ⟨iv, ev, -, -, -, -, rl, r0, -, -⟩ := hR3.facts
  obtain ⟨lm, lb, -, c65, -, -, -⟩ := hR3.mac.facts
  have cd := hR3.mac.cx (r := d) (by omega)
  have fd := hR3.mac.m.frozen (1 + d)
  have d0 : (0 : Int) ≤ (d : Int) := by omega
  have d2 : (d : Int) < 32 := by omega
  have nMR : M ≠ R := by have h1 := h.out.lR; have h2 := h.out.lM; omega
  have nMq : M ≠ q := nqe.out.1
  have ho := Aside.mk hR3.mac.ok
  replace hR3 := Aside.mk hR3
  replace hi2 := Aside.mk hi2
  go_cut [6] (fun s wx => s = .int .u32 ((r.s.pc + 4) % 4294967296) ∧ Mod (SR b1 b2 M B K) w wx ∧ Rat wx b1 R M B K (r.on { r.s with mem := putN r.s.mem ((r.s.x.getD e 0 + n) % 4294967296).toNat (r.s.x.getD f 0) 4 }) (N + 1))
  case first =>
    have mc := mem_SW (b2 := b2) hR3.out f (by omega) d e n ((r.s.x.getD e 0 + n) % 4294967296) (U_mod _) ha1.out ha2.out
    unfold insV at mc
    replace mc := Aside.mk mc
    go_wp2_with ((go_at_call 62); (refine Calls.mono mc.out ?_); (rintro e' w3 ⟨rfl, hm3, hR4⟩))
    go_meet
    exact ⟨rfl, hk2.out.trans hm3, hR4⟩
  case rest =>
    clear hR3 hi2 il i0 i1 i2 i3 i4 rl r0 lm lb c65 cd fd hk2 iv ev
    obtain ⟨rfl, hm3, hR4⟩ := hcut
    obtain ⟨iv, ev, -, -, -, -, rl, r0, -, -⟩ := hR4.facts
    obtain ⟨lm, lb, -, c65, -, -, -⟩ := hR4.mac.facts
    have c1 := hR4.mac.cx (r := 0) (by decide)
    have f1' := hR4.mac.m.frozen 1
    have f65 := hR4.mac.m.frozen 65
    have g0 := sc0 (i := 1) (v := .int .u32 0) nMR r0
    have g65 := sc0' (i := 1) (j := 65) (v := .int .u32 0) (b := M) (by decide) c65
    have hU : U ((r.s.pc + 4) % 4294967296) := by first | exact U_mod _ | exact U_mod' _
    replace hR4 := Aside.mk hR4
    replace hm3 := Aside.mk hm3
    simp only [Nat.add_zero] at c1
    go_wp2
    go_end0
    exact ⟨rfl, (hm3.out.setCell (p := ⟨M, 1, none⟩) (Or.inl rfl) _).setCell (p := ⟨M, 65, none⟩) (Or.inl rfl) _, hR4.out.done hU⟩
set_option maxRecDepth 100000 in
set_option maxHeartbeats 4000000 in
theorem step_FSD {w : World} {b1 b2 R M B K N : Nat} {r : RS} (h : Rat w b1 R M B K r N) (hN : N < 999999999) (hin : r.s.inside) {n : Int} {d e f : Nat} (hd : DecR r.s.here 44 d e f n 0) (ha1 : ((r.s.x.getD e 0 + n) % 4294967296) % 8 = 0) (ha2 : ((r.s.x.getD e 0 + n) % 4294967296) + 8 ≤ r.s.mem.length) :
    Calls Try.prog 41 #[.pointer (some ⟨R, 0, none⟩)] w fun e' w' => e' = .returned (.tuple #[]) ∧ Mod (SR b1 b2 M B K) w w' ∧ Rat w' b1 R M B K ((r.on { r.s with mem := putN r.s.mem ((r.s.x.getD e 0 + n) % 4294967296).toNat (r.s.f.getD f 0) 8 }).fin ((r.s.pc + 4) % 4294967296)) (N + 1) := by
  obtain ⟨⟨o1, o2⟩, d1, e1, f1⟩ := decR_ops hd
  have fo := fetch_ok h.mac (by omega) hin hd
  unfold insV at fo
  replace fo := Aside.mk fo
  replace ha1 := Aside.mk ha1
  replace ha2 := Aside.mk ha2
  replace hin := Aside.mk hin
  replace hd := Aside.mk hd
  obtain ⟨iv, ev, -, -, -, -, rl, r0, -, -⟩ := h.facts
  replace h := Aside.mk h
  go_enter Try.func41, Try.ntmps41
  go_upto_region 1 with ((go_at_call 58); (refine Calls.mono fo.out ?_); (rintro e' w1 ⟨rfl, hm1, hM1⟩))
  have hR1 := h.out.turn hm1 (fun k hk => Or.inr (Or.inr hk)) hM1 (Nat.le_succ N)
  have hkT : Mod (fun k => k = K) w w1 := hm1
  have hk1 : Mod (SR b1 b2 M B K) w w1 := hm1.mono (fun k _ hk => Or.inr (Or.inr (Or.inl hk)))
  have hi1 := Blk.new w1 #[.int .i64 44, .int .i64 (d : Int), .int .i64 (e : Int), .int .i64 (f : Int), .int .i64 n] 40
  have hR2 := hR1.kp ((Kp.refl w1).alloc (.cells #[.int .i64 44, .int .i64 (d : Int), .int .i64 (e : Int), .int .i64 (f : Int), .int .i64 n] 40))
  have hk2 := Aside.mk (hk1.alloc (.cells #[.int .i64 44, .int .i64 (d : Int), .int .i64 (e : Int), .int .i64 (f : Int), .int .i64 n] 40))
  have nqe : Aside (M ≠ w1.heap.size ∧ B ≠ w1.heap.size ∧ K ≠ w1.heap.size ∧ R ≠ w1.heap.size) := ⟨by
    have h1 := hM1.m.lt
    have h2 := hM1.b.lt
    have h3 := hM1.kl
    have h4 : R < w1.heap.size := Nat.lt_of_lt_of_le rl hm1.size
    omega⟩
  generalize w1.alloc (.cells #[.int .i64 44, .int .i64 (d : Int), .int .i64 (e : Int), .int .i64 (f : Int), .int .i64 n] 40) = W at *
  generalize w1.heap.size = q at *
  clear hk1 hm1 hM1 hR1 rl r0 iv ev
  obtain ⟨il, i0, i1, i2, i3, i4, -⟩ := hi1.five
  obtain ⟨iv, ev, -, -, -, -, rl, r0, -, -⟩ := hR2.facts
  obtain ⟨lm, lb, -, c65, -, -, -⟩ := hR2.mac.facts
  have ce := hR2.mac.cx (r := e) (by omega)
  have cf := hR2.mac.cx (r := f) (by omega)
  have e0 : (0 : Int) ≤ (e : Int) := by omega
  have e2 : (e : Int) < 32 := by omega
  have f0 : (0 : Int) ≤ (f : Int) := by omega
  have f2 : (f : Int) < 32 := by omega
  replace hR2 := Aside.mk hR2
  replace hi1 := Aside.mk hi1
  go_quiet ((go_at_call 59; exact Calls.quiet_of_same (wof_still _ _)))
  go_upto_block 0 with fail
  have hi2 := hi1.out.kp ((Kp.refl W).drewN nq)
  have hR3 := hR2.out.kp ((Kp.refl W).drewN nq)
  replace hk2 := Aside.mk (hk2.out.drewN nq)
  clear hi1 hR2 il i0 i1 i2 i3 i4 rl r0 lm lb c65 ce cf iv ev
  generalize W.drewN nq = W2 at *
  have u1 : U (r.s.x.getD e 0) := getD_U hR3.mac.ok.ux e
  have u2 : U (r.s.x.getD f 0) := getD_U hR3.mac.ok.ux f
  have u3 : U r.s.pc := hR3.mac.ok.up
  obtain ⟨il, i0, i1, i2, i3, i4, -⟩ := hi2.five
  obtain ⟨iv, ev, -, -, -, -, rl, r0, -, -⟩ := hR3.facts
  obtain ⟨lm, lb, -, c65, -, -, -⟩ := hR3.mac.facts
  have cd := hR3.mac.cx (r := d) (by omega)
  have fd := hR3.mac.m.frozen (1 + d)
  have d0 : (0 : Int) ≤ (d : Int) := by omega
  have d2 : (d : Int) < 32 := by omega
  have nMR : M ≠ R := by have h1 := h.out.lR; have h2 := h.out.lM; omega
  have nMq : M ≠ q := nqe.out.1
  have ho := Aside.mk hR3.mac.ok
  replace hR3 := Aside.mk hR3
  replace hi2 := Aside.mk hi2
  go_cut [6] (fun s wx => s = .int .u32 ((r.s.pc + 4) % 4294967296) ∧ Mod (SR b1 b2 M B K) w wx ∧ Rat wx b1 R M B K (r.on { r.s with mem := putN r.s.mem ((r.s.x.getD e 0 + n) % 4294967296).toNat (r.s.f.getD f 0) 8 }) (N + 1))
  case first =>
    have mc := mem_FSD (b2 := b2) hR3.out f (by omega) d e n ((r.s.x.getD e 0 + n) % 4294967296) (U_mod _) ha1.out ha2.out
    unfold insV at mc
    replace mc := Aside.mk mc
    go_wp2_with ((go_at_call 62); (refine Calls.mono mc.out ?_); (rintro e' w3 ⟨rfl, hm3, hR4⟩))
    go_meet
    exact ⟨rfl, hk2.out.trans hm3, hR4⟩
  case rest =>
    clear hR3 hi2 il i0 i1 i2 i3 i4 rl r0 lm lb c65 cd fd hk2 iv ev
    obtain ⟨rfl, hm3, hR4⟩ := hcut
    obtain ⟨iv, ev, -, -, -, -, rl, r0, -, -⟩ := hR4.facts
    obtain ⟨lm, lb, -, c65, -, -, -⟩ := hR4.mac.facts
    have c1 := hR4.mac.cx (r := 0) (by decide)
    have f1' := hR4.mac.m.frozen 1
    have f65 := hR4.mac.m.frozen 65
    have g0 := sc0 (i := 1) (v := .int .u32 0) nMR r0
    have g65 := sc0' (i := 1) (j := 65) (v := .int .u32 0) (b := M) (by decide) c65
    have hU : U ((r.s.pc + 4) % 4294967296) := by first | exact U_mod _ | exact U_mod' _
    replace hR4 := Aside.mk hR4
    replace hm3 := Aside.mk hm3
    simp only [Nat.add_zero] at c1
    go_wp2
    go_end0
    exact ⟨rfl, (hm3.out.setCell (p := ⟨M, 1, none⟩) (Or.inl rfl) _).setCell (p := ⟨M, 65, none⟩) (Or.inl rfl) _, hR4.out.done hU⟩
end Go.Proofs.Ytnbooljaodkedaa
