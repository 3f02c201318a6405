/- Steps that stop the machine, walked. Conditions stand at each. -/
import Derived.Test.YtgcihcgclmdolaaMachNb
import Derived.Test.YtgcihcgclmdolaaMachT
namespace Go.Proofs.Ytgcihcgclmdolaa
open Go.RowKit Go.Maps Go.Proofs.Ytgcihcgclmdolaa.PC Go.Proofs.Ytgcihcgclmdolaa.PW
set_option linter.unusedVariables false
set_option linter.unusedSimpArgs false
set_option maxRecDepth 100000 in
set_option maxHeartbeats 1000000 in
theorem stop_far {w : World} {b1 R M B K N : Nat} {r : RS} (h : Rat w b1 R M B K r N) {c : Int} (hs : r.s.stops c) :
    Calls Try.prog 34 #[.pointer (some ⟨R, 0, none⟩)] w fun e' w' => e' = .panicked (thrown c) ∧ Mod (fun k => k = K) w w' ∧ Rat w' b1 R M B K r (N + 1) := by
  have fb := Aside.mk (fetch_bad h.mac hs)
  obtain ⟨iv, ev, -, -, -, -, rl, r0, -, -⟩ := h.facts
  replace h := Aside.mk h
  replace hs := Aside.mk hs
  go_enter Try.func34, Try.ntmps34
  go_wp2_with ((go_at_call 39); (refine Calls.mono fb.out ?_); (rintro e' w1 ⟨rfl, hk⟩))
  exact ⟨rfl, rfl, hk.mod, (h.out.kp hk).more (Nat.le_succ _)⟩
set_option maxRecDepth 100000 in
set_option maxHeartbeats 4000000 in
theorem stop_LB {w : World} {b1 R M B K N : Nat} {r : RS} (h : Rat w b1 R M B K r N) (hN : N < 999999999) (hin : r.s.inside) {n : Int} {d e f : Nat} (hd : DecR r.s.here 27 d e f n 0) (hno : ¬(((r.s.x.getD e 0 + n) % 4294967296) % 1 = 0 ∧ ((r.s.x.getD e 0 + n) % 4294967296) + 1 ≤ r.s.mem.length)) :
    Calls Try.prog 34 #[.pointer (some ⟨R, 0, none⟩)] w fun e' w' => e' = .panicked (thrown 3) ∧ Mod (fun k => k = K) w w' ∧ Rat w' b1 R M B K r (N + 1) := by
  obtain ⟨⟨o1, o2⟩, d1, e1, f1⟩ := decR_ops hd
  have fo := fetch_ok h.mac (by omega) hin hd
  unfold insV at fo
  replace fo := Aside.mk fo
  replace hno := Aside.mk hno
  replace hin := Aside.mk hin
  replace hd := Aside.mk hd
  obtain ⟨iv, ev, -, -, -, -, rl, r0, -, -⟩ := h.facts
  replace h := Aside.mk h
  go_enter Try.func34, Try.ntmps34
  go_upto_region 1 with ((go_at_call 39); (refine Calls.mono fo.out ?_); (rintro e' w1 ⟨rfl, hm1, hM1⟩))
  have hR1 := h.out.turn hm1 (fun k hk => Or.inr (Or.inr hk)) hM1 (Nat.le_succ N)
  have hkT : Mod (fun k => k = K) w w1 := hm1
  have hk1 : Mod (fun k => k = K) w w1 := hm1
  have hi1 := Blk.new w1 #[.int .i64 27, .int .i64 (d : Int), .int .i64 (e : Int), .int .i64 (f : Int), .int .i64 n] 26
  have hR2 := hR1.kp ((Kp.refl w1).alloc (.cells #[.int .i64 27, .int .i64 (d : Int), .int .i64 (e : Int), .int .i64 (f : Int), .int .i64 n] 26))
  have hk2 := Aside.mk (hk1.alloc (.cells #[.int .i64 27, .int .i64 (d : Int), .int .i64 (e : Int), .int .i64 (f : Int), .int .i64 n] 26))
  have nqe : Aside (M ≠ w1.heap.size ∧ B ≠ w1.heap.size ∧ K ≠ w1.heap.size ∧ R ≠ w1.heap.size) := ⟨by
    have h1 := hM1.m.lt
    have h2 := hM1.b.lt
    have h3 := hM1.kl
    have h4 : R < w1.heap.size := Nat.lt_of_lt_of_le rl hm1.size
    omega⟩
  generalize w1.alloc (.cells #[.int .i64 27, .int .i64 (d : Int), .int .i64 (e : Int), .int .i64 (f : Int), .int .i64 n] 26) = W at *
  generalize w1.heap.size = q at *
  clear hk1 hm1 hM1 hR1 rl r0 iv ev
  obtain ⟨il, i0, i1, i2, i3, i4, -⟩ := hi1.five
  obtain ⟨iv, ev, -, -, -, -, rl, r0, -, -⟩ := hR2.facts
  obtain ⟨lm, lb, -, c65, -, -, -⟩ := hR2.mac.facts
  have ce := hR2.mac.cx (r := e) (by omega)
  have cf := hR2.mac.cx (r := f) (by omega)
  have e0 : (0 : Int) ≤ (e : Int) := by omega
  have e2 : (e : Int) < 32 := by omega
  have f0 : (0 : Int) ≤ (f : Int) := by omega
  have f2 : (f : Int) < 32 := by omega
  replace hR2 := Aside.mk hR2
  replace hi1 := Aside.mk hi1
  go_quiet ((go_at_call 40; exact Calls.quiet_of_same (wof_still _ _)))
  go_upto_block 0 with fail
  have hi2 := hi1.out.kp ((Kp.refl W).drewN nq)
  have hR3 := hR2.out.kp ((Kp.refl W).drewN nq)
  replace hk2 := Aside.mk (hk2.out.drewN nq)
  clear hi1 hR2 il i0 i1 i2 i3 i4 rl r0 lm lb c65 ce cf iv ev
  generalize W.drewN nq = W2 at *
  have u1 : U (r.s.x.getD e 0) := getD_U hR3.mac.ok.ux e
  have u2 : U (r.s.x.getD f 0) := getD_U hR3.mac.ok.ux f
  have u3 : U r.s.pc := hR3.mac.ok.up
  obtain ⟨il, i0, i1, i2, i3, i4, -⟩ := hi2.five
  obtain ⟨iv, ev, -, -, -, -, rl, r0, -, -⟩ := hR3.facts
  obtain ⟨lm, lb, -, c65, -, -, -⟩ := hR3.mac.facts
  have cd := hR3.mac.cx (r := d) (by omega)
  have fd := hR3.mac.m.frozen (1 + d)
  have d0 : (0 : Int) ≤ (d : Int) := by omega
  have d2 : (d : Int) < 32 := by omega
  have nMR : M ≠ R := by have h1 := h.out.lR; have h2 := h.out.lM; omega
  have nMq : M ≠ q := nqe.out.1
  have ho := Aside.mk hR3.mac.ok
  replace hR3 := Aside.mk hR3
  replace hi2 := Aside.mk hi2
  have mc := bad_LB hR3.out d e f (by omega) (by omega) (by omega) n ((r.s.x.getD e 0 + n) % 4294967296) (U_mod _) hno.out
  unfold insV at mc
  replace mc := Aside.mk mc
  go_wp2_with ((go_at_call 43); (refine Calls.mono mc.out ?_); (rintro e' w3 ⟨rfl, kp3⟩))
  exact ⟨rfl, rfl, hk2.out.kp kp3, hR3.out.kp kp3⟩
set_option maxRecDepth 100000 in
set_option maxHeartbeats 4000000 in
theorem stop_LBU {w : World} {b1 R M B K N : Nat} {r : RS} (h : Rat w b1 R M B K r N) (hN : N < 999999999) (hin : r.s.inside) {n : Int} {d e f : Nat} (hd : DecR r.s.here 28 d e f n 0) (hno : ¬(((r.s.x.getD e 0 + n) % 4294967296) % 1 = 0 ∧ ((r.s.x.getD e 0 + n) % 4294967296) + 1 ≤ r.s.mem.length)) :
    Calls Try.prog 34 #[.pointer (some ⟨R, 0, none⟩)] w fun e' w' => e' = .panicked (thrown 3) ∧ Mod (fun k => k = K) w w' ∧ Rat w' b1 R M B K r (N + 1) := by
  obtain ⟨⟨o1, o2⟩, d1, e1, f1⟩ := decR_ops hd
  have fo := fetch_ok h.mac (by omega) hin hd
  unfold insV at fo
  replace fo := Aside.mk fo
  replace hno := Aside.mk hno
  replace hin := Aside.mk hin
  replace hd := Aside.mk hd
  obtain ⟨iv, ev, -, -, -, -, rl, r0, -, -⟩ := h.facts
  replace h := Aside.mk h
  go_enter Try.func34, Try.ntmps34
  go_upto_region 1 with ((go_at_call 39); (refine Calls.mono fo.out ?_); (rintro e' w1 ⟨rfl, hm1, hM1⟩))
  have hR1 := h.out.turn hm1 (fun k hk => Or.inr (Or.inr hk)) hM1 (Nat.le_succ N)
  have hkT : Mod (fun k => k = K) w w1 := hm1
  have hk1 : Mod (fun k => k = K) w w1 := hm1
  have hi1 := Blk.new w1 #[.int .i64 28, .int .i64 (d : Int), .int .i64 (e : Int), .int .i64 (f : Int), .int .i64 n] 26
  have hR2 := hR1.kp ((Kp.refl w1).alloc (.cells #[.int .i64 28, .int .i64 (d : Int), .int .i64 (e : Int), .int .i64 (f : Int), .int .i64 n] 26))
  have hk2 := Aside.mk (hk1.alloc (.cells #[.int .i64 28, .int .i64 (d : Int), .int .i64 (e : Int), .int .i64 (f : Int), .int .i64 n] 26))
  have nqe : Aside (M ≠ w1.heap.size ∧ B ≠ w1.heap.size ∧ K ≠ w1.heap.size ∧ R ≠ w1.heap.size) := ⟨by
    have h1 := hM1.m.lt
    have h2 := hM1.b.lt
    have h3 := hM1.kl
    have h4 : R < w1.heap.size := Nat.lt_of_lt_of_le rl hm1.size
    omega⟩
  generalize w1.alloc (.cells #[.int .i64 28, .int .i64 (d : Int), .int .i64 (e : Int), .int .i64 (f : Int), .int .i64 n] 26) = W at *
  generalize w1.heap.size = q at *
  clear hk1 hm1 hM1 hR1 rl r0 iv ev
  obtain ⟨il, i0, i1, i2, i3, i4, -⟩ := hi1.five
  obtain ⟨iv, ev, -, -, -, -, rl, r0, -, -⟩ := hR2.facts
  obtain ⟨lm, lb, -, c65, -, -, -⟩ := hR2.mac.facts
  have ce := hR2.mac.cx (r := e) (by omega)
  have cf := hR2.mac.cx (r := f) (by omega)
  have e0 : (0 : Int) ≤ (e : Int) := by omega
  have e2 : (e : Int) < 32 := by omega
  have f0 : (0 : Int) ≤ (f : Int) := by omega
  have f2 : (f : Int) < 32 := by omega
  replace hR2 := Aside.mk hR2
  replace hi1 := Aside.mk hi1
  go_quiet ((go_at_call 40; exact Calls.quiet_of_same (wof_still _ _)))
  go_upto_block 0 with fail
  have hi2 := hi1.out.kp ((Kp.refl W).drewN nq)
  have hR3 := hR2.out.kp ((Kp.refl W).drewN nq)
  replace hk2 := Aside.mk (hk2.out.drewN nq)
  clear hi1 hR2 il i0 i1 i2 i3 i4 rl r0 lm lb c65 ce cf iv ev
  generalize W.drewN nq = W2 at *
  have u1 : U (r.s.x.getD e 0) := getD_U hR3.mac.ok.ux e
  have u2 : U (r.s.x.getD f 0) := getD_U hR3.mac.ok.ux f
  have u3 : U r.s.pc := hR3.mac.ok.up
  obtain ⟨il, i0, i1, i2, i3, i4, -⟩ := hi2.five
  obtain ⟨iv, ev, -, -, -, -, rl, r0, -, -⟩ := hR3.facts
  obtain ⟨lm, lb, -, c65, -, -, -⟩ := hR3.mac.facts
  have cd := hR3.mac.cx (r := d) (by omega)
  have fd := hR3.mac.m.frozen (1 + d)
  have d0 : (0 : Int) ≤ (d : Int) := by omega
  have d2 : (d : Int) < 32 := by omega
  have nMR : M ≠ R := by have h1 := h.out.lR; have h2 := h.out.lM; omega
  have nMq : M ≠ q := nqe.out.1
  have ho := Aside.mk hR3.mac.ok
  replace hR3 := Aside.mk hR3
  replace hi2 := Aside.mk hi2
  have mc := bad_LBU hR3.out d e f (by omega) (by omega) (by omega) n ((r.s.x.getD e 0 + n) % 4294967296) (U_mod _) hno.out
  unfold insV at mc
  replace mc := Aside.mk mc
  go_wp2_with ((go_at_call 43); (refine Calls.mono mc.out ?_); (rintro e' w3 ⟨rfl, kp3⟩))
  exact ⟨rfl, rfl, hk2.out.kp kp3, hR3.out.kp kp3⟩
set_option maxRecDepth 100000 in
set_option maxHeartbeats 4000000 in
theorem stop_LW {w : World} {b1 R M B K N : Nat} {r : RS} (h : Rat w b1 R M B K r N) (hN : N < 999999999) (hin : r.s.inside) {n : Int} {d e f : Nat} (hd : DecR r.s.here 29 d e f n 0) (hno : ¬(((r.s.x.getD e 0 + n) % 4294967296) % 4 = 0 ∧ ((r.s.x.getD e 0 + n) % 4294967296) + 4 ≤ r.s.mem.length)) :
    Calls Try.prog 34 #[.pointer (some ⟨R, 0, none⟩)] w fun e' w' => e' = .panicked (thrown 3) ∧ Mod (fun k => k = K) w w' ∧ Rat w' b1 R M B K r (N + 1) := by
  obtain ⟨⟨o1, o2⟩, d1, e1, f1⟩ := decR_ops hd
  have fo := fetch_ok h.mac (by omega) hin hd
  unfold insV at fo
  replace fo := Aside.mk fo
  replace hno := Aside.mk hno
  replace hin := Aside.mk hin
  replace hd := Aside.mk hd
  obtain ⟨iv, ev, -, -, -, -, rl, r0, -, -⟩ := h.facts
  replace h := Aside.mk h
  go_enter Try.func34, Try.ntmps34
  go_upto_region 1 with ((go_at_call 39); (refine Calls.mono fo.out ?_); (rintro e' w1 ⟨rfl, hm1, hM1⟩))
  have hR1 := h.out.turn hm1 (fun k hk => Or.inr (Or.inr hk)) hM1 (Nat.le_succ N)
  have hkT : Mod (fun k => k = K) w w1 := hm1
  have hk1 : Mod (fun k => k = K) w w1 := hm1
  have hi1 := Blk.new w1 #[.int .i64 29, .int .i64 (d : Int), .int .i64 (e : Int), .int .i64 (f : Int), .int .i64 n] 26
  have hR2 := hR1.kp ((Kp.refl w1).alloc (.cells #[.int .i64 29, .int .i64 (d : Int), .int .i64 (e : Int), .int .i64 (f : Int), .int .i64 n] 26))
  have hk2 := Aside.mk (hk1.alloc (.cells #[.int .i64 29, .int .i64 (d : Int), .int .i64 (e : Int), .int .i64 (f : Int), .int .i64 n] 26))
  have nqe : Aside (M ≠ w1.heap.size ∧ B ≠ w1.heap.size ∧ K ≠ w1.heap.size ∧ R ≠ w1.heap.size) := ⟨by
    have h1 := hM1.m.lt
    have h2 := hM1.b.lt
    have h3 := hM1.kl
    have h4 : R < w1.heap.size := Nat.lt_of_lt_of_le rl hm1.size
    omega⟩
  generalize w1.alloc (.cells #[.int .i64 29, .int .i64 (d : Int), .int .i64 (e : Int), .int .i64 (f : Int), .int .i64 n] 26) = W at *
  generalize w1.heap.size = q at *
  clear hk1 hm1 hM1 hR1 rl r0 iv ev
  obtain ⟨il, i0, i1, i2, i3, i4, -⟩ := hi1.five
  obtain ⟨iv, ev, -, -, -, -, rl, r0, -, -⟩ := hR2.facts
  obtain ⟨lm, lb, -, c65, -, -, -⟩ := hR2.mac.facts
  have ce := hR2.mac.cx (r := e) (by omega)
  have cf := hR2.mac.cx (r := f) (by omega)
  have e0 : (0 : Int) ≤ (e : Int) := by omega
  have e2 : (e : Int) < 32 := by omega
  have f0 : (0 : Int) ≤ (f : Int) := by omega
  have f2 : (f : Int) < 32 := by omega
  replace hR2 := Aside.mk hR2
  replace hi1 := Aside.mk hi1
  go_quiet ((go_at_call 40; exact Calls.quiet_of_same (wof_still _ _)))
  go_upto_block 0 with fail
  have hi2 := hi1.out.kp ((Kp.refl W).drewN nq)
  have hR3 := hR2.out.kp ((Kp.refl W).drewN nq)
  replace hk2 := Aside.mk (hk2.out.drewN nq)
  clear hi1 hR2 il i0 i1 i2 i3 i4 rl r0 lm lb c65 ce cf iv ev
  generalize W.drewN nq = W2 at *
  have u1 : U (r.s.x.getD e 0) := getD_U hR3.mac.ok.ux e
  have u2 : U (r.s.x.getD f 0) := getD_U hR3.mac.ok.ux f
  have u3 : U r.s.pc := hR3.mac.ok.up
  obtain ⟨il, i0, i1, i2, i3, i4, -⟩ := hi2.five
  obtain ⟨iv, ev, -, -, -, -, rl, r0, -, -⟩ := hR3.facts
  obtain ⟨lm, lb, -, c65, -, -, -⟩ := hR3.mac.facts
  have cd := hR3.mac.cx (r := d) (by omega)
  have fd := hR3.mac.m.frozen (1 + d)
  have d0 : (0 : Int) ≤ (d : Int) := by omega
  have d2 : (d : Int) < 32 := by omega
  have nMR : M ≠ R := by have h1 := h.out.lR; have h2 := h.out.lM; omega
  have nMq : M ≠ q := nqe.out.1
  have ho := Aside.mk hR3.mac.ok
  replace hR3 := Aside.mk hR3
  replace hi2 := Aside.mk hi2
  have mc := bad_LW hR3.out d e f (by omega) (by omega) (by omega) n ((r.s.x.getD e 0 + n) % 4294967296) (U_mod _) hno.out
  unfold insV at mc
  replace mc := Aside.mk mc
  go_wp2_with ((go_at_call 43); (refine Calls.mono mc.out ?_); (rintro e' w3 ⟨rfl, kp3⟩))
  exact ⟨rfl, rfl, hk2.out.kp kp3, hR3.out.kp kp3⟩
set_option maxRecDepth 100000 in
set_option maxHeartbeats 4000000 in
theorem stop_SB {w : World} {b1 R M B K N : Nat} {r : RS} (h : Rat w b1 R M B K r N) (hN : N < 999999999) (hin : r.s.inside) {n : Int} {d e f : Nat} (hd : DecR r.s.here 30 d e f n 0) (hno : ¬(((r.s.x.getD e 0 + n) % 4294967296) % 1 = 0 ∧ ((r.s.x.getD e 0 + n) % 4294967296) + 1 ≤ r.s.mem.length)) :
    Calls Try.prog 34 #[.pointer (some ⟨R, 0, none⟩)] w fun e' w' => e' = .panicked (thrown 3) ∧ Mod (fun k => k = K) w w' ∧ Rat w' b1 R M B K r (N + 1) := by
  obtain ⟨⟨o1, o2⟩, d1, e1, f1⟩ := decR_ops hd
  have fo := fetch_ok h.mac (by omega) hin hd
  unfold insV at fo
  replace fo := Aside.mk fo
  replace hno := Aside.mk hno
  replace hin := Aside.mk hin
  replace hd := Aside.mk hd
  obtain ⟨iv, ev, -, -, -, -, rl, r0, -, -⟩ := h.facts
  replace h := Aside.mk h
  go_enter Try.func34, Try.ntmps34
  go_upto_region 1 with ((go_at_call 39); (refine Calls.mono fo.out ?_); (rintro e' w1 ⟨rfl, hm1, hM1⟩))
  have hR1 := h.out.turn hm1 (fun k hk => Or.inr (Or.inr hk)) hM1 (Nat.le_succ N)
  have hkT : Mod (fun k => k = K) w w1 := hm1
  have hk1 : Mod (fun k => k = K) w w1 := hm1
  have hi1 := Blk.new w1 #[.int .i64 30, .int .i64 (d : Int), .int .i64 (e : Int), .int .i64 (f : Int), .int .i64 n] 26
  have hR2 := hR1.kp ((Kp.refl w1).alloc (.cells #[.int .i64 30, .int .i64 (d : Int), .int .i64 (e : Int), .int .i64 (f : Int), .int .i64 n] 26))
  have hk2 := Aside.mk (hk1.alloc (.cells #[.int .i64 30, .int .i64 (d : Int), .int .i64 (e : Int), .int .i64 (f : Int), .int .i64 n] 26))
  have nqe : Aside (M ≠ w1.heap.size ∧ B ≠ w1.heap.size ∧ K ≠ w1.heap.size ∧ R ≠ w1.heap.size) := ⟨by
    have h1 := hM1.m.lt
    have h2 := hM1.b.lt
    have h3 := hM1.kl
    have h4 : R < w1.heap.size := Nat.lt_of_lt_of_le rl hm1.size
    omega⟩
  generalize w1.alloc (.cells #[.int .i64 30, .int .i64 (d : Int), .int .i64 (e : Int), .int .i64 (f : Int), .int .i64 n] 26) = W at *
  generalize w1.heap.size = q at *
  clear hk1 hm1 hM1 hR1 rl r0 iv ev
  obtain ⟨il, i0, i1, i2, i3, i4, -⟩ := hi1.five
  obtain ⟨iv, ev, -, -, -, -, rl, r0, -, -⟩ := hR2.facts
  obtain ⟨lm, lb, -, c65, -, -, -⟩ := hR2.mac.facts
  have ce := hR2.mac.cx (r := e) (by omega)
  have cf := hR2.mac.cx (r := f) (by omega)
  have e0 : (0 : Int) ≤ (e : Int) := by omega
  have e2 : (e : Int) < 32 := by omega
  have f0 : (0 : Int) ≤ (f : Int) := by omega
  have f2 : (f : Int) < 32 := by omega
  replace hR2 := Aside.mk hR2
  replace hi1 := Aside.mk hi1
  go_quiet ((go_at_call 40; exact Calls.quiet_of_same (wof_still _ _)))
  go_upto_block 0 with fail
  have hi2 := hi1.out.kp ((Kp.refl W).drewN nq)
  have hR3 := hR2.out.kp ((Kp.refl W).drewN nq)
  replace hk2 := Aside.mk (hk2.out.drewN nq)
  clear hi1 hR2 il i0 i1 i2 i3 i4 rl r0 lm lb c65 ce cf iv ev
  generalize W.drewN nq = W2 at *
  have u1 : U (r.s.x.getD e 0) := getD_U hR3.mac.ok.ux e
  have u2 : U (r.s.x.getD f 0) := getD_U hR3.mac.ok.ux f
  have u3 : U r.s.pc := hR3.mac.ok.up
  obtain ⟨il, i0, i1, i2, i3, i4, -⟩ := hi2.five
  obtain ⟨iv, ev, -, -, -, -, rl, r0, -, -⟩ := hR3.facts
  obtain ⟨lm, lb, -, c65, -, -, -⟩ := hR3.mac.facts
  have cd := hR3.mac.cx (r := d) (by omega)
  have fd := hR3.mac.m.frozen (1 + d)
  have d0 : (0 : Int) ≤ (d : Int) := by omega
  have d2 : (d : Int) < 32 := by omega
  have nMR : M ≠ R := by have h1 := h.out.lR; have h2 := h.out.lM; omega
  have nMq : M ≠ q := nqe.out.1
  have ho := Aside.mk hR3.mac.ok
  replace hR3 := Aside.mk hR3
  replace hi2 := Aside.mk hi2
  have mc := bad_SB hR3.out d e f (by omega) (by omega) (by omega) n ((r.s.x.getD e 0 + n) % 4294967296) (U_mod _) hno.out
  unfold insV at mc
  replace mc := Aside.mk mc
  go_wp2_with ((go_at_call 43); (refine Calls.mono mc.out ?_); (rintro e' w3 ⟨rfl, kp3⟩))
  exact ⟨rfl, rfl, hk2.out.kp kp3, hR3.out.kp kp3⟩
set_option maxRecDepth 100000 in
set_option maxHeartbeats 4000000 in
theorem stop_SW {w : World} {b1 R M B K N : Nat} {r : RS} (h : Rat w b1 R M B K r N) (hN : N < 999999999) (hin : r.s.inside) {n : Int} {d e f : Nat} (hd : DecR r.s.here 31 d e f n 0) (hno : ¬(((r.s.x.getD e 0 + n) % 4294967296) % 4 = 0 ∧ ((r.s.x.getD e 0 + n) % 4294967296) + 4 ≤ r.s.mem.length)) :
    Calls Try.prog 34 #[.pointer (some ⟨R, 0, none⟩)] w fun e' w' => e' = .panicked (thrown 3) ∧ Mod (fun k => k = K) w w' ∧ Rat w' b1 R M B K r (N + 1) := by
  obtain ⟨⟨o1, o2⟩, d1, e1, f1⟩ := decR_ops hd
  have fo := fetch_ok h.mac (by omega) hin hd
  unfold insV at fo
  replace fo := Aside.mk fo
  replace hno := Aside.mk hno
  replace hin := Aside.mk hin
  replace hd := Aside.mk hd
  obtain ⟨iv, ev, -, -, -, -, rl, r0, -, -⟩ := h.facts
  replace h := Aside.mk h
  go_enter Try.func34, Try.ntmps34
  go_upto_region 1 with ((go_at_call 39); (refine Calls.mono fo.out ?_); (rintro e' w1 ⟨rfl, hm1, hM1⟩))
  have hR1 := h.out.turn hm1 (fun k hk => Or.inr (Or.inr hk)) hM1 (Nat.le_succ N)
  have hkT : Mod (fun k => k = K) w w1 := hm1
  have hk1 : Mod (fun k => k = K) w w1 := hm1
  have hi1 := Blk.new w1 #[.int .i64 31, .int .i64 (d : Int), .int .i64 (e : Int), .int .i64 (f : Int), .int .i64 n] 26
  have hR2 := hR1.kp ((Kp.refl w1).alloc (.cells #[.int .i64 31, .int .i64 (d : Int), .int .i64 (e : Int), .int .i64 (f : Int), .int .i64 n] 26))
  have hk2 := Aside.mk (hk1.alloc (.cells #[.int .i64 31, .int .i64 (d : Int), .int .i64 (e : Int), .int .i64 (f : Int), .int .i64 n] 26))
  have nqe : Aside (M ≠ w1.heap.size ∧ B ≠ w1.heap.size ∧ K ≠ w1.heap.size ∧ R ≠ w1.heap.size) := ⟨by
    have h1 := hM1.m.lt
    have h2 := hM1.b.lt
    have h3 := hM1.kl
    have h4 : R < w1.heap.size := Nat.lt_of_lt_of_le rl hm1.size
    omega⟩
  generalize w1.alloc (.cells #[.int .i64 31, .int .i64 (d : Int), .int .i64 (e : Int), .int .i64 (f : Int), .int .i64 n] 26) = W at *
  generalize w1.heap.size = q at *
  clear hk1 hm1 hM1 hR1 rl r0 iv ev
  obtain ⟨il, i0, i1, i2, i3, i4, -⟩ := hi1.five
  obtain ⟨iv, ev, -, -, -, -, rl, r0, -, -⟩ := hR2.facts
  obtain ⟨lm, lb, -, c65, -, -, -⟩ := hR2.mac.facts
  have ce := hR2.mac.cx (r := e) (by omega)
  have cf := hR2.mac.cx (r := f) (by omega)
  have e0 : (0 : Int) ≤ (e : Int) := by omega
  have e2 : (e : Int) < 32 := by omega
  have f0 : (0 : Int) ≤ (f : Int) := by omega
  have f2 : (f : Int) < 32 := by omega
  replace hR2 := Aside.mk hR2
  replace hi1 := Aside.mk hi1
  go_quiet ((go_at_call 40; exact Calls.quiet_of_same (wof_still _ _)))
  go_upto_block 0 with fail
  have hi2 := hi1.out.kp ((Kp.refl W).drewN nq)
  have hR3 := hR2.out.kp ((Kp.refl W).drewN nq)
  replace hk2 := Aside.mk (hk2.out.drewN nq)
  clear hi1 hR2 il i0 i1 i2 i3 i4 rl r0 lm lb c65 ce cf iv ev
  generalize W.drewN nq = W2 at *
  have u1 : U (r.s.x.getD e 0) := getD_U hR3.mac.ok.ux e
  have u2 : U (r.s.x.getD f 0) := getD_U hR3.mac.ok.ux f
  have u3 : U r.s.pc := hR3.mac.ok.up
  obtain ⟨il, i0, i1, i2, i3, i4, -⟩ := hi2.five
  obtain ⟨iv, ev, -, -, -, -, rl, r0, -, -⟩ := hR3.facts
  obtain ⟨lm, lb, -, c65, -, -, -⟩ := hR3.mac.facts
  have cd := hR3.mac.cx (r := d) (by omega)
  have fd := hR3.mac.m.frozen (1 + d)
  have d0 : (0 : Int) ≤ (d : Int) := by omega
  have d2 : (d : Int) < 32 := by omega
  have nMR : M ≠ R := by have h1 := h.out.lR; have h2 := h.out.lM; omega
  have nMq : M ≠ q := nqe.out.1
  have ho := Aside.mk hR3.mac.ok
  replace hR3 := Aside.mk hR3
  replace hi2 := Aside.mk hi2
  have mc := bad_SW hR3.out d e f (by omega) (by omega) (by omega) n ((r.s.x.getD e 0 + n) % 4294967296) (U_mod _) hno.out
  unfold insV at mc
  replace mc := Aside.mk mc
  go_wp2_with ((go_at_call 43); (refine Calls.mono mc.out ?_); (rintro e' w3 ⟨rfl, kp3⟩))
  exact ⟨rfl, rfl, hk2.out.kp kp3, hR3.out.kp kp3⟩
set_option maxRecDepth 100000 in
set_option maxHeartbeats 4000000 in
theorem stop_FLD {w : World} {b1 R M B K N : Nat} {r : RS} (h : Rat w b1 R M B K r N) (hN : N < 999999999) (hin : r.s.inside) {n : Int} {d e f : Nat} (hd : DecR r.s.here 43 d e f n 0) (hno : ¬(((r.s.x.getD e 0 + n) % 4294967296) % 8 = 0 ∧ ((r.s.x.getD e 0 + n) % 4294967296) + 8 ≤ r.s.mem.length)) :
    Calls Try.prog 34 #[.pointer (some ⟨R, 0, none⟩)] w fun e' w' => e' = .panicked (thrown 3) ∧ Mod (fun k => k = K) w w' ∧ Rat w' b1 R M B K r (N + 1) := by
  obtain ⟨⟨o1, o2⟩, d1, e1, f1⟩ := decR_ops hd
  have fo := fetch_ok h.mac (by omega) hin hd
  unfold insV at fo
  replace fo := Aside.mk fo
  replace hno := Aside.mk hno
  replace hin := Aside.mk hin
  replace hd := Aside.mk hd
  obtain ⟨iv, ev, -, -, -, -, rl, r0, -, -⟩ := h.facts
  replace h := Aside.mk h
  go_enter Try.func34, Try.ntmps34
  go_upto_region 1 with ((go_at_call 39); (refine Calls.mono fo.out ?_); (rintro e' w1 ⟨rfl, hm1, hM1⟩))
  have hR1 := h.out.turn hm1 (fun k hk => Or.inr (Or.inr hk)) hM1 (Nat.le_succ N)
  have hkT : Mod (fun k => k = K) w w1 := hm1
  have hk1 : Mod (fun k => k = K) w w1 := hm1
  have hi1 := Blk.new w1 #[.int .i64 43, .int .i64 (d : Int), .int .i64 (e : Int), .int .i64 (f : Int), .int .i64 n] 26
  have hR2 := hR1.kp ((Kp.refl w1).alloc (.cells #[.int .i64 43, .int .i64 (d : Int), .int .i64 (e : Int), .int .i64 (f : Int), .int .i64 n] 26))
  have hk2 := Aside.mk (hk1.alloc (.cells #[.int .i64 43, .int .i64 (d : Int), .int .i64 (e : Int), .int .i64 (f : Int), .int .i64 n] 26))
  have nqe : Aside (M ≠ w1.heap.size ∧ B ≠ w1.heap.size ∧ K ≠ w1.heap.size ∧ R ≠ w1.heap.size) := ⟨by
    have h1 := hM1.m.lt
    have h2 := hM1.b.lt
    have h3 := hM1.kl
    have h4 : R < w1.heap.size := Nat.lt_of_lt_of_le rl hm1.size
    omega⟩
  generalize w1.alloc (.cells #[.int .i64 43, .int .i64 (d : Int), .int .i64 (e : Int), .int .i64 (f : Int), .int .i64 n] 26) = W at *
  generalize w1.heap.size = q at *
  clear hk1 hm1 hM1 hR1 rl r0 iv ev
  obtain ⟨il, i0, i1, i2, i3, i4, -⟩ := hi1.five
  obtain ⟨iv, ev, -, -, -, -, rl, r0, -, -⟩ := hR2.facts
  obtain ⟨lm, lb, -, c65, -, -, -⟩ := hR2.mac.facts
  have ce := hR2.mac.cx (r := e) (by omega)
  have cf := hR2.mac.cx (r := f) (by omega)
  have e0 : (0 : Int) ≤ (e : Int) := by omega
  have e2 : (e : Int) < 32 := by omega
  have f0 : (0 : Int) ≤ (f : Int) := by omega
  have f2 : (f : Int) < 32 := by omega
  replace hR2 := Aside.mk hR2
  replace hi1 := Aside.mk hi1
  go_quiet ((go_at_call 40; exact Calls.quiet_of_same (wof_still _ _)))
  go_upto_block 0 with fail
  have hi2 := hi1.out.kp ((Kp.refl W).drewN nq)
  have hR3 := hR2.out.kp ((Kp.refl W).drewN nq)
  replace hk2 := Aside.mk (hk2.out.drewN nq)
  clear hi1 hR2 il i0 i1 i2 i3 i4 rl r0 lm lb c65 ce cf iv ev
  generalize W.drewN nq = W2 at *
  have u1 : U (r.s.x.getD e 0) := getD_U hR3.mac.ok.ux e
  have u2 : U (r.s.x.getD f 0) := getD_U hR3.mac.ok.ux f
  have u3 : U r.s.pc := hR3.mac.ok.up
  obtain ⟨il, i0, i1, i2, i3, i4, -⟩ := hi2.five
  obtain ⟨iv, ev, -, -, -, -, rl, r0, -, -⟩ := hR3.facts
  obtain ⟨lm, lb, -, c65, -, -, -⟩ := hR3.mac.facts
  have cd := hR3.mac.cx (r := d) (by omega)
  have fd := hR3.mac.m.frozen (1 + d)
  have d0 : (0 : Int) ≤ (d : Int) := by omega
  have d2 : (d : Int) < 32 := by omega
  have nMR : M ≠ R := by have h1 := h.out.lR; have h2 := h.out.lM; omega
  have nMq : M ≠ q := nqe.out.1
  have ho := Aside.mk hR3.mac.ok
  replace hR3 := Aside.mk hR3
  replace hi2 := Aside.mk hi2
  have mc := bad_FLD hR3.out d e f (by omega) (by omega) (by omega) n ((r.s.x.getD e 0 + n) % 4294967296) (U_mod _) hno.out
  unfold insV at mc
  replace mc := Aside.mk mc
  go_wp2_with ((go_at_call 43); (refine Calls.mono mc.out ?_); (rintro e' w3 ⟨rfl, kp3⟩))
  exact ⟨rfl, rfl, hk2.out.kp kp3, hR3.out.kp kp3⟩
set_option maxRecDepth 100000 in
set_option maxHeartbeats 4000000 in
theorem stop_FSD {w : World} {b1 R M B K N : Nat} {r : RS} (h : Rat w b1 R M B K r N) (hN : N < 999999999) (hin : r.s.inside) {n : Int} {d e f : Nat} (hd : DecR r.s.here 44 d e f n 0) (hno : ¬(((r.s.x.getD e 0 + n) % 4294967296) % 8 = 0 ∧ ((r.s.x.getD e 0 + n) % 4294967296) + 8 ≤ r.s.mem.length)) :
    Calls Try.prog 34 #[.pointer (some ⟨R, 0, none⟩)] w fun e' w' => e' = .panicked (thrown 3) ∧ Mod (fun k => k = K) w w' ∧ Rat w' b1 R M B K r (N + 1) := by
  obtain ⟨⟨o1, o2⟩, d1, e1, f1⟩ := decR_ops hd
  have fo := fetch_ok h.mac (by omega) hin hd
  unfold insV at fo
  replace fo := Aside.mk fo
  replace hno := Aside.mk hno
  replace hin := Aside.mk hin
  replace hd := Aside.mk hd
  obtain ⟨iv, ev, -, -, -, -, rl, r0, -, -⟩ := h.facts
  replace h := Aside.mk h
  go_enter Try.func34, Try.ntmps34
  go_upto_region 1 with ((go_at_call 39); (refine Calls.mono fo.out ?_); (rintro e' w1 ⟨rfl, hm1, hM1⟩))
  have hR1 := h.out.turn hm1 (fun k hk => Or.inr (Or.inr hk)) hM1 (Nat.le_succ N)
  have hkT : Mod (fun k => k = K) w w1 := hm1
  have hk1 : Mod (fun k => k = K) w w1 := hm1
  have hi1 := Blk.new w1 #[.int .i64 44, .int .i64 (d : Int), .int .i64 (e : Int), .int .i64 (f : Int), .int .i64 n] 26
  have hR2 := hR1.kp ((Kp.refl w1).alloc (.cells #[.int .i64 44, .int .i64 (d : Int), .int .i64 (e : Int), .int .i64 (f : Int), .int .i64 n] 26))
  have hk2 := Aside.mk (hk1.alloc (.cells #[.int .i64 44, .int .i64 (d : Int), .int .i64 (e : Int), .int .i64 (f : Int), .int .i64 n] 26))
  have nqe : Aside (M ≠ w1.heap.size ∧ B ≠ w1.heap.size ∧ K ≠ w1.heap.size ∧ R ≠ w1.heap.size) := ⟨by
    have h1 := hM1.m.lt
    have h2 := hM1.b.lt
    have h3 := hM1.kl
    have h4 : R < w1.heap.size := Nat.lt_of_lt_of_le rl hm1.size
    omega⟩
  generalize w1.alloc (.cells #[.int .i64 44, .int .i64 (d : Int), .int .i64 (e : Int), .int .i64 (f : Int), .int .i64 n] 26) = W at *
  generalize w1.heap.size = q at *
  clear hk1 hm1 hM1 hR1 rl r0 iv ev
  obtain ⟨il, i0, i1, i2, i3, i4, -⟩ := hi1.five
  obtain ⟨iv, ev, -, -, -, -, rl, r0, -, -⟩ := hR2.facts
  obtain ⟨lm, lb, -, c65, -, -, -⟩ := hR2.mac.facts
  have ce := hR2.mac.cx (r := e) (by omega)
  have cf := hR2.mac.cx (r := f) (by omega)
  have e0 : (0 : Int) ≤ (e : Int) := by omega
  have e2 : (e : Int) < 32 := by omega
  have f0 : (0 : Int) ≤ (f : Int) := by omega
  have f2 : (f : Int) < 32 := by omega
  replace hR2 := Aside.mk hR2
  replace hi1 := Aside.mk hi1
  go_quiet ((go_at_call 40; exact Calls.quiet_of_same (wof_still _ _)))
  go_upto_block 0 with fail
  have hi2 := hi1.out.kp ((Kp.refl W).drewN nq)
  have hR3 := hR2.out.kp ((Kp.refl W).drewN nq)
  replace hk2 := Aside.mk (hk2.out.drewN nq)
  clear hi1 hR2 il i0 i1 i2 i3 i4 rl r0 lm lb c65 ce cf iv ev
  generalize W.drewN nq = W2 at *
  have u1 : U (r.s.x.getD e 0) := getD_U hR3.mac.ok.ux e
  have u2 : U (r.s.x.getD f 0) := getD_U hR3.mac.ok.ux f
  have u3 : U r.s.pc := hR3.mac.ok.up
  obtain ⟨il, i0, i1, i2, i3, i4, -⟩ := hi2.five
  obtain ⟨iv, ev, -, -, -, -, rl, r0, -, -⟩ := hR3.facts
  obtain ⟨lm, lb, -, c65, -, -, -⟩ := hR3.mac.facts
  have cd := hR3.mac.cx (r := d) (by omega)
  have fd := hR3.mac.m.frozen (1 + d)
  have d0 : (0 : Int) ≤ (d : Int) := by omega
  have d2 : (d : Int) < 32 := by omega
  have nMR : M ≠ R := by have h1 := h.out.lR; have h2 := h.out.lM; omega
  have nMq : M ≠ q := nqe.out.1
  have ho := Aside.mk hR3.mac.ok
  replace hR3 := Aside.mk hR3
  replace hi2 := Aside.mk hi2
  have mc := bad_FSD hR3.out d e f (by omega) (by omega) (by omega) n ((r.s.x.getD e 0 + n) % 4294967296) (U_mod _) hno.out
  unfold insV at mc
  replace mc := Aside.mk mc
  go_wp2_with ((go_at_call 43); (refine Calls.mono mc.out ?_); (rintro e' w3 ⟨rfl, kp3⟩))
  exact ⟨rfl, rfl, hk2.out.kp kp3, hR3.out.kp kp3⟩
set_option maxRecDepth 100000 in
set_option maxHeartbeats 4000000 in
theorem stop_ecall {w : World} {b1 R M B K N : Nat} {r : RS} (h : Rat w b1 R M B K r N) (hN : N < 999999999) (hin : r.s.inside) {n : Int} {d e f : Nat} (hd : DecR r.s.here 42 d e f n 0) (hno : ¬(1 ≤ r.s.x.getD 17 0 ∧ r.s.x.getD 17 0 ≤ 5)) :
    Calls Try.prog 34 #[.pointer (some ⟨R, 0, none⟩)] w fun e' w' => e' = .panicked (thrown 2) ∧ Mod (fun k => k = K) w w' ∧ Rat w' b1 R M B K r (N + 1) := by
  obtain ⟨⟨o1, o2⟩, d1, e1, f1⟩ := decR_ops hd
  have fo := fetch_ok h.mac (by omega) hin hd
  unfold insV at fo
  replace fo := Aside.mk fo
  replace hno := Aside.mk hno
  replace hin := Aside.mk hin
  replace hd := Aside.mk hd
  obtain ⟨iv, ev, -, -, -, -, rl, r0, -, -⟩ := h.facts
  replace h := Aside.mk h
  go_enter Try.func34, Try.ntmps34
  go_upto_region 1 with ((go_at_call 39); (refine Calls.mono fo.out ?_); (rintro e' w1 ⟨rfl, hm1, hM1⟩))
  have hR1 := h.out.turn hm1 (fun k hk => Or.inr (Or.inr hk)) hM1 (Nat.le_succ N)
  have hkT : Mod (fun k => k = K) w w1 := hm1
  have hk1 : Mod (fun k => k = K) w w1 := hm1
  have hi1 := Blk.new w1 #[.int .i64 42, .int .i64 (d : Int), .int .i64 (e : Int), .int .i64 (f : Int), .int .i64 n] 26
  have hR2 := hR1.kp ((Kp.refl w1).alloc (.cells #[.int .i64 42, .int .i64 (d : Int), .int .i64 (e : Int), .int .i64 (f : Int), .int .i64 n] 26))
  have hk2 := Aside.mk (hk1.alloc (.cells #[.int .i64 42, .int .i64 (d : Int), .int .i64 (e : Int), .int .i64 (f : Int), .int .i64 n] 26))
  have nqe : Aside (M ≠ w1.heap.size ∧ B ≠ w1.heap.size ∧ K ≠ w1.heap.size ∧ R ≠ w1.heap.size) := ⟨by
    have h1 := hM1.m.lt
    have h2 := hM1.b.lt
    have h3 := hM1.kl
    have h4 : R < w1.heap.size := Nat.lt_of_lt_of_le rl hm1.size
    omega⟩
  generalize w1.alloc (.cells #[.int .i64 42, .int .i64 (d : Int), .int .i64 (e : Int), .int .i64 (f : Int), .int .i64 n] 26) = W at *
  generalize w1.heap.size = q at *
  clear hk1 hm1 hM1 hR1 rl r0 iv ev
  obtain ⟨il, i0, i1, i2, i3, i4, -⟩ := hi1.five
  obtain ⟨iv, ev, -, -, -, -, rl, r0, -, -⟩ := hR2.facts
  obtain ⟨lm, lb, -, c65, -, -, -⟩ := hR2.mac.facts
  have ce := hR2.mac.cx (r := e) (by omega)
  have cf := hR2.mac.cx (r := f) (by omega)
  have e0 : (0 : Int) ≤ (e : Int) := by omega
  have e2 : (e : Int) < 32 := by omega
  have f0 : (0 : Int) ≤ (f : Int) := by omega
  have f2 : (f : Int) < 32 := by omega
  replace hR2 := Aside.mk hR2
  replace hi1 := Aside.mk hi1
  go_quiet ((go_at_call 40; exact Calls.quiet_of_same (wof_still _ _)))
  go_upto_block 0 with fail
  have hi2 := hi1.out.kp ((Kp.refl W).drewN nq)
  have hR3 := hR2.out.kp ((Kp.refl W).drewN nq)
  replace hk2 := Aside.mk (hk2.out.drewN nq)
  clear hi1 hR2 il i0 i1 i2 i3 i4 rl r0 lm lb c65 ce cf iv ev
  generalize W.drewN nq = W2 at *
  have u1 : U (r.s.x.getD e 0) := getD_U hR3.mac.ok.ux e
  have u2 : U (r.s.x.getD f 0) := getD_U hR3.mac.ok.ux f
  have u3 : U r.s.pc := hR3.mac.ok.up
  obtain ⟨il, i0, i1, i2, i3, i4, -⟩ := hi2.five
  obtain ⟨iv, ev, -, -, -, -, rl, r0, -, -⟩ := hR3.facts
  obtain ⟨lm, lb, -, c65, -, -, -⟩ := hR3.mac.facts
  have cd := hR3.mac.cx (r := d) (by omega)
  have fd := hR3.mac.m.frozen (1 + d)
  have d0 : (0 : Int) ≤ (d : Int) := by omega
  have d2 : (d : Int) < 32 := by omega
  have nMR : M ≠ R := by have h1 := h.out.lR; have h2 := h.out.lM; omega
  have nMq : M ≠ q := nqe.out.1
  have ho := Aside.mk hR3.mac.ok
  replace hR3 := Aside.mk hR3
  replace hi2 := Aside.mk hi2
  have mc := call_bad (b1 := b1) (b2 := b1) hR3.out hno.out
  replace mc := Aside.mk mc
  go_wp2_with ((go_at_call 45); (refine Calls.mono mc.out ?_); (rintro e' w3 ⟨rfl, rfl⟩))
  exact ⟨rfl, rfl, hk2.out, hR3.out⟩
end Go.Proofs.Ytgcihcgclmdolaa
