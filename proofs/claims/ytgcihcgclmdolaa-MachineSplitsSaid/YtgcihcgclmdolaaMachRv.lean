/- The machine's operations of reals, walked. Conditions stand at each. -/
import Derived.Test.YtgcihcgclmdolaaMachS2
import Derived.Test.YtgcihcgclmdolaaMachRt
namespace Go.Proofs.Ytgcihcgclmdolaa
open Go.RowKit Go.Maps Go.Proofs.Ytgcihcgclmdolaa.PC Go.Proofs.Ytgcihcgclmdolaa.PW
set_option linter.unusedVariables false
set_option linter.unusedSimpArgs false
theorem sc_far' {w : World} {M i j : Nat} {v u : Value} (hn : i ≠ j) (h : w.cell? ⟨M, j, none⟩ = some u) : (w.setCell ⟨M, i, none⟩ v).drew.cell? ⟨M, j, none⟩ = some u := sc0' hn h
theorem cvt_U' (x : Int) : ((floatOfInt .f64 x : Nat) : Int) ≤ 18446744073709551615 := by
  have h : floatOfInt .f64 x < 2 ^ 64 := of_decide_eq_true (floatOfInt_wf .f64 x)
  omega
theorem u64nat {a : Int} (h : U64 a) : ∃ n : Nat, a = n ∧ n < 18446744073709551616 ∧ a.toNat = n := by
  have h1 := h.1
  have h2 := h.2
  exact ⟨a.toNat, by omega, by omega, rfl⟩
theorem fneg_int (a : Int) (h : U64 a) (w : World) : Calls Try.prog 56 #[.int .u64 a] w fun e w' => e = .returned (.int .u64 (canV (negN a.toNat))) ∧ Dr w w' := by
  obtain ⟨n, rfl, hn, -⟩ := u64nat h
  exact (fneg_calls n hn w).mono fun _ _ ⟨he, hw⟩ => ⟨he, by rw [hw]; exact Dr.refl _⟩
theorem fcmp_dr (op a b : Int) (hop : 51 ≤ op ∧ op ≤ 53) (w : World) : Calls Try.prog 57 #[.int .i64 op, .int .u64 a, .int .u64 b] w fun e w' => e = .returned (.tuple #[.int .u32 (cmpV op a.toNat b.toNat), .int .i64 0]) ∧ Dr w w' :=
  (fcmp_calls op a b hop w).mono fun _ _ ⟨he, hw⟩ => ⟨he, by rw [hw]; exact Dr.refl _⟩
theorem OfInt_dr (a : Int) (ha : U a) (w : World) : Calls Try.prog 59 #[.int .u32 a] w fun e w' => e = .returned (.int .u64 (canV (floatOfInt .f64 (sgn a)))) ∧ Dr w w' :=
  (OfInt_calls a ha w).mono fun _ _ ⟨he, hw⟩ => ⟨he, by rw [hw]; exact Dr.refl _⟩
theorem canV_neg {a : Int} (h : U64 a) : U64 (canV (negN a.toNat)) := canV_U (by have := negN_lt a.toNat; omega)
set_option maxRecDepth 100000 in
set_option maxHeartbeats 1000000 in
theorem reals_mv {w : World} {b1 b2 R M B K N : Nat} {r : RS} (h : Rat w b1 R M B K r N) (d e f : Nat) (hd : d < 32) (he : e < 32) (hf : f < 32) (n : Int) :
    Calls Try.prog 46 #[.pointer (some ⟨R, 0, none⟩), insV 49 d e f n] w fun e' w' => e' = .returned (.tuple #[]) ∧ Mod (SR b1 b2 M B K) w w' ∧ Rat w' b1 R M B K (r.on (r.s.setf d (r.s.f.getD e 0))) N := by
  have hk : Kp w (w.alloc (.cells #[.int .i64 49, .int .i64 d, .int .i64 e, .int .i64 f, .int .i64 n] 26)) := (Kp.refl w).alloc _
  have hR := h.kp hk
  have hi := Blk.new w #[.int .i64 49, .int .i64 d, .int .i64 e, .int .i64 f, .int .i64 n] 26
  replace h := Aside.mk h
  unfold insV
  go_enter Try.func46, Try.ntmps46
  go_upto_region 1 with fail
  have nMq : M ≠ w.heap.size := by have := h.out.mac.m.lt; omega
  have nMR : M ≠ R := by have h1 := h.out.lR; have h2 := h.out.lM; omega
  generalize hqe : w.heap.size = q at *
  replace hqe := Aside.mk hqe
  generalize w.alloc (.cells #[.int .i64 49, .int .i64 d, .int .i64 e, .int .i64 f, .int .i64 n] 26) = W at *
  obtain ⟨il, i0, i1, i2, i3, i4, -⟩ := hi.five
  obtain ⟨iv, ev, hb, hw, ho, hn, rl, r0, r1, r2⟩ := hR.facts
  have ml := hR.mac.m.lt
  have ce := hR.mac.cf (r := e) he
  have cf := hR.mac.cf (r := f) hf
  have cx := hR.mac.cx (r := e) he
  have ux := getD_U hR.mac.ok.ux e
  have uy := getD_U64 hR.mac.ok.uf e
  have fb := hR.mac.m.frozen (33 + d)
  have cd := hR.mac.cf (r := d) hd
  generalize hxx : r.s.x.getD e 0 = xv at *
  generalize hye : r.s.f.getD e 0 = ye at *
  generalize hyf : r.s.f.getD f 0 = yf at *
  generalize hyd : r.s.f.getD d 0 = yd at *
  replace hxx := Aside.mk hxx
  replace hye := Aside.mk hye
  replace hyf := Aside.mk hyf
  replace ux := Aside.mk ux
  replace uy := Aside.mk uy
  clear hb hw ho hn r1 r2 i4
  replace hR := Aside.mk hR
  replace hk := Aside.mk hk
  replace hi := Aside.mk hi
  have e0 : (0 : Int) ≤ (e : Int) := by omega
  have e2 : (e : Int) < 32 := by omega
  have f0 : (0 : Int) ≤ (f : Int) := by omega
  have f2 : (f : Int) < 32 := by omega
  have d0 : (0 : Int) ≤ (d : Int) := by omega
  have d2 : (d : Int) < 32 := by omega
  go_quiet (fail)
  go_upto_region 5 with fail
  have k2 : Kp W (W.drewN nq) := (Kp.refl W).drewN _
  have fb' : (W.drewN nq).frozen? ⟨M, 33 + d, none⟩ = false := (k2.frozen (p := ⟨M, 33 + d, none⟩) ml).trans fb
  replace r0 := kp_cell k2 r0
  replace i0 := kp_cell k2 i0
  replace i1 := kp_cell k2 i1
  replace i2 := kp_cell k2 i2
  replace cx := kp_cell k2 cx
  replace cd := kp_cell k2 cd
  have ml2 := Nat.lt_of_lt_of_le ml k2.size
  have rl2 := Nat.lt_of_lt_of_le rl k2.size
  have il2 := Nat.lt_of_lt_of_le il k2.size
  clear fb ce cf i3 ml rl il
  generalize W.drewN nq = V at *
  replace k2 := Aside.mk k2
  go_region_held3 (fun w' => w'.cell? ⟨R, 0, none⟩ = some (.pointer (some ⟨M, 0, none⟩)) ∧ w'.cell? ⟨q, 1, none⟩ = some (.int .i64 d)) (first | (go_keep; done) | exact ⟨sc_cell nMR r0, sc_cell nMq i1⟩)
    (fail)
  go_wp2
  go_end0
  obtain rfl := hxx.out
  obtain rfl := hye.out
  obtain rfl := hyf.out
  have hR2 := hR.out.kp k2.out
  have ho := hR2.mac.ok
  have h4 := hR2.setM (i := 33 + d) (v := .int .u64 (r.s.f.getD e 0)) (s' := r.s.setf d (r.s.f.getD e 0)) (set_f ho hd _) rfl (ok_f ho d (getD_U64 ho.uf e))
  exact ⟨rfl, (((hk.out.trans k2.out).mod.setCell (p := ⟨M, 33 + d, none⟩) (Or.inl rfl) _).drew), h4.kp ((Kp.refl _).drew)⟩
set_option maxRecDepth 100000 in
set_option maxHeartbeats 1000000 in
theorem reals_neg {w : World} {b1 b2 R M B K N : Nat} {r : RS} (h : Rat w b1 R M B K r N) (d e f : Nat) (hd : d < 32) (he : e < 32) (hf : f < 32) (n : Int) :
    Calls Try.prog 46 #[.pointer (some ⟨R, 0, none⟩), insV 50 d e f n] w fun e' w' => e' = .returned (.tuple #[]) ∧ Mod (SR b1 b2 M B K) w w' ∧ Rat w' b1 R M B K (r.on (r.s.setf d (canV (negN (r.s.f.getD e 0).toNat)))) N := by
  have hk : Kp w (w.alloc (.cells #[.int .i64 50, .int .i64 d, .int .i64 e, .int .i64 f, .int .i64 n] 26)) := (Kp.refl w).alloc _
  have hR := h.kp hk
  have hi := Blk.new w #[.int .i64 50, .int .i64 d, .int .i64 e, .int .i64 f, .int .i64 n] 26
  replace h := Aside.mk h
  unfold insV
  go_enter Try.func46, Try.ntmps46
  go_upto_region 1 with fail
  have nMq : M ≠ w.heap.size := by have := h.out.mac.m.lt; omega
  have nMR : M ≠ R := by have h1 := h.out.lR; have h2 := h.out.lM; omega
  generalize hqe : w.heap.size = q at *
  replace hqe := Aside.mk hqe
  generalize w.alloc (.cells #[.int .i64 50, .int .i64 d, .int .i64 e, .int .i64 f, .int .i64 n] 26) = W at *
  obtain ⟨il, i0, i1, i2, i3, i4, -⟩ := hi.five
  obtain ⟨iv, ev, hb, hw, ho, hn, rl, r0, r1, r2⟩ := hR.facts
  have ml := hR.mac.m.lt
  have ce := hR.mac.cf (r := e) he
  have cf := hR.mac.cf (r := f) hf
  have cx := hR.mac.cx (r := e) he
  have ux := getD_U hR.mac.ok.ux e
  have uy := getD_U64 hR.mac.ok.uf e
  have fb := hR.mac.m.frozen (33 + d)
  have cd := hR.mac.cf (r := d) hd
  generalize hxx : r.s.x.getD e 0 = xv at *
  generalize hye : r.s.f.getD e 0 = ye at *
  generalize hyf : r.s.f.getD f 0 = yf at *
  generalize hyd : r.s.f.getD d 0 = yd at *
  replace hxx := Aside.mk hxx
  replace hye := Aside.mk hye
  replace hyf := Aside.mk hyf
  replace ux := Aside.mk ux
  replace uy := Aside.mk uy
  clear hb hw ho hn r1 r2 i4
  replace hR := Aside.mk hR
  replace hk := Aside.mk hk
  replace hi := Aside.mk hi
  have e0 : (0 : Int) ≤ (e : Int) := by omega
  have e2 : (e : Int) < 32 := by omega
  have f0 : (0 : Int) ≤ (f : Int) := by omega
  have f2 : (f : Int) < 32 := by omega
  have d0 : (0 : Int) ≤ (d : Int) := by omega
  have d2 : (d : Int) < 32 := by omega
  go_quiet (fail)
  go_upto_region 7 with fail
  have k2 : Kp W (W.drewN nq) := (Kp.refl W).drewN _
  have fb' : (W.drewN nq).frozen? ⟨M, 33 + d, none⟩ = false := (k2.frozen (p := ⟨M, 33 + d, none⟩) ml).trans fb
  replace r0 := kp_cell k2 r0
  replace i0 := kp_cell k2 i0
  replace i1 := kp_cell k2 i1
  replace i2 := kp_cell k2 i2
  replace cx := kp_cell k2 cx
  replace cd := kp_cell k2 cd
  have ml2 := Nat.lt_of_lt_of_le ml k2.size
  have rl2 := Nat.lt_of_lt_of_le rl k2.size
  have il2 := Nat.lt_of_lt_of_le il k2.size
  clear fb ce cf i3 ml rl il
  generalize W.drewN nq = V at *
  replace k2 := Aside.mk k2
  go_region_held3 (fun w' => w'.cell? ⟨R, 0, none⟩ = some (.pointer (some ⟨M, 0, none⟩)) ∧ w'.cell? ⟨q, 1, none⟩ = some (.int .i64 d)) (first | (go_keep; done) | exact ⟨kp_cell (Dr.kp hd3) r0, kp_cell (Dr.kp hd3) i1⟩ | exact ⟨sc0 nMR (kp_cell (Dr.kp hd3) r0), sc0 nMq (kp_cell (Dr.kp hd3) i1)⟩)
    (first | ((go_at_call 56); ((with_reducible refine Calls.mono (fneg_int ye uy.out _) ?_)); (rintro e' w3 ⟨rfl, hd3⟩); (have h3 := (hR.out.kp k2.out).kp (((Kp.refl V).drew).trans (Dr.kp hd3))); (have cd3 := h3.mac.cf (r := d) hd); (have fd3 := h3.mac.m.frozen (33 + d)); (replace h3 := Aside.mk h3)))
  go_wp2
  go_end0
  obtain rfl := hxx.out
  obtain rfl := hye.out
  obtain rfl := hyf.out
  have ho := h3.out.mac.ok
  have h4 := h3.out.setM (i := 33 + d) (v := .int .u64 (canV (negN (r.s.f.getD e 0).toNat))) (s' := r.s.setf d (canV (negN (r.s.f.getD e 0).toNat))) (set_f ho hd _) rfl (ok_f ho d (canV_neg (getD_U64 ho.uf e)))
  exact ⟨rfl, ((((hk.out.trans k2.out).trans (((Kp.refl V).drew).trans (Dr.kp hd3))).mod.setCell (p := ⟨M, 33 + d, none⟩) (Or.inl rfl) _)), h4⟩
set_option maxRecDepth 100000 in
set_option maxHeartbeats 1000000 in
theorem reals_cmp {w : World} {b1 b2 R M B K N : Nat} {r : RS} (h : Rat w b1 R M B K r N) {op : Int} (hop : 51 ≤ op ∧ op ≤ 53) (d e f : Nat) (hd : d < 32) (he : e < 32) (hf : f < 32) (n : Int) :
    Calls Try.prog 46 #[.pointer (some ⟨R, 0, none⟩), insV op d e f n] w fun e' w' => e' = .returned (.tuple #[]) ∧ Mod (SR b1 b2 M B K) w w' ∧ Rat w' b1 R M B K (r.on (r.s.setx d (cmpV op (r.s.f.getD e 0).toNat (r.s.f.getD f 0).toNat))) N := by
  have hk : Kp w (w.alloc (.cells #[.int .i64 op, .int .i64 d, .int .i64 e, .int .i64 f, .int .i64 n] 26)) := (Kp.refl w).alloc _
  have hR := h.kp hk
  have hi := Blk.new w #[.int .i64 op, .int .i64 d, .int .i64 e, .int .i64 f, .int .i64 n] 26
  replace h := Aside.mk h
  unfold insV
  go_enter Try.func46, Try.ntmps46
  go_upto_region 1 with fail
  have nMq : M ≠ w.heap.size := by have := h.out.mac.m.lt; omega
  have nMR : M ≠ R := by have h1 := h.out.lR; have h2 := h.out.lM; omega
  generalize hqe : w.heap.size = q at *
  replace hqe := Aside.mk hqe
  generalize w.alloc (.cells #[.int .i64 op, .int .i64 d, .int .i64 e, .int .i64 f, .int .i64 n] 26) = W at *
  obtain ⟨il, i0, i1, i2, i3, i4, -⟩ := hi.five
  obtain ⟨iv, ev, hb, hw, ho, hn, rl, r0, r1, r2⟩ := hR.facts
  have ml := hR.mac.m.lt
  have ce := hR.mac.cf (r := e) he
  have cf := hR.mac.cf (r := f) hf
  have cx := hR.mac.cx (r := e) he
  have ux := getD_U hR.mac.ok.ux e
  have uy := getD_U64 hR.mac.ok.uf e
  have fb := hR.mac.m.frozen (1 + d)
  have cd := hR.mac.cx (r := d) hd
  generalize hxx : r.s.x.getD e 0 = xv at *
  generalize hye : r.s.f.getD e 0 = ye at *
  generalize hyf : r.s.f.getD f 0 = yf at *
  generalize hyd : r.s.x.getD d 0 = yd at *
  replace hxx := Aside.mk hxx
  replace hye := Aside.mk hye
  replace hyf := Aside.mk hyf
  replace ux := Aside.mk ux
  replace uy := Aside.mk uy
  clear hb hw ho hn r1 r2 i4
  replace hR := Aside.mk hR
  replace hk := Aside.mk hk
  replace hi := Aside.mk hi
  have e0 : (0 : Int) ≤ (e : Int) := by omega
  have e2 : (e : Int) < 32 := by omega
  have f0 : (0 : Int) ≤ (f : Int) := by omega
  have f2 : (f : Int) < 32 := by omega
  have d0 : (0 : Int) ≤ (d : Int) := by omega
  have d2 : (d : Int) < 32 := by omega
  have q49 : (op == 49) = false := by simp; omega
  have q50 : (op == 50) = false := by simp; omega
  go_quiet (fail)
  go_upto_region 11 with fail
  all_goals
    have k2 : Kp W (W.drewN nq) := (Kp.refl W).drewN _
    have fb' : (W.drewN nq).frozen? ⟨M, 1 + d, none⟩ = false := (k2.frozen (p := ⟨M, 1 + d, none⟩) ml).trans fb
    replace r0 := kp_cell k2 r0
    replace i0 := kp_cell k2 i0
    replace i1 := kp_cell k2 i1
    replace i2 := kp_cell k2 i2
    replace cx := kp_cell k2 cx
    replace cd := kp_cell k2 cd
    have ml2 := Nat.lt_of_lt_of_le ml k2.size
    have rl2 := Nat.lt_of_lt_of_le rl k2.size
    have il2 := Nat.lt_of_lt_of_le il k2.size
    clear fb ce cf i3 ml rl il
    generalize W.drewN nq = V at *
    replace k2 := Aside.mk k2
    go_region_held3 (fun w' => w'.cell? ⟨R, 0, none⟩ = some (.pointer (some ⟨M, 0, none⟩)) ∧ w'.cell? ⟨q, 1, none⟩ = some (.int .i64 d) ∧ w'.cell? ⟨q, 0, none⟩ = some (.int .i64 op)) (first | (go_keep; done) | exact ⟨kp_cell (Dr.kp hd3) r0, kp_cell (Dr.kp hd3) i1, kp_cell (Dr.kp hd3) i0⟩ | exact ⟨sc0 nMR (kp_cell (Dr.kp hd3) r0), sc0 nMq (kp_cell (Dr.kp hd3) i1), sc0 nMq (kp_cell (Dr.kp hd3) i0)⟩)
      (first | ((go_at_call 57); ((with_reducible refine Calls.mono (fcmp_dr op ye yf hop _) ?_)); (rintro e' w3 ⟨rfl, hd3⟩); (have h3 := (hR.out.kp k2.out).kp (((Kp.refl V).drew).trans (Dr.kp hd3))); (have cd3 := h3.mac.cx (r := d) hd); (have fd3 := h3.mac.m.frozen (1 + d)); (replace h3 := Aside.mk h3)))
    go_wp2
    go_end0
    obtain rfl := hxx.out
    obtain rfl := hye.out
    obtain rfl := hyf.out
    have ho := h3.out.mac.ok
    have h4 := h3.out.setM (i := 1 + d) (v := .int .u32 (cmpV op (r.s.f.getD e 0).toNat (r.s.f.getD f 0).toNat)) (s' := r.s.setx d (cmpV op (r.s.f.getD e 0).toNat (r.s.f.getD f 0).toNat)) (set_x ho hd _) rfl (ok_x ho d (cmpV_U _ _ _))
    exact ⟨rfl, ((((hk.out.trans k2.out).trans (((Kp.refl V).drew).trans (Dr.kp hd3))).mod.setCell (p := ⟨M, 1 + d, none⟩) (Or.inl rfl) _)), h4⟩
set_option maxRecDepth 100000 in
set_option maxHeartbeats 1000000 in
theorem reals_toi {w : World} {b1 b2 R M B K N : Nat} {r : RS} (h : Rat w b1 R M B K r N) (d e f : Nat) (hd : d < 32) (he : e < 32) (hf : f < 32) (n : Int) :
    Calls Try.prog 46 #[.pointer (some ⟨R, 0, none⟩), insV 54 d e f n] w fun e' w' => e' = .returned (.tuple #[]) ∧ Mod (SR b1 b2 M B K) w w' ∧ Rat w' b1 R M B K (r.on (r.s.setx d (toIntV (r.s.f.getD e 0).toNat))) N := by
  have hk : Kp w (w.alloc (.cells #[.int .i64 54, .int .i64 d, .int .i64 e, .int .i64 f, .int .i64 n] 26)) := (Kp.refl w).alloc _
  have hR := h.kp hk
  have hi := Blk.new w #[.int .i64 54, .int .i64 d, .int .i64 e, .int .i64 f, .int .i64 n] 26
  replace h := Aside.mk h
  unfold insV
  go_enter Try.func46, Try.ntmps46
  go_upto_region 1 with fail
  have nMq : M ≠ w.heap.size := by have := h.out.mac.m.lt; omega
  have nMR : M ≠ R := by have h1 := h.out.lR; have h2 := h.out.lM; omega
  generalize hqe : w.heap.size = q at *
  replace hqe := Aside.mk hqe
  generalize w.alloc (.cells #[.int .i64 54, .int .i64 d, .int .i64 e, .int .i64 f, .int .i64 n] 26) = W at *
  obtain ⟨il, i0, i1, i2, i3, i4, -⟩ := hi.five
  obtain ⟨iv, ev, hb, hw, ho, hn, rl, r0, r1, r2⟩ := hR.facts
  have ml := hR.mac.m.lt
  have ce := hR.mac.cf (r := e) he
  have cf := hR.mac.cf (r := f) hf
  have cx := hR.mac.cx (r := e) he
  have ux := getD_U hR.mac.ok.ux e
  have uy := getD_U64 hR.mac.ok.uf e
  have fb := hR.mac.m.frozen (1 + d)
  have cd := hR.mac.cx (r := d) hd
  generalize hxx : r.s.x.getD e 0 = xv at *
  generalize hye : r.s.f.getD e 0 = ye at *
  generalize hyf : r.s.f.getD f 0 = yf at *
  generalize hyd : r.s.x.getD d 0 = yd at *
  replace hxx := Aside.mk hxx
  replace hye := Aside.mk hye
  replace hyf := Aside.mk hyf
  replace ux := Aside.mk ux
  replace uy := Aside.mk uy
  clear hb hw ho hn r1 r2 i4
  replace hR := Aside.mk hR
  replace hk := Aside.mk hk
  replace hi := Aside.mk hi
  have e0 : (0 : Int) ≤ (e : Int) := by omega
  have e2 : (e : Int) < 32 := by omega
  have f0 : (0 : Int) ≤ (f : Int) := by omega
  have f2 : (f : Int) < 32 := by omega
  have d0 : (0 : Int) ≤ (d : Int) := by omega
  have d2 : (d : Int) < 32 := by omega
  go_quiet (fail)
  go_upto_region 13 with fail
  have k2 : Kp W (W.drewN nq) := (Kp.refl W).drewN _
  have fb' : (W.drewN nq).frozen? ⟨M, 1 + d, none⟩ = false := (k2.frozen (p := ⟨M, 1 + d, none⟩) ml).trans fb
  replace r0 := kp_cell k2 r0
  replace i0 := kp_cell k2 i0
  replace i1 := kp_cell k2 i1
  replace i2 := kp_cell k2 i2
  replace cx := kp_cell k2 cx
  replace cd := kp_cell k2 cd
  have ml2 := Nat.lt_of_lt_of_le ml k2.size
  have rl2 := Nat.lt_of_lt_of_le rl k2.size
  have il2 := Nat.lt_of_lt_of_le il k2.size
  clear fb ce cf i3 ml rl il
  generalize W.drewN nq = V at *
  replace k2 := Aside.mk k2
  go_region_held3 (fun w' => w'.cell? ⟨R, 0, none⟩ = some (.pointer (some ⟨M, 0, none⟩)) ∧ w'.cell? ⟨q, 1, none⟩ = some (.int .i64 d)) (first | (go_keep; done) | exact ⟨kp_cell (Dr.kp hd3) r0, kp_cell (Dr.kp hd3) i1⟩ | exact ⟨sc0 nMR (kp_cell (Dr.kp hd3) r0), sc0 nMq (kp_cell (Dr.kp hd3) i1)⟩)
    (first | ((go_at_call 58); ((with_reducible refine Calls.mono (ftoint_calls ye _) ?_)); (rintro e' w3 ⟨rfl, hd3⟩); (have h3 := (hR.out.kp k2.out).kp (((Kp.refl V).drew).trans (Dr.kp hd3))); (have cd3 := h3.mac.cx (r := d) hd); (have fd3 := h3.mac.m.frozen (1 + d)); (replace h3 := Aside.mk h3)))
  go_wp2
  go_end0
  obtain rfl := hxx.out
  obtain rfl := hye.out
  obtain rfl := hyf.out
  have ho := h3.out.mac.ok
  have h4 := h3.out.setM (i := 1 + d) (v := .int .u32 (toIntV (r.s.f.getD e 0).toNat)) (s' := r.s.setx d (toIntV (r.s.f.getD e 0).toNat)) (set_x ho hd _) rfl (ok_x ho d (toIntV_U _))
  exact ⟨rfl, ((((hk.out.trans k2.out).trans (((Kp.refl V).drew).trans (Dr.kp hd3))).mod.setCell (p := ⟨M, 1 + d, none⟩) (Or.inl rfl) _)), h4⟩
set_option maxRecDepth 100000 in
set_option maxHeartbeats 1000000 in
theorem reals_cv {w : World} {b1 b2 R M B K N : Nat} {r : RS} (h : Rat w b1 R M B K r N) (d e f : Nat) (hd : d < 32) (he : e < 32) (hf : f < 32) (n : Int) :
    Calls Try.prog 46 #[.pointer (some ⟨R, 0, none⟩), insV 55 d e f n] w fun e' w' => e' = .returned (.tuple #[]) ∧ Mod (SR b1 b2 M B K) w w' ∧ Rat w' b1 R M B K (r.on (r.s.setf d (canV (floatOfInt .f64 (sgn (r.s.x.getD e 0)))))) N := by
  have hk : Kp w (w.alloc (.cells #[.int .i64 55, .int .i64 d, .int .i64 e, .int .i64 f, .int .i64 n] 26)) := (Kp.refl w).alloc _
  have hR := h.kp hk
  have hi := Blk.new w #[.int .i64 55, .int .i64 d, .int .i64 e, .int .i64 f, .int .i64 n] 26
  replace h := Aside.mk h
  unfold insV
  go_enter Try.func46, Try.ntmps46
  go_upto_region 1 with fail
  have nMq : M ≠ w.heap.size := by have := h.out.mac.m.lt; omega
  have nMR : M ≠ R := by have h1 := h.out.lR; have h2 := h.out.lM; omega
  generalize hqe : w.heap.size = q at *
  replace hqe := Aside.mk hqe
  generalize w.alloc (.cells #[.int .i64 55, .int .i64 d, .int .i64 e, .int .i64 f, .int .i64 n] 26) = W at *
  obtain ⟨il, i0, i1, i2, i3, i4, -⟩ := hi.five
  obtain ⟨iv, ev, hb, hw, ho, hn, rl, r0, r1, r2⟩ := hR.facts
  have ml := hR.mac.m.lt
  have ce := hR.mac.cf (r := e) he
  have cf := hR.mac.cf (r := f) hf
  have cx := hR.mac.cx (r := e) he
  have ux := getD_U hR.mac.ok.ux e
  have uy := getD_U64 hR.mac.ok.uf e
  have fb := hR.mac.m.frozen (33 + d)
  have cd := hR.mac.cf (r := d) hd
  generalize hxx : r.s.x.getD e 0 = xv at *
  generalize hye : r.s.f.getD e 0 = ye at *
  generalize hyf : r.s.f.getD f 0 = yf at *
  generalize hyd : r.s.f.getD d 0 = yd at *
  replace hxx := Aside.mk hxx
  replace hye := Aside.mk hye
  replace hyf := Aside.mk hyf
  replace ux := Aside.mk ux
  replace uy := Aside.mk uy
  clear hb hw ho hn r1 r2 i4
  replace hR := Aside.mk hR
  replace hk := Aside.mk hk
  replace hi := Aside.mk hi
  have e0 : (0 : Int) ≤ (e : Int) := by omega
  have e2 : (e : Int) < 32 := by omega
  have f0 : (0 : Int) ≤ (f : Int) := by omega
  have f2 : (f : Int) < 32 := by omega
  have d0 : (0 : Int) ≤ (d : Int) := by omega
  have d2 : (d : Int) < 32 := by omega
  go_quiet (fail)
  go_upto_region 15 with fail
  have k2 : Kp W (W.drewN nq) := (Kp.refl W).drewN _
  have fb' : (W.drewN nq).frozen? ⟨M, 33 + d, none⟩ = false := (k2.frozen (p := ⟨M, 33 + d, none⟩) ml).trans fb
  replace r0 := kp_cell k2 r0
  replace i0 := kp_cell k2 i0
  replace i1 := kp_cell k2 i1
  replace i2 := kp_cell k2 i2
  replace cx := kp_cell k2 cx
  replace cd := kp_cell k2 cd
  have ml2 := Nat.lt_of_lt_of_le ml k2.size
  have rl2 := Nat.lt_of_lt_of_le rl k2.size
  have il2 := Nat.lt_of_lt_of_le il k2.size
  clear fb ce cf i3 ml rl il
  generalize W.drewN nq = V at *
  replace k2 := Aside.mk k2
  go_region_held3 (fun w' => w'.cell? ⟨R, 0, none⟩ = some (.pointer (some ⟨M, 0, none⟩)) ∧ w'.cell? ⟨q, 1, none⟩ = some (.int .i64 d) ∧ w'.cell? ⟨q, 2, none⟩ = some (.int .i64 e) ∧ w'.cell? ⟨M, 1 + e, none⟩ = some (.int .u32 xv)) (first | (go_keep; done) | exact ⟨kp_cell (Dr.kp hd3) r0, kp_cell (Dr.kp hd3) i1, kp_cell (Dr.kp hd3) i2, kp_cell (Dr.kp hd3) cx⟩ | exact ⟨sc0 nMR (kp_cell (Dr.kp hd3) r0), sc0 nMq (kp_cell (Dr.kp hd3) i1), sc0 nMq (kp_cell (Dr.kp hd3) i2), sc0' (by omega) (kp_cell (Dr.kp hd3) cx)⟩)
    (first | ((go_at_call 59); ((with_reducible refine Calls.mono (OfInt_dr xv ux.out _) ?_)); (rintro e' w3 ⟨rfl, hd3⟩); (have h3 := (hR.out.kp k2.out).kp (((Kp.refl V).drew).trans (Dr.kp hd3))); (have cd3 := h3.mac.cf (r := d) hd); (have fd3 := h3.mac.m.frozen (33 + d)); (replace h3 := Aside.mk h3)))
  go_wp2
  go_end0
  obtain rfl := hxx.out
  obtain rfl := hye.out
  obtain rfl := hyf.out
  have ho := h3.out.mac.ok
  have h4 := h3.out.setM (i := 33 + d) (v := .int .u64 (canV (floatOfInt .f64 (sgn (r.s.x.getD e 0))))) (s' := r.s.setf d (canV (floatOfInt .f64 (sgn (r.s.x.getD e 0))))) (set_f ho hd _) rfl (ok_f ho d (canV_U (cvt_U' _)))
  exact ⟨rfl, ((((hk.out.trans k2.out).trans (((Kp.refl V).drew).trans (Dr.kp hd3))).mod.setCell (p := ⟨M, 33 + d, none⟩) (Or.inl rfl) _)), h4⟩
set_option maxRecDepth 100000 in
set_option maxHeartbeats 1000000 in
theorem reals_do {w : World} {b1 b2 R M B K N : Nat} {r : RS} (h : Rat w b1 R M B K r N) {op : Int} (hop : 45 ≤ op ∧ op ≤ 48) (d e f : Nat) (hd : d < 32) (he : e < 32) (hf : f < 32) (n : Int) :
    Calls Try.prog 46 #[.pointer (some ⟨R, 0, none⟩), insV op d e f n] w fun e' w' => e' = .returned (.tuple #[]) ∧ Mod (SR b1 b2 M B K) w w' ∧ Rat w' b1 R M B K (r.on (r.s.setf d (fopV (bopV op) (r.s.f.getD e 0).toNat (r.s.f.getD f 0).toNat))) N := by
  have hk : Kp w (w.alloc (.cells #[.int .i64 op, .int .i64 d, .int .i64 e, .int .i64 f, .int .i64 n] 26)) := (Kp.refl w).alloc _
  have hR := h.kp hk
  have hi := Blk.new w #[.int .i64 op, .int .i64 d, .int .i64 e, .int .i64 f, .int .i64 n] 26
  replace h := Aside.mk h
  unfold insV
  go_enter Try.func46, Try.ntmps46
  go_upto_region 1 with fail
  have nMq : M ≠ w.heap.size := by have := h.out.mac.m.lt; omega
  have nMR : M ≠ R := by have h1 := h.out.lR; have h2 := h.out.lM; omega
  generalize hqe : w.heap.size = q at *
  replace hqe := Aside.mk hqe
  generalize w.alloc (.cells #[.int .i64 op, .int .i64 d, .int .i64 e, .int .i64 f, .int .i64 n] 26) = W at *
  obtain ⟨il, i0, i1, i2, i3, i4, -⟩ := hi.five
  obtain ⟨iv, ev, hb, hw, ho, hn, rl, r0, r1, r2⟩ := hR.facts
  have ml := hR.mac.m.lt
  have ce := hR.mac.cf (r := e) he
  have cf := hR.mac.cf (r := f) hf
  have cx := hR.mac.cx (r := e) he
  have ux := getD_U hR.mac.ok.ux e
  have uy := getD_U64 hR.mac.ok.uf e
  have fb := hR.mac.m.frozen (33 + d)
  have cd := hR.mac.cf (r := d) hd
  generalize hxx : r.s.x.getD e 0 = xv at *
  generalize hye : r.s.f.getD e 0 = ye at *
  generalize hyf : r.s.f.getD f 0 = yf at *
  generalize hyd : r.s.f.getD d 0 = yd at *
  replace hxx := Aside.mk hxx
  replace hye := Aside.mk hye
  replace hyf := Aside.mk hyf
  replace ux := Aside.mk ux
  replace uy := Aside.mk uy
  clear hb hw ho hn r1 r2 i4
  replace hR := Aside.mk hR
  replace hk := Aside.mk hk
  replace hi := Aside.mk hi
  have e0 : (0 : Int) ≤ (e : Int) := by omega
  have e2 : (e : Int) < 32 := by omega
  have f0 : (0 : Int) ≤ (f : Int) := by omega
  have f2 : (f : Int) < 32 := by omega
  have d0 : (0 : Int) ≤ (d : Int) := by omega
  have d2 : (d : Int) < 32 := by omega
  have q49 : (op == 49) = false := by simp; omega
  have q50 : (op == 50) = false := by simp; omega
  have q51 : (op == 51) = false := by simp; omega
  have q52 : (op == 52) = false := by simp; omega
  have q53 : (op == 53) = false := by simp; omega
  have q54 : (op == 54) = false := by simp; omega
  have q55 : (op == 55) = false := by simp; omega
  go_quiet (fail)
  go_upto_region 3 with fail
  have k2 : Kp W (W.drewN nq) := (Kp.refl W).drewN _
  have fb' : (W.drewN nq).frozen? ⟨M, 33 + d, none⟩ = false := (k2.frozen (p := ⟨M, 33 + d, none⟩) ml).trans fb
  replace r0 := kp_cell k2 r0
  replace i0 := kp_cell k2 i0
  replace i1 := kp_cell k2 i1
  replace i2 := kp_cell k2 i2
  replace cx := kp_cell k2 cx
  replace cd := kp_cell k2 cd
  have ml2 := Nat.lt_of_lt_of_le ml k2.size
  have rl2 := Nat.lt_of_lt_of_le rl k2.size
  have il2 := Nat.lt_of_lt_of_le il k2.size
  clear fb ce cf i3 ml rl il
  generalize W.drewN nq = V at *
  replace k2 := Aside.mk k2
  go_region_held3 (fun w' => w'.cell? ⟨R, 0, none⟩ = some (.pointer (some ⟨M, 0, none⟩)) ∧ w'.cell? ⟨q, 1, none⟩ = some (.int .i64 d) ∧ w'.cell? ⟨q, 0, none⟩ = some (.int .i64 op)) (first | (go_keep; done) | exact ⟨kp_cell (Dr.kp hd3) r0, kp_cell (Dr.kp hd3) i1, kp_cell (Dr.kp hd3) i0⟩ | exact ⟨sc0 nMR (kp_cell (Dr.kp hd3) r0), sc0 nMq (kp_cell (Dr.kp hd3) i1), sc0 nMq (kp_cell (Dr.kp hd3) i0)⟩)
    (first | ((go_at_call 60); ((with_reducible refine Calls.mono (fdo_calls op ye yf hop _) ?_)); (rintro e' w3 ⟨rfl, hd3⟩); (have h3 := (hR.out.kp k2.out).kp (((Kp.refl V).drew).trans (Dr.kp hd3))); (have cd3 := h3.mac.cf (r := d) hd); (have fd3 := h3.mac.m.frozen (33 + d)); (replace h3 := Aside.mk h3)))
  go_wp2
  go_end0
  obtain rfl := hxx.out
  obtain rfl := hye.out
  obtain rfl := hyf.out
  have ho := h3.out.mac.ok
  have h4 := h3.out.setM (i := 33 + d) (v := .int .u64 (fopV (bopV op) (r.s.f.getD e 0).toNat (r.s.f.getD f 0).toNat)) (s' := r.s.setf d (fopV (bopV op) (r.s.f.getD e 0).toNat (r.s.f.getD f 0).toNat)) (set_f ho hd _) rfl (ok_f ho d (fopV_U _ _ _))
  exact ⟨rfl, ((((hk.out.trans k2.out).trans (((Kp.refl V).drew).trans (Dr.kp hd3))).mod.setCell (p := ⟨M, 33 + d, none⟩) (Or.inl rfl) _)), h4⟩
end Go.Proofs.Ytgcihcgclmdolaa
