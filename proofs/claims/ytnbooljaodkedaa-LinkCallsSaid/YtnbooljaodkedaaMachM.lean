/- The machine's loads and stores, walked. Conditions stand at each. -/
import Derived.Test.YtnbooljaodkedaaMachE
import Derived.StillTailTactics
namespace Go.Proofs.Ytnbooljaodkedaa
open Go.RowKit Go.Maps Go.Proofs.Ytnbooljaodkedaa.PC Go.Proofs.Ytnbooljaodkedaa.PW
set_option linter.unusedVariables false
set_option linter.unusedSimpArgs false
theorem at_still {w : World} {M B K N : Nat} {s : MS} (hm : Mac w M B K s N) (a n : Int) (ha : U a) (hn : 1 ≤ n ∧ n ≤ 8) (h1 : a % n = 0) (h2 : a + n ≤ s.mem.length) :
    Calls Try.prog 77 #[.pointer (some ⟨M, 0, none⟩), .int .u32 a, .int .i64 n] w fun e w' => e = .returned (.slice (some ⟨B, a.toNat, none⟩) n.toNat (s.mem.length - a.toNat)) ∧ w' = w :=
  (at_ok hm a n ha hn h1 h2).mono fun _ _ ⟨he, hw⟩ => ⟨he, hw.symm⟩
theorem sc_cell {w : World} {p : Addr} {v : Value} {b o : Nat} {u : Value} (hn : p.block ≠ b) (h : w.cell? ⟨b, o, none⟩ = some u) : (w.setCell p v).drew.cell? ⟨b, o, none⟩ = some u := by
  show (w.setCell p v).cell? ⟨b, o, none⟩ = some u
  rw [World.cell?_setCell_other _ _ _ _ (fun e => hn (by rw [e]))]
  exact h
theorem mod_cell {S : Nat → Prop} {w w' : World} {b o : Nat} {u : Value} (g : Mod S w w') (hn : ¬S b) (h : w.cell? ⟨b, o, none⟩ = some u) : w'.cell? ⟨b, o, none⟩ = some u := by
  obtain ⟨b', off, e, hl⟩ := cell_some h
  cases e
  rw [World.cell?_of_block (w := w) (g.block b hl hn)]
  exact h
theorem U_le {x : Int} (h : U x) : 0 ≤ x ∧ x ≤ 4294967295 := h
set_option maxRecDepth 100000 in
set_option maxHeartbeats 2000000 in
theorem mem_LB {w : World} {b1 b2 R M B K N : Nat} {r : RS} (h : Rat w b1 R M B K r N) (d : Nat) (hd : d < 32) (rs1 rs2 n a : Int) (ha : U a) (h1 : a % 1 = 0) (h2 : a + 1 ≤ r.s.mem.length) :
    Calls Try.prog 62 #[.pointer (some ⟨R, 0, none⟩), insV 27 d rs1 rs2 n, .int .u32 a] w fun e w' => e = .returned (.tuple #[]) ∧ Mod (SR b1 b2 M B K) w w' ∧ Rat w' b1 R M B K (r.on (r.s.setx d (Still.ext8 (r.s.mem.getD a.toNat 0)))) N := by
  have hk : Kp w (w.alloc (.cells #[.int .i64 27, .int .i64 d, .int .i64 rs1, .int .i64 rs2, .int .i64 n] 40)) := (Kp.refl w).alloc _
  have hR := h.kp hk
  have hi := Blk.new w #[.int .i64 27, .int .i64 d, .int .i64 rs1, .int .i64 rs2, .int .i64 n] 40
  replace h := Aside.mk h
  unfold insV
  go_enter Try.func62, Try.ntmps62
  go_upto_region 3 with fail
  have nMq : M ≠ w.heap.size := by have := h.out.mac.m.lt; omega
  have nBq : B ≠ w.heap.size := by have := h.out.mac.b.lt; omega
  have nMR : M ≠ R := by have h1 := h.out.lR; have h2 := h.out.lM; omega
  have nBR : B ≠ R := by have h1 := h.out.lR; have h2 := h.out.lB; omega
  generalize hqe : w.heap.size = q at *
  replace hqe := Aside.mk hqe
  generalize w.alloc (.cells #[.int .i64 27, .int .i64 d, .int .i64 rs1, .int .i64 rs2, .int .i64 n] 40) = W at *
  obtain ⟨il, i0, i1, i2, i3, i4, -⟩ := hi.five
  obtain ⟨iv, ev, hb, hw, ho, hn, rl, r0, r1, r2⟩ := hR.facts
  obtain ⟨lm, lb, c0, c65, c66, c67, c68⟩ := hR.mac.facts
  have ha' : 0 ≤ a ∧ a ≤ 4294967295 := ha
  have nMB : M ≠ B := hR.mac.nmb
  have nBM : B ≠ M := fun e => nMB e.symm
  have cx := hR.mac.cx hd
  have fx := hR.mac.m.frozen (1 + d)
  have d0 : (0 : Int) ≤ (d : Int) := by omega
  have d1 : (d : Int) < 32 := by omega
  replace hk := Aside.mk hk
  clear hb hw ho hn hi c0 c65 c66 c67 c68 r1 r2 i0 i2 i4
  have h3 : a.toNat + 1 ≤ r.s.mem.length := by omega
  have cb := hR.mac.cb (i := a.toNat) (by omega)
  have hby := byte_getD hR.mac.ok.ub a.toNat
  generalize hbb : r.s.mem.getD a.toNat 0 = bb at *
  have hby' : 0 ≤ bb ∧ bb ≤ 255 := hby
  have hbu : U bb := by unfold U; omega
  have wr : IntKind.u32.wrap bb = bb := by rw [IntKind.wrap_u32]; omega
  clear hby
  replace hbb := Aside.mk hbb
  replace hR := Aside.mk hR
  go_region_held3 (fun w' => w'.cell? ⟨R, 0, none⟩ = some (.pointer (some ⟨M, 0, none⟩)) ∧ w'.cell? ⟨q, 1, none⟩ = some (.int .i64 d) ∧ w'.cell? ⟨B, a.toNat, none⟩ = some (.int .u8 bb)) (first | (go_keep; done) | exact ⟨sc_cell nMR r0, sc_cell nMq i1, sc_cell nMB cb⟩)
    (first | ((go_at_call 77); (refine Calls.mono (at_still (M := M) (B := B) (K := K) (s := r.s) (N := N) ?_ a 1 ha (by decide) h1 h2) ?_); (exact hR.out.mac.kp ((Kp.refl W).drew)); (rintro e w1 ⟨rfl, rfl⟩)) | ((go_at_call 75); ((with_reducible refine Calls.mono (Still.ext8_calls bb hbu _) ?_)); (rintro e w1 ⟨rfl, rfl⟩)))
  go_wp2
  go_end0
  obtain rfl := hbb.out
  have ho := hR.out.mac.ok
  have h4 := hR.out.setM (i := 1 + d) (v := .int .u32 (Still.ext8 (r.s.mem.getD a.toNat 0))) (s' := r.s.setx d (Still.ext8 (r.s.mem.getD a.toNat 0))) (set_x ho hd _) rfl (ok_x ho d (by unfold Still.ext8; exact U_mod _))
  exact ⟨rfl, ((hk.out.mod.setCell (p := ⟨M, 1 + d, none⟩) (Or.inl rfl) _).drew), h4.kp ((Kp.refl _).drew)⟩
set_option maxRecDepth 100000 in
set_option maxHeartbeats 2000000 in
theorem mem_LBU {w : World} {b1 b2 R M B K N : Nat} {r : RS} (h : Rat w b1 R M B K r N) (d : Nat) (hd : d < 32) (rs1 rs2 n a : Int) (ha : U a) (h1 : a % 1 = 0) (h2 : a + 1 ≤ r.s.mem.length) :
    Calls Try.prog 62 #[.pointer (some ⟨R, 0, none⟩), insV 28 d rs1 rs2 n, .int .u32 a] w fun e w' => e = .returned (.tuple #[]) ∧ Mod (SR b1 b2 M B K) w w' ∧ Rat w' b1 R M B K (r.on (r.s.setx d (r.s.mem.getD a.toNat 0))) N := by
  have hk : Kp w (w.alloc (.cells #[.int .i64 28, .int .i64 d, .int .i64 rs1, .int .i64 rs2, .int .i64 n] 40)) := (Kp.refl w).alloc _
  have hR := h.kp hk
  have hi := Blk.new w #[.int .i64 28, .int .i64 d, .int .i64 rs1, .int .i64 rs2, .int .i64 n] 40
  replace h := Aside.mk h
  unfold insV
  go_enter Try.func62, Try.ntmps62
  go_upto_region 5 with fail
  have nMq : M ≠ w.heap.size := by have := h.out.mac.m.lt; omega
  have nBq : B ≠ w.heap.size := by have := h.out.mac.b.lt; omega
  have nMR : M ≠ R := by have h1 := h.out.lR; have h2 := h.out.lM; omega
  have nBR : B ≠ R := by have h1 := h.out.lR; have h2 := h.out.lB; omega
  generalize hqe : w.heap.size = q at *
  replace hqe := Aside.mk hqe
  generalize w.alloc (.cells #[.int .i64 28, .int .i64 d, .int .i64 rs1, .int .i64 rs2, .int .i64 n] 40) = W at *
  obtain ⟨il, i0, i1, i2, i3, i4, -⟩ := hi.five
  obtain ⟨iv, ev, hb, hw, ho, hn, rl, r0, r1, r2⟩ := hR.facts
  obtain ⟨lm, lb, c0, c65, c66, c67, c68⟩ := hR.mac.facts
  have ha' : 0 ≤ a ∧ a ≤ 4294967295 := ha
  have nMB : M ≠ B := hR.mac.nmb
  have nBM : B ≠ M := fun e => nMB e.symm
  have cx := hR.mac.cx hd
  have fx := hR.mac.m.frozen (1 + d)
  have d0 : (0 : Int) ≤ (d : Int) := by omega
  have d1 : (d : Int) < 32 := by omega
  replace hk := Aside.mk hk
  clear hb hw ho hn hi c0 c65 c66 c67 c68 r1 r2 i0 i2 i4
  have h3 : a.toNat + 1 ≤ r.s.mem.length := by omega
  have cb := hR.mac.cb (i := a.toNat) (by omega)
  have hby := byte_getD hR.mac.ok.ub a.toNat
  generalize hbb : r.s.mem.getD a.toNat 0 = bb at *
  have hby' : 0 ≤ bb ∧ bb ≤ 255 := hby
  have hbu : U bb := by unfold U; omega
  have wr : IntKind.u32.wrap bb = bb := by rw [IntKind.wrap_u32]; omega
  clear hby
  replace hbb := Aside.mk hbb
  replace hR := Aside.mk hR
  go_region_held3 (fun w' => w'.cell? ⟨R, 0, none⟩ = some (.pointer (some ⟨M, 0, none⟩)) ∧ w'.cell? ⟨q, 1, none⟩ = some (.int .i64 d) ∧ w'.cell? ⟨B, a.toNat, none⟩ = some (.int .u8 bb)) (first | (go_keep; done) | exact ⟨sc_cell nMR r0, sc_cell nMq i1, sc_cell nMB cb⟩)
    (first | ((go_at_call 77); (refine Calls.mono (at_still (M := M) (B := B) (K := K) (s := r.s) (N := N) ?_ a 1 ha (by decide) h1 h2) ?_); (exact hR.out.mac.kp ((Kp.refl W).drew)); (rintro e w1 ⟨rfl, rfl⟩)))
  go_wp2
  go_end0
  obtain rfl := hbb.out
  have ho := hR.out.mac.ok
  have h4 := hR.out.setM (i := 1 + d) (v := .int .u32 (r.s.mem.getD a.toNat 0)) (s' := r.s.setx d (r.s.mem.getD a.toNat 0)) (set_x ho hd _) rfl (ok_x ho d hbu)
  exact ⟨rfl, ((hk.out.mod.setCell (p := ⟨M, 1 + d, none⟩) (Or.inl rfl) _).drew), h4.kp ((Kp.refl _).drew)⟩
set_option maxRecDepth 100000 in
set_option maxHeartbeats 2000000 in
theorem mem_LW {w : World} {b1 b2 R M B K N : Nat} {r : RS} (h : Rat w b1 R M B K r N) (d : Nat) (hd : d < 32) (rs1 rs2 n a : Int) (ha : U a) (h1 : a % 4 = 0) (h2 : a + 4 ≤ r.s.mem.length) :
    Calls Try.prog 62 #[.pointer (some ⟨R, 0, none⟩), insV 29 d rs1 rs2 n, .int .u32 a] w fun e w' => e = .returned (.tuple #[]) ∧ Mod (SR b1 b2 M B K) w w' ∧ Rat w' b1 R M B K (r.on (r.s.setx d (getN r.s.mem a.toNat 4))) N := by
  have hk : Kp w (w.alloc (.cells #[.int .i64 29, .int .i64 d, .int .i64 rs1, .int .i64 rs2, .int .i64 n] 40)) := (Kp.refl w).alloc _
  have hR := h.kp hk
  have hi := Blk.new w #[.int .i64 29, .int .i64 d, .int .i64 rs1, .int .i64 rs2, .int .i64 n] 40
  replace h := Aside.mk h
  unfold insV
  go_enter Try.func62, Try.ntmps62
  go_upto_region 7 with fail
  have nMq : M ≠ w.heap.size := by have := h.out.mac.m.lt; omega
  have nBq : B ≠ w.heap.size := by have := h.out.mac.b.lt; omega
  have nMR : M ≠ R := by have h1 := h.out.lR; have h2 := h.out.lM; omega
  have nBR : B ≠ R := by have h1 := h.out.lR; have h2 := h.out.lB; omega
  generalize hqe : w.heap.size = q at *
  replace hqe := Aside.mk hqe
  generalize w.alloc (.cells #[.int .i64 29, .int .i64 d, .int .i64 rs1, .int .i64 rs2, .int .i64 n] 40) = W at *
  obtain ⟨il, i0, i1, i2, i3, i4, -⟩ := hi.five
  obtain ⟨iv, ev, hb, hw, ho, hn, rl, r0, r1, r2⟩ := hR.facts
  obtain ⟨lm, lb, c0, c65, c66, c67, c68⟩ := hR.mac.facts
  have ha' : 0 ≤ a ∧ a ≤ 4294967295 := ha
  have nMB : M ≠ B := hR.mac.nmb
  have nBM : B ≠ M := fun e => nMB e.symm
  have cx := hR.mac.cx hd
  have fx := hR.mac.m.frozen (1 + d)
  have d0 : (0 : Int) ≤ (d : Int) := by omega
  have d1 : (d : Int) < 32 := by omega
  replace hk := Aside.mk hk
  clear hb hw ho hn hi c0 c65 c66 c67 c68 r1 r2 i0 i2 i4
  have h3 : a.toNat + 4 ≤ r.s.mem.length := by omega
  have hg := (getN4_U hR.mac.ok.ub a.toNat).2
  have wr : IntKind.u32.wrap (getN r.s.mem a.toNat 4) = getN r.s.mem a.toNat 4 := by rw [IntKind.wrap_u32]; omega
  replace hR := Aside.mk hR
  go_region_held3 (fun w' => w'.cell? ⟨R, 0, none⟩ = some (.pointer (some ⟨M, 0, none⟩)) ∧ w'.cell? ⟨q, 1, none⟩ = some (.int .i64 d)) (first | (go_keep; done) | exact ⟨sc_cell nMR r0, sc_cell nMq i1⟩)
    (first | ((go_at_call 77); (refine Calls.mono (at_still (M := M) (B := B) (K := K) (s := r.s) (N := N) ?_ a 4 ha (by decide) h1 h2) ?_); (exact hR.out.mac.kp ((Kp.refl W).drew)); (rintro e w1 ⟨rfl, rfl⟩)) | ((go_at_call 76); (refine Calls.mono (number_still (B := B) (mem := r.s.mem) ?_ hR.out.mac.ok.ub a.toNat 4 _ (by decide) h3) ?_); (exact hR.out.mac.b.kp ((Kp.refl W).drew)); (rintro e w1 ⟨rfl, rfl⟩)))
  go_wp2
  go_end0
  have ho := hR.out.mac.ok
  have h4 := hR.out.setM (i := 1 + d) (v := .int .u32 (getN r.s.mem a.toNat 4)) (s' := r.s.setx d (getN r.s.mem a.toNat 4)) (set_x ho hd _) rfl (ok_x ho d (getN4_U ho.ub a.toNat).1)
  exact ⟨rfl, ((hk.out.mod.setCell (p := ⟨M, 1 + d, none⟩) (Or.inl rfl) _).drew), h4.kp ((Kp.refl _).drew)⟩
set_option maxRecDepth 100000 in
set_option maxHeartbeats 2000000 in
theorem mem_SB {w : World} {b1 b2 R M B K N : Nat} {r : RS} (h : Rat w b1 R M B K r N) (d : Nat) (hd : d < 32) (rd rs1 n a : Int) (ha : U a) (h1 : a % 1 = 0) (h2 : a + 1 ≤ r.s.mem.length) :
    Calls Try.prog 62 #[.pointer (some ⟨R, 0, none⟩), insV 30 rd rs1 d n, .int .u32 a] w fun e w' => e = .returned (.tuple #[]) ∧ Mod (SR b1 b2 M B K) w w' ∧ Rat w' b1 R M B K (r.on ({ r.s with mem := r.s.mem.set a.toNat (r.s.x.getD d 0 % 256) })) N := by
  have hk : Kp w (w.alloc (.cells #[.int .i64 30, .int .i64 rd, .int .i64 rs1, .int .i64 d, .int .i64 n] 40)) := (Kp.refl w).alloc _
  have hR := h.kp hk
  have hi := Blk.new w #[.int .i64 30, .int .i64 rd, .int .i64 rs1, .int .i64 d, .int .i64 n] 40
  replace h := Aside.mk h
  unfold insV
  go_enter Try.func62, Try.ntmps62
  go_upto_region 9 with fail
  have nMq : M ≠ w.heap.size := by have := h.out.mac.m.lt; omega
  have nBq : B ≠ w.heap.size := by have := h.out.mac.b.lt; omega
  have nMR : M ≠ R := by have h1 := h.out.lR; have h2 := h.out.lM; omega
  have nBR : B ≠ R := by have h1 := h.out.lR; have h2 := h.out.lB; omega
  generalize hqe : w.heap.size = q at *
  replace hqe := Aside.mk hqe
  generalize w.alloc (.cells #[.int .i64 30, .int .i64 rd, .int .i64 rs1, .int .i64 d, .int .i64 n] 40) = W at *
  obtain ⟨il, i0, i1, i2, i3, i4, -⟩ := hi.five
  obtain ⟨iv, ev, hb, hw, ho, hn, rl, r0, r1, r2⟩ := hR.facts
  obtain ⟨lm, lb, c0, c65, c66, c67, c68⟩ := hR.mac.facts
  have ha' : 0 ≤ a ∧ a ≤ 4294967295 := ha
  have nMB : M ≠ B := hR.mac.nmb
  have nBM : B ≠ M := fun e => nMB e.symm
  have cx := hR.mac.cx hd
  have fx := hR.mac.m.frozen (1 + d)
  have d0 : (0 : Int) ≤ (d : Int) := by omega
  have d1 : (d : Int) < 32 := by omega
  replace hk := Aside.mk hk
  clear hb hw ho hn hi c0 c65 c66 c67 c68 r1 r2 i0 i2 i4
  have h3 : a.toNat + 1 ≤ r.s.mem.length := by omega
  have fb := hR.mac.b.frozen a.toNat
  have cb := hR.mac.cb (i := a.toNat) (by omega)
  have hxv := getD_U hR.mac.ok.ux d
  generalize hxx : r.s.x.getD d 0 = xv at *
  have hxv' := U_le hxv
  replace hxx := Aside.mk hxx
  replace hR := Aside.mk hR
  go_region_held3 (fun w' => w'.cell? ⟨R, 0, none⟩ = some (.pointer (some ⟨M, 0, none⟩)) ∧ w'.cell? ⟨q, 3, none⟩ = some (.int .i64 d) ∧ w'.cell? ⟨M, 1 + d, none⟩ = some (.int .u32 xv)) (first | (go_keep; done) | exact ⟨sc_cell nBR r0, sc_cell nBq i3, sc_cell nBM cx⟩)
    (first | ((go_at_call 77); (refine Calls.mono (at_still (M := M) (B := B) (K := K) (s := r.s) (N := N) ?_ a 1 ha (by decide) h1 h2) ?_); (exact hR.out.mac.kp ((Kp.refl W).drew)); (rintro e w1 ⟨rfl, rfl⟩)))
  go_wp2
  go_end0
  obtain rfl := hxx.out
  have hb5 := hR.out.mac.b.set (i := a.toNat) (.int .u8 (r.s.x.getD d 0 % 256))
  rw [memC_set] at hb5
  have hm5 : Mod (fun k => k = B) W (W.setCell ⟨B, a.toNat, none⟩ (.int .u8 (r.s.x.getD d 0 % 256))) := (Mod.refl (fun k => k = B) W).setCell (p := ⟨B, a.toNat, none⟩) rfl _
  have h4 := hR.out.setB hm5 hb5 (by simp) (byte_set hR.out.mac.ok.ub _ (byte_mod _))
  exact ⟨rfl, (hk.out.mod.trans (hm5.mono (fun k _ e => Or.inr (Or.inl e)))).drew, h4.kp ((Kp.refl _).drew)⟩
set_option maxRecDepth 100000 in
set_option maxHeartbeats 2000000 in
theorem mem_SW {w : World} {b1 b2 R M B K N : Nat} {r : RS} (h : Rat w b1 R M B K r N) (d : Nat) (hd : d < 32) (rd rs1 n a : Int) (ha : U a) (h1 : a % 4 = 0) (h2 : a + 4 ≤ r.s.mem.length) :
    Calls Try.prog 62 #[.pointer (some ⟨R, 0, none⟩), insV 31 rd rs1 d n, .int .u32 a] w fun e w' => e = .returned (.tuple #[]) ∧ Mod (SR b1 b2 M B K) w w' ∧ Rat w' b1 R M B K (r.on ({ r.s with mem := putN r.s.mem a.toNat (r.s.x.getD d 0) 4 })) N := by
  have hk : Kp w (w.alloc (.cells #[.int .i64 31, .int .i64 rd, .int .i64 rs1, .int .i64 d, .int .i64 n] 40)) := (Kp.refl w).alloc _
  have hR := h.kp hk
  have hi := Blk.new w #[.int .i64 31, .int .i64 rd, .int .i64 rs1, .int .i64 d, .int .i64 n] 40
  replace h := Aside.mk h
  unfold insV
  go_enter Try.func62, Try.ntmps62
  go_upto_region 11 with fail
  have nMq : M ≠ w.heap.size := by have := h.out.mac.m.lt; omega
  have nBq : B ≠ w.heap.size := by have := h.out.mac.b.lt; omega
  have nMR : M ≠ R := by have h1 := h.out.lR; have h2 := h.out.lM; omega
  have nBR : B ≠ R := by have h1 := h.out.lR; have h2 := h.out.lB; omega
  generalize hqe : w.heap.size = q at *
  replace hqe := Aside.mk hqe
  generalize w.alloc (.cells #[.int .i64 31, .int .i64 rd, .int .i64 rs1, .int .i64 d, .int .i64 n] 40) = W at *
  obtain ⟨il, i0, i1, i2, i3, i4, -⟩ := hi.five
  obtain ⟨iv, ev, hb, hw, ho, hn, rl, r0, r1, r2⟩ := hR.facts
  obtain ⟨lm, lb, c0, c65, c66, c67, c68⟩ := hR.mac.facts
  have ha' : 0 ≤ a ∧ a ≤ 4294967295 := ha
  have nMB : M ≠ B := hR.mac.nmb
  have nBM : B ≠ M := fun e => nMB e.symm
  have cx := hR.mac.cx hd
  have fx := hR.mac.m.frozen (1 + d)
  have d0 : (0 : Int) ≤ (d : Int) := by omega
  have d1 : (d : Int) < 32 := by omega
  replace hk := Aside.mk hk
  clear hb hw ho hn hi c0 c65 c66 c67 c68 r1 r2 i0 i2 i4
  have h3 : a.toNat + 4 ≤ r.s.mem.length := by omega
  have hxv1 := getD_U hR.mac.ok.ux d
  generalize hxx : r.s.x.getD d 0 = xv at *
  have hxv' := U_le hxv1
  have hxv : U64 xv := by unfold U64; omega
  have wr : IntKind.u64.wrap xv = xv := by rw [IntKind.wrap_u64]; omega
  replace hxx := Aside.mk hxx
  replace hR := Aside.mk hR
  go_region_held3 (fun w' => w'.cell? ⟨R, 0, none⟩ = some (.pointer (some ⟨M, 0, none⟩)) ∧ w'.cell? ⟨q, 3, none⟩ = some (.int .i64 d) ∧ w'.cell? ⟨M, 1 + d, none⟩ = some (.int .u32 xv)) (first | (go_keep; done) | exact ⟨mod_cell hm5 (fun e => nBR e.symm) r0, mod_cell hm5 (fun e => nBq e.symm) i3, mod_cell hm5 nMB cx⟩)
    (first | ((go_at_call 77); (refine Calls.mono (at_still (M := M) (B := B) (K := K) (s := r.s) (N := N) ?_ a 4 ha (by decide) h1 h2) ?_); (exact hR.out.mac.kp ((Kp.refl W).drew)); (rintro e w1 ⟨rfl, rfl⟩)) | ((go_at_call 80); (refine Calls.mono (bput_calls (B := B) (mem := r.s.mem) ?_ a.toNat 4 _ xv hxv (by decide) h3) ?_); (exact hR.out.mac.b.kp ((Kp.refl W).drew)); (rintro e w5 ⟨rfl, hm5, hb5⟩)))
  go_wp2
  go_end0
  obtain rfl := hxx.out
  have h4 := (hR.out.kp ((Kp.refl W).drew)).setB hm5 hb5 (putN_length _ _ _ _) (byte_putN hR.out.mac.ok.ub _ _ _)
  exact ⟨rfl, (hk.out.mod.drew).trans (hm5.mono (fun k _ e => Or.inr (Or.inl e))), h4⟩
set_option maxRecDepth 100000 in
set_option maxHeartbeats 2000000 in
theorem mem_FLD {w : World} {b1 b2 R M B K N : Nat} {r : RS} (h : Rat w b1 R M B K r N) (d : Nat) (hd : d < 32) (rs1 rs2 n a : Int) (ha : U a) (h1 : a % 8 = 0) (h2 : a + 8 ≤ r.s.mem.length) :
    Calls Try.prog 62 #[.pointer (some ⟨R, 0, none⟩), insV 43 d rs1 rs2 n, .int .u32 a] w fun e w' => e = .returned (.tuple #[]) ∧ Mod (SR b1 b2 M B K) w w' ∧ Rat w' b1 R M B K (r.on (r.s.setf d (canV (getN r.s.mem a.toNat 8).toNat))) N := by
  have hk : Kp w (w.alloc (.cells #[.int .i64 43, .int .i64 d, .int .i64 rs1, .int .i64 rs2, .int .i64 n] 40)) := (Kp.refl w).alloc _
  have hR := h.kp hk
  have hi := Blk.new w #[.int .i64 43, .int .i64 d, .int .i64 rs1, .int .i64 rs2, .int .i64 n] 40
  replace h := Aside.mk h
  unfold insV
  go_enter Try.func62, Try.ntmps62
  go_upto_region 13 with fail
  have nMq : M ≠ w.heap.size := by have := h.out.mac.m.lt; omega
  have nBq : B ≠ w.heap.size := by have := h.out.mac.b.lt; omega
  have nMR : M ≠ R := by have h1 := h.out.lR; have h2 := h.out.lM; omega
  have nBR : B ≠ R := by have h1 := h.out.lR; have h2 := h.out.lB; omega
  generalize hqe : w.heap.size = q at *
  replace hqe := Aside.mk hqe
  generalize w.alloc (.cells #[.int .i64 43, .int .i64 d, .int .i64 rs1, .int .i64 rs2, .int .i64 n] 40) = W at *
  obtain ⟨il, i0, i1, i2, i3, i4, -⟩ := hi.five
  obtain ⟨iv, ev, hb, hw, ho, hn, rl, r0, r1, r2⟩ := hR.facts
  obtain ⟨lm, lb, c0, c65, c66, c67, c68⟩ := hR.mac.facts
  have ha' : 0 ≤ a ∧ a ≤ 4294967295 := ha
  have nMB : M ≠ B := hR.mac.nmb
  have nBM : B ≠ M := fun e => nMB e.symm
  have cx := hR.mac.cf hd
  have fx := hR.mac.m.frozen (33 + d)
  have d0 : (0 : Int) ≤ (d : Int) := by omega
  have d1 : (d : Int) < 32 := by omega
  replace hk := Aside.mk hk
  clear hb hw ho hn hi c0 c65 c66 c67 c68 r1 r2 i0 i2 i4
  have h3 : a.toNat + 8 ≤ r.s.mem.length := by omega
  replace hR := Aside.mk hR
  go_region_held3 (fun w' => w'.cell? ⟨R, 0, none⟩ = some (.pointer (some ⟨M, 0, none⟩)) ∧ w'.cell? ⟨q, 1, none⟩ = some (.int .i64 d)) (first | (go_keep; done) | exact ⟨sc_cell nMR r0, sc_cell nMq i1⟩)
    (first | ((go_at_call 77); (refine Calls.mono (at_still (M := M) (B := B) (K := K) (s := r.s) (N := N) ?_ a 8 ha (by decide) h1 h2) ?_); (exact hR.out.mac.kp ((Kp.refl W).drew)); (rintro e w1 ⟨rfl, rfl⟩)) | ((go_at_call 76); (refine Calls.mono (number_still (B := B) (mem := r.s.mem) ?_ hR.out.mac.ok.ub a.toNat 8 _ (by decide) h3) ?_); (exact hR.out.mac.b.kp ((Kp.refl W).drew)); (rintro e w1 ⟨rfl, rfl⟩)) | ((go_at_call 81); ((with_reducible refine Calls.mono (Canon_calls _ _) ?_)); (rintro e w1 ⟨rfl, rfl⟩)))
  go_wp2
  go_end0
  have ho := hR.out.mac.ok
  have h5 := getN_range ho.ub a.toNat 8
  have e8 : (256 : Int) ^ 8 = 18446744073709551616 := by decide
  rw [e8] at h5
  have u8 : (((getN r.s.mem a.toNat 8).toNat : Nat) : Int) ≤ 18446744073709551615 := by omega
  have h4 := hR.out.setM (i := 33 + d) (v := .int .u64 (canV (getN r.s.mem a.toNat 8).toNat)) (s' := r.s.setf d (canV (getN r.s.mem a.toNat 8).toNat)) (set_f ho hd _) rfl (ok_f ho d (canV_U u8))
  exact ⟨rfl, ((hk.out.mod.setCell (p := ⟨M, 33 + d, none⟩) (Or.inl rfl) _).drew), h4.kp ((Kp.refl _).drew)⟩
set_option maxRecDepth 100000 in
set_option maxHeartbeats 2000000 in
theorem mem_FSD {w : World} {b1 b2 R M B K N : Nat} {r : RS} (h : Rat w b1 R M B K r N) (d : Nat) (hd : d < 32) (rd rs1 n a : Int) (ha : U a) (h1 : a % 8 = 0) (h2 : a + 8 ≤ r.s.mem.length) :
    Calls Try.prog 62 #[.pointer (some ⟨R, 0, none⟩), insV 44 rd rs1 d n, .int .u32 a] w fun e w' => e = .returned (.tuple #[]) ∧ Mod (SR b1 b2 M B K) w w' ∧ Rat w' b1 R M B K (r.on ({ r.s with mem := putN r.s.mem a.toNat (r.s.f.getD d 0) 8 })) N := by
  have hk : Kp w (w.alloc (.cells #[.int .i64 44, .int .i64 rd, .int .i64 rs1, .int .i64 d, .int .i64 n] 40)) := (Kp.refl w).alloc _
  have hR := h.kp hk
  have hi := Blk.new w #[.int .i64 44, .int .i64 rd, .int .i64 rs1, .int .i64 d, .int .i64 n] 40
  replace h := Aside.mk h
  unfold insV
  go_enter Try.func62, Try.ntmps62
  go_upto_region 15 with fail
  have nMq : M ≠ w.heap.size := by have := h.out.mac.m.lt; omega
  have nBq : B ≠ w.heap.size := by have := h.out.mac.b.lt; omega
  have nMR : M ≠ R := by have h1 := h.out.lR; have h2 := h.out.lM; omega
  have nBR : B ≠ R := by have h1 := h.out.lR; have h2 := h.out.lB; omega
  generalize hqe : w.heap.size = q at *
  replace hqe := Aside.mk hqe
  generalize w.alloc (.cells #[.int .i64 44, .int .i64 rd, .int .i64 rs1, .int .i64 d, .int .i64 n] 40) = W at *
  obtain ⟨il, i0, i1, i2, i3, i4, -⟩ := hi.five
  obtain ⟨iv, ev, hb, hw, ho, hn, rl, r0, r1, r2⟩ := hR.facts
  obtain ⟨lm, lb, c0, c65, c66, c67, c68⟩ := hR.mac.facts
  have ha' : 0 ≤ a ∧ a ≤ 4294967295 := ha
  have nMB : M ≠ B := hR.mac.nmb
  have nBM : B ≠ M := fun e => nMB e.symm
  have cx := hR.mac.cf hd
  have fx := hR.mac.m.frozen (33 + d)
  have d0 : (0 : Int) ≤ (d : Int) := by omega
  have d1 : (d : Int) < 32 := by omega
  replace hk := Aside.mk hk
  clear hb hw ho hn hi c0 c65 c66 c67 c68 r1 r2 i0 i2 i4
  have h3 : a.toNat + 8 ≤ r.s.mem.length := by omega
  have hxv := getD_U64 hR.mac.ok.uf d
  generalize hxx : r.s.f.getD d 0 = xv at *
  replace hxx := Aside.mk hxx
  replace hR := Aside.mk hR
  go_region_held3 (fun w' => w'.cell? ⟨R, 0, none⟩ = some (.pointer (some ⟨M, 0, none⟩)) ∧ w'.cell? ⟨q, 3, none⟩ = some (.int .i64 d) ∧ w'.cell? ⟨M, 33 + d, none⟩ = some (.int .u64 xv)) (first | (go_keep; done) | exact ⟨mod_cell hm5 (fun e => nBR e.symm) r0, mod_cell hm5 (fun e => nBq e.symm) i3, mod_cell hm5 nMB cx⟩)
    (first | ((go_at_call 77); (refine Calls.mono (at_still (M := M) (B := B) (K := K) (s := r.s) (N := N) ?_ a 8 ha (by decide) h1 h2) ?_); (exact hR.out.mac.kp ((Kp.refl W).drew)); (rintro e w1 ⟨rfl, rfl⟩)) | ((go_at_call 80); (refine Calls.mono (bput_calls (B := B) (mem := r.s.mem) ?_ a.toNat 8 _ xv hxv (by decide) h3) ?_); (exact hR.out.mac.b.kp ((Kp.refl W).drew)); (rintro e w5 ⟨rfl, hm5, hb5⟩)))
  go_wp2
  go_end0
  obtain rfl := hxx.out
  have h4 := (hR.out.kp ((Kp.refl W).drew)).setB hm5 hb5 (putN_length _ _ _ _) (byte_putN hR.out.mac.ok.ub _ _ _)
  exact ⟨rfl, (hk.out.mod.drew).trans (hm5.mono (fun k _ e => Or.inr (Or.inl e))), h4⟩
end Go.Proofs.Ytnbooljaodkedaa
