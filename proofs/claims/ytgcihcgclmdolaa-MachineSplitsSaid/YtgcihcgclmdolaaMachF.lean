/- The instruction at the machine's place, walked. Conditions stand at each. -/
import Derived.Test.YtgcihcgclmdolaaMachA
import Derived.Test.YtgcihcgclmdolaaCodeD
import Derived.Maps.OwnOps
import Derived.StillTailTactics
namespace Go.Proofs.Ytgcihcgclmdolaa
open Go.RowKit Go.Maps Go.Proofs.Ytgcihcgclmdolaa.PC Go.Proofs.Ytgcihcgclmdolaa.PW
set_option linter.unusedVariables false
set_option linter.unusedSimpArgs false
theorem lawK32 : Keyed Try.prog 28 := int_keyed Try.underlying28
theorem keyI32 {x : Int} (h : U x) : keyOf Try.prog 28 (.int .u32 x) = some (.int .u32 x) := keyOf_int_mk Try.underlying28 (WalkArith.wf_u32 h)
theorem getN4_U {mem : List Int} (hm : ∀ b ∈ mem, Byte b) (a : Nat) : U (getN mem a 4) ∧ 0 ≤ getN mem a 4 ∧ getN mem a 4 ≤ 4294967295 := by
  have hg := getN_range hm a 4
  have e : (256 : Int) ^ 4 = 4294967296 := by decide
  rw [e] at hg
  unfold U
  omega
theorem zero_ins (w : World) : (zeroValue 26).run Try.prog w = .ok (insV 0 0 0 0 0) w := by kernel_rfl
set_option maxRecDepth 100000 in
theorem look_known {w : World} {K N : Nat} {D : DataW Value} (h : w.ownsMap Try.prog 28 RI K N D) {x : Int} (hx : U x) {op rd rs1 rs2 n : Int} (h1 : Maps.has D (.int .u32 x) = true) (h2 : ∀ z, D.atKey (.int .u32 x) z = .held (insV op rd rs1 rs2 n)) :
    (Instr.lookup 77 (.map (some K)) (.int .u32 x) true).run Try.prog w = .ok (.tuple #[insV op rd rs1 rs2 n, .bool true]) w := by
  obtain ⟨v, ps, hrun, hv⟩ := h.look_ok lawK32 Try.underlying77 (zero_ins w) rfl (keyI32 hx)
  rw [h1, h2] at *
  injection hv with hv
  injection hv with hv _
  injection hv with hv
  rw [hrun, hv]
set_option maxRecDepth 100000 in
theorem look_new {w : World} {K N : Nat} {D : DataW Value} (h : w.ownsMap Try.prog 28 RI K N D) {x : Int} (hx : U x) (h1 : Maps.has D (.int .u32 x) = false) (h2 : ∀ z, D.atKey (.int .u32 x) z = z) :
    (Instr.lookup 77 (.map (some K)) (.int .u32 x) true).run Try.prog w = .ok (.tuple #[insV 0 0 0 0 0, .bool false]) w := by
  obtain ⟨v, ps, hrun, hv⟩ := h.look_ok lawK32 Try.underlying77 (zero_ins w) rfl (keyI32 hx)
  rw [h1, h2] at *
  injection hv with hv
  injection hv with hv _
  injection hv with hv
  rw [hrun, hv]
theorem own_mod {w w' : World} {k : TypeId} {b n : Nat} {D : DataW Value} {S : Nat → Prop} (h : w.ownsMap Try.prog k RI b n D) (g : Mod S w w') (hn : ¬S b) : w'.ownsMap Try.prog k RI b n D := by
  obtain ⟨es, cl, hb, hr⟩ := h
  exact ⟨es, cl, (g.block b (Array.getElem?_eq_some_iff.1 hb).1 hn).trans hb, hr⟩
theorem own_kp {w w' : World} {k : TypeId} {b n : Nat} {D : DataW Value} (h : w.ownsMap Try.prog k RI b n D) (g : Kp w w') : w'.ownsMap Try.prog k RI b n D := by
  obtain ⟨es, cl, hb, hr⟩ := h
  exact ⟨es, cl, (g.block (Array.getElem?_eq_some_iff.1 hb).1).trans hb, hr⟩
set_option maxRecDepth 100000 in
set_option maxHeartbeats 2000000 in
theorem fetch_known {w : World} {M B K N : Nat} {s : MS} (hm : Mac w M B K s N) (h1 : s.pc % 4 = 0) (h2 : s.pc + 4 ≤ s.mem.length) {op rd rs1 rs2 n : Int} {D : DataW Value} (hD : w.ownsMap Try.prog 28 RI K N D)
    (k1 : Maps.has D (.int .u32 (getN s.mem s.pc.toNat 4)) = true) (k2 : ∀ z, D.atKey (.int .u32 (getN s.mem s.pc.toNat 4)) z = .held (insV op rd rs1 rs2 n)) :
    Calls Try.prog 39 #[.pointer (some ⟨M, 0, none⟩)] w fun e w' => e = .returned (insV op rd rs1 rs2 n) ∧ Kp w w' := by
  have hu := Aside.mk hm.ok.up
  have hu' := hm.ok.up
  have hby := Aside.mk hm.ok.ub
  have h3 : Aside (s.pc.toNat + 4 ≤ s.mem.length) := ⟨by unfold U at hu'; omega⟩
  replace h1 := Aside.mk h1
  replace h2 := Aside.mk h2
  have ha := Aside.mk (hm.kp ((Kp.refl w).alloc (.cells #[.int .i64 0, .int .i64 0, .int .i64 0, .int .i64 0, .int .i64 0] 26)))
  have hb := Aside.mk ha.out.b
  obtain ⟨lm, lb, c0, c65, -, -, c68⟩ := ha.out.facts
  obtain ⟨hx, hxr⟩ := getN4_U hby.out s.pc.toNat
  have hD1 := Aside.mk (own_kp hD ((Kp.refl w).alloc (.cells #[.int .i64 0, .int .i64 0, .int .i64 0, .int .i64 0, .int .i64 0] 26)))
  replace k2 := Aside.mk k2
  replace k1 := Aside.mk k1
  replace hD := Aside.mk hD
  replace hm := Aside.mk hm
  go_enter Try.func39, Try.ntmps39
  go_wp2_with fail
  refine Calls.mono (at_ok ha.out _ _ hu.out (by decide) h1.out h2.out) ?_
  rintro e w1 ⟨rfl, rfl⟩
  go_wp2_with fail
  refine Calls.mono (number_calls hb.out hby.out _ 4 _ (by decide) h3.out) ?_
  rintro e w2 ⟨rfl, hd2⟩
  have ha2 := Aside.mk (ha.out.kp (Dr.kp hd2))
  have hD2 := own_kp hD1.out (Dr.kp hd2)
  have hk2 : Aside (Kp w w2) := ⟨((Kp.refl w).alloc _).trans (Dr.kp hd2)⟩
  have hr2 := Aside.mk ((Blk.new w #[.int .i64 0, .int .i64 0, .int .i64 0, .int .i64 0, .int .i64 0] 26).kp (Dr.kp hd2))
  clear ha hb lm lb c0 c65 c68 hd2 hD1
  obtain ⟨lm, lb, c0, c65, -, -, c68⟩ := ha2.out.facts
  have hlk := look_known hD2 hx k1.out k2.out
  simp only [insV] at hlk
  replace hD2 := Aside.mk hD2
  obtain ⟨rl, r0, r1, r2, r3, r4, s0, s1, s2, s3, s4⟩ := hr2.out.five
  go_wp2_with fail
  refine bodyPost_ret (results_cell_row rfl _ _ w.heap.size _ _ _ _ rfl ((Blk.set (Blk.set (Blk.set (Blk.set (Blk.set hr2.out _) _) _) _) _).alloc _) Try.underlying26 rfl (by kernel_rfl)) rfl ?_
  exact ⟨rfl, (((((hk2.out.setCell (Nat.le_refl _) _).setCell (Nat.le_refl _) _).setCell (Nat.le_refl _) _).setCell (Nat.le_refl _) _).setCell (Nat.le_refl _) _).alloc _⟩
set_option maxRecDepth 100000 in
set_option maxHeartbeats 2000000 in
theorem fetch_none {w : World} {M B K N : Nat} {s : MS} (hm : Mac w M B K s N) (h1 : s.pc % 4 = 0) (h2 : s.pc + 4 ≤ s.mem.length) (hno : ∀ op rd rs1 rs2 n : Int, ¬DecR (getN s.mem s.pc.toNat 4) op rd rs1 rs2 n 0) {D : DataW Value} (hDD : DecD D) (hD : w.ownsMap Try.prog 28 RI K N D)
    (k1 : Maps.has D (.int .u32 (getN s.mem s.pc.toNat 4)) = false) (k2 : ∀ z, D.atKey (.int .u32 (getN s.mem s.pc.toNat 4)) z = z) :
    Calls Try.prog 39 #[.pointer (some ⟨M, 0, none⟩)] w fun e w' => e = .panicked (thrown 2) ∧ Kp w w' := by
  have hu := Aside.mk hm.ok.up
  have hu' := hm.ok.up
  have hby := Aside.mk hm.ok.ub
  have h3 : Aside (s.pc.toNat + 4 ≤ s.mem.length) := ⟨by unfold U at hu'; omega⟩
  replace h1 := Aside.mk h1
  replace h2 := Aside.mk h2
  have ha := Aside.mk (hm.kp ((Kp.refl w).alloc (.cells #[.int .i64 0, .int .i64 0, .int .i64 0, .int .i64 0, .int .i64 0] 26)))
  have hb := Aside.mk ha.out.b
  obtain ⟨lm, lb, c0, c65, -, -, c68⟩ := ha.out.facts
  obtain ⟨hx, hxr⟩ := getN4_U hby.out s.pc.toNat
  replace hno := Aside.mk hno
  replace hDD := Aside.mk hDD
  have hD1 := Aside.mk (own_kp hD ((Kp.refl w).alloc (.cells #[.int .i64 0, .int .i64 0, .int .i64 0, .int .i64 0, .int .i64 0] 26)))
  replace k2 := Aside.mk k2
  replace k1 := Aside.mk k1
  replace hD := Aside.mk hD
  replace hm := Aside.mk hm
  go_enter Try.func39, Try.ntmps39
  go_wp2_with fail
  refine Calls.mono (at_ok ha.out _ _ hu.out (by decide) h1.out h2.out) ?_
  rintro e w1 ⟨rfl, rfl⟩
  go_wp2_with fail
  refine Calls.mono (number_calls hb.out hby.out _ 4 _ (by decide) h3.out) ?_
  rintro e w2 ⟨rfl, hd2⟩
  have ha2 := Aside.mk (ha.out.kp (Dr.kp hd2))
  have hD2 := own_kp hD1.out (Dr.kp hd2)
  have hk2 : Aside (Kp w w2) := ⟨((Kp.refl w).alloc _).trans (Dr.kp hd2)⟩
  have hr2 := Aside.mk ((Blk.new w #[.int .i64 0, .int .i64 0, .int .i64 0, .int .i64 0, .int .i64 0] 26).kp (Dr.kp hd2))
  clear ha hb lm lb c0 c65 c68 hd2 hD1
  obtain ⟨lm, lb, c0, c65, -, -, c68⟩ := ha2.out.facts
  have hlk := look_new hD2 hx k1.out k2.out
  simp only [insV] at hlk
  replace hD2 := Aside.mk hD2
  obtain ⟨rl, r0, r1, r2, r3, r4, s0, s1, s2, s3, s4⟩ := hr2.out.five
  replace hx := Aside.mk hx
  go_wp2_with fail
  refine Calls.mono (Decode_calls (getN s.mem s.pc.toNat 4) hxr _) ?_
  rintro e w3 ⟨op', rd', rs1', rs2', n', er, rfl, k3, hd⟩
  obtain rfl : er = 2 := by
    rcases hd with h | h
    · exact absurd (Or.inl ⟨rfl, h.2⟩) (hno.out op' rd' rs1' rs2' n')
    · exact h.1
  clear hd
  have b4 := Aside.mk ((Blk.new w2 #[.int .i64 0, .int .i64 0, .int .i64 0, .int .i64 0, .int .i64 0] 26).kp k3)
  have kk : Aside (Kp w w3) := ⟨(hk2.out.alloc _).trans k3⟩
  have hls : Aside (w.heap.size ≤ w2.heap.size) := ⟨hk2.out.size⟩
  have hr0 : Aside (w.heap.size < w2.heap.size) := ⟨hr2.out.lt⟩
  clear k3 lm lb c0 c65 c68 rl r0 r1 r2 r3 r4 s0 s1 s2 s3 s4
  obtain ⟨rl, r0, r1, r2, r3, r4, s0, s1, s2, s3, s4⟩ := b4.out.five
  go_wp2_with fail
  exact ⟨rfl, rfl, ((((kk.out.setCell hls.out _).setCell hls.out _).setCell hls.out _).setCell hls.out _).setCell hls.out _⟩
set_option maxRecDepth 100000 in
set_option maxHeartbeats 2000000 in
theorem fetch_new {w : World} {M B K N : Nat} {s : MS} (hm : Mac w M B K s N) (h1 : s.pc % 4 = 0) (h2 : s.pc + 4 ≤ s.mem.length) {op rd rs1 rs2 n : Int} (hno : DecR (getN s.mem s.pc.toNat 4) op rd rs1 rs2 n 0) (hN : N < 1000000000) {D : DataW Value} (hDD : DecD D) (hD : w.ownsMap Try.prog 28 RI K N D)
    (k1 : Maps.has D (.int .u32 (getN s.mem s.pc.toNat 4)) = false) (k2 : ∀ z, D.atKey (.int .u32 (getN s.mem s.pc.toNat 4)) z = z) :
    Calls Try.prog 39 #[.pointer (some ⟨M, 0, none⟩)] w fun e w' => e = .returned (insV op rd rs1 rs2 n) ∧ Mod (fun k => k = K) w w' ∧ ∃ D', w'.ownsMap Try.prog 28 RI K (N + 1) D' ∧ DecD D' := by
  have hu := Aside.mk hm.ok.up
  have hu' := hm.ok.up
  have hby := Aside.mk hm.ok.ub
  have h3 : Aside (s.pc.toNat + 4 ≤ s.mem.length) := ⟨by unfold U at hu'; omega⟩
  replace h1 := Aside.mk h1
  replace h2 := Aside.mk h2
  have ha := Aside.mk (hm.kp ((Kp.refl w).alloc (.cells #[.int .i64 0, .int .i64 0, .int .i64 0, .int .i64 0, .int .i64 0] 26)))
  have hb := Aside.mk ha.out.b
  obtain ⟨lm, lb, c0, c65, -, -, c68⟩ := ha.out.facts
  obtain ⟨hx, hxr⟩ := getN4_U hby.out s.pc.toNat
  replace hno := Aside.mk hno
  replace hDD := Aside.mk hDD
  have hD1 := Aside.mk (own_kp hD ((Kp.refl w).alloc (.cells #[.int .i64 0, .int .i64 0, .int .i64 0, .int .i64 0, .int .i64 0] 26)))
  replace k2 := Aside.mk k2
  replace k1 := Aside.mk k1
  replace hD := Aside.mk hD
  replace hm := Aside.mk hm
  go_enter Try.func39, Try.ntmps39
  go_wp2_with fail
  refine Calls.mono (at_ok ha.out _ _ hu.out (by decide) h1.out h2.out) ?_
  rintro e w1 ⟨rfl, rfl⟩
  go_wp2_with fail
  refine Calls.mono (number_calls hb.out hby.out _ 4 _ (by decide) h3.out) ?_
  rintro e w2 ⟨rfl, hd2⟩
  have ha2 := Aside.mk (ha.out.kp (Dr.kp hd2))
  have hD2 := own_kp hD1.out (Dr.kp hd2)
  have hk2 : Aside (Kp w w2) := ⟨((Kp.refl w).alloc _).trans (Dr.kp hd2)⟩
  have hr2 := Aside.mk ((Blk.new w #[.int .i64 0, .int .i64 0, .int .i64 0, .int .i64 0, .int .i64 0] 26).kp (Dr.kp hd2))
  clear ha hb lm lb c0 c65 c68 hd2 hD1
  obtain ⟨lm, lb, c0, c65, -, -, c68⟩ := ha2.out.facts
  have hlk := look_new hD2 hx k1.out k2.out
  simp only [insV] at hlk
  replace hD2 := Aside.mk hD2
  obtain ⟨rl, r0, r1, r2, r3, r4, s0, s1, s2, s3, s4⟩ := hr2.out.five
  replace hx := Aside.mk hx
  go_wp2_with fail
  refine Calls.mono (Decode_calls (getN s.mem s.pc.toNat 4) hxr _) ?_
  rintro e w3 ⟨op', rd', rs1', rs2', n', er, rfl, k3, hd⟩
  obtain ⟨rfl, rfl, rfl, rfl, rfl, rfl⟩ := decR_uniq hno.out hd
  clear hd
  have b4 := Aside.mk ((Blk.new w2 #[.int .i64 0, .int .i64 0, .int .i64 0, .int .i64 0, .int .i64 0] 26).kp k3)
  have kk : Aside (Kp w w3) := ⟨(hk2.out.alloc _).trans k3⟩
  have hls : Aside (w.heap.size ≤ w2.heap.size) := ⟨hk2.out.size⟩
  have hr0 : Aside (w.heap.size < w2.heap.size) := ⟨hr2.out.lt⟩
  have hr3 := Aside.mk ((hr2.out.alloc (.cells #[.int .i64 0, .int .i64 0, .int .i64 0, .int .i64 0, .int .i64 0]  26)).kp k3)
  have ha3 := Aside.mk ((ha2.out.kp ((Kp.refl _).alloc (.cells #[.int .i64 0, .int .i64 0, .int .i64 0, .int .i64 0, .int .i64 0]  26))).kp k3)
  have hD3 := Aside.mk (own_kp (own_kp hD2.out ((Kp.refl _).alloc (.cells #[.int .i64 0, .int .i64 0, .int .i64 0, .int .i64 0, .int .i64 0]  26))) k3)
  clear k3 lm lb c0 c65 c68 rl r0 r1 r2 r3 r4 s0 s1 s2 s3 s4 ha2 hr2 hD2
  obtain ⟨lm, lb, c0, c65, -, -, c68⟩ := ha3.out.facts
  obtain ⟨rl, r0, r1, r2, r3, r4, s0, s1, s2, s3, s4⟩ := b4.out.five
  go_upto_region 8 with fail
  have hmod : Mod (fun k => k = w2.heap.size) w3 (((((w3.setCell ⟨w2.heap.size, 0, none⟩ (.int .i64 op)).setCell ⟨w2.heap.size, 1, none⟩ (.int .i64 rd)).setCell ⟨w2.heap.size, 2, none⟩ (.int .i64 rs1)).setCell ⟨w2.heap.size, 3, none⟩ (.int .i64 rs2)).setCell ⟨w2.heap.size, 4, none⟩ (.int .i64 n)) :=
    (((((Mod.refl (fun k => k = w2.heap.size) w3).setCell (p := ⟨w2.heap.size, 0, none⟩) rfl _).setCell (p := ⟨w2.heap.size, 1, none⟩) rfl _).setCell (p := ⟨w2.heap.size, 2, none⟩) rfl _).setCell (p := ⟨w2.heap.size, 3, none⟩) rfl _).setCell (p := ⟨w2.heap.size, 4, none⟩) rfl _
  have hb5 : Blk (((((w3.setCell ⟨w2.heap.size, 0, none⟩ (.int .i64 op)).setCell ⟨w2.heap.size, 1, none⟩ (.int .i64 rd)).setCell ⟨w2.heap.size, 2, none⟩ (.int .i64 rs1)).setCell ⟨w2.heap.size, 3, none⟩ (.int .i64 rs2)).setCell ⟨w2.heap.size, 4, none⟩ (.int .i64 n)) w2.heap.size #[.int .i64 op, .int .i64 rd, .int .i64 rs1, .int .i64 rs2, .int .i64 n] 26 :=
    ((((b4.out.set _).set _).set _).set _).set _
  have hlm := hm.out.m.lt
  have hlb := hm.out.b.lt
  have hlk2 := hm.out.kl
  have hls' := hls.out
  have hlr : w.heap.size < w2.heap.size := hr0.out
  have ha4 := Aside.mk (ha3.out.keep hmod (by omega) (by omega) (by omega))
  have hr4 := Aside.mk (hmod.blk hr3.out (by omega))
  have hD4 := Aside.mk (own_mod hD3.out hmod (by omega))
  have hk4 : Aside (Mod (fun k => k = w2.heap.size) w3 _) := ⟨hmod⟩
  replace hb5 := Aside.mk hb5
  clear hmod b4 hr3 ha3 hD3 lm lb c0 c65 c68 rl r0 r1 r2 r3 r4 s0 s1 s2 s3 s4
  generalize (((((w3.setCell ⟨w2.heap.size, 0, none⟩ (.int .i64 op)).setCell ⟨w2.heap.size, 1, none⟩ (.int .i64 rd)).setCell ⟨w2.heap.size, 2, none⟩ (.int .i64 rs1)).setCell ⟨w2.heap.size, 3, none⟩ (.int .i64 rs2)).setCell ⟨w2.heap.size, 4, none⟩ (.int .i64 n)) = W at *
  obtain ⟨lm, lb, c0, c65, -, -, c68⟩ := ha4.out.facts
  obtain ⟨il, i0, i1, i2, i3, i4, -⟩ := hb5.out.five
  clear hlm hlb hlk2 hls' hlr
  go_still_tail 6, (by kernel_rfl)
  refine wpList_mapUpdate_own _ rfl _ _ _ 77 rfl 28 26 lawK32 Try.underlying77 RI K N D rfl (own_kp hD4.out ((Kp.refl W).drew)) (by unfold maxLen; omega) (.int .u32 (getN s.mem s.pc.toNat 4)) (insV op rd rs1 rs2 n) _ rfl rfl (keyI32 hx.out) (.held (insV op rd rs1 rs2 n)) [] rfl ?_
  intro w5 hown hgr
  have hm5 : Mod (fun k => k = K) W w5 := ((Kp.refl W).drew).mod.grown hgr (fun k hk => Or.inl (by cases hk; rfl))
  have hne : Aside (w2.heap.size ≠ K ∧ w.heap.size ≠ K) := ⟨by have h1 := hm.out.kl; have h2 := hls.out; omega⟩
  have hr5 := Aside.mk (hm5.blk hr4.out hne.out.2)
  have hb6 := Aside.mk (hm5.blk hb5.out hne.out.1)
  have hMod : Aside (Mod (fun k => k = K) w w5) := ⟨(kk.out.mod.behind hk4.out (fun k hk => Or.inr (by have h1 : k = w2.heap.size := hk; have h2 := hls.out; omega))).trans hm5⟩
  replace hown := Aside.mk hown
  clear hgr hm5 ha4 hb5 hr4 hD4 hk4 lm lb c0 c65 c68 il i0 i1 i2 i3 i4
  obtain ⟨il, i0, i1, i2, i3, i4, -⟩ := hb6.out.five
  obtain ⟨rl, r0, r1, r2, r3, r4, s0, s1, s2, s3, s4⟩ := hr5.out.five
  go_wp2_with fail
  refine bodyPost_ret (results_cell_row rfl _ _ w.heap.size _ _ _ _ rfl (Blk.set (Blk.set (Blk.set (Blk.set (Blk.set hr5.out _) _) _) _) _) Try.underlying26 rfl (by kernel_rfl)) rfl ?_
  have hfin : Mod (fun k => k = K) w _ := ((((hMod.out.setNew (p := ⟨w.heap.size, 0, none⟩) (Nat.le_refl _) (.int .i64 op)).setNew (p := ⟨w.heap.size, 1, none⟩) (Nat.le_refl _) (.int .i64 rd)).setNew (p := ⟨w.heap.size, 2, none⟩) (Nat.le_refl _) (.int .i64 rs1)).setNew (p := ⟨w.heap.size, 3, none⟩) (Nat.le_refl _) (.int .i64 rs2)).setNew (p := ⟨w.heap.size, 4, none⟩) (Nat.le_refl _) (.int .i64 n)
  have hg : Mod (fun k => k = w.heap.size) w5 _ := (((((Mod.refl (fun k => k = w.heap.size) w5).setCell (p := ⟨w.heap.size, 0, none⟩) rfl (.int .i64 op)).setCell (p := ⟨w.heap.size, 1, none⟩) rfl (.int .i64 rd)).setCell (p := ⟨w.heap.size, 2, none⟩) rfl (.int .i64 rs1)).setCell (p := ⟨w.heap.size, 3, none⟩) rfl (.int .i64 rs2)).setCell (p := ⟨w.heap.size, 4, none⟩) rfl (.int .i64 n)
  exact ⟨rfl, hfin, _, own_mod hown.out hg (fun e => hne.out.2 e.symm), decD_put hDD.out hno.out⟩
set_option maxRecDepth 100000 in
set_option maxHeartbeats 1000000 in
theorem fetch_far {w : World} {M B K N : Nat} {s : MS} (hm : Mac w M B K s N) (h : ¬(s.pc % 4 = 0 ∧ s.pc + 4 ≤ s.mem.length)) :
    Calls Try.prog 39 #[.pointer (some ⟨M, 0, none⟩)] w fun e w' => e = .panicked (thrown 3) ∧ Kp w w' := by
  have hu := Aside.mk hm.ok.up
  replace h := Aside.mk h
  have ha := Aside.mk (hm.kp ((Kp.refl w).alloc (.cells #[.int .i64 0, .int .i64 0, .int .i64 0, .int .i64 0, .int .i64 0] 26)))
  obtain ⟨lm, lb, c0, c65, -, -, c68⟩ := ha.out.facts
  replace hm := Aside.mk hm
  go_enter Try.func39, Try.ntmps39
  go_wp2_with fail
  refine Calls.mono (at_bad ha.out _ 4 hu.out (by decide) h.out) ?_
  rintro e w1 ⟨rfl, rfl⟩
  go_wp2_with fail
  exact ⟨rfl, rfl, (Kp.refl w).alloc _⟩
/-- The word at a machine's place. -/
def MS.here (s : MS) : Int := getN s.mem s.pc.toNat 4
/-- Whether there is a word at its place. -/
def MS.inside (s : MS) : Prop := s.pc % 4 = 0 ∧ s.pc + 4 ≤ s.mem.length
theorem fetch_ok {w : World} {M B K N : Nat} {s : MS} (hm : Mac w M B K s N) (hN : N < 1000000000) (h : s.inside) {op rd rs1 rs2 n : Int} (hd : DecR s.here op rd rs1 rs2 n 0) :
    Calls Try.prog 39 #[.pointer (some ⟨M, 0, none⟩)] w fun e w' => e = .returned (insV op rd rs1 rs2 n) ∧ Mod (fun k => k = K) w w' ∧ Mac w' M B K s (N + 1) := by
  obtain ⟨D, hD, hDD⟩ := hm.k
  rcases hDD.each s.here with ⟨g1, g2⟩ | ⟨g1, op', rd', rs1', rs2', n', g2, gd⟩
  · refine (fetch_new hm h.1 h.2 hd hN hDD hD g1 g2).mono ?_
    rintro e w' ⟨he, hmod, D', hD', hDD'⟩
    exact ⟨he, hmod, hmod.blk hm.m hm.nmk, hmod.blk hm.b hm.nbk, ⟨D', hD', hDD'⟩, hm.nmb, hm.nmk, hm.nbk, hm.ok⟩
  · obtain ⟨rfl, rfl, rfl, rfl, rfl, -⟩ := decR_uniq hd gd
    refine (fetch_known hm h.1 h.2 hD g1 g2).mono ?_
    rintro e w' ⟨he, hk⟩
    exact ⟨he, hk.mod, (hm.kp hk).more (Nat.le_succ _)⟩
/-- What stops a machine ahead of its step: 3: it stands outside; 2: there is no instruction. -/
def MS.stops (s : MS) (c : Int) : Prop := ¬s.inside ∧ c = 3 ∨ s.inside ∧ (∀ op rd rs1 rs2 n : Int, ¬DecR s.here op rd rs1 rs2 n 0) ∧ c = 2
theorem fetch_bad {w : World} {M B K N : Nat} {s : MS} (hm : Mac w M B K s N) {c : Int} (h : s.stops c) :
    Calls Try.prog 39 #[.pointer (some ⟨M, 0, none⟩)] w fun e w' => e = .panicked (thrown c) ∧ Kp w w' := by
  rcases h with ⟨h, rfl⟩ | ⟨h, hno, rfl⟩
  · exact fetch_far hm h
  · obtain ⟨D, hD, hDD⟩ := hm.k
    rcases hDD.each s.here with ⟨g1, g2⟩ | ⟨g1, op', rd', rs1', rs2', n', g2, gd⟩
    · exact fetch_none hm h.1 h.2 hno hDD hD g1 g2
    · exact absurd gd (hno _ _ _ _ _)
end Go.Proofs.Ytgcihcgclmdolaa
