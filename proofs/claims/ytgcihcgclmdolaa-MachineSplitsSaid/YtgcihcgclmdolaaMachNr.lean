/- A step that stops the machine is caught; a run that ends so: walked. Conditions stand at each. -/
import Derived.Test.YtgcihcgclmdolaaMachRun
import Derived.Test.YtgcihcgclmdolaaMachNs
namespace Go.Proofs.Ytgcihcgclmdolaa
open Go.RowKit Go.Maps Go.Proofs.Ytgcihcgclmdolaa.PC Go.Proofs.Ytgcihcgclmdolaa.PW
set_option linter.unusedVariables false
set_option linter.unusedSimpArgs false
/-- A step stops the machine with a state. -/
def StopC (r : RS) (c : Int) : Prop := ∀ (w : World) (b1 R M B K N : Nat), Rat w b1 R M B K r N → N < 999999990 →
  Calls Try.prog 34 #[.pointer (some ⟨R, 0, none⟩)] w fun e' w' => e' = .panicked (thrown c) ∧ Mod (fun k => k = K) w w' ∧ Rat w' b1 R M B K r (N + 2)
theorem sz1' (w : World) (o : Obj) : (w.alloc o).heap.size = w.heap.size + 1 := World.size_alloc _ _
theorem own_shape {w : World} {base : Nat} {t : TypeId} {sz n : Nat} {v : Value} {xs : List Value} (h : w.ownsRow base t sz v n xs) : ∃ A m c, v = .slice A m c ∧ (A = none ∨ ∃ g, A = some ⟨g, 0, none⟩) := by
  rcases h.2 with ⟨h, _⟩ | ⟨g, cap, cur, h, _⟩
  · exact ⟨_, _, _, h, Or.inl rfl⟩
  · exact ⟨_, _, _, h, Or.inr ⟨g, rfl⟩⟩
def RS.halt (r : RS) (c : Int) : RS := { r with s := { r.s with state := c } }
set_option maxRecDepth 100000 in
set_option maxHeartbeats 2000000 in
theorem try_stop {r : RS} {c : Int} (hs : StopC r c) {w : World} {b1 R M B K N : Nat} (h : Rat w b1 R M B K r N) (hN : N < 999999990) :
    Calls Try.prog 27 #[.pointer (some ⟨R, 0, none⟩)] w fun e' w' => e' = .returned (.bool false) ∧ Mod (SR b1 w.heap.size M B K) w w' ∧ Rat w' b1 R M B K (r.halt c) (N + 2) := by
  have hmf := make_fn
  obtain ⟨iv, ev, -, -, -, -, rl, -, -, -⟩ := h.facts
  have kA : Kp w ((w.alloc (.cells #[.pointer (some ⟨R, 0, none⟩)] 80)).alloc (.cells #[.bool false] 4)) := ((Kp.refl w).alloc _).alloc _
  have hc := hs _ _ _ _ _ _ _ (h.kp kA) hN
  have hlM := h.lM
  have hlB := h.lB
  have hlK := h.lK
  have hb1 : b1 ≤ R := h.lR
  replace hc := Aside.mk hc
  have bo := Aside.mk (Blk.new (w.alloc (.cells #[.pointer (some ⟨R, 0, none⟩)] 80)) #[.bool false] 4)
  have ba := Aside.mk ((Blk.new w #[.pointer (some ⟨R, 0, none⟩)] 80).alloc (.cells #[.bool false] 4))
  have lK2 := h.mac.kl
  have lM2 := h.mac.m.lt
  replace hs := Aside.mk hs
  replace h := Aside.mk h
  go_enter_defers Try.func27, Try.ntmps27
  go_wp2_with ((go_at_call 34); (refine Calls.mono hc.out ?_); (rintro e' w3 ⟨rfl, hm3, hR3⟩))
  have ca : w3.cell? ⟨w.heap.size, 0, none⟩ = some (.pointer (some ⟨R, 0, none⟩)) := (hm3.blk ba.out (by show ¬(w.heap.size = K); omega)).cell 0
  have bo3 := hm3.blk bo.out (by rw [sz1']; show ¬(w.heap.size + 1 = K); omega)
  rw [sz1'] at bo3
  have cb : w3.cell? ⟨w.heap.size + 1, 0, none⟩ = some (.bool false) := bo3.cell 0
  have fb : w3.frozen? ⟨w.heap.size + 1, 0, none⟩ = false := bo3.frozen 0
  obtain ⟨iv3, ev3, -, -, -, -, rl3, r03, -, -⟩ := hR3.facts
  have c66 := hR3.mac.facts.2.2.2.2.1
  have f66 := hR3.mac.m.frozen 66
  show Leaves _ _ _ _ _ (.panicking (thrown c)) _
  refine leaves_cons (f := 33) (args := #[.pointer (some ⟨w.heap.size, 0, none⟩), .pointer (some ⟨w.heap.size + 1, 0, none⟩)]) (by simp) (by simp [go_sem]) ?_
  refine (caught_stop (w := w3) (M := M) (R := R) (a := w.heap.size) (b := w.heap.size + 1) c [] ca r03 c66 f66 cb fb (by omega)).mono ?_
  rintro e u' w'' ⟨rfl, rfl, rfl⟩
  have bw : ((w3.setCell ⟨M, 66, none⟩ (.int .i64 c)).setCell ⟨w.heap.size + 1, 0, none⟩ (.bool false)).cell? ⟨w.heap.size + 1, 0, none⟩ = some (.bool false) :=
    World.cell?_setCell_same (w3.setCell ⟨M, 66, none⟩ (.int .i64 c)) ⟨w.heap.size + 1, 0, none⟩ _ (sc0 (by omega) cb)
  have ho := hR3.mac.ok
  have h4 := hR3.setM (i := 66) (v := .int .i64 c) (s' := { r.s with state := c }) (set_state ho c) rfl (ok_state ho c)
  have h5 := rat_new h4 (q := w.heap.size + 1) (v := .bool false) (by omega) (by omega) (bo3.far (by omega) _) (by decide)
  have m1 : Mod (SR b1 w.heap.size M B K) w (w3.setCell ⟨M, 66, none⟩ (.int .i64 c)) := (kA.mod.trans (hm3.mono (S' := SR b1 w.heap.size M B K) (fun k _ hk => Or.inr (Or.inr (Or.inl hk))))).setCell (p := ⟨M, 66, none⟩) (Or.inl rfl) _
  have m2 := m1.setNew (p := ⟨w.heap.size + 1, 0, none⟩) (Nat.le_succ _) (Value.bool false)
  simp [Leaves, settle, results, Try.results27, go_sem, bw]
  exact ⟨m2, h5⟩
set_option maxRecDepth 100000 in
set_option maxHeartbeats 4000000 in
theorem Run_stop {w : World} {M B K N : Nat} (tr : Nat → RS) (n : Nat) (fuel : Int) (iv : Value) (hm : Mac w M B K (tr 0).s N) (hw : Words w w.heap.size M B K iv (tr 0).inp) (hev : (tr 0).ev = []) (hf : -9223372036854775808 ≤ fuel ∧ fuel ≤ 9223372036854775807)
    (hst : ∀ k, k < n → (k : Int) < fuel ∧ (tr k).s.state = 0 ∧ StepC (tr k) (tr (k + 1))) {sc : Int} (hfu : (n : Int) < fuel) (hst0 : (tr n).s.state = 0) (hsc : StopC (tr n) sc) (hN : N + 2 * n < 999999980) :
    Calls Try.prog 12 #[.pointer (some ⟨M, 0, none⟩), iv, .int .i64 fuel] w fun e w' => ∃ ev, e = .returned (.agg #[.int .i64 sc, .int .u32 (tr n).s.code, ev, .int .i64 n]) ∧ Mod (fun k => k = M ∨ k = B ∨ k = K) w w' ∧ Mac w' M B K { (tr n).s with state := sc } (N + 2 * n + 2) ∧ w'.ownsRow (w.heap.size + 1) 45 3 ev (tr n).ev.length (evC (tr n).ev) := by
  have hw0 := hw
  obtain ⟨⟨A, c, hiv, -⟩, -⟩ := hw0
  subst hiv
  have hlM := hm.m.lt
  have hlB := hm.b.lt
  have hlK := hm.kl
  have k1 : Kp w (w.alloc (.cells #[.int .i64 0, .int .u32 0, .slice none 0 0, .int .i64 0] 41)) := (Kp.refl w).alloc _
  have k2 := k1.alloc (.cells #[.pointer (some ⟨M, 0, none⟩), .slice A (tr 0).inp.length c, .slice none 0 0] 82)
  have hb0 := (Blk.new w #[.int .i64 0, .int .u32 0, .slice none 0 0, .int .i64 0] 41).alloc (.cells #[.pointer (some ⟨M, 0, none⟩), .slice A (tr 0).inp.length c, .slice none 0 0] 82)
  have hR := Blk.new (w.alloc (.cells #[.int .i64 0, .int .u32 0, .slice none 0 0, .int .i64 0] 41)) #[.pointer (some ⟨M, 0, none⟩), .slice A (tr 0).inp.length c, .slice none 0 0] 82
  have hsz : (w.alloc (.cells #[.int .i64 0, .int .u32 0, .slice none 0 0, .int .i64 0] 41)).heap.size = w.heap.size + 1 := World.size_alloc _ _
  rw [hsz] at hR
  have hw1 : Words ((w.alloc (.cells #[.int .i64 0, .int .u32 0, .slice none 0 0, .int .i64 0] 41)).alloc (.cells #[.pointer (some ⟨M, 0, none⟩), .slice A (tr 0).inp.length c, .slice none 0 0] 82)) (w.heap.size + 1) M B K (.slice A (tr 0).inp.length c) (tr 0).inp := by
    have hw2 := hw.at (w' := (w.alloc (.cells #[.int .i64 0, .int .u32 0, .slice none 0 0, .int .i64 0] 41)).alloc (.cells #[.pointer (some ⟨M, 0, none⟩), .slice A (tr 0).inp.length c, .slice none 0 0] 82)) (fun I _ _ _ _ hI => k2.block hI)
    obtain ⟨⟨A', c', e1, e2, e3⟩, e4⟩ := hw2
    refine ⟨⟨A', c', e1, e2, fun hne => ?_⟩, e4⟩
    obtain ⟨I, off, g1, g2, g3⟩ := e3 hne
    exact ⟨I, off, g1, by omega, g3⟩
  have hRat : Rat ((w.alloc (.cells #[.int .i64 0, .int .u32 0, .slice none 0 0, .int .i64 0] 41)).alloc (.cells #[.pointer (some ⟨M, 0, none⟩), .slice A (tr 0).inp.length c, .slice none 0 0] 82)) (w.heap.size + 1) (w.heap.size + 1) M B K (tr 0) N :=
    ⟨hm.kp k2, ⟨.slice A (tr 0).inp.length c, .slice none 0 0, hR, hw1, by rw [hev]; exact ⟨rfl, Or.inl ⟨rfl, rfl⟩⟩, by simp [Value.ownBlock]⟩, Nat.le_refl _, by omega, by omega, by omega, by rw [hev]; exact Nat.zero_le _⟩
  clear hR hw hw1 hsz hev k1
  replace k2 := Aside.mk k2
  replace hb0 := Aside.mk hb0
  replace hm := Aside.mk hm
  replace hst := Aside.mk hst
  replace hsc := Aside.mk hsc
  go_enter Try.func12, Try.ntmps12
  go_wp2
  go_loopw [8] (fun i wr => ∃ k : Nat, k ≤ n ∧ i = .int .i64 k ∧ Rat wr (w.heap.size + 1) (w.heap.size + 1) M B K (tr k) (N + 2 * k) ∧ Mod (SM (w.heap.size + 1) M B K) w wr ∧ Blk wr w.heap.size #[.int .i64 0, .int .u32 0, .slice none 0 0, .int .i64 0] 41) (fun i _ => n - (intOf i).toNat)
  case atStart => exact ⟨0, Nat.zero_le _, rfl, hRat, k2.out.mod, hb0.out⟩
  case round =>
    clear hRat
    obtain ⟨k, hk, rfl, hR, hmod, hb⟩ := hrel
    obtain ⟨iv', ev, -, -, ho, -, rl, r0, r1, r2⟩ := hR.facts
    obtain ⟨lm, lb, -, c65, c66, c67, -⟩ := hR.mac.facts
    replace hb := Aside.mk hb
    replace hmod := Aside.mk hmod
    by_cases hlt : k < n
    · obtain ⟨g1, g2, g3⟩ := hst.out k hlt
      rw [g2] at c66
      have tc := Aside.mk (try_step g3 hR (by omega))
      clear g2 g3 ho
      replace hR := Aside.mk hR
      go_wp2_with ((go_at_call 27); (refine Calls.mono tc.out ?_); (rintro e' w3 ⟨rfl, hm3, hR3⟩))
      go_roundw
      case rel =>
        refine ⟨k + 1, by omega, by go_num, hR3, hmod.out.behind hm3 (fun j hj => ?_), hm3.blk hb.out (by simp [SR]; omega)⟩
        rcases hj with hj | hj | hj | hj
        · exact Or.inl (Or.inl hj)
        · exact Or.inl (Or.inr (Or.inl hj))
        · exact Or.inl (Or.inr (Or.inr (Or.inl hj)))
        · exact Or.inl (Or.inr (Or.inr (Or.inr hj.1)))
      case measure => simp [intOf]; omega
    · obtain rfl : k = n := by omega
      rw [hst0] at c66
      have tc := Aside.mk (try_stop hsc.out hR (by omega))
      clear ho
      replace hR := Aside.mk hR
      go_wp2_with ((go_at_call 27); (refine Calls.mono tc.out ?_); (rintro e' w3 ⟨rfl, hm3, hR3⟩); (have hb3 := Aside.mk (hm3.blk hb.out (by simp [SR]; omega))); (obtain ⟨iv3, ev3, -, -, ho3, -, rl3, s0, s1, s2⟩ := hR3.facts); (obtain ⟨lm3, lb3, -, d65, d66, d67, -⟩ := hR3.mac.facts); (have ho3' := Aside.mk ho3); (have hR3' := Aside.mk hR3); (obtain ⟨A2, n2, c2, he2⟩ := own_shape ho3); (obtain ⟨rfl, hA2⟩ := he2); (clear ho3 hR3); (obtain ⟨-, q0, q1, q2, q3, z0, z1, z2, z3⟩ := hb3.out.fourw))
      have hm0 : Mod (SM (w.heap.size + 1) M B K) w w3 := hmod.out.behind hm3 (fun j hj => by
        rcases hj with hj | hj | hj | hj
        · exact Or.inl (Or.inl hj)
        · exact Or.inl (Or.inr (Or.inl hj))
        · exact Or.inl (Or.inr (Or.inr (Or.inl hj)))
        · exact Or.inl (Or.inr (Or.inr (Or.inr hj.1))))
      replace hm0 := Aside.mk hm0
      clear hm3 s1
      go_region
      go_wp2
      refine bodyPost_ret (results_cell_row rfl _ _ w.heap.size _ _ _ _ rfl ((Blk.set (Blk.set (Blk.set (Blk.set hb3.out _) _) _) _).kp ((Kp.refl _).drew)) Try.underlying41 rfl (by kernel_rfl)) rfl ?_
      have hm4 : Mod (fun j => j = w.heap.size) w3 _ := ((((Mod.refl (fun j => j = w.heap.size) w3).setCell (p := ⟨w.heap.size, 0, none⟩) rfl (.int .i64 ((tr k).halt sc).s.state)).setCell (p := ⟨w.heap.size, 1, none⟩) rfl (.int .u32 ((tr k).halt sc).s.code)).setCell (p := ⟨w.heap.size, 2, none⟩) rfl (.slice A2 n2 c2)).setCell (p := ⟨w.heap.size, 3, none⟩) rfl (.int .i64 k)
      have hm5 := hm4.drew
      refine ⟨_, rfl, ?_, hR3'.out.mac.keep hm5 (by omega) (by omega) (by omega), row_at ho3'.out (fun j hj hl => hm5.block j hl (fun e => by have h1 := own_ge ho3'.out j hj; have h2 : j = w.heap.size := e; omega))⟩
      refine (hm0.out.behind hm5 (fun j hj => Or.inr (by have h2 : j = w.heap.size := hj; omega))).mono (fun j hj hs => ?_)
      rcases hs with hs | hs | hs | hs
      · exact Or.inl hs
      · exact Or.inr (Or.inl hs)
      · exact Or.inr (Or.inr hs)
      · omega
end Go.Proofs.Ytgcihcgclmdolaa
