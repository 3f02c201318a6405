/- Runs of the machine, walked. Conditions stand at each. -/
import Derived.Test.YtgcihcgclmdolaaMachT
namespace Go.Proofs.Ytgcihcgclmdolaa
open Go.RowKit Go.Maps Go.Proofs.Ytgcihcgclmdolaa.PC Go.Proofs.Ytgcihcgclmdolaa.PW
set_option linter.unusedVariables false
set_option linter.unusedSimpArgs false
theorem Blk.fourw {w : World} {b : Nat} {a0 a1 a2 a3 : Value} {ty : TypeId} (h : Blk w b #[a0, a1, a2, a3] ty) : b < w.heap.size ∧ w.cell? ⟨b, 0, none⟩ = some a0 ∧ w.cell? ⟨b, 1, none⟩ = some a1 ∧ w.cell? ⟨b, 2, none⟩ = some a2 ∧ w.cell? ⟨b, 3, none⟩ = some a3 ∧ w.frozen? ⟨b, 0, none⟩ = false ∧ w.frozen? ⟨b, 1, none⟩ = false ∧ w.frozen? ⟨b, 2, none⟩ = false ∧ w.frozen? ⟨b, 3, none⟩ = false :=
  ⟨h.lt, h.cell 0, h.cell 1, h.cell 2, h.cell 3, h.frozen 0, h.frozen 1, h.frozen 2, h.frozen 3⟩
/-- What a run has written: the machine, and what is its own. -/
def SM (b1 M B K : Nat) : Nat → Prop := fun k => k = M ∨ k = B ∨ k = K ∨ b1 ≤ k
set_option maxRecDepth 100000 in
set_option maxHeartbeats 4000000 in
theorem Run_calls {w : World} {M B K N : Nat} (tr : Nat → RS) (n : Nat) (fuel : Int) (iv : Value) (hm : Mac w M B K (tr 0).s N) (hw : Words w w.heap.size M B K iv (tr 0).inp) (hev : (tr 0).ev = []) (hf : -9223372036854775808 ≤ fuel ∧ fuel ≤ 9223372036854775807)
    (hst : ∀ k, k < n → (k : Int) < fuel ∧ (tr k).s.state = 0 ∧ StepC (tr k) (tr (k + 1))) (hend : fuel ≤ n ∨ (tr n).s.state ≠ 0) (hN : N + 2 * n < 999999990) :
    Calls Try.prog 12 #[.pointer (some ⟨M, 0, none⟩), iv, .int .i64 fuel] w fun e w' => ∃ ev, e = .returned (.agg #[.int .i64 (tr n).s.state, .int .u32 (tr n).s.code, ev, .int .i64 n]) ∧ Mod (fun k => k = M ∨ k = B ∨ k = K) w w' ∧ Mac w' M B K (tr n).s (N + 2 * n) ∧ w'.ownsRow (w.heap.size + 1) 45 3 ev (tr n).ev.length (evC (tr n).ev) := by
  have hw0 := hw
  obtain ⟨⟨A, c, hiv, -⟩, -⟩ := hw0
  subst hiv
  have hlM := hm.m.lt
  have hlB := hm.b.lt
  have hlK := hm.kl
  have k1 : Kp w (w.alloc (.cells #[.int .i64 0, .int .u32 0, .slice none 0 0, .int .i64 0] 41)) := (Kp.refl w).alloc _
  have k2 := k1.alloc (.cells #[.pointer (some ⟨M, 0, none⟩), .slice A (tr 0).inp.length c, .slice none 0 0] 82)
  have hb0 := (Blk.new w #[.int .i64 0, .int .u32 0, .slice none 0 0, .int .i64 0] 41).alloc (.cells #[.pointer (some ⟨M, 0, none⟩), .slice A (tr 0).inp.length c, .slice none 0 0] 82)
  have hR := Blk.new (w.alloc (.cells #[.int .i64 0, .int .u32 0, .slice none 0 0, .int .i64 0] 41)) #[.pointer (some ⟨M, 0, none⟩), .slice A (tr 0).inp.length c, .slice none 0 0] 82
  have hsz : (w.alloc (.cells #[.int .i64 0, .int .u32 0, .slice none 0 0, .int .i64 0] 41)).heap.size = w.heap.size + 1 := World.size_alloc _ _
  rw [hsz] at hR
  have hw1 : Words ((w.alloc (.cells #[.int .i64 0, .int .u32 0, .slice none 0 0, .int .i64 0] 41)).alloc (.cells #[.pointer (some ⟨M, 0, none⟩), .slice A (tr 0).inp.length c, .slice none 0 0] 82)) (w.heap.size + 1) M B K (.slice A (tr 0).inp.length c) (tr 0).inp := by
    have hw2 := hw.at (w' := (w.alloc (.cells #[.int .i64 0, .int .u32 0, .slice none 0 0, .int .i64 0] 41)).alloc (.cells #[.pointer (some ⟨M, 0, none⟩), .slice A (tr 0).inp.length c, .slice none 0 0] 82)) (fun I _ _ _ _ hI => k2.block hI)
    obtain ⟨⟨A', c', e1, e2, e3⟩, e4⟩ := hw2
    refine ⟨⟨A', c', e1, e2, fun hne => ?_⟩, e4⟩
    obtain ⟨I, off, g1, g2, g3⟩ := e3 hne
    exact ⟨I, off, g1, by omega, g3⟩
  have hRat : Rat ((w.alloc (.cells #[.int .i64 0, .int .u32 0, .slice none 0 0, .int .i64 0] 41)).alloc (.cells #[.pointer (some ⟨M, 0, none⟩), .slice A (tr 0).inp.length c, .slice none 0 0] 82)) (w.heap.size + 1) (w.heap.size + 1) M B K (tr 0) N :=
    ⟨hm.kp k2, ⟨.slice A (tr 0).inp.length c, .slice none 0 0, hR, hw1, by rw [hev]; exact ⟨rfl, Or.inl ⟨rfl, rfl⟩⟩, by simp [Value.ownBlock]⟩, Nat.le_refl _, by omega, by omega, by omega, by rw [hev]; exact Nat.zero_le _⟩
  clear hR hw hw1 hsz hev k1
  replace k2 := Aside.mk k2
  replace hb0 := Aside.mk hb0
  replace hm := Aside.mk hm
  replace hst := Aside.mk hst
  replace hend := Aside.mk hend
  go_enter Try.func12, Try.ntmps12
  go_wp2
  go_loopw [8] (fun i wr => ∃ k : Nat, k ≤ n ∧ i = .int .i64 k ∧ Rat wr (w.heap.size + 1) (w.heap.size + 1) M B K (tr k) (N + 2 * k) ∧ Mod (SM (w.heap.size + 1) M B K) w wr ∧ Blk wr w.heap.size #[.int .i64 0, .int .u32 0, .slice none 0 0, .int .i64 0] 41) (fun i _ => n - (intOf i).toNat)
  case atStart => exact ⟨0, Nat.zero_le _, rfl, hRat, k2.out.mod, hb0.out⟩
  case round =>
    clear hRat
    obtain ⟨k, hk, rfl, hR, hmod, hb⟩ := hrel
    obtain ⟨iv', ev, -, -, ho, -, rl, r0, r1, r2⟩ := hR.facts
    obtain ⟨lm, lb, -, c65, c66, c67, -⟩ := hR.mac.facts
    replace hb := Aside.mk hb
    replace hmod := Aside.mk hmod
    by_cases hlt : k < n
    · obtain ⟨g1, g2, g3⟩ := hst.out k hlt
      rw [g2] at c66
      have tc := Aside.mk (try_step g3 hR (by omega))
      clear g2 g3 ho
      replace hR := Aside.mk hR
      go_wp2_with ((go_at_call 27); (refine Calls.mono tc.out ?_); (rintro e' w3 ⟨rfl, hm3, hR3⟩))
      go_roundw
      case rel =>
        refine ⟨k + 1, by omega, by go_num, hR3, hmod.out.behind hm3 (fun j hj => ?_), hm3.blk hb.out (by simp [SR]; omega)⟩
        rcases hj with hj | hj | hj | hj
        · exact Or.inl (Or.inl hj)
        · exact Or.inl (Or.inr (Or.inl hj))
        · exact Or.inl (Or.inr (Or.inr (Or.inl hj)))
        · exact Or.inl (Or.inr (Or.inr (Or.inr hj.1)))
      case measure => simp [intOf]; omega
    · obtain rfl : k = n := by omega
      have hR' := Aside.mk hR
      have ho' := Aside.mk ho
      clear ho hR
      obtain ⟨-, q0, q1, q2, q3, z0, z1, z2, z3⟩ := hb.out.fourw
      obtain ⟨A2, n2, c2, he2⟩ : ∃ A2 n2 c2, ev = .slice A2 n2 c2 ∧ (A2 = none ∨ ∃ g, A2 = some ⟨g, 0, none⟩) := by
        rcases ho'.out.2 with ⟨h, -⟩ | ⟨g, cp, cur, h, -⟩
        · exact ⟨_, _, _, h, Or.inl rfl⟩
        · exact ⟨_, _, _, h, Or.inr ⟨g, rfl⟩⟩
      obtain ⟨rfl, hA2⟩ := he2
      by_cases hfu : (k : Int) < fuel
      · have hs : (tr k).s.state ≠ 0 := hend.out.resolve_left (by omega)
        have hs2 : ((tr k).s.state == 0) = false := by simpa using hs
        go_wp2
        go_region
        go_wp2
        refine bodyPost_ret (results_cell_row rfl _ _ w.heap.size _ _ _ _ rfl ((Blk.set (Blk.set (Blk.set (Blk.set hb.out _) _) _) _).kp ((Kp.refl _).drew)) Try.underlying41 rfl (by kernel_rfl)) rfl ?_
        have hm4 : Mod (fun j => j = w.heap.size) wr _ := ((((Mod.refl (fun j => j = w.heap.size) wr).setCell (p := ⟨w.heap.size, 0, none⟩) rfl (.int .i64 (tr k).s.state)).setCell (p := ⟨w.heap.size, 1, none⟩) rfl (.int .u32 (tr k).s.code)).setCell (p := ⟨w.heap.size, 2, none⟩) rfl (.slice A2 n2 c2)).setCell (p := ⟨w.heap.size, 3, none⟩) rfl (.int .i64 k)
        have hm5 := hm4.drew
        refine ⟨_, rfl, ?_, hR'.out.mac.keep hm5 (by omega) (by omega) (by omega), row_at ho'.out (fun j hj hl => hm5.block j hl (fun e => by have h1 := own_ge ho'.out j hj; have h2 : j = w.heap.size := e; omega))⟩
        refine (hmod.out.behind hm5 (fun j hj => Or.inr (by have h2 : j = w.heap.size := hj; omega))).mono (fun j hj hs => ?_)
        rcases hs with hs | hs | hs | hs
        · exact Or.inl hs
        · exact Or.inr (Or.inl hs)
        · exact Or.inr (Or.inr hs)
        · omega
      · go_wp2
        go_region
        go_wp2
        refine bodyPost_ret (results_cell_row rfl _ _ w.heap.size _ _ _ _ rfl ((Blk.set (Blk.set (Blk.set (Blk.set hb.out _) _) _) _).kp ((Kp.refl _).drew)) Try.underlying41 rfl (by kernel_rfl)) rfl ?_
        have hm4 : Mod (fun j => j = w.heap.size) wr _ := ((((Mod.refl (fun j => j = w.heap.size) wr).setCell (p := ⟨w.heap.size, 0, none⟩) rfl (.int .i64 (tr k).s.state)).setCell (p := ⟨w.heap.size, 1, none⟩) rfl (.int .u32 (tr k).s.code)).setCell (p := ⟨w.heap.size, 2, none⟩) rfl (.slice A2 n2 c2)).setCell (p := ⟨w.heap.size, 3, none⟩) rfl (.int .i64 k)
        have hm5 := hm4.drew
        refine ⟨_, rfl, ?_, hR'.out.mac.keep hm5 (by omega) (by omega) (by omega), row_at ho'.out (fun j hj hl => hm5.block j hl (fun e => by have h1 := own_ge ho'.out j hj; have h2 : j = w.heap.size := e; omega))⟩
        refine (hmod.out.behind hm5 (fun j hj => Or.inr (by have h2 : j = w.heap.size := hj; omega))).mono (fun j hj hs => ?_)
        rcases hs with hs | hs | hs | hs
        · exact Or.inl hs
        · exact Or.inr (Or.inl hs)
        · exact Or.inr (Or.inr hs)
        · omega
end Go.Proofs.Ytgcihcgclmdolaa
