/- Runs of the machine, walked. Conditions stand at each. · What a loaded machine reads; runs with numbers spelled. Conditions stand at each. -/
import Derived.Test.YtnbooljaodkedaaMachT
import Derived.Test.YtnbooljaodkedaaMachL
namespace Go.Proofs.Ytnbooljaodkedaa
open Go.RowKit Go.Maps Go.Proofs.Ytnbooljaodkedaa.PC Go.Proofs.Ytnbooljaodkedaa.PW
set_option linter.unusedVariables false
set_option linter.unusedSimpArgs false
theorem Blk.fourw {w : World} {b : Nat} {a0 a1 a2 a3 : Value} {ty : TypeId} (h : Blk w b #[a0, a1, a2, a3] ty) : b < w.heap.size ∧ w.cell? ⟨b, 0, none⟩ = some a0 ∧ w.cell? ⟨b, 1, none⟩ = some a1 ∧ w.cell? ⟨b, 2, none⟩ = some a2 ∧ w.cell? ⟨b, 3, none⟩ = some a3 ∧ w.frozen? ⟨b, 0, none⟩ = false ∧ w.frozen? ⟨b, 1, none⟩ = false ∧ w.frozen? ⟨b, 2, none⟩ = false ∧ w.frozen? ⟨b, 3, none⟩ = false :=
  ⟨h.lt, h.cell 0, h.cell 1, h.cell 2, h.cell 3, h.frozen 0, h.frozen 1, h.frozen 2, h.frozen 3⟩
/-- What a run has written: the machine, and what is its own. -/
def SM (b1 M B K : Nat) : Nat → Prop := fun k => k = M ∨ k = B ∨ k = K ∨ b1 ≤ k
set_option maxRecDepth 100000 in
set_option maxHeartbeats 4000000 in
theorem Run_calls {w : World} {M B K N : Nat} (tr : Nat → RS) (n : Nat) (fuel : Int) (iv : Value) (hm : Mac w M B K (tr 0).s N) (hw : Words w w.heap.size M B K iv (tr 0).inp) (hev : (tr 0).ev = []) (hf : -9223372036854775808 ≤ fuel ∧ fuel ≤ 9223372036854775807)
    (hst : ∀ k, k < n → (k : Int) < fuel ∧ (tr k).s.state = 0 ∧ StepC (tr k) (tr (k + 1))) (hend : fuel ≤ n ∨ (tr n).s.state ≠ 0) (hN : N + 2 * n < 999999990) :
    Calls Try.prog 14 #[.pointer (some ⟨M, 0, none⟩), iv, .int .i64 fuel] w fun e w' => ∃ ev, e = .returned (.agg #[.int .i64 (tr n).s.state, .int .u32 (tr n).s.code, ev, .int .i64 n]) ∧ Mod (fun k => k = M ∨ k = B ∨ k = K) w w' ∧ Mac w' M B K (tr n).s (N + 2 * n) ∧ w'.ownsRow (w.heap.size + 1) 165 3 ev (tr n).ev.length (evC (tr n).ev) := by
  have hw0 := hw
  obtain ⟨⟨A, c, hiv, -⟩, -⟩ := hw0
  subst hiv
  have hlM := hm.m.lt
  have hlB := hm.b.lt
  have hlK := hm.kl
  have k1 : Kp w (w.alloc (.cells #[.int .i64 0, .int .u32 0, .slice none 0 0, .int .i64 0] 53)) := (Kp.refl w).alloc _
  have k2 := k1.alloc (.cells #[.pointer (some ⟨M, 0, none⟩), .slice A (tr 0).inp.length c, .slice none 0 0] 90)
  have hb0 := (Blk.new w #[.int .i64 0, .int .u32 0, .slice none 0 0, .int .i64 0] 53).alloc (.cells #[.pointer (some ⟨M, 0, none⟩), .slice A (tr 0).inp.length c, .slice none 0 0] 90)
  have hR := Blk.new (w.alloc (.cells #[.int .i64 0, .int .u32 0, .slice none 0 0, .int .i64 0] 53)) #[.pointer (some ⟨M, 0, none⟩), .slice A (tr 0).inp.length c, .slice none 0 0] 90
  have hsz : (w.alloc (.cells #[.int .i64 0, .int .u32 0, .slice none 0 0, .int .i64 0] 53)).heap.size = w.heap.size + 1 := World.size_alloc _ _
  rw [hsz] at hR
  have hw1 : Words ((w.alloc (.cells #[.int .i64 0, .int .u32 0, .slice none 0 0, .int .i64 0] 53)).alloc (.cells #[.pointer (some ⟨M, 0, none⟩), .slice A (tr 0).inp.length c, .slice none 0 0] 90)) (w.heap.size + 1) M B K (.slice A (tr 0).inp.length c) (tr 0).inp := by
    have hw2 := hw.at (w' := (w.alloc (.cells #[.int .i64 0, .int .u32 0, .slice none 0 0, .int .i64 0] 53)).alloc (.cells #[.pointer (some ⟨M, 0, none⟩), .slice A (tr 0).inp.length c, .slice none 0 0] 90)) (fun I _ _ _ _ hI => k2.block hI)
    obtain ⟨⟨A', c', e1, e2, e3⟩, e4⟩ := hw2
    refine ⟨⟨A', c', e1, e2, fun hne => ?_⟩, e4⟩
    obtain ⟨I, off, g1, g2, g3⟩ := e3 hne
    exact ⟨I, off, g1, by omega, g3⟩
  have hRat : Rat ((w.alloc (.cells #[.int .i64 0, .int .u32 0, .slice none 0 0, .int .i64 0] 53)).alloc (.cells #[.pointer (some ⟨M, 0, none⟩), .slice A (tr 0).inp.length c, .slice none 0 0] 90)) (w.heap.size + 1) (w.heap.size + 1) M B K (tr 0) N :=
    ⟨hm.kp k2, ⟨.slice A (tr 0).inp.length c, .slice none 0 0, hR, hw1, by rw [hev]; exact ⟨rfl, Or.inl ⟨rfl, rfl⟩⟩, by simp [Value.ownBlock]⟩, Nat.le_refl _, by omega, by omega, by omega, by rw [hev]; exact Nat.zero_le _⟩
  clear hR hw hw1 hsz hev k1
  replace k2 := Aside.mk k2
  replace hb0 := Aside.mk hb0
  replace hm := Aside.mk hm
  replace hst := Aside.mk hst
  replace hend := Aside.mk hend
  go_enter Try.func14, Try.ntmps14
  go_wp2
  go_loopw [8] (fun i wr => ∃ k : Nat, k ≤ n ∧ i = .int .i64 k ∧ Rat wr (w.heap.size + 1) (w.heap.size + 1) M B K (tr k) (N + 2 * k) ∧ Mod (SM (w.heap.size + 1) M B K) w wr ∧ Blk wr w.heap.size #[.int .i64 0, .int .u32 0, .slice none 0 0, .int .i64 0] 53) (fun i _ => n - (intOf i).toNat)
  case atStart => exact ⟨0, Nat.zero_le _, rfl, hRat, k2.out.mod, hb0.out⟩
  case round =>
    clear hRat
    obtain ⟨k, hk, rfl, hR, hmod, hb⟩ := hrel
    obtain ⟨iv', ev, -, -, ho, -, rl, r0, r1, r2⟩ := hR.facts
    obtain ⟨lm, lb, -, c65, c66, c67, -⟩ := hR.mac.facts
    replace hb := Aside.mk hb
    replace hmod := Aside.mk hmod
    by_cases hlt : k < n
    · obtain ⟨g1, g2, g3⟩ := hst.out k hlt
      rw [g2] at c66
      have tc := Aside.mk (try_step g3 hR (by omega))
      clear g2 g3 ho
      replace hR := Aside.mk hR
      go_wp2_with ((go_at_call 26); (refine Calls.mono tc.out ?_); (rintro e' w3 ⟨rfl, hm3, hR3⟩))
      go_roundw
      case rel =>
        refine ⟨k + 1, by omega, by go_num, hR3, hmod.out.behind hm3 (fun j hj => ?_), hm3.blk hb.out (by simp [SR]; omega)⟩
        rcases hj with hj | hj | hj | hj
        · exact Or.inl (Or.inl hj)
        · exact Or.inl (Or.inr (Or.inl hj))
        · exact Or.inl (Or.inr (Or.inr (Or.inl hj)))
        · exact Or.inl (Or.inr (Or.inr (Or.inr hj.1)))
      case measure => simp [intOf]; omega
    · obtain rfl : k = n := by omega
      have hR' := Aside.mk hR
      have ho' := Aside.mk ho
      clear ho hR
      obtain ⟨-, q0, q1, q2, q3, z0, z1, z2, z3⟩ := hb.out.fourw
      obtain ⟨A2, n2, c2, he2⟩ : ∃ A2 n2 c2, ev = .slice A2 n2 c2 ∧ (A2 = none ∨ ∃ g, A2 = some ⟨g, 0, none⟩) := by
        rcases ho'.out.2 with ⟨h, -⟩ | ⟨g, cp, cur, h, -⟩
        · exact ⟨_, _, _, h, Or.inl rfl⟩
        · exact ⟨_, _, _, h, Or.inr ⟨g, rfl⟩⟩
      obtain ⟨rfl, hA2⟩ := he2
      by_cases hfu : (k : Int) < fuel
      · have hs : (tr k).s.state ≠ 0 := hend.out.resolve_left (by omega)
        have hs2 : ((tr k).s.state == 0) = false := by simpa using hs
        go_wp2
        go_region
        go_wp2
        refine bodyPost_ret (results_cell_row rfl _ _ w.heap.size _ _ _ _ rfl ((Blk.set (Blk.set (Blk.set (Blk.set hb.out _) _) _) _).kp ((Kp.refl _).drew)) Try.underlying53 rfl (by kernel_rfl)) rfl ?_
        have hm4 : Mod (fun j => j = w.heap.size) wr _ := ((((Mod.refl (fun j => j = w.heap.size) wr).setCell (p := ⟨w.heap.size, 0, none⟩) rfl (.int .i64 (tr k).s.state)).setCell (p := ⟨w.heap.size, 1, none⟩) rfl (.int .u32 (tr k).s.code)).setCell (p := ⟨w.heap.size, 2, none⟩) rfl (.slice A2 n2 c2)).setCell (p := ⟨w.heap.size, 3, none⟩) rfl (.int .i64 k)
        have hm5 := hm4.drew
        refine ⟨_, rfl, ?_, hR'.out.mac.keep hm5 (by omega) (by omega) (by omega), row_at ho'.out (fun j hj hl => hm5.block j hl (fun e => by have h1 := own_ge ho'.out j hj; have h2 : j = w.heap.size := e; omega))⟩
        refine (hmod.out.behind hm5 (fun j hj => Or.inr (by have h2 : j = w.heap.size := hj; omega))).mono (fun j hj hs => ?_)
        rcases hs with hs | hs | hs | hs
        · exact Or.inl hs
        · exact Or.inr (Or.inl hs)
        · exact Or.inr (Or.inr hs)
        · omega
      · go_wp2
        go_region
        go_wp2
        refine bodyPost_ret (results_cell_row rfl _ _ w.heap.size _ _ _ _ rfl ((Blk.set (Blk.set (Blk.set (Blk.set hb.out _) _) _) _).kp ((Kp.refl _).drew)) Try.underlying53 rfl (by kernel_rfl)) rfl ?_
        have hm4 : Mod (fun j => j = w.heap.size) wr _ := ((((Mod.refl (fun j => j = w.heap.size) wr).setCell (p := ⟨w.heap.size, 0, none⟩) rfl (.int .i64 (tr k).s.state)).setCell (p := ⟨w.heap.size, 1, none⟩) rfl (.int .u32 (tr k).s.code)).setCell (p := ⟨w.heap.size, 2, none⟩) rfl (.slice A2 n2 c2)).setCell (p := ⟨w.heap.size, 3, none⟩) rfl (.int .i64 k)
        have hm5 := hm4.drew
        refine ⟨_, rfl, ?_, hR'.out.mac.keep hm5 (by omega) (by omega) (by omega), row_at ho'.out (fun j hj hl => hm5.block j hl (fun e => by have h1 := own_ge ho'.out j hj; have h2 : j = w.heap.size := e; omega))⟩
        refine (hmod.out.behind hm5 (fun j hj => Or.inr (by have h2 : j = w.heap.size := hj; omega))).mono (fun j hj hs => ?_)
        rcases hs with hs | hs | hs | hs
        · exact Or.inl hs
        · exact Or.inr (Or.inl hs)
        · exact Or.inr (Or.inr hs)
        · omega
end Go.Proofs.Ytnbooljaodkedaa
namespace Go.Proofs.Ytnbooljaodkedaa
open Go.RowKit Go.Maps Go.Proofs.Ytnbooljaodkedaa.PC Go.Proofs.Ytnbooljaodkedaa.PW
set_option linter.unusedVariables false
set_option linter.unusedSimpArgs false
theorem bytesL_get (l : List Int) (k : Nat) (hk : k < l.length) : (bytesL l).getD (4 * k) 0 = l.getD k 0 % 256 ∧ (bytesL l).getD (4 * k + 1) 0 = l.getD k 0 / 256 % 256 ∧ (bytesL l).getD (4 * k + 2) 0 = l.getD k 0 / 65536 % 256 ∧ (bytesL l).getD (4 * k + 3) 0 = l.getD k 0 / 16777216 % 256 := by
  induction l generalizing k with
  | nil => simp at hk
  | cons a l ih =>
    have e : bytesL (a :: l) = [a % 256, a / 256 % 256, a / 65536 % 256, a / 16777216 % 256] ++ bytesL l := by simp [bytesL]
    cases k with
    | zero => rw [e]; simp
    | succ k =>
      have h := ih k (by simpa using hk)
      have g : ∀ j, (bytesL (a :: l)).getD (4 * (k + 1) + j) 0 = (bytesL l).getD (4 * k + j) 0 := by
        intro j
        rw [e, show 4 * (k + 1) + j = (4 * k + j) + 1 + 1 + 1 + 1 by omega]
        simp [List.getD_eq_getElem?_getD]
      have g0 := g 0
      simp only [Nat.add_zero] at g0
      rw [g0, g, g, g]
      simpa using h
theorem loadM_get (l : List Int) (top i : Nat) (h : i < l.length) : (loadM l top).getD i 0 = l.getD i 0 := by
  simp [loadM, List.getD_eq_getElem?_getD, List.getElem?_append_left h]
/-- A loaded word. -/
theorem load_word (l : List Int) (top k : Nat) (hk : k < l.length) (hu : U (l.getD k 0)) : getN (loadM (bytesL l) top) (4 * k) 4 = l.getD k 0 := by
  have hl := bytesL_length l
  obtain ⟨h0, h1, h2, h3⟩ := bytesL_get l k hk
  have hu' : 0 ≤ l.getD k 0 ∧ l.getD k 0 ≤ 4294967295 := hu
  simp only [getN]
  rw [Nat.add_zero, loadM_get _ _ _ (by omega), loadM_get _ _ _ (by omega), loadM_get _ _ _ (by omega), loadM_get _ _ _ (by omega), h0, h1, h2, h3]
  generalize l.getD k 0 = x at *
  simp only [Int.pow_zero]
  rw [show (256 : Int) ^ 1 = 256 from rfl, show (256 : Int) ^ 2 = 65536 from rfl, show (256 : Int) ^ 3 = 16777216 from rfl]
  omega
theorem Load_at {w : World} {base : Nat} {v : Value} {l : List Int} (entry sv : Int) (stack floor top : Nat) (hsv : sv = stack) (hv : rowBy w base v l) (hb : ∀ b ∈ l, Byte b) (he : U entry) (hs : stack ≤ 2097152) (hl : l.length ≤ 2097152) (hf : upV l.length = floor) (ht : upV (floor + stack) = top) (htl : top ≤ 2097152) :
    Calls Try.prog 13 #[.agg #[.int .i64 entry, v], .int .i64 sv] w fun e w' => ∃ M B K, e = .returned (.tuple #[.pointer (some ⟨M, 0, none⟩), .int .i64 0]) ∧ (w.heap.size ≤ M ∧ w.heap.size ≤ B ∧ w.heap.size ≤ K) ∧ Kp w w' ∧ Mac w' M B K (loadS entry l floor top) 0 := by
  subst hsv hf ht
  exact Load_calls entry stack hv hb he hs htl hl
theorem Run_at {w : World} {M B K N : Nat} (tr : Nat → RS) (n : Nat) (nI : Int) (hnI : nI = n) (fuel : Int) (iv : Value) (hm : Mac w M B K (tr 0).s N) (hw : Words w w.heap.size M B K iv (tr 0).inp) (hev : (tr 0).ev = []) (hf : -9223372036854775808 ≤ fuel ∧ fuel ≤ 9223372036854775807)
    (hst : ∀ k, k < n → (k : Int) < fuel ∧ (tr k).s.state = 0 ∧ StepC (tr k) (tr (k + 1))) (hend : fuel ≤ n ∨ (tr n).s.state ≠ 0) (hN : N + 2 * n < 999999990) (r : RS) (hr : r = tr n) :
    Calls Try.prog 14 #[.pointer (some ⟨M, 0, none⟩), iv, .int .i64 fuel] w fun e w' => ∃ ev, e = .returned (.agg #[.int .i64 r.s.state, .int .u32 r.s.code, ev, .int .i64 nI]) ∧ Mod (fun k => k = M ∨ k = B ∨ k = K) w w' ∧ Mac w' M B K r.s (N + 2 * n) ∧ w'.ownsRow (w.heap.size + 1) 165 3 ev r.ev.length (evC r.ev) := by
  subst hnI hr
  exact Run_calls tr n fuel iv hm hw hev hf hst hend hN
theorem words_none {w : World} {b1 M B K : Nat} : Words w b1 M B K (.slice none 0 0) [] := ⟨⟨none, 0, rfl, Nat.le_refl _, fun h => absurd rfl h⟩, by simp, by simp⟩
end Go.Proofs.Ytnbooljaodkedaa
