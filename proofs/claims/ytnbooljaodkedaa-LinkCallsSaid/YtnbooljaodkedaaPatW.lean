/- Words of fewer bits extended, walked. Condition: the argument is a word. · Patch and its parts, walked. Condition: the arguments are words. -/
import Derived.Test.YtnbooljaodkedaaMachE
import Derived.Test.YtnbooljaodkedaaPlainPatch
import Derived.Test.YtnbooljaodkedaaPlainLnkB
namespace Go.Proofs.Ytnbooljaodkedaa
open Go.RowKit Go.Proofs.Ytnbooljaodkedaa.PW
set_option linter.unusedVariables false
set_option linter.unusedSimpArgs false
/-- A word of its lowest bits, extended. -/
def extV (a p q : Int) : Int := (if a % p ≥ q then a % p - p else a % p) % 4294967296
theorem extV_U (a p q : Int) : U (extV a p q) := U_mod _
theorem ext12_val {a : Int} (ha : U a) : wrap32 (a * 1048576 % 4294967296) / 1048576 % 4294967296 = extV a 4096 2048 := by
  unfold U at ha
  unfold wrap32 extV
  split <;> omega
theorem ext8_val {a : Int} (ha : U a) : wrap32 (a * 16777216 % 4294967296) / 16777216 % 4294967296 = extV a 256 128 := by
  unfold U at ha
  unfold wrap32 extV
  split <;> omega
set_option maxHeartbeats 1000000 in
theorem ext12_calls (a : Int) (ha : U a) (w : World) : Calls Try.prog 75 #[.int .u32 a, .int .i64 12] w fun e w' => e = .returned (.tuple #[.int .u32 (extV a 4096 2048), .int .i64 0]) ∧ Dr w w' := by
  have hv := Aside.mk (ext12_val ha)
  go_enter Try.func75, Try.ntmps75
  go_wp2
  go_ret2
  exact ⟨by rw [← hv.out]; rfl, by repeat (first | exact Dr.refl _ | assumption | refine Dr.step ?_ _ | refine Dr.trans ?_ (by assumption))⟩
set_option maxHeartbeats 1000000 in
theorem ext8_calls (a : Int) (ha : U a) (w : World) : Calls Try.prog 75 #[.int .u32 a, .int .i64 8] w fun e w' => e = .returned (.tuple #[.int .u32 (extV a 256 128), .int .i64 0]) ∧ Dr w w' := by
  have hv := Aside.mk (ext8_val ha)
  go_enter Try.func75, Try.ntmps75
  go_wp2
  go_ret2
  exact ⟨by rw [← hv.out]; rfl, by repeat (first | exact Dr.refl _ | assumption | refine Dr.step ?_ _ | refine Dr.trans ?_ (by assumption))⟩
end Go.Proofs.Ytnbooljaodkedaa
namespace Go.Proofs.Ytnbooljaodkedaa
open Go.RowKit Go.Maps Go.Proofs.Ytnbooljaodkedaa.PC Go.Proofs.Ytnbooljaodkedaa.PW
set_option linter.unusedVariables false
set_option linter.unusedSimpArgs false
theorem ext_lo (v : Int) : sgn (extV v 4096 2048) = loV v := by
  unfold sgn extV loV
  split <;> split <;> omega
set_option maxHeartbeats 1000000 in
theorem Hi_calls (v : Int) (hv : U v) (w : World) : Calls Try.prog 51 #[.int .u32 v] w fun e w' => e = .returned (.int .i64 (hiV v)) ∧ Kp w w' := by
  have hr := hiV_range v
  unfold hiV at *
  go_enter Try.func51, Try.ntmps51
  go_wp2
  go_ret
  exact ⟨rfl, by repeat (with_reducible first | exact Kp.refl _ | assumption | exact Dr.kp (by assumption) | refine Kp.drewN ?_ _ | refine Kp.drew ?_ | refine Kp.alloc ?_ _ | refine Kp.setCell ?_ (by first | exact Nat.le_refl _ | assumption | omega) _ | refine Kp.trans ?_ (by assumption) | refine Kp.trans ?_ (Dr.kp (by assumption)))⟩
set_option maxHeartbeats 1000000 in
theorem Lo_calls (v : Int) (hv : U v) (w : World) : Calls Try.prog 52 #[.int .u32 v] w fun e w' => e = .returned (.int .i64 (loV v)) ∧ Kp w w' := by
  have hl := Aside.mk (ext_lo v)
  go_enter Try.func52, Try.ntmps52
  go_wp2_with (first | ((go_at_call 75); (refine Calls.mono (ext12_calls v hv _) ?_); (rintro e w1 ⟨rfl, hd1⟩)) | ((go_at_call 53); (refine Calls.mono (sgned_calls _ (extV_U v 4096 2048) _) ?_); (rintro e w2 ⟨rfl, hd2⟩)))
  go_ret
  exact ⟨by rw [hl.out]; rfl, (Dr.kp hd1).trans (Dr.kp hd2)⟩
set_option maxHeartbeats 1000000 in
theorem of_calls (k op : Int) (hk : 1 ≤ k ∧ k ≤ 5) (w : World) : Calls Try.prog 50 #[.int .i64 k, .int .i64 op] w fun e w' => e = .returned (.bool (decide (ofK k op))) ∧ Kp w w' := by
  have h5 : k = 1 ∨ k = 2 ∨ k = 3 ∨ k = 4 ∨ k = 5 := by omega
  rcases h5 with rfl | rfl | rfl | rfl | rfl <;>
  · go_enter Try.func50, Try.ntmps50
    go_wp2
    all_goals
      go_ret
      refine ⟨congrArg (fun b => Ending.returned (Value.bool b)) ?_, by repeat (with_reducible first | exact Kp.refl _ | assumption | exact Dr.kp (by assumption) | refine Kp.drewN ?_ _ | refine Kp.drew ?_ | refine Kp.alloc ?_ _ | refine Kp.setCell ?_ (by first | exact Nat.le_refl _ | assumption | omega) _ | refine Kp.trans ?_ (by assumption) | refine Kp.trans ?_ (Dr.kp (by assumption)))⟩
      rw [Bool.eq_iff_iff]
      simp [ofK]
      try omega
theorem U_dest {v : Int} (hv : U v) : 0 ≤ v ∧ v ≤ 4294967295 := hv
set_option maxHeartbeats 2000000 in
theorem Patch_calls (k x v p : Int) (hx : U x) (hv : U v) (hp : U p) (w : World) :
    Calls Try.prog 31 #[.int .i64 k, .int .u32 x, .int .u32 v, .int .u32 p] w fun e w' => ∃ W E : Int, e = .returned (.tuple #[.int .u32 W, .int .i64 E]) ∧ PatR k x v p W E ∧ Kp w w' := by
  by_cases hk : k < 1 ∨ 6 < k
  · have h1 := Aside.mk hk
    by_cases h2 : k < 1
    · go_enter Try.func31, Try.ntmps31
      go_wp2
      go_ret2
      exact ⟨0, 1, rfl, Or.inl ⟨h1.out, rfl, rfl⟩, by repeat (with_reducible first | exact Kp.refl _ | assumption | exact Dr.kp (by assumption) | refine Kp.drewN ?_ _ | refine Kp.drew ?_ | refine Kp.alloc ?_ _ | refine Kp.setCell ?_ (by first | exact Nat.le_refl _ | assumption | omega) _ | refine Kp.trans ?_ (by assumption) | refine Kp.trans ?_ (Dr.kp (by assumption)))⟩
    · have h3 : 6 < k := by omega
      go_enter Try.func31, Try.ntmps31
      go_wp2
      go_ret2
      exact ⟨0, 1, rfl, Or.inl ⟨h1.out, rfl, rfl⟩, by repeat (with_reducible first | exact Kp.refl _ | assumption | exact Dr.kp (by assumption) | refine Kp.drewN ?_ _ | refine Kp.drew ?_ | refine Kp.alloc ?_ _ | refine Kp.setCell ?_ (by first | exact Nat.le_refl _ | assumption | omega) _ | refine Kp.trans ?_ (by assumption) | refine Kp.trans ?_ (Dr.kp (by assumption)))⟩
  by_cases h6 : k = 6
  · subst h6
    go_enter Try.func31, Try.ntmps31
    go_wp2
    go_ret2
    exact ⟨v, 0, rfl, Or.inr (Or.inl ⟨rfl, rfl, rfl⟩), by repeat (with_reducible first | exact Kp.refl _ | assumption | exact Dr.kp (by assumption) | refine Kp.drewN ?_ _ | refine Kp.drew ?_ | refine Kp.alloc ?_ _ | refine Kp.setCell ?_ (by first | exact Nat.le_refl _ | assumption | omega) _ | refine Kp.trans ?_ (by assumption) | refine Kp.trans ?_ (Dr.kp (by assumption)))⟩
  have h5 : 1 ≤ k ∧ k ≤ 5 := by omega
  clear hk
  have hx' := Aside.mk hx
  have hk5 := Aside.mk h5
  have k0 : ¬k < 1 := by omega
  have k6 : ¬6 < k := by omega
  have k7 : (k == 6) = false := by simpa using h6
  go_enter Try.func31, Try.ntmps31
  go_wp2_with fail
  refine Calls.mono (Decode_calls x hx'.out _) ?_
  rintro e w1 ⟨op, rd, rs1, rs2, n, er, rfl, k1, hd⟩
  have hb := Aside.mk (Blk.new w1 #[.int .i64 op, .int .i64 rd, .int .i64 rs1, .int .i64 rs2, .int .i64 n] 40)
  have kk := Aside.mk (k1.alloc (.cells #[.int .i64 op, .int .i64 rd, .int .i64 rs1, .int .i64 rs2, .int .i64 n]  40))
  have hbs : Aside (w.heap.size ≤ w1.heap.size) := ⟨k1.size⟩
  clear k1
  have her : er = 0 ∨ er = 2 := by
    rcases hd with h | h
    · exact Or.inl h.1
    · exact Or.inr h.1
  obtain ⟨h1, h2⟩ := decR_range hd
  obtain ⟨il, i0, i1, i2, i3, i4, j0, j1, j2, j3, j4⟩ := hb.out.five
  replace hd := Aside.mk hd
  have ofc := fun w => of_calls k op h5 w
  replace ofc := Aside.mk ofc
  rcases her with rfl | rfl
  · by_cases hn : n = 0
    · subst hn
      by_cases hof : ofK k op
      · have hof' := Aside.mk hof
        have ofd : decide (ofK k op) = true := by simpa using hof
        rw [ofd] at ofc
        clear ofd hof
        go_upto_block 0 with ((go_at_call 50); (refine Calls.mono (ofc.out _) ?_); (rintro e w2 ⟨rfl, k2⟩))
        have hb2 := Aside.mk (hb.out.kp k2)
        replace kk : Aside (Kp w w2) := ⟨kk.out.trans k2⟩
        clear hb il i0 i1 i2 i3 i4 j0 j1 j2 j3 j4
        clear k2
        obtain ⟨il, i0, i1, i2, i3, i4, j0, j1, j2, j3, j4⟩ := hb2.out.five
        go_cut [] (fun wx => Kp w wx ∧ Blk wx w1.heap.size #[.int .i64 op, .int .i64 rd, .int .i64 rs1, .int .i64 rs2, .int .i64 (immP k v p)] 40)
        case first =>
          clear hd hof' h1 h2
          have hU : Aside (U ((v - p) % 4294967296)) := ⟨U_mod _⟩
          have hk5' : k = 1 ∨ k = 2 ∨ k = 3 ∨ k = 4 ∨ k = 5 := by omega
          clear h5 k0 k6 k7 h6 hk5 ofc
          rcases hk5' with rfl | rfl | rfl | rfl | rfl
          · go_wp2_with ((go_at_call 51); (refine Calls.mono (Hi_calls v hv _) ?_); (rintro e w3 ⟨rfl, k3⟩); (have hb3 := Aside.mk (hb2.out.kp k3)); (obtain ⟨-, p0, p1, p2, p3, p4, q0, q1, q2, q3, q4⟩ := hb3.out.five))
            go_meet
            simp only [immP_1, immP_2, immP_3, immP_4, immP_5]
            exact ⟨(kk.out.trans k3).setCell hbs.out _, hb3.out.set _⟩
          · go_wp2_with ((go_at_call 52); (refine Calls.mono (Lo_calls v hv _) ?_); (rintro e w3 ⟨rfl, k3⟩); (have hb3 := Aside.mk (hb2.out.kp k3)); (obtain ⟨-, p0, p1, p2, p3, p4, q0, q1, q2, q3, q4⟩ := hb3.out.five))
            go_meet
            simp only [immP_1, immP_2, immP_3, immP_4, immP_5]
            exact ⟨(kk.out.trans k3).setCell hbs.out _, hb3.out.set _⟩
          · go_wp2_with ((go_at_call 52); (refine Calls.mono (Lo_calls v hv _) ?_); (rintro e w3 ⟨rfl, k3⟩); (have hb3 := Aside.mk (hb2.out.kp k3)); (obtain ⟨-, p0, p1, p2, p3, p4, q0, q1, q2, q3, q4⟩ := hb3.out.five))
            go_meet
            simp only [immP_1, immP_2, immP_3, immP_4, immP_5]
            exact ⟨(kk.out.trans k3).setCell hbs.out _, hb3.out.set _⟩
          · go_wp2_with ((go_at_call 53); (refine Calls.mono (sgned_calls _ hU.out _) ?_); (rintro e w3 ⟨rfl, k3⟩); (have hb3 := Aside.mk (hb2.out.kp (Dr.kp k3))); (obtain ⟨-, p0, p1, p2, p3, p4, q0, q1, q2, q3, q4⟩ := hb3.out.five))
            go_meet
            simp only [immP_1, immP_2, immP_3, immP_4, immP_5]
            exact ⟨(kk.out.trans (Dr.kp k3)).setCell hbs.out _, hb3.out.set _⟩
          · go_wp2_with ((go_at_call 53); (refine Calls.mono (sgned_calls _ hU.out _) ?_); (rintro e w3 ⟨rfl, k3⟩); (have hb3 := Aside.mk (hb2.out.kp (Dr.kp k3))); (obtain ⟨-, p0, p1, p2, p3, p4, q0, q1, q2, q3, q4⟩ := hb3.out.five))
            go_meet
            simp only [immP_1, immP_2, immP_3, immP_4, immP_5]
            exact ⟨(kk.out.trans (Dr.kp k3)).setCell hbs.out _, hb3.out.set _⟩
        case rest =>
          clear hb2 il i0 i1 i2 i3 i4 j0 j1 j2 j3 j4 kk
          obtain ⟨kx, hx5⟩ := hcut
          replace kx := Aside.mk kx
          replace hx5 := Aside.mk hx5
          obtain ⟨il, i0, i1, i2, i3, i4, -⟩ := hx5.out.five
          have him := immP_range k v p
          have fc := fun w => Fits_calls op (immP k v p) h1 ⟨by omega, by omega⟩ w
          have ec := fun w => Encode_calls op rd rs1 rs2 (immP k v p) h1 ⟨by omega, by omega⟩ w
          have h0 : insE op rd rs1 rs2 0 = 0 := by
            rcases hd.out with h | h
            · exact h.2.1
            · exact absurd h.1 (by decide)
          have hi := ins_imm (m := immP k v p) hof'.out h0
          replace fc := Aside.mk fc
          clear h0
          cases hfo : fitsOp op (immP k v p)
          · rw [hfo] at fc
            replace hfo := Aside.mk hfo
            clear hi ec
            go_wp2_with ((go_at_call 54); (refine Calls.mono (fc.out _) ?_); (rintro e w5 ⟨rfl, k5⟩); (have hb5 := Aside.mk (hx5.out.kp k5)); clear il i0 i1 i2 i3 i4; (obtain ⟨il, i0, i1, i2, i3, i4, -⟩ := hb5.out.five))
            go_ret2
            exact ⟨0, 7, rfl, Or.inr (Or.inr ⟨hk5.out, op, rd, rs1, rs2, 0, 0, hd.out, Or.inr ⟨rfl, rfl, hof'.out, Or.inl ⟨hfo.out, rfl, rfl⟩⟩⟩), kx.out.trans k5⟩
          · rw [hfo] at fc hi
            rw [hi] at ec
            replace ec := Aside.mk ec
            replace hfo := Aside.mk hfo
            clear hi
            go_wp2_with (first | ((go_at_call 54); (refine Calls.mono (fc.out _) ?_); (rintro e w5 ⟨rfl, k5⟩); (have hb5 := Aside.mk (hx5.out.kp k5)); clear il i0 i1 i2 i3 i4; (obtain ⟨il, i0, i1, i2, i3, i4, -⟩ := hb5.out.five)) | ((go_at_call 29); (refine Calls.mono (ec.out _) ?_); (rintro e w6 ⟨rfl, k6⟩)))
            go_ret2
            exact ⟨_, 0, rfl, Or.inr (Or.inr ⟨hk5.out, op, rd, rs1, rs2, 0, 0, hd.out, Or.inr ⟨rfl, rfl, hof'.out, Or.inr ⟨hfo.out, rfl, rfl⟩⟩⟩), (kx.out.trans k5).trans k6⟩
      · have hof' := Aside.mk hof
        have ofd : decide (ofK k op) = false := by simpa using hof
        rw [ofd] at ofc
        clear ofd hof
        go_wp2_with ((go_at_call 50); (refine Calls.mono (ofc.out _) ?_); (rintro e w2 ⟨rfl, k2⟩))
        go_ret2
        exact ⟨0, 2, rfl, Or.inr (Or.inr ⟨hk5.out, op, rd, rs1, rs2, 0, 0, hd.out, Or.inl ⟨Or.inr (Or.inr hof'.out), rfl, rfl⟩⟩), kk.out.trans k2⟩
    · have hn' := Aside.mk hn
      go_wp2_with fail
      go_ret2
      exact ⟨0, 2, rfl, Or.inr (Or.inr ⟨hk5.out, op, rd, rs1, rs2, n, 0, hd.out, Or.inl ⟨Or.inr (Or.inl hn'.out), rfl, rfl⟩⟩), kk.out⟩
  · go_wp2_with fail
    go_ret2
    exact ⟨0, 2, rfl, Or.inr (Or.inr ⟨hk5.out, op, rd, rs1, rs2, n, 2, hd.out, Or.inl ⟨Or.inl (by decide), rfl, rfl⟩⟩), kk.out⟩
end Go.Proofs.Ytnbooljaodkedaa
