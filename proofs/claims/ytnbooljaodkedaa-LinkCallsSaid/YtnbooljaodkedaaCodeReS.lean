/- The reference's Encode, walked: a kind. -/
import Derived.Test.YtnbooljaodkedaaCodeRe
import Derived.Deep.CutBlock
namespace Go.Proofs.Ytnbooljaodkedaa
open Go.RowKit Go.Maps Go.Proofs.Ytnbooljaodkedaa.PC
set_option linter.unusedVariables false
set_option linter.unusedSimpArgs false
set_option maxRecDepth 100000 in
set_option maxHeartbeats 4000000 in
theorem rEnc_S (op rd rs1 rs2 n o f3 f7 r : Int) (hn : -9223372036854775808 ≤ n ∧ n ≤ 9223372036854775807) (hg : (⟨83, o, f3, f7, r⟩ : Fm).good) (hf : formOf op = some ⟨83, o, f3, f7, r⟩) (hr : True) (w : World) :
    Calls Try.prog 24 #[.agg #[.int .i64 op, .int .i64 rd, .int .i64 rs1, .int .i64 rs2, .int .i64 n]] w fun e w' => e = .returned (.tuple #[.int .u32 (insW op rd rs1 rs2 n), .int .i64 (insE op rd rs1 rs2 n)]) ∧ Kp w w' := by
  have oc := Of_calls op
  have hro : refOf op = .agg #[.int .u8 83, .int .i64 o, .int .i64 f3, .int .i64 f7, .int .i64 r] := by simp [refOf, hf, rowV]
  rw [hro] at oc
  replace oc := Aside.mk oc
  clear hro
  have q2 : (rd ≠ 0) ↔ (¬(⟨83, o, f3, f7, r⟩ : Fm).uRd ∧ rd ≠ 0 ∨ ¬(⟨83, o, f3, f7, r⟩ : Fm).uRs1 ∧ rs1 ≠ 0 ∨ ¬(⟨83, o, f3, f7, r⟩ : Fm).uRs2 ∧ rs2 ≠ 0 ∨ ¬(⟨83, o, f3, f7, r⟩ : Fm).uImm ∧ n ≠ 0) := by
    simp [Fm.uRd, Fm.uRs1, Fm.uRs2, Fm.uImm, hr]
  have q1 : (rd < 0 ∨ 31 < rd ∨ rs1 < 0 ∨ 31 < rs1 ∨ rs2 < 0 ∨ 31 < rs2 ∨ ¬fitsK 83 n) ↔ (rd < 0 ∨ 31 < rd ∨ rs1 < 0 ∨ 31 < rs1 ∨ rs2 < 0 ∨ 31 < rs2 ∨ (⟨83, o, f3, f7, r⟩ : Fm).uImm ∧ ¬fitsK 83 n) := by
    simp [Fm.uImm]
  replace q1 := Aside.mk q1
  replace q2 := Aside.mk q2
  replace hg := Aside.mk hg
  replace hf := Aside.mk hf
  replace hr := Aside.mk hr
  go_enter Try.func24, Try.ntmps24
  go_upto_region 3 with ((go_at_call 36); (refine Calls.mono (oc.out _) ?_); (rintro e w1 ⟨rfl, kp1⟩))
  have hW : RInW w ⟨83, o, f3, f7, r⟩ r op rd rs1 rs2 n w1.heap.size (w1.alloc (Obj.cells #[Value.int IntKind.u8 83, Value.int IntKind.i64 o, Value.int IntKind.i64 f3, Value.int IntKind.i64 f7, Value.int IntKind.i64 r] 108)) := ⟨(((Kp.refl w).alloc _).trans kp1).alloc _, ((Blk.new _ _ _).kp kp1).alloc _, Blk.new _ _ _⟩
  clear kp1
  obtain ⟨b, hb⟩ : ∃ b, b = w1.heap.size := ⟨_, rfl⟩
  rw [← hb] at hW ⊢
  generalize hWW : w1.alloc (Obj.cells #[Value.int IntKind.u8 83, Value.int IntKind.i64 o, Value.int IntKind.i64 f3, Value.int IntKind.i64 f7, Value.int IntKind.i64 r] 108) = W at *
  clear hWW hb
  replace hW := Aside.mk hW
  obtain ⟨il, i0, i1, i2, i3, i4, -⟩ := hW.out.2.1.five
  obtain ⟨rl, r0, r1, r2, r3, r4, -⟩ := hW.out.2.2.five
  go_upto_region 23 with fail
  go_cut [65] (fun s wx => s = .bool (decide (rd ≠ 0)) ∧ wx = W)
  case first =>
    by_cases d : rd = 0
    · subst d
      go_wp2
      go_meet
      exact ⟨by simp, rfl⟩
    · go_wp2
      go_meet
      exact ⟨by simp [d], rfl⟩
  case rest =>
    obtain ⟨rfl, rfl⟩ := hcut
    by_cases hb2 : rd ≠ 0
    · go_wp2
      go_ret2
      obtain ⟨t1, t2⟩ := ins_two (op := op) hf.out (q2.out.1 hb2)
      rw [t1, t2]
      exact ⟨rfl, hW.out.1⟩
    · have hp := Aside.mk (passed_of (fun h => hb2 (q2.out.2 h)))
      go_upto_region 25 with fail
      clear hb2
      go_cut [103] (fun s wx => s = .bool (decide (rd < 0 ∨ 31 < rd ∨ rs1 < 0 ∨ 31 < rs1 ∨ rs2 < 0 ∨ 31 < rs2 ∨ ¬fitsK 83 n)) ∧ RInW w ⟨83, o, f3, f7, r⟩ r op rd rs1 rs2 n b wx)
      case first =>
        by_cases e0 : rd < 0
        · first
          | (exfalso; omega)
          | (go_wp2; go_meet; exact ⟨by simp [e0], hW.out⟩)
        by_cases e1 : 31 < rd
        · first
          | (exfalso; omega)
          | (go_wp2; go_meet; exact ⟨by simp [e0, e1], hW.out⟩)
        by_cases e2 : rs1 < 0
        · first
          | (exfalso; omega)
          | (go_wp2; go_meet; exact ⟨by simp [e0, e1, e2], hW.out⟩)
        by_cases e3 : 31 < rs1
        · first
          | (exfalso; omega)
          | (go_wp2; go_meet; exact ⟨by simp [e0, e1, e2, e3], hW.out⟩)
        by_cases e4 : rs2 < 0
        · first
          | (exfalso; omega)
          | (go_wp2; go_meet; exact ⟨by simp [e0, e1, e2, e3, e4], hW.out⟩)
        by_cases e5 : 31 < rs2
        · first
          | (exfalso; omega)
          | (go_wp2; go_meet; exact ⟨by simp [e0, e1, e2, e3, e4, e5], hW.out⟩)
        by_cases cf : fitsK 83 n
        · go_wp2_with (first | ((go_at_call 37); (refine Calls.mono (rFits_calls 83 _ _ _ _ n ?_ hn _) ?_); (simp); (rintro e w5 ⟨rfl, kp5⟩)))
          go_meet
          exact ⟨by simp [e0, e1, e2, e3, e4, e5, cf], hW.out.kp kp5⟩
        · go_wp2_with (first | ((go_at_call 37); (refine Calls.mono (rFits_calls 83 _ _ _ _ n ?_ hn _) ?_); (simp); (rintro e w5 ⟨rfl, kp5⟩)))
          go_meet
          exact ⟨by simp [e0, e1, e2, e3, e4, e5, cf], hW.out.kp kp5⟩
      case rest =>
        clear hW il i0 i1 i2 i3 i4 rl r0 r1 r2 r3 r4
        obtain ⟨rfl, hW⟩ := hcut
        replace hW := Aside.mk hW
        by_cases hb1 : rd < 0 ∨ 31 < rd ∨ rs1 < 0 ∨ 31 < rs1 ∨ rs2 < 0 ∨ 31 < rs2 ∨ ¬fitsK 83 n
        · go_wp2
          all_goals
            go_ret2
            obtain ⟨t1, t2⟩ := ins_one1 (op := op) hf.out hp.out (q1.out.1 hb1)
            rw [t1, t2]
            exact ⟨rfl, hW.out.1⟩
        · obtain ⟨t1, t2, t3⟩ := ins_ok (op := op) hf.out hp.out (fun h => hb1 (q1.out.2 h))
          replace t1 := Aside.mk t1
          replace t2 := Aside.mk t2
          replace t3 := Aside.mk t3
          obtain ⟨il, i0, i1, i2, i3, i4, -⟩ := hW.out.2.1.five
          obtain ⟨rl, r0, r1, r2, r3, r4, -⟩ := hW.out.2.2.five
          have gb := hg.out
          obtain ⟨g1, g2, g3, g4, g5, g6, -⟩ := gb
          simp only at g1 g2 g3 g4 g5 g6
          obtain ⟨-, -, -, -, x1, x2, x3, x4, x5, x6, -⟩ := encE_zero t3.out
          have v1 := fieldV_range n 0 5
          have v2 := fieldV_range n 5 7
          go_wp2_with fail
          all_goals
            (go_quiet (first | (go_at_call 39; exact quiet_dr (field_calls' _ _ _ hn (by decide) (by decide) _)) | (go_at_call 38; exact Calls.quiet_of_same (word_calls _ _ _ _ _ _ (by omega) (by omega) (by omega) (by omega) (by omega) (by omega) _))))
            go_wp2
            go_ret2
            rw [t1.out, t2.out]
            exact ⟨congrArg (fun q => Ending.returned (Value.tuple #[.int .u32 q, .int .i64 0])) (word_S hg.out t3.out), by have q := hW.out.1; repeat (with_reducible first | exact Kp.refl _ | assumption | exact Dr.kp (by assumption) | refine Kp.drewN ?_ _ | refine Kp.drew ?_ | refine Kp.alloc ?_ _ | refine Kp.setCell ?_ (by first | exact Nat.le_refl _ | assumption | omega) _ | refine Kp.trans ?_ (by assumption) | refine Kp.trans ?_ (Dr.kp (by assumption)))⟩
end Go.Proofs.Ytnbooljaodkedaa
