/- The laws of layer 3 (code) that ask Encode alone, walked: each call returns true. Condition: the arguments are numbers of their types. -/
import Derived.Test.YtkmklmpolnkkeaaCodeN
import Derived.Test.YtkmklmpolnkkeaaCodeDb
import Derived.Test.YtkmklmpolnkkeaaCodeRg
import Derived.Test.YtkmklmpolnkkeaaCodeOpen
namespace Go.Proofs.Ytkmklmpolnkkeaa
open Go.RowKit Go.Maps Go.Proofs.Ytkmklmpolnkkeaa.PC
set_option linter.unusedVariables false
set_option linter.unusedSimpArgs false
set_option maxHeartbeats 1000000 in
theorem awake03_calls (w : World) : Calls Try.prog 9 #[] w fun e w' => e = .returned (.bool true) ∧ Kp w w' := by
  have a1 : insW 18 1 2 0 (-1) = 4293984403 := by decide +kernel
  have a2 : insE 18 1 2 0 (-1) = 0 := by decide +kernel
  have a3 : insW 42 0 0 0 0 = 115 := by decide +kernel
  have a4 : insE 42 0 0 0 0 = 0 := by decide +kernel
  go_enter Try.func9, Try.ntmps9
  go_wp2_with fail
  refine Calls.mono (Encode_calls 18 1 2 0 (-1) (by decide) (by decide) _) ?_
  rintro e w1 ⟨rfl, k1⟩
  go_wp2_with fail
  refine Calls.mono (Encode_calls 42 0 0 0 0 (by decide) (by decide) _) ?_
  rintro e w2 ⟨rfl, k2⟩
  go_wp2_with fail
  go_ret
  exact ⟨rfl, by repeat (with_reducible first | exact Kp.refl _ | assumption | exact Dr.kp (by assumption) | refine Kp.drewN ?_ _ | refine Kp.drew ?_ | refine Kp.alloc ?_ _ | refine Kp.setCell ?_ (by first | exact Nat.le_refl _ | assumption | omega) _ | refine Kp.trans ?_ (by assumption) | refine Kp.trans ?_ (Dr.kp (by assumption)))⟩
set_option maxHeartbeats 1000000 in
theorem codeOne_any (op rd rs1 rs2 n op' rd' rs1' rs2' n' : Int) (h1 : I64 op) (h2 : I64 n) (h1' : I64 op') (h2' : I64 n') (w : World) :
    Calls Try.prog 3 #[.agg #[.int .i64 op, .int .i64 rd, .int .i64 rs1, .int .i64 rs2, .int .i64 n], .agg #[.int .i64 op', .int .i64 rd', .int .i64 rs1', .int .i64 rs2', .int .i64 n']] w fun e w' => e = .returned (.bool true) ∧ Kp w w' := by
  go_enter Try.func3, Try.ntmps3
  go_wp2_with fail
  refine Calls.mono (awake03_calls _) ?_
  rintro e w1 ⟨rfl, k1⟩
  have b1 := Aside.mk (((Blk.new _ _ _).alloc _).kp k1)
  have b2 := Aside.mk ((Blk.new _ _ _).kp k1)
  simp only [World.size_alloc] at b2
  obtain ⟨x, x0, x1, x2, x3, x4, -⟩ := b1.out.five
  obtain ⟨y, y0, y1, y2, y3, y4, -⟩ := b2.out.five
  go_wp2_with fail
  refine Calls.mono (Encode_calls op rd rs1 rs2 n h1 h2 _) ?_
  rintro e w2 ⟨rfl, k2⟩
  replace b1 := Aside.mk (b1.out.kp k2)
  replace b2 := Aside.mk (b2.out.kp k2)
  clear x x0 x1 x2 x3 x4 y y0 y1 y2 y3 y4
  obtain ⟨x, x0, x1, x2, x3, x4, -⟩ := b1.out.five
  obtain ⟨y, y0, y1, y2, y3, y4, -⟩ := b2.out.five
  go_wp2_with fail
  refine Calls.mono (Encode_calls op' rd' rs1' rs2' n' h1' h2' _) ?_
  rintro e w3 ⟨rfl, k3⟩
  replace b1 := Aside.mk (b1.out.kp k3)
  replace b2 := Aside.mk (b2.out.kp k3)
  clear x x0 x1 x2 x3 x4 y y0 y1 y2 y3 y4
  obtain ⟨x, x0, x1, x2, x3, x4, -⟩ := b1.out.five
  obtain ⟨y, y0, y1, y2, y3, y4, -⟩ := b2.out.five
  have kk : Aside (Kp w w3) := ⟨((((Kp.refl w).alloc _).alloc _).trans k1).trans (k2.trans k3)⟩
  clear k1 k2 k3
  by_cases e1 : insE op rd rs1 rs2 n = 0
  · by_cases e2 : insE op' rd' rs1' rs2' n' = 0
    · by_cases hw : insW op rd rs1 rs2 n = insW op' rd' rs1' rs2' n'
      · obtain ⟨rfl, rfl, rfl, rfl, rfl⟩ := ins_one e1 e2 hw
        go_wp2
        all_goals
          go_ret
          exact ⟨by simp, kk.out⟩
      · have hne : ¬(op = op' ∧ rd = rd' ∧ rs1 = rs1' ∧ rs2 = rs2' ∧ n = n') := by
          rintro ⟨rfl, rfl, rfl, rfl, rfl⟩
          exact hw rfl
        go_wp2
        all_goals
          go_ret
          refine ⟨?_, kk.out⟩
          clear x x0 x1 x2 x3 x4 y y0 y1 y2 y3 y4 b1 b2 kk
          simp_all
    · go_wp2
      go_ret
      exact ⟨rfl, kk.out⟩
  · go_wp2
    go_ret
    exact ⟨rfl, kk.out⟩
theorem Blk.three {w : World} {b : Nat} {a0 a1 a2 : Value} {ty : TypeId} (h : Blk w b #[a0, a1, a2] ty) : b < w.heap.size ∧ w.cell? ⟨b, 0, none⟩ = some a0 ∧ w.cell? ⟨b, 1, none⟩ = some a1 ∧ w.cell? ⟨b, 2, none⟩ = some a2 :=
  ⟨h.lt, h.cell 0, h.cell 1, h.cell 2⟩
set_option maxHeartbeats 1000000 in
theorem codeRegs_any (op a b c turn : Int) (h1 : I64 op) (ha : 0 ≤ a ∧ a ≤ 255) (hb : 0 ≤ b ∧ b ≤ 255) (hc : 0 ≤ c ∧ c ≤ 255) (ht : 0 ≤ turn ∧ turn ≤ 255) (w : World) :
    Calls Try.prog 4 #[.int .i64 op, .agg #[.int .u8 a, .int .u8 b, .int .u8 c], .int .u8 turn] w fun e w' => e = .returned (.bool true) ∧ Kp w w' := by
  have hu : 0 ≤ IntKind.u64.wrap op := by rw [IntKind.wrap_u64]; omega
  go_enter Try.func4, Try.ntmps4
  go_wp2_with fail
  refine Calls.mono (awake03_calls _) ?_
  rintro e w1 ⟨rfl, k1⟩
  have b1 := Aside.mk ((Blk.new _ _ _).kp k1)
  have kk : Aside (Kp w w1) := ⟨((Kp.refl w).alloc _).trans k1⟩
  clear k1
  obtain ⟨x, x0, x1, x2⟩ := b1.out.three
  go_wp2_with fail
  have ho : 1 ≤ IntKind.u64.wrap op % 17 + 1 ∧ IntKind.u64.wrap op % 17 + 1 ≤ 17 := by omega
  have hra : 0 ≤ a % 32 ∧ a % 32 ≤ 31 := by omega
  have hrb : 0 ≤ b % 32 ∧ b % 32 ≤ 31 := by omega
  have hrc : 0 ≤ c % 32 ∧ c % 32 ≤ 31 := by omega
  have hrt : 0 ≤ turn % 31 ∧ turn % 31 ≤ 30 := by omega
  clear b1 x x0 x1 x2 hu h1 ha hb hc
  generalize IntKind.u64.wrap op % 17 + 1 = o at *
  generalize a % 32 = rd at *
  generalize b % 32 = rs1 at *
  generalize c % 32 = rs2 at *
  obtain ⟨e1, v1, v2, v3, v4, v5, e2, u1, u2, u3⟩ := regs_law ho hra hrb hrc hrt
  replace e1 := Aside.mk e1
  replace e2 := Aside.mk e2
  replace u2 := Aside.mk u2
  replace u3 := Aside.mk u3
  replace v2 := Aside.mk v2
  replace v3 := Aside.mk v3
  replace v4 := Aside.mk v4
  replace v5 := Aside.mk v5
  refine Calls.mono (Encode_calls o rd rs1 rs2 0 (by omega) (by decide) _) ?_
  rintro e w2 ⟨rfl, k2⟩
  have b2 := Aside.mk ((Blk.new _ _ _).kp k2)
  obtain ⟨y, y0, y1, y2, y3, y4, -⟩ := b2.out.five
  have k2' : Aside (Kp w w2) := ⟨(kk.out.alloc _).trans k2⟩
  clear k2 kk
  rw [e1.out]
  generalize insW o rd rs1 rs2 0 = W1 at *
  have g2 := v2.out
  have g3 := v3.out
  have g4 := v4.out
  have g5 := v5.out
  go_wp2_with fail
  have hr : I64 o := by unfold I64; omega
  generalize (rd + 1 + turn % 31) % 32 = r at *
  refine Calls.mono (Encode_calls o r rs1 rs2 0 hr (by decide) _) ?_
  rintro e w3 ⟨rfl, k3⟩
  have k3' : Aside (Kp w w3) := ⟨(k2'.out.alloc _).trans k3⟩
  clear k3 k2' g2 g3 g4 g5
  rw [e2.out]
  generalize insW o r rs1 rs2 0 = W2 at *
  have g1 : (W2 == W1) = false := by simpa using u2.out
  have g2 : (W2 != W1) = true := by simpa using u2.out
  have g3 := u3.out
  go_wp2
  go_ret
  exact ⟨rfl, k3'.out⟩
end Go.Proofs.Ytkmklmpolnkkeaa
