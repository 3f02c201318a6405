/- The reference's rows, walked. -/
import Derived.Test.YtgcihcgclmdolaaCodeR
namespace Go.Proofs.Ytgcihcgclmdolaa
open Go.RowKit Go.Maps Go.Proofs.Ytgcihcgclmdolaa.PC
set_option linter.unusedVariables false
set_option linter.unusedSimpArgs false
/-- A row of the reference's table. -/
def rowV (f : Fm) : Value := .agg #[.int .u8 f.kind, .int .i64 f.op, .int .i64 f.f3, .int .i64 f.f7, .int .i64 (if f.kind = 69 then 0 else f.rs2)]
def refOf (op : Int) : Value := match formOf op with | none => .agg #[.int .u8 0, .int .i64 0, .int .i64 0, .int .i64 0, .int .i64 0] | some f => rowV f
set_option maxHeartbeats 1000000 in
theorem rFits_calls (kd a b c d n : Int) (hk : kd = 0 ∨ kd = 82 ∨ kd = 73 ∨ kd = 72 ∨ kd = 83 ∨ kd = 66 ∨ kd = 85 ∨ kd = 74 ∨ kd = 69) (hn : -9223372036854775808 ≤ n ∧ n ≤ 9223372036854775807) (w : World) :
    Calls Try.prog 36 #[.agg #[.int .u8 kd, .int .i64 a, .int .i64 b, .int .i64 c, .int .i64 d], .int .i64 n] w fun e w' => e = .returned (.bool (decide (fitsK kd n))) ∧ Kp w w' := by
  have ht : Int.tmod n 2 = 0 ↔ n % 2 = 0 := ⟨fun h => by have := Int.dvd_of_tmod_eq_zero h; omega, fun h => (half_even h).1⟩
  replace ht := Aside.mk ht
  rcases hk with rfl | rfl | rfl | rfl | rfl | rfl | rfl | rfl | rfl <;>
  · go_enter Try.func36, Try.ntmps36
    go_wp2
    all_goals
      go_ret
      refine ⟨congrArg (fun b => Ending.returned (Value.bool b)) ?_, by repeat (with_reducible first | exact Kp.refl _ | assumption | exact Dr.kp (by assumption) | refine Kp.drewN ?_ _ | refine Kp.drew ?_ | refine Kp.alloc ?_ _ | refine Kp.setCell ?_ (by first | exact Nat.le_refl _ | assumption | omega) _ | refine Kp.trans ?_ (by assumption) | refine Kp.trans ?_ (Dr.kp (by assumption)))⟩
      rw [Bool.eq_iff_iff]
      have ht := ht.out
      simp [fitsK]
      try omega
set_option maxHeartbeats 1000000 in
theorem word_calls (op rd f3 rs1 rs2 f7 : Int) (h1 : 0 ≤ op ∧ op ≤ 1048576) (h2 : 0 ≤ rd ∧ rd ≤ 1048576) (h3 : 0 ≤ f3 ∧ f3 ≤ 1048576) (h4 : 0 ≤ rs1 ∧ rs1 ≤ 1048576) (h5 : 0 ≤ rs2 ∧ rs2 ≤ 1048576) (h6 : 0 ≤ f7 ∧ f7 ≤ 1048576) (w : World) :
    Calls Try.prog 37 #[.int .i64 op, .int .i64 rd, .int .i64 f3, .int .i64 rs1, .int .i64 rs2, .int .i64 f7] w fun e w' => e = .returned (.int .u32 ((op + 128 * rd + 4096 * f3 + 32768 * rs1 + 1048576 * rs2 + 33554432 * f7) % 4294967296)) ∧ w' = w := by
  go_enter Try.func37, Try.ntmps37
  go_wp2
  go_ret
  exact ⟨rfl, rfl⟩
end Go.Proofs.Ytgcihcgclmdolaa
