/- Arrays of two numbers, compared. No condition. -/
import Derived.Test.YtkianddaccoeiaaLivA
import Derived.ChangeKeysEq
namespace Go.Proofs.Ytkianddaccoeiaa
open Go.RowKit Go.Maps
set_option linter.unusedVariables false
set_option linter.unusedSimpArgs false
set_option maxRecDepth 100000 in
theorem info_int' : ∃ i z, Try.prog.info? 3 = some i ∧ i.zero = some z ∧ i.size = 1 ∧ i.bytes = 8 ∧ z.cells.size = 1 := ⟨_, _, rfl, rfl, rfl, rfl, rfl⟩
set_option maxRecDepth 100000 in
theorem eq2_run (w : World) (a b c d : Int) : (Op.equalIn 10000 39 (.agg #[.int .i64 a, .int .i64 b]) (.agg #[.int .i64 c, .int .i64 d])).run Try.prog w = .ok (a == c && b == d) w := by
  obtain ⟨i, z, hi, -, -, -, -⟩ := info_int'
  rw [run_equalIn_array (e := 3) (n := 2) (i := i) w 9999 _ _ rfl hi]
  have hc : Try.prog.cellsOf 3 = 1 := rfl
  rw [hc]
  simp only [show List.range 2 = [0, 1] from rfl, Op.eqItems, Sem.run_bind]
  have p0 : ∀ (x y : Int) (V : World), (part 3 #[.int .i64 x, .int .i64 y] (0 * 1)).run Try.prog V = .ok (.int .i64 x) V := fun x y V => rfl
  have p1 : ∀ (x y : Int) (V : World), (part 3 #[.int .i64 x, .int .i64 y] (1 * 1)).run Try.prog V = .ok (.int .i64 y) V := fun x y V => rfl
  have q : ∀ (x y : Int) (V : World), (Op.equalIn 9999 3 (.int .i64 x) (.int .i64 y)).run Try.prog V = .ok (x == y) V := fun x y V => run_equalIn_int (P := Try.prog) V 9998 3 .i64 .i64 x y rfl
  rw [p0]
  simp only [Result.andThen_ok]
  rw [p0]
  simp only [Result.andThen_ok]
  rw [q]
  simp only [Result.andThen_ok]
  cases hac : (a == c)
  · simp
  · simp only [Bool.not_true, Bool.false_eq_true, if_false, Sem.run_bind]
    rw [p1]
    simp only [Result.andThen_ok]
    rw [p1]
    simp only [Result.andThen_ok]
    rw [q]
    simp only [Result.andThen_ok]
    cases hbd : (b == d) <;> simp
end Go.Proofs.Ytkianddaccoeiaa
