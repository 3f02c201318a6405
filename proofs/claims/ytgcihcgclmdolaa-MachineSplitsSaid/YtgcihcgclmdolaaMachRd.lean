/- Operations of reals: Do, Compare, Neg, ToInt, walked. No condition but ranges. -/
import Derived.Test.YtgcihcgclmdolaaMachR
import Derived.Laws.FloatArith
import Derived.Laws.BitsAllLaws
namespace Go.Proofs.Ytgcihcgclmdolaa
open Go.RowKit Go.Proofs.Ytgcihcgclmdolaa.PC Go.Proofs.Ytgcihcgclmdolaa.PW
set_option linter.unusedVariables false
set_option linter.unusedSimpArgs false
theorem sgnW : FloatKind.f64.format.signWeight = 9223372036854775808 := by decide
theorem binW : FloatKind.f64.format.binade = 4503599627370496 := by decide
theorem infW : FloatKind.f64.format.infRung = 9218868437227405312 := by decide
theorem read_nan (b : Nat) (h : 9218868437227405312 < b % 9223372036854775808) : ∃ s t, FloatKind.f64.format.read b = .nan s t := by
  unfold Ieee.Format.read
  simp only [sgnW, binW, infW]
  rw [if_neg (by omega), if_neg (by omega), if_neg (by omega)]
  exact ⟨_, _, rfl⟩
theorem numB_nan (b : Nat) (h : 9218868437227405312 < b % 9223372036854775808) : numB b = false := by
  obtain ⟨s, t, e⟩ := read_nan b h
  unfold numB Ieee.Format.order
  rw [e]
  rfl
/-- What an operation of two reals gives. -/
def fopV (op : BinOp) (x y : Nat) : Int := match floatBits op .f64 x y with | some r => canV r | none => 9221120237041090560
theorem lt64 {op : BinOp} {x y r : Nat} (h : floatBits op .f64 x y = some r) : r < 2 ^ 64 := of_decide_eq_true (floatBits_wf h)
theorem fopV_U (op : BinOp) (x y : Nat) : U64 (fopV op x y) := by
  unfold fopV
  cases h : floatBits op .f64 x y with
  | none => exact ⟨by decide, by decide⟩
  | some r => exact canV_U (by have := lt64 h; omega)
theorem fop_run (op : BinOp) (hop : op = .add ∨ op = .sub ∨ op = .mul ∨ op = .quo) (t : TypeId) (x y : Nat) (w : World) : ∃ r w', (binOp op t (.float .f64 x) (.float .f64 y)).run Try.prog w = .ok (.float .f64 r) w' ∧ Dr w w' ∧ canV r = fopV op x y := by
  cases h : floatBits op .f64 x y with
  | some r => exact ⟨r, w, run_float_arith w op t .f64 x y r h, Dr.refl _, by unfold fopV; rw [h]⟩
  | none =>
    have hn : ∃ r, (binOp op t (.float .f64 x) (.float .f64 y)).run Try.prog w = .ok (.float .f64 r) w.drew ∧ 9218868437227405312 < r % 9223372036854775808 := by
      refine ⟨(Question.nanBits .f64 x y).cut (w.tape w.drawn (.nanBits .f64 x y)), ?_, ?_⟩
      · unfold floatBits at h
        rcases hop with rfl | rfl | rfl | rfl
        all_goals
          simp only at h
          simp [binOp, Op.floatArith, h, Question.forced]
      · simp only [Question.cut, Nat.reducePow, Nat.reduceSub]
        have hr := Nat.mod_lt (w.tape w.drawn (Question.nanBits FloatKind.f64 x y) / 2) (show 0 < 4503599627370495 by decide)
        generalize w.tape w.drawn (Question.nanBits FloatKind.f64 x y) / 2 % 4503599627370495 = r at *
        generalize w.tape w.drawn (Question.nanBits FloatKind.f64 x y) % 2 = s
        rw [show s * 9223372036854775808 + 9218868437227405312 + 1 + r = 9223372036854775808 * s + (9218868437227405313 + r) by omega, Nat.mul_add_mod, Nat.mod_eq_of_lt (by omega)]
        omega
    obtain ⟨r, hr, hb⟩ := hn
    refine ⟨r, w.drew, hr, ⟨⟨1, rfl⟩⟩, ?_⟩
    unfold fopV canV
    rw [h, numB_nan r hb]
    rfl
def bopV (op : Int) : BinOp := if op = 45 then .add else if op = 46 then .sub else if op = 47 then .mul else .quo
set_option maxHeartbeats 1000000 in
theorem fdo_calls (op a b : Int) (hop : 45 ≤ op ∧ op ≤ 48) (w : World) : Calls Try.prog 60 #[.int .i64 op, .int .u64 a, .int .u64 b] w fun e w' => e = .returned (.tuple #[.int .u64 (fopV (bopV op) a.toNat b.toNat), .int .i64 0]) ∧ Dr w w' := by
  have h' : op = 45 ∨ op = 46 ∨ op = 47 ∨ op = 48 := by omega
  clear hop
  rcases h' with rfl | rfl | rfl | rfl
  · obtain ⟨r, w', hr, hd, hc⟩ := fop_run .add (by simp) 128 a.toNat b.toNat w
    replace hc := Aside.mk hc
    replace hd := Aside.mk hd
    go_enter Try.func60, Try.ntmps60
    go_wp2_with (first | ((go_at_call 64); (refine Calls.mono (fof_calls _ _) ?_); (rintro e w1 ⟨rfl, rfl⟩)) | ((go_at_call 63); (refine Calls.mono (fbits_calls _ _) ?_); (rintro e w1 ⟨rfl, rfl⟩)))
    go_ret2
    exact ⟨by rw [hc.out]; rfl, hd.out⟩
  · obtain ⟨r, w', hr, hd, hc⟩ := fop_run .sub (by simp) 128 a.toNat b.toNat w
    replace hc := Aside.mk hc
    replace hd := Aside.mk hd
    go_enter Try.func60, Try.ntmps60
    go_wp2_with (first | ((go_at_call 64); (refine Calls.mono (fof_calls _ _) ?_); (rintro e w1 ⟨rfl, rfl⟩)) | ((go_at_call 63); (refine Calls.mono (fbits_calls _ _) ?_); (rintro e w1 ⟨rfl, rfl⟩)))
    go_ret2
    exact ⟨by rw [hc.out]; rfl, hd.out⟩
  · obtain ⟨r, w', hr, hd, hc⟩ := fop_run .mul (by simp) 128 a.toNat b.toNat w
    replace hc := Aside.mk hc
    replace hd := Aside.mk hd
    go_enter Try.func60, Try.ntmps60
    go_wp2_with (first | ((go_at_call 64); (refine Calls.mono (fof_calls _ _) ?_); (rintro e w1 ⟨rfl, rfl⟩)) | ((go_at_call 63); (refine Calls.mono (fbits_calls _ _) ?_); (rintro e w1 ⟨rfl, rfl⟩)))
    go_ret2
    exact ⟨by rw [hc.out]; rfl, hd.out⟩
  · obtain ⟨r, w', hr, hd, hc⟩ := fop_run .quo (by simp) 128 a.toNat b.toNat w
    replace hc := Aside.mk hc
    replace hd := Aside.mk hd
    go_enter Try.func60, Try.ntmps60
    go_wp2_with (first | ((go_at_call 64); (refine Calls.mono (fof_calls _ _) ?_); (rintro e w1 ⟨rfl, rfl⟩)) | ((go_at_call 63); (refine Calls.mono (fbits_calls _ _) ?_); (rintro e w1 ⟨rfl, rfl⟩)))
    go_ret2
    exact ⟨by rw [hc.out]; rfl, hd.out⟩
/-- Whether a comparison holds. -/
def cmpB (op : Int) (x y : Nat) : Bool := if op = 51 then FloatKind.f64.format.order x y == some .eq else if op = 52 then FloatKind.f64.format.order x y == some .lt else (FloatKind.f64.format.order x y == some .lt || FloatKind.f64.format.order x y == some .eq)
def cmpV (op : Int) (x y : Nat) : Int := if cmpB op x y = true then 1 else 0
theorem cmpV_U (op : Int) (x y : Nat) : U (cmpV op x y) := by
  unfold cmpV U
  split <;> decide
set_option maxHeartbeats 1000000 in
theorem fcmp_calls (op a b : Int) (hop : 51 ≤ op ∧ op ≤ 53) (w : World) : Calls Try.prog 57 #[.int .i64 op, .int .u64 a, .int .u64 b] w fun e w' => e = .returned (.tuple #[.int .u32 (cmpV op a.toNat b.toNat), .int .i64 0]) ∧ w' = w := by
  have h' : op = 51 ∨ op = 52 ∨ op = 53 := by omega
  clear hop
  rcases h' with rfl | rfl | rfl
  · obtain ⟨v, hv⟩ : ∃ v, (FloatKind.f64.format.order a.toNat b.toNat == some .eq) = v := ⟨_, rfl⟩
    have e : Aside (cmpV 51 a.toNat b.toNat = if v = true then 1 else 0) := ⟨by simp [cmpV, cmpB, hv]⟩
    cases v
    all_goals
      go_enter Try.func57, Try.ntmps57
      go_wp2_with (first | ((go_at_call 64); (refine Calls.mono (fof_calls _ _) ?_); (rintro e w1 ⟨rfl, rfl⟩)))
      go_ret2
      exact ⟨by rw [e.out]; rfl, rfl⟩
  · obtain ⟨v, hv⟩ : ∃ v, (FloatKind.f64.format.order a.toNat b.toNat == some .lt) = v := ⟨_, rfl⟩
    have e : Aside (cmpV 52 a.toNat b.toNat = if v = true then 1 else 0) := ⟨by simp [cmpV, cmpB, hv]⟩
    cases v
    all_goals
      go_enter Try.func57, Try.ntmps57
      go_wp2_with (first | ((go_at_call 64); (refine Calls.mono (fof_calls _ _) ?_); (rintro e w1 ⟨rfl, rfl⟩)))
      go_ret2
      exact ⟨by rw [e.out]; rfl, rfl⟩
  · obtain ⟨v, hv⟩ : ∃ v, (FloatKind.f64.format.order a.toNat b.toNat == some .lt) = v := ⟨_, rfl⟩
    obtain ⟨u, hu⟩ : ∃ u, (FloatKind.f64.format.order a.toNat b.toNat == some .eq) = u := ⟨_, rfl⟩
    have e : Aside (cmpV 53 a.toNat b.toNat = if (v || u) = true then 1 else 0) := ⟨by simp [cmpV, cmpB, hv, hu]⟩
    cases v <;> cases u
    all_goals
      go_enter Try.func57, Try.ntmps57
      go_wp2_with (first | ((go_at_call 64); (refine Calls.mono (fof_calls _ _) ?_); (rintro e w1 ⟨rfl, rfl⟩)))
      go_ret2
      exact ⟨by rw [e.out]; rfl, rfl⟩
/-- With another sign. -/
def negN (a : Nat) : Nat := (9223372036854775808 + a) % 18446744073709551616
theorem xor63 (a : Nat) (h : a < 18446744073709551616) : a ^^^ 9223372036854775808 = negN a := by
  unfold negN
  rw [show 9223372036854775808 = 2 ^ 63 from rfl, show 18446744073709551616 = 2 ^ 64 from rfl]
  apply Nat.eq_of_testBit_eq
  intro i
  rw [Nat.testBit_xor, Nat.testBit_mod_two_pow, Nat.testBit_two_pow]
  rcases Nat.lt_trichotomy i 63 with hi | hi | hi
  · rw [Nat.testBit_two_pow_add_gt hi]
    simp [show i < 64 by omega, show ¬63 = i by omega]
  · subst hi
    rw [Nat.testBit_two_pow_add_eq]
    simp
  · have : a.testBit i = false := Nat.testBit_lt_two_pow (Nat.lt_of_lt_of_le (show a < 2 ^ 64 from h) (Nat.pow_le_pow_right (by decide) (by omega)))
    simp [this, show ¬i < 64 by omega, show ¬63 = i by omega]
theorem and63 (a : Nat) (h : a < 18446744073709551616) : a &&& 9223372036854775808 = a / 9223372036854775808 * 9223372036854775808 := by
  rw [show 9223372036854775808 = 2 ^ 63 from rfl]
  apply Nat.eq_of_testBit_eq
  intro i
  rw [Nat.testBit_and, Nat.testBit_two_pow, Nat.mul_comm, Nat.testBit_two_pow_mul]
  rcases Nat.lt_trichotomy i 63 with hi | hi | hi
  · simp [show ¬63 = i by omega, show ¬i ≥ 63 by omega]
  · subst hi
    rw [Nat.sub_self, Nat.testBit_zero, Nat.testBit_eq_decide_div_mod_eq]
    simp
  · have : (a / 2 ^ 63).testBit (i - 63) = false := by
      refine Nat.testBit_lt_two_pow (Nat.lt_of_lt_of_le (show a / 2 ^ 63 < 2 ^ 1 by omega) (Nat.pow_le_pow_right (by decide) (by omega)))
    simp [this, show ¬63 = i by omega]
theorem andN63 (a : Nat) : a &&& 9223372036854775807 = a % 9223372036854775808 := Nat.and_two_pow_sub_one_eq_mod a 63
theorem bx63 (a : Nat) (h : a < 18446744073709551616) : bits .xor .u64 (a : Int) 9223372036854775808 = ((negN a : Nat) : Int) := by
  rw [show (9223372036854775808 : Int) = ((9223372036854775808 : Nat) : Int) from rfl, u64_xor_nat a 9223372036854775808 h (by decide), xor63 a h]
theorem ba63 (a : Nat) (h : a < 18446744073709551616) : bits .and .u64 (a : Int) 9223372036854775808 = ((a / 9223372036854775808 * 9223372036854775808 : Nat) : Int) := by
  rw [show (9223372036854775808 : Int) = ((9223372036854775808 : Nat) : Int) from rfl, u64_and_nat a 9223372036854775808 h (by decide), and63 a h]
theorem bn63 (a : Nat) (h : a < 18446744073709551616) : bits .andNot .u64 (a : Int) 9223372036854775808 = ((a % 9223372036854775808 : Nat) : Int) := by
  rw [show (9223372036854775808 : Int) = ((9223372036854775808 : Nat) : Int) from rfl, u64_andNot_nat a 9223372036854775808 h (by decide), show 18446744073709551615 - 9223372036854775808 = 9223372036854775807 from rfl, andN63 a]
theorem bo63 (a b : Nat) (h : b < 18446744073709551616) : bits .or .u64 ((a % 9223372036854775808 : Nat) : Int) ((b / 9223372036854775808 * 9223372036854775808 : Nat) : Int) = ((a % 9223372036854775808 + b / 9223372036854775808 * 9223372036854775808 : Nat) : Int) := by
  have h64 : (2 : Int) ^ 64 = 18446744073709551616 := by decide
  have h63 : (2 : Int) ^ 63 = 9223372036854775808 := by decide
  have hj := bits_join .u64 64 (by decide) wraps_u64 63 ((b / 9223372036854775808 * 9223372036854775808 : Nat) : Int) ((a % 9223372036854775808 : Nat) : Int) (by omega) (by rw [h63]; omega) (by rw [h64]; omega) (by omega) (by rw [h63]; omega) (by rw [h64]; omega)
  have hc : bits .or .u64 ((a % 9223372036854775808 : Nat) : Int) ((b / 9223372036854775808 * 9223372036854775808 : Nat) : Int) = bits .or .u64 ((b / 9223372036854775808 * 9223372036854775808 : Nat) : Int) ((a % 9223372036854775808 : Nat) : Int) := by
    unfold bits
    simp only [BitVec.or_comm]
  rw [hc, hj]
  omega
/-- The first one's size with the second one's sign. -/
def csN (x y : Nat) : Nat := x % 9223372036854775808 + y / 9223372036854775808 * 9223372036854775808
set_option maxHeartbeats 1000000 in
theorem csgn_calls (x y : Nat) (hx : x < 18446744073709551616) (hy : y < 18446744073709551616) (w : World) : Calls Try.prog 65 #[.float .f64 x, .float .f64 y] w fun e w' => e = .returned (.float .f64 (csN x y)) ∧ w' = w := by
  have h1 := fun w => run_bits x w
  have h2 := fun w => run_bits y w
  have h3 := fun w => run_frombits ((csN x y : Nat) : Int) w
  have e1 := bn63 x hx
  have e2 := ba63 y hy
  have e3 := bo63 x y hy
  rw [show x % 9223372036854775808 + y / 9223372036854775808 * 9223372036854775808 = csN x y from rfl] at e3
  generalize ((y / 9223372036854775808 * 9223372036854775808 : Nat) : Int) = q at *
  generalize ((x % 9223372036854775808 : Nat) : Int) = p at *
  generalize csN x y = c at *
  go_enter Try.func65, Try.ntmps65
  go_wp2
  go_ret
  exact ⟨rfl, rfl⟩
theorem negN_lt (a : Nat) : negN a < 18446744073709551616 := Nat.mod_lt _ (by decide)
set_option maxHeartbeats 1000000 in
theorem fneg_calls (a : Nat) (ha : a < 18446744073709551616) (w : World) : Calls Try.prog 56 #[.int .u64 (a : Int)] w fun e w' => e = .returned (.int .u64 (canV (negN a))) ∧ w' = w := by
  have e1 := bx63 a ha
  have e2 : Aside (csN a (negN a) = negN a) := ⟨by unfold csN negN; omega⟩
  have hn := negN_lt a
  generalize negN a = n at *
  go_enter Try.func56, Try.ntmps56
  go_wp2_with (first | ((go_at_call 64); (refine Calls.mono (fof_calls _ _) ?_); (rintro e w1 ⟨rfl, rfl⟩)) | ((go_at_call 65); (refine Calls.mono (csgn_calls _ _ (by simpa using ha) (by simpa using hn) _) ?_); (rintro e w1 ⟨rfl, rfl⟩)) | ((go_at_call 63); (refine Calls.mono (fbits_calls _ _) ?_); (rintro e w1 ⟨rfl, rfl⟩)))
  go_ret
  refine ⟨?_, rfl⟩
  simp [e2.out]
end Go.Proofs.Ytgcihcgclmdolaa
