/- A real cut to a whole number; the word of a real: walked. No condition but ranges. -/
import Derived.Test.YtgcihcgclmdolaaMachRd
import Derived.Laws.ShiftsVarLaws
namespace Go.Proofs.Ytgcihcgclmdolaa
open Go.RowKit Go.Proofs.Ytgcihcgclmdolaa.PC Go.Proofs.Ytgcihcgclmdolaa.PW
set_option linter.unusedVariables false
set_option linter.unusedSimpArgs false
/-! What lies in range has a whole number. -/
theorem cut_le (s : Bool) (m : Nat) (p j : Int) (M : Nat) (hj : -60 ≤ j ∧ j ≤ 0) (h : m <<< (p - min p j).toNat ≤ M <<< (j - min p j).toNat) : Ieee.Toward.zero.cut s (m <<< p.toNat) (-p).toNat ≤ M := by
  unfold Ieee.Toward.cut
  simp only [Bool.toNat_false, Nat.add_zero]
  rw [Nat.shiftLeft_eq, Nat.shiftLeft_eq] at h
  rw [Nat.shiftLeft_eq, Nat.shiftLeft_eq, Nat.one_mul]
  by_cases hp : j ≤ p
  · have e1 : min p j = j := Int.min_eq_right hp
    rw [e1, Int.sub_self] at h
    simp only [Int.toNat_zero, Nat.pow_zero, Nat.mul_one] at h
    refine Nat.le_trans (Nat.div_le_self _ _) (Nat.le_trans ?_ h)
    exact Nat.mul_le_mul_left _ (Nat.pow_le_pow_right (by decide) (by omega))
  · have e1 : min p j = p := Int.min_eq_left (by omega)
    rw [e1, Int.sub_self] at h
    simp only [Int.toNat_zero, Nat.pow_zero, Nat.mul_one] at h
    have e2 : p.toNat = 0 := by omega
    rw [e2, Nat.pow_zero, Nat.mul_one]
    rcases Nat.le_total (-p).toNat (m.log2 + 2) with hm | hm
    · rw [Nat.min_eq_left hm]
      refine Nat.div_le_of_le_mul ?_
      refine Nat.le_trans h ?_
      rw [Nat.mul_comm]
      exact Nat.mul_le_mul_right _ (Nat.pow_le_pow_right (by decide) (by omega))
    · rw [Nat.min_eq_right hm]
      have : m < 2 ^ (m.log2 + 2) := Nat.lt_of_lt_of_le Nat.lt_log2_self (Nat.pow_le_pow_right (by decide) (by omega))
      rw [Nat.div_eq_of_lt this]
      exact Nat.zero_le _
theorem cmp_gt {a b : Int} (h : (some (compare a b) == some Ordering.gt) = false) : a ≤ b := by
  have : compare a b ≠ .gt := by intro e; rw [e] at h; simp at h
  exact Int.not_lt.1 (fun g => this (Int.compare_eq_gt.2 g))
theorem cmp_lt {a b : Int} (h : (some (compare a b) == some Ordering.lt) = false) : b ≤ a := by
  have : compare a b ≠ .lt := by intro e; rw [e] at h; simp at h
  exact Int.not_lt.1 (fun g => this (Int.compare_eq_lt.2 g))
theorem read_max : FloatKind.f64.format.read 4746794007244308480 = .number false 9007199250546688 (-22) := by decide
theorem read_min : FloatKind.f64.format.read 13970166044103278592 = .number true 4503599627370496 (-21) := by decide
theorem in_range (t : Nat) (h0 : numB t = true) (h1 : (FloatKind.f64.format.order t 4746794007244308480 == some .gt) = false) (h2 : (FloatKind.f64.format.order t 13970166044103278592 == some .lt) = false) : ∃ n, floatToIntVal .f64 t .i64 = some n := by
  unfold numB at h0
  unfold Ieee.Format.order at h0 h1 h2
  rw [read_max] at h1
  rw [read_min] at h2
  unfold floatToIntVal FloatKind.decode
  cases hr : FloatKind.f64.format.read t with
  | nan s f => rw [hr] at h0; simp [Ieee.Datum.order] at h0
  | infinity s =>
    rw [hr] at h1 h2
    cases s
    · simp [Ieee.Datum.order] at h1
    · simp [Ieee.Datum.order] at h2
  | number s m p =>
    rw [hr] at h1 h2
    simp only [Ieee.Datum.order] at h1 h2
    have g1 := cmp_gt h1
    have g2 := cmp_lt h2
    have key : Ieee.Toward.zero.cut s (m <<< p.toNat) (-p).toNat ≤ 9007199250546688 := by
      cases s
      · refine cut_le false m p (-22) 9007199250546688 (by decide) ?_
        exact Int.ofNat_le.1 (by simpa only [Ieee.signed, Bool.false_eq_true, if_false] using g1)
      · refine Nat.le_trans (cut_le true m p (-21) 4503599627370496 (by decide) ?_) (by decide)
        exact Int.ofNat_le.1 (Int.neg_le_neg_iff.1 (by simpa only [Ieee.signed, if_true] using g2))
    simp only [Ieee.Datum.toInt, Ieee.Datum.integral]
    generalize Ieee.Toward.zero.cut s (m <<< p.toNat) (-p).toNat = c at *
    refine ⟨Ieee.signed s c 0, ?_⟩
    have : IntKind.i64.min ≤ Ieee.signed s c 0 ∧ Ieee.signed s c 0 ≤ IntKind.i64.max := by
      rw [show IntKind.i64.min = -9223372036854775808 from by decide, show IntKind.i64.max = 9223372036854775807 from by decide]
      unfold Ieee.signed
      rw [Nat.shiftLeft_zero]
      split <;> omega
    rw [if_pos this]
/-- Cut to a whole number: a real's bits. -/
def tN (x : Nat) : Nat := FloatKind.f64.encode ((FloatKind.f64.decode x).integral .zero)
theorem quiet_nan (s : Bool) (t : Nat) : 9218868437227405312 < FloatKind.f64.encode (.nan s (FloatKind.f64.format.quiet t)) % 9223372036854775808 := by
  have e : FloatKind.f64.encode (.nan s (FloatKind.f64.format.quiet t)) = FloatKind.f64.format.word s (9218868437227405312 + (t ||| 2251799813685248) % 4503599627370496) := by
    unfold FloatKind.encode Ieee.Format.write
    simp only [infW, binW]
    rfl
  have h1 : (t ||| 2251799813685248) % 4503599627370496 ≥ 2251799813685248 := by
    have e2 : (t ||| 2251799813685248) % 2 ^ 52 = (t % 2 ^ 52) ||| 2251799813685248 := by
      rw [Nat.or_mod_two_pow]
    rw [show (4503599627370496 : Nat) = 2 ^ 52 from rfl, e2]
    exact Nat.right_le_or
  have h2 : (t ||| 2251799813685248) % 4503599627370496 < 4503599627370496 := Nat.mod_lt _ (by decide)
  rw [e]
  unfold Ieee.Format.word
  rw [sgnW]
  split <;> omega
theorem numB_read {x : Nat} {s : Bool} {t : Nat} (h : FloatKind.f64.decode x = .nan s t) : numB x = false := by
  unfold numB Ieee.Format.order
  rw [show FloatKind.f64.format.read x = .nan s t from h]
  rfl
theorem numB_some {x : Nat} (h : ∀ s t, FloatKind.f64.decode x ≠ .nan s t) : numB x = true := by
  unfold numB Ieee.Format.order
  have e : FloatKind.f64.format.read x = FloatKind.f64.decode x := rfl
  rw [e]
  cases hd : FloatKind.f64.decode x with
  | nan s t => exact absurd hd (h s t)
  | infinity s => cases s <;> rfl
  | number s m p =>
    simp only [Ieee.Datum.order]
    rw [Int.compare_eq_eq.2 rfl]
    rfl
theorem tr_eq (x : Nat) : Extern.MathFloor.toIntegral "math.archTrunc" .zero #[.float .f64 x] = (match FloatKind.f64.decode x with
    | .nan s t => if FloatKind.f64.format.quiet t = t then pure (.float .f64 x) else do
        let kept ← choose (.extern "math.Floor,Ceil,Trunc,RoundToEven.signallingNaN kept" 2)
        pure (.float .f64 (if kept == 1 then x else FloatKind.f64.encode (.nan s (FloatKind.f64.format.quiet t))))
    | d => pure (.float .f64 (FloatKind.f64.encode (d.integral .zero)))) := rfl
theorem run_trunc (x : Nat) (w : World) : ∃ r w', (callFunc 71 #[.float .f64 x]).run Try.prog w = .ok (.value (.float .f64 r)) w' ∧ Dr w w' ∧ (numB x = true → r = tN x) ∧ (numB x = false → numB r = false) := by
  have hx := fun a => run_callFunc_extern (e := Extern.MathFloor.toIntegral "math.archTrunc" .zero) Try.func71 (by kernel_rfl) (by kernel_rfl) (by kernel_rfl) (by kernel_rfl) a w
  rw [hx, tr_eq]
  cases hd : FloatKind.f64.decode x with
  | infinity s =>
    refine ⟨tN x, w, ?_, Dr.refl _, fun _ => rfl, fun h => ?_⟩
    · unfold tN; rw [hd]; rfl
    · rw [numB_some (by intro s' t e; rw [hd] at e; cases e)] at h; cases h
  | number s m p =>
    refine ⟨tN x, w, ?_, Dr.refl _, fun _ => rfl, fun h => ?_⟩
    · unfold tN; rw [hd]; rfl
    · rw [numB_some (by intro s' t e; rw [hd] at e; cases e)] at h; cases h
  | nan s t =>
    have hn := numB_read hd
    simp only
    by_cases hq : FloatKind.f64.format.quiet t = t
    · rw [if_pos hq]
      exact ⟨x, w, rfl, Dr.refl _, fun h => (by rw [hn] at h; cases h), fun _ => hn⟩
    · rw [if_neg hq]
      by_cases hk : ((Question.extern "math.Floor,Ceil,Trunc,RoundToEven.signallingNaN kept" 2).cut (w.tape w.drawn (Question.extern "math.Floor,Ceil,Trunc,RoundToEven.signallingNaN kept" 2)) == 1) = true
      · refine ⟨x, w.drew, ?_, ⟨⟨1, rfl⟩⟩, fun h => (by rw [hn] at h; cases h), fun _ => hn⟩
        simp [Question.forced]
        exact fun h => absurd (by simpa using hk) h
      · refine ⟨FloatKind.f64.encode (.nan s (FloatKind.f64.format.quiet t)), w.drew, ?_, ⟨⟨1, rfl⟩⟩, fun h => (by rw [hn] at h; cases h), fun _ => numB_nan _ (quiet_nan s t)⟩
        simp [Question.forced]
        exact fun h => absurd (by simpa using h) hk
/-- The word of a real. -/
def toIntV (a : Nat) : Int :=
  if numB a = false ∨ numB (tN a) = false ∨ (FloatKind.f64.format.order (tN a) 4746794007244308480 == some .gt) = true then 2147483647
  else if (FloatKind.f64.format.order (tN a) 13970166044103278592 == some .lt) = true then 2147483648
  else (floatToIntVal .f64 (tN a) .i64).getD 0 % 4294967296
theorem toIntV_U (a : Nat) : U (toIntV a) := by
  unfold toIntV U
  split
  · decide
  · split
    · decide
    · omega
set_option maxHeartbeats 1000000 in
theorem Trunc_calls (x : Nat) (w : World) : Calls Try.prog 66 #[.float .f64 x] w fun e w' => ∃ r, e = .returned (.float .f64 r) ∧ Dr w w' ∧ (numB x = true → r = tN x) ∧ (numB x = false → numB r = false) := by
  obtain ⟨r, w', hr, hd, h1, h2⟩ := run_trunc x w
  replace h1 := Aside.mk h1
  replace h2 := Aside.mk h2
  replace hd := Aside.mk hd
  go_enter Try.func66, Try.ntmps66
  go_wp2
  go_ret
  exact ⟨r, rfl, hd.out, h1.out, h2.out⟩
set_option maxHeartbeats 1000000 in
theorem ftoint_calls (a : Int) (w : World) : Calls Try.prog 58 #[.int .u64 a] w fun e w' => e = .returned (.int .u32 (toIntV a.toNat)) ∧ Dr w w' := by
  have key : ∀ r, (numB a.toNat = true → r = tN a.toNat) → (numB a.toNat = false → numB r = false) →
      (numB r = false ∧ toIntV a.toNat = 2147483647) ∨ (numB r = true ∧ (FloatKind.f64.format.order r 4746794007244308480 == some .gt) = true ∧ toIntV a.toNat = 2147483647) ∨
      (numB r = true ∧ (FloatKind.f64.format.order r 4746794007244308480 == some .gt) = false ∧ (FloatKind.f64.format.order r 13970166044103278592 == some .lt) = true ∧ toIntV a.toNat = 2147483648) ∨
      ∃ n, numB r = true ∧ (FloatKind.f64.format.order r 4746794007244308480 == some .gt) = false ∧ (FloatKind.f64.format.order r 13970166044103278592 == some .lt) = false ∧ floatToIntVal .f64 r .i64 = some n ∧ toIntV a.toNat = n % 4294967296 := by
    intro r h1 h2
    cases ha : numB a.toNat with
    | false => exact Or.inl ⟨h2 ha, by unfold toIntV; rw [if_pos (Or.inl ha)]⟩
    | true =>
      obtain rfl := h1 ha
      cases hb : numB (tN a.toNat) with
      | false => exact Or.inl ⟨rfl, by unfold toIntV; rw [if_pos (Or.inr (Or.inl hb))]⟩
      | true =>
        right
        cases hc : (FloatKind.f64.format.order (tN a.toNat) 4746794007244308480 == some .gt) with
        | true => exact Or.inl ⟨rfl, rfl, by unfold toIntV; rw [if_pos (Or.inr (Or.inr hc))]⟩
        | false =>
          right
          have hn : ¬(numB a.toNat = false ∨ numB (tN a.toNat) = false ∨ (FloatKind.f64.format.order (tN a.toNat) 4746794007244308480 == some .gt) = true) := by
            rw [ha, hb, hc]; simp
          cases hl : (FloatKind.f64.format.order (tN a.toNat) 13970166044103278592 == some .lt) with
          | true => exact Or.inl ⟨rfl, rfl, rfl, by unfold toIntV; rw [if_neg hn, if_pos hl]⟩
          | false =>
            obtain ⟨n, hi⟩ := in_range _ hb hc hl
            exact Or.inr ⟨n, rfl, rfl, rfl, hi, by unfold toIntV; rw [if_neg hn, if_neg (by rw [hl]; simp), hi]; rfl⟩
  replace key := Aside.mk key
  go_enter Try.func58, Try.ntmps58
  go_wp2_with (first | ((go_at_call 64); (refine Calls.mono (fof_calls _ _) ?_); (rintro e w1 ⟨rfl, rfl⟩)) | ((go_at_call 66); (refine Calls.mono (Trunc_calls _ _) ?_); (rintro e w2 ⟨r, rfl, hd, h1, h2⟩); (have hk := Aside.mk (key.out r h1 h2)); (replace hd := Aside.mk hd); (clear h1 h2)) | fail)
  rcases hk.out with ⟨q1, et⟩ | ⟨q1, q2, et⟩ | ⟨q1, q2, q3, et⟩ | ⟨n, q1, q2, q3, hi, et⟩
  all_goals
    replace et := Aside.mk et
    have hnn := fun w => isNaN_calls r w
    rw [q1] at hnn
    replace hnn := Aside.mk hnn
    clear hk key
  · have _t := q1
    clear _t
    go_wp2_with (first | ((go_at_call 67); (refine Calls.mono (hnn.out _) ?_); (rintro e w3 ⟨rfl, rfl⟩)) | ((go_at_call 40); (refine Calls.mono (wof_still _ _) ?_); (rintro e w3 ⟨rfl, rfl⟩)))
    go_ret
    exact ⟨by rw [et.out]; rfl, hd.out⟩
  · go_wp2_with (first | ((go_at_call 67); (refine Calls.mono (hnn.out _) ?_); (rintro e w3 ⟨rfl, rfl⟩)) | ((go_at_call 40); (refine Calls.mono (wof_still _ _) ?_); (rintro e w3 ⟨rfl, rfl⟩)))
    go_ret
    exact ⟨by rw [et.out]; rfl, hd.out⟩
  · go_wp2_with (first | ((go_at_call 67); (refine Calls.mono (hnn.out _) ?_); (rintro e w3 ⟨rfl, rfl⟩)) | ((go_at_call 40); (refine Calls.mono (wof_still _ _) ?_); (rintro e w3 ⟨rfl, rfl⟩)))
    go_ret
    exact ⟨by rw [et.out]; rfl, hd.out⟩
  · have hc := fun w => run_convert_float_int (P := Try.prog) w 128 3 .f64 .i64 r n (by rw [Try.underlying128]; rfl) Try.underlying3 hi
    clear hi
    go_wp2_with (first | ((go_at_call 67); (refine Calls.mono (hnn.out _) ?_); (rintro e w3 ⟨rfl, rfl⟩)) | ((go_at_call 40); (refine Calls.mono (wof_still _ _) ?_); (rintro e w3 ⟨rfl, rfl⟩)))
    go_ret
    exact ⟨by rw [et.out]; rfl, hd.out⟩
end Go.Proofs.Ytgcihcgclmdolaa
