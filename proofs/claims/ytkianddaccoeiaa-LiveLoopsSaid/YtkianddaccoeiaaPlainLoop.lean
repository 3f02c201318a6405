/- A loop of the middle language and what is live in it, by value. No condition. -/
import Derived.Test.YtkianddaccoeiaaPlainAw
namespace Go.Proofs.Ytkianddaccoeiaa.PL
set_option linter.unusedVariables false
set_option linter.unusedSimpArgs false
def lpC0 : InsV := ins 1 0 0 0 9 0
def lpC1 : InsV := ins 1 1 0 0 1 0
def lpB2 : InsV := ins 4 2 1 1 1 0
def lpB0 : InsV := ins 4 0 0 1 2 0
def lpIf : InsV := ins 19 0 0 0 0 1
def lpRet : InsV := ins 17 0 (-1) 0 0 0
def lpPre : Nat → List InsV
  | 0 => [lpC0]
  | m + 1 => lpPre m ++ [lpC1, lpB2]
def lpF (m : Nat) : FunV := ⟨⟨#[102]⟩, false, [], [1, 1, 1], [], lpPre m ++ [lpC1, lpB0, lpIf, lpRet]⟩
theorem lpPre_len : ∀ m, (lpPre m).length = 2 * m + 1
  | 0 => rfl
  | m + 1 => by rw [lpPre, List.length_append, lpPre_len m]; simp; omega
theorem lp_len (m : Nat) : (lpF m).code.length = 2 * m + 5 := by simp [lpF, lpPre_len]
theorem lpPre_at : ∀ (m n : Nat), n < 2 * m + 1 → (lpPre m)[n]? = some (if n = 0 then lpC0 else if n % 2 = 1 then lpC1 else lpB2)
  | 0, n, h => by
    obtain rfl : n = 0 := by omega
    rfl
  | m + 1, n, h => by
    rw [lpPre]
    by_cases h1 : n < 2 * m + 1
    · rw [List.getElem?_append_left (by rw [lpPre_len]; exact h1), lpPre_at m n h1]
    · rw [List.getElem?_append_right (by rw [lpPre_len]; omega), lpPre_len]
      by_cases h2 : n = 2 * m + 1
      · subst h2
        rw [Nat.sub_self, if_neg (by omega), if_pos (by omega)]
        rfl
      · obtain rfl : n = 2 * m + 2 := by omega
        rw [show 2 * m + 2 - (2 * m + 1) = 1 by omega, if_neg (by omega), if_neg (by omega)]
        rfl
/-- The code, instruction by instruction. -/
theorem lp_code (m n : Nat) : (n = 0 → (lpF m).code[n]? = some lpC0) ∧ (n % 2 = 1 → n ≤ 2 * m + 1 → (lpF m).code[n]? = some lpC1) ∧ (n % 2 = 0 → 0 < n → n ≤ 2 * m → (lpF m).code[n]? = some lpB2) ∧ (n = 2 * m + 2 → (lpF m).code[n]? = some lpB0) ∧ (n = 2 * m + 3 → (lpF m).code[n]? = some lpIf) ∧ (n = 2 * m + 4 → (lpF m).code[n]? = some lpRet) := by
  have hl : ∀ k, k < 2 * m + 1 → (lpF m).code[k]? = (lpPre m)[k]? := fun k hk => List.getElem?_append_left (by rw [lpPre_len]; exact hk)
  have hr : ∀ k, 2 * m + 1 ≤ k → (lpF m).code[k]? = [lpC1, lpB0, lpIf, lpRet][k - (2 * m + 1)]? := fun k hk => by
    have := List.getElem?_append_right (l₁ := lpPre m) (l₂ := [lpC1, lpB0, lpIf, lpRet]) (i := k) (by rw [lpPre_len]; exact hk)
    rw [lpPre_len] at this
    exact this
  refine ⟨fun e => ?_, fun e1 e2 => ?_, fun e1 e2 e3 => ?_, fun e => ?_, fun e => ?_, fun e => ?_⟩
  · rw [hl n (by omega), lpPre_at m n (by omega), if_pos e]
  · by_cases h : n = 2 * m + 1
    · rw [hr n (by omega), h, Nat.sub_self]
      rfl
    · rw [hl n (by omega), lpPre_at m n (by omega), if_neg (by omega), if_pos e1]
  · rw [hl n (by omega), lpPre_at m n (by omega), if_neg (by omega), if_neg (by omega)]
  · rw [hr n (by omega), e, show 2 * m + 2 - (2 * m + 1) = 1 by omega]
    rfl
  · rw [hr n (by omega), e, show 2 * m + 3 - (2 * m + 1) = 2 by omega]
    rfl
  · rw [hr n (by omega), e, show 2 * m + 4 - (2 * m + 1) = 3 by omega]
    rfl
theorem lp_at {m n : Nat} {i : InsV} (h : (lpF m).code[n]? = some i) : (n = 0 ∧ i = lpC0) ∨ (n % 2 = 1 ∧ n ≤ 2 * m + 1 ∧ i = lpC1) ∨ (n % 2 = 0 ∧ 0 < n ∧ n ≤ 2 * m ∧ i = lpB2) ∨ (n = 2 * m + 2 ∧ i = lpB0) ∨ (n = 2 * m + 3 ∧ i = lpIf) ∨ (n = 2 * m + 4 ∧ i = lpRet) := by
  have hn : n < 2 * m + 5 := by rw [← lp_len]; exact (List.getElem?_eq_some_iff.1 h).1
  obtain ⟨c0, c1, c2, c3, c4, c5⟩ := lp_code m n
  have put : ∀ {j : InsV}, (lpF m).code[n]? = some j → i = j := fun e => by rw [h] at e; exact Option.some.inj e
  by_cases h0 : n = 0
  · exact Or.inl ⟨h0, put (c0 h0)⟩
  by_cases h1 : n % 2 = 1 ∧ n ≤ 2 * m + 1
  · exact Or.inr (Or.inl ⟨h1.1, h1.2, put (c1 h1.1 h1.2)⟩)
  by_cases h2 : n % 2 = 0 ∧ n ≤ 2 * m
  · exact Or.inr (Or.inr (Or.inl ⟨h2.1, by omega, h2.2, put (c2 h2.1 (by omega) h2.2)⟩))
  by_cases h3 : n = 2 * m + 2
  · exact Or.inr (Or.inr (Or.inr (Or.inl ⟨h3, put (c3 h3)⟩)))
  by_cases h4 : n = 2 * m + 3
  · exact Or.inr (Or.inr (Or.inr (Or.inr (Or.inl ⟨h4, put (c4 h4)⟩))))
  · have h5 : n = 2 * m + 4 := by omega
    exact Or.inr (Or.inr (Or.inr (Or.inr (Or.inr ⟨h5, put (c5 h5)⟩))))
theorem lp_in {m : Nat} {i : InsV} (h : i ∈ (lpF m).code) : i = lpC0 ∨ i = lpC1 ∨ i = lpB2 ∨ i = lpB0 ∨ i = lpIf ∨ i = lpRet := by
  obtain ⟨n, hn⟩ := List.mem_iff_getElem?.1 h
  rcases lp_at hn with ⟨-, e⟩ | ⟨-, -, e⟩ | ⟨-, -, -, e⟩ | ⟨-, e⟩ | ⟨-, e⟩ | ⟨-, e⟩
  · exact Or.inl e
  · exact Or.inr (Or.inl e)
  · exact Or.inr (Or.inr (Or.inl e))
  · exact Or.inr (Or.inr (Or.inr (Or.inl e)))
  · exact Or.inr (Or.inr (Or.inr (Or.inr (Or.inl e))))
  · exact Or.inr (Or.inr (Or.inr (Or.inr (Or.inr e))))
theorem lp_args {m : Nat} {i : InsV} (h : i ∈ (lpF m).code) : i.args = [] := by
  rcases lp_in h with rfl | rfl | rfl | rfl | rfl | rfl <;> rfl
theorem lp_ok (m : Nat) : (lpF m).ok := by
  have k : ∀ r : Int, (0 ≤ r ∧ r < 3) → inK (lpF m) r := fun r hr => hr
  refine ⟨fun i hi => ?_, by rw [lp_len]; omega, fun i hi => ?_, fun p hp => by cases hp⟩
  · have hl := lp_len m
    rcases lp_in hi with rfl | rfl | rfl | rfl | rfl | rfl
    · exact ⟨by decide, by rw [hl]; simp [lpC0, ins]; omega, fun r hr => by simp [InsV.reads, ins, lpC0] at hr, Or.inr (k _ (by decide))⟩
    · exact ⟨by decide, by rw [hl]; simp [lpC1, ins]; omega, fun r hr => by simp [InsV.reads, ins, lpC1] at hr, Or.inr (k _ (by decide))⟩
    · exact ⟨by decide, by rw [hl]; simp [lpB2, ins]; omega, fun r hr => by simp [InsV.reads, ins, lpB2] at hr; exact k _ (by omega), Or.inr (k _ (by decide))⟩
    · exact ⟨by decide, by rw [hl]; simp [lpB0, ins]; omega, fun r hr => by simp [InsV.reads, ins, lpB0] at hr; exact k _ (by omega), Or.inr (k _ (by decide))⟩
    · exact ⟨by decide, by rw [hl]; simp [lpIf, ins]; omega, fun r hr => by simp [InsV.reads, ins, lpIf] at hr; exact k _ (by omega), Or.inl (by decide)⟩
    · exact ⟨by decide, by rw [hl]; simp [lpRet, ins]; omega, fun r hr => by simp [InsV.reads, ins, lpRet] at hr, Or.inl (by decide)⟩
  · rw [lp_len] at hi
    rcases lp_at hi with ⟨h, -⟩ | ⟨h1, h2, -⟩ | ⟨-, -, h, -⟩ | ⟨h, -⟩ | ⟨h, -⟩ | ⟨-, rfl⟩
    · omega
    · omega
    · omega
    · omega
    · omega
    · exact Or.inl rfl
def lpS (m n : Nat) (r : Int) : Bool := decide (1 ≤ n ∧ n ≤ 2 * m + 3 ∧ (r = 0 ∨ (r = 1 ∧ n % 2 = 0)))
theorem lpS_iff {m n : Nat} {r : Int} : lpS m n r = true ↔ 1 ≤ n ∧ n ≤ 2 * m + 3 ∧ (r = 0 ∨ (r = 1 ∧ n % 2 = 0)) := by simp [lpS]
theorem lp_closed (m : Nat) : Closed (lpF m) (fun n r => lpS m n r = true) := by
  intro n i hi
  have hl := lp_len m
  rcases lp_at hi with ⟨rfl, rfl⟩ | ⟨h1, h2, rfl⟩ | ⟨h1, h2, h3, rfl⟩ | ⟨rfl, rfl⟩ | ⟨rfl, rfl⟩ | ⟨rfl, rfl⟩
  · refine ⟨fun r hr => by simp [InsV.reads, ins, lpC0] at hr, fun q hq r hr hne => ?_⟩
    simp [nextI, ins, lpC0, hl] at hq
    subst hq
    rw [lpS_iff] at hr
    simp [InsV.writes, ins, lpC0] at hne
    omega
  · refine ⟨fun r hr => by simp [InsV.reads, ins, lpC1] at hr, fun q hq r hr hne => ?_⟩
    simp [nextI, ins, lpC1, hl] at hq
    obtain ⟨-, rfl⟩ := hq
    rw [lpS_iff] at hr ⊢
    simp [InsV.writes, ins, lpC1] at hne
    omega
  · refine ⟨fun r hr => ?_, fun q hq r hr hne => ?_⟩
    · simp [InsV.reads, ins, lpB2] at hr
      rw [lpS_iff]
      omega
    · simp [nextI, ins, lpB2, hl] at hq
      obtain ⟨-, rfl⟩ := hq
      rw [lpS_iff] at hr ⊢
      omega
  · refine ⟨fun r hr => ?_, fun q hq r hr hne => ?_⟩
    · simp [InsV.reads, ins, lpB0] at hr
      rw [lpS_iff]
      omega
    · simp [nextI, ins, lpB0, hl] at hq
      subst hq
      rw [lpS_iff] at hr
      simp [InsV.writes, ins, lpB0] at hne
      omega
  · refine ⟨fun r hr => ?_, fun q hq r hr hne => ?_⟩
    · simp [InsV.reads, ins, lpIf] at hr
      rw [lpS_iff]
      omega
    · simp [nextI, ins, lpIf, hl] at hq
      show lpS m (2 * m + 3) r = true
      replace hr : lpS m q.toNat r = true := hr
      rw [lpS_iff] at hr ⊢
      rcases hq with rfl | rfl <;> omega
  · refine ⟨fun r hr => by simp [InsV.reads, ins, lpRet] at hr, fun q hq => ?_⟩
    simp [nextI, ins, lpRet] at hq
theorem lp_sound0 (m : Nat) : ∀ k, k ≤ 2 * m + 2 → LiveP (lpF m) (2 * m + 3 - k) 0
  | 0, _ => ((live_closed (lpF m)) _ _ ((lp_code m (2 * m + 3)).2.2.2.2.1 rfl)).1 0 (by simp [InsV.reads, ins, lpIf])
  | k + 1, hk => by
    have ih := lp_sound0 m k (by omega)
    have hl := lp_len m
    obtain ⟨i, hi⟩ : ∃ i, (lpF m).code[2 * m + 3 - (k + 1)]? = some i := ⟨_, List.getElem?_eq_getElem (by omega)⟩
    have en : ((2 * m + 3 - (k + 1) : Nat) : Int) + 1 = ((2 * m + 3 - k : Nat) : Int) := by omega
    have e2 : (((2 * m + 3 - k : Nat) : Int)).toNat = 2 * m + 3 - k := by omega
    have hlt : 2 * m + 3 - (k + 1) + 1 < 2 * m + 5 := by omega
    rcases lp_at hi with ⟨h, -⟩ | ⟨h1, h2, rfl⟩ | ⟨h1, h2, h3, rfl⟩ | ⟨-, rfl⟩ | ⟨h, -⟩ | ⟨h, -⟩
    · omega
    · refine ((live_closed (lpF m)) _ _ hi).2 ((2 * m + 3 - k : Nat) : Int) (by simp [nextI, ins, lpC1, hl]; omega) 0 (by rw [e2]; exact ih) (by decide)
    · refine ((live_closed (lpF m)) _ _ hi).2 ((2 * m + 3 - k : Nat) : Int) (by simp [nextI, ins, lpB2, hl]; omega) 0 (by rw [e2]; exact ih) (by decide)
    · exact ((live_closed (lpF m)) _ _ hi).1 0 (by simp [InsV.reads, ins, lpB0])
    · omega
    · omega
theorem lp_sound (m : Nat) : ∀ n r, lpS m n r = true → LiveP (lpF m) n r := by
  intro n r h
  rw [lpS_iff] at h
  obtain ⟨h1, h2, rfl | ⟨rfl, h3⟩⟩ := h
  · have := lp_sound0 m (2 * m + 3 - n) (by omega)
    rwa [show 2 * m + 3 - (2 * m + 3 - n) = n by omega] at this
  · by_cases h4 : n = 2 * m + 2
    · exact ((live_closed (lpF m)) _ _ ((lp_code m n).2.2.2.1 h4)).1 1 (by simp [InsV.reads, ins, lpB0])
    · exact ((live_closed (lpF m)) _ _ ((lp_code m n).2.2.1 h3 (by omega) (by omega))).1 1 (by simp [InsV.reads, ins, lpB2])
theorem lp_live (m : Nat) : liveB (lpF m) = lpS m := by
  funext n r
  exact (live_eq (lp_sound m) (lp_closed m) n r).symm
/-- The registers that are live at an instruction, listed. -/
def lpN (m n : Nat) : Nat := if 1 ≤ n ∧ n ≤ 2 * m + 3 then (if n % 2 = 0 then 2 else 1) else 0
theorem lp_list (m n : Nat) : ((List.range 3).map fun r : Nat => (r : Int)).filter (liveB (lpF m) n) = (List.range (lpN m n)).map fun r : Nat => (r : Int) := by
  rw [lp_live]
  have e0 : lpS m n 0 = decide (1 ≤ n ∧ n ≤ 2 * m + 3) := by simp [lpS]
  have e1 : lpS m n 1 = decide ((1 ≤ n ∧ n ≤ 2 * m + 3) ∧ n % 2 = 0) := by simp [lpS, and_assoc]
  have e2 : lpS m n 2 = false := by simp [lpS]
  show List.filter (lpS m n) [((0 : Nat) : Int), ((1 : Nat) : Int), ((2 : Nat) : Int)] = _
  unfold lpN
  by_cases h : 1 ≤ n ∧ n ≤ 2 * m + 3
  · by_cases h2 : n % 2 = 0
    · simp [List.filter_cons, e0, e1, e2, h, h2]; rfl
    · simp [List.filter_cons, e0, e1, e2, h, h2]
  · simp [List.filter_cons, e0, e1, e2, h]
end Go.Proofs.Ytkianddaccoeiaa.PL
