/- What a loaded machine reads; runs with numbers spelled. Conditions stand at each. -/
import Derived.Test.YtgcihcgclmdolaaMachL
import Derived.Test.YtgcihcgclmdolaaMachRun
namespace Go.Proofs.Ytgcihcgclmdolaa
open Go.RowKit Go.Maps Go.Proofs.Ytgcihcgclmdolaa.PC Go.Proofs.Ytgcihcgclmdolaa.PW
set_option linter.unusedVariables false
set_option linter.unusedSimpArgs false
theorem bytesL_get (l : List Int) (k : Nat) (hk : k < l.length) : (bytesL l).getD (4 * k) 0 = l.getD k 0 % 256 ∧ (bytesL l).getD (4 * k + 1) 0 = l.getD k 0 / 256 % 256 ∧ (bytesL l).getD (4 * k + 2) 0 = l.getD k 0 / 65536 % 256 ∧ (bytesL l).getD (4 * k + 3) 0 = l.getD k 0 / 16777216 % 256 := by
  induction l generalizing k with
  | nil => simp at hk
  | cons a l ih =>
    have e : bytesL (a :: l) = [a % 256, a / 256 % 256, a / 65536 % 256, a / 16777216 % 256] ++ bytesL l := by simp [bytesL]
    cases k with
    | zero => rw [e]; simp
    | succ k =>
      have h := ih k (by simpa using hk)
      have g : ∀ j, (bytesL (a :: l)).getD (4 * (k + 1) + j) 0 = (bytesL l).getD (4 * k + j) 0 := by
        intro j
        rw [e, show 4 * (k + 1) + j = (4 * k + j) + 1 + 1 + 1 + 1 by omega]
        simp [List.getD_eq_getElem?_getD]
      have g0 := g 0
      simp only [Nat.add_zero] at g0
      rw [g0, g, g, g]
      simpa using h
theorem loadM_get (l : List Int) (top i : Nat) (h : i < l.length) : (loadM l top).getD i 0 = l.getD i 0 := by
  simp [loadM, List.getD_eq_getElem?_getD, List.getElem?_append_left h]
/-- A loaded word. -/
theorem load_word (l : List Int) (top k : Nat) (hk : k < l.length) (hu : U (l.getD k 0)) : getN (loadM (bytesL l) top) (4 * k) 4 = l.getD k 0 := by
  have hl := bytesL_length l
  obtain ⟨h0, h1, h2, h3⟩ := bytesL_get l k hk
  have hu' : 0 ≤ l.getD k 0 ∧ l.getD k 0 ≤ 4294967295 := hu
  simp only [getN]
  rw [Nat.add_zero, loadM_get _ _ _ (by omega), loadM_get _ _ _ (by omega), loadM_get _ _ _ (by omega), loadM_get _ _ _ (by omega), h0, h1, h2, h3]
  generalize l.getD k 0 = x at *
  simp only [Int.pow_zero]
  rw [show (256 : Int) ^ 1 = 256 from rfl, show (256 : Int) ^ 2 = 65536 from rfl, show (256 : Int) ^ 3 = 16777216 from rfl]
  omega
theorem Load_at {w : World} {base : Nat} {v : Value} {l : List Int} (entry sv : Int) (stack floor top : Nat) (hsv : sv = stack) (hv : rowBy w base v l) (hb : ∀ b ∈ l, Byte b) (he : U entry) (hs : stack ≤ 2097152) (hl : l.length ≤ 2097152) (hf : upV l.length = floor) (ht : upV (floor + stack) = top) (htl : top ≤ 2097152) :
    Calls Try.prog 10 #[.agg #[.int .i64 entry, v], .int .i64 sv] w fun e w' => ∃ M B K, e = .returned (.tuple #[.pointer (some ⟨M, 0, none⟩), .int .i64 0]) ∧ (w.heap.size ≤ M ∧ w.heap.size ≤ B ∧ w.heap.size ≤ K) ∧ Kp w w' ∧ Mac w' M B K (loadS entry l floor top) 0 := by
  subst hsv hf ht
  exact Load_calls entry stack hv hb he hs htl hl
theorem Run_at {w : World} {M B K N : Nat} (tr : Nat → RS) (n : Nat) (nI : Int) (hnI : nI = n) (fuel : Int) (iv : Value) (hm : Mac w M B K (tr 0).s N) (hw : Words w w.heap.size M B K iv (tr 0).inp) (hev : (tr 0).ev = []) (hf : -9223372036854775808 ≤ fuel ∧ fuel ≤ 9223372036854775807)
    (hst : ∀ k, k < n → (k : Int) < fuel ∧ (tr k).s.state = 0 ∧ StepC (tr k) (tr (k + 1))) (hend : fuel ≤ n ∨ (tr n).s.state ≠ 0) (hN : N + 2 * n < 999999990) (r : RS) (hr : r = tr n) :
    Calls Try.prog 12 #[.pointer (some ⟨M, 0, none⟩), iv, .int .i64 fuel] w fun e w' => ∃ ev, e = .returned (.agg #[.int .i64 r.s.state, .int .u32 r.s.code, ev, .int .i64 nI]) ∧ Mod (fun k => k = M ∨ k = B ∨ k = K) w w' ∧ Mac w' M B K r.s (N + 2 * n) ∧ w'.ownsRow (w.heap.size + 1) 45 3 ev r.ev.length (evC r.ev) := by
  subst hnI hr
  exact Run_calls tr n fuel iv hm hw hev hf hst hend hN
theorem words_none {w : World} {b1 M B K : Nat} : Words w b1 M B K (.slice none 0 0) [] := ⟨⟨none, 0, rfl, Nat.le_refl _, fun h => absurd rfl h⟩, by simp, by simp⟩
end Go.Proofs.Ytgcihcgclmdolaa
