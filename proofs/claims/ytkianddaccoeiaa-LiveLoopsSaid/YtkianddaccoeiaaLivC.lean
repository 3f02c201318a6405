/- What follows an instruction, walked. Conditions stand at each. -/
import Derived.Test.YtkianddaccoeiaaLivB
namespace Go.Proofs.Ytkianddaccoeiaa
open Go.RowKit Go.Maps Go.Proofs.Ytkianddaccoeiaa.PL
set_option linter.unusedVariables false
set_option linter.unusedSimpArgs false
set_option maxHeartbeats 4000000 in
theorem Next_calls (x : FunC) (n : Nat) (w : World) (h : FunAt w x) (y : InsV) (hy : x.f.code[n]? = some y) (hlen : x.f.code.length ≤ 100000) : Calls Try.prog 35 #[.agg x.cells, .int .i64 n] w (IntsR w (nextI x.f.code.length n y)) := by
  have hn : n < x.f.code.length := (List.getElem?_eq_some_iff.1 hy).1
  obtain ⟨z, g, off, hz, hz2, hat, hC, hg, hcell⟩ := h.one hn
  obtain rfl := Option.some.inj (hy.symm.trans hz2)
  obtain ⟨c0, c1, c2, c3, c4, c5, c6, c7, c8⟩ := FunAt.nine hcell
  have hcc := h.slC.1
  obtain ⟨⟨op, dst, a, b, word, bits, name, args, tg⟩, A, c⟩ := z
  simp only [FunC.cells, hC] at *
  have hk := (Kp.refl w).alloc (.cells #[.string x.f.name, .bool x.f.static, .slice x.P x.f.params.length x.cp, .slice x.K x.f.kinds.length x.ck, .slice x.S x.f.slots.length x.cs, .slice (some ⟨g, off, none⟩) x.f.code.length x.cc] 25)
  have d0 := (hk.cell (p := ⟨g, off + n * 9, none⟩) hg).trans c0
  have d1 := (hk.cell (p := ⟨g, off + n * 9 + 1, none⟩) hg).trans c1
  have d2 := (hk.cell (p := ⟨g, off + n * 9 + 2, none⟩) hg).trans c2
  have d3 := (hk.cell (p := ⟨g, off + n * 9 + 3, none⟩) hg).trans c3
  have d4 := (hk.cell (p := ⟨g, off + n * 9 + 4, none⟩) hg).trans c4
  have d5 := (hk.cell (p := ⟨g, off + n * 9 + 5, none⟩) hg).trans c5
  have d6 := (hk.cell (p := ⟨g, off + n * 9 + 6, none⟩) hg).trans c6
  have d7 := (hk.cell (p := ⟨g, off + n * 9 + 7, none⟩) hg).trans c7
  have d8 := (hk.cell (p := ⟨g, off + n * 9 + 8, none⟩) hg).trans c8
  clear hcell c0 c1 c2 c3 c4 c5 c6 c7 c8 hk hat hz hy hC h
  generalize x.f.code.length = len at *
  by_cases e17 : op = 17
  · subst e17
    simp only [nextI]
    go_enter Try.func35, Try.ntmps35
    go_wp2
    go_ret
    exact ⟨none, 0, rfl, ints_nil _ _, by repeat (with_reducible first | exact Kp.refl _ | assumption | exact Dr.kp (by assumption) | refine Kp.drewN ?_ _ | refine Kp.drew ?_ | refine Kp.alloc ?_ _ | refine Kp.setCell ?_ (by first | exact Nat.le_refl _ | assumption | omega) _ | refine Kp.trans ?_ (by assumption) | refine Kp.trans ?_ (Dr.kp (by assumption)))⟩
  by_cases e18 : op = 18
  · subst e18
    simp only [nextI]
    go_enter Try.func35, Try.ntmps35
    go_wp2
    go_ret
    exact ⟨_, _, rfl, ints_new [tg] _ (by simp) rfl, by repeat (with_reducible first | exact Kp.refl _ | assumption | exact Dr.kp (by assumption) | refine Kp.drewN ?_ _ | refine Kp.drew ?_ | refine Kp.alloc ?_ _ | refine Kp.setCell ?_ (by first | exact Nat.le_refl _ | assumption | omega) _ | refine Kp.trans ?_ (by assumption) | refine Kp.trans ?_ (Dr.kp (by assumption)))⟩
  have g17 : (op == 17) = false := beq_eq_false_iff_ne.2 e17
  have g18 : (op == 18) = false := beq_eq_false_iff_ne.2 e18
  by_cases e19 : op = 19
  · subst e19
    by_cases hl : n + 1 < len
    · have hq : nextI len n ⟨19, dst, a, b, word, bits, name, args, tg⟩ = [(n : Int) + 1, tg] := by simp [nextI, hl]
      rw [hq]
      clear hq
      go_enter Try.func35, Try.ntmps35
      go_wp2
      go_ret
      exact ⟨_, _, rfl, ints_new [(n : Int) + 1, tg] _ (by simp) rfl, by repeat (with_reducible first | exact Kp.refl _ | assumption | exact Dr.kp (by assumption) | refine Kp.drewN ?_ _ | refine Kp.drew ?_ | refine Kp.alloc ?_ _ | refine Kp.setCell ?_ (by first | exact Nat.le_refl _ | assumption | omega) _ | refine Kp.trans ?_ (by assumption) | refine Kp.trans ?_ (Dr.kp (by assumption)))⟩
    · have hq : nextI len n ⟨19, dst, a, b, word, bits, name, args, tg⟩ = [tg] := by simp [nextI, hl]
      rw [hq]
      clear hq
      go_enter Try.func35, Try.ntmps35
      go_wp2
      go_ret
      exact ⟨_, _, rfl, ints_new [tg] _ (by simp) rfl, by repeat (with_reducible first | exact Kp.refl _ | assumption | exact Dr.kp (by assumption) | refine Kp.drewN ?_ _ | refine Kp.drew ?_ | refine Kp.alloc ?_ _ | refine Kp.setCell ?_ (by first | exact Nat.le_refl _ | assumption | omega) _ | refine Kp.trans ?_ (by assumption) | refine Kp.trans ?_ (Dr.kp (by assumption)))⟩
  have g19 : (op == 19) = false := beq_eq_false_iff_ne.2 e19
  by_cases hl : n + 1 < len
  · have hq : nextI len n ⟨op, dst, a, b, word, bits, name, args, tg⟩ = [(n : Int) + 1] := by simp [nextI, hl, e17, e18, e19]
    rw [hq]
    clear hq e17 e18 e19
    go_enter Try.func35, Try.ntmps35
    go_wp2
    go_ret
    exact ⟨_, _, rfl, ints_new [(n : Int) + 1] _ (by simp) rfl, by repeat (with_reducible first | exact Kp.refl _ | assumption | exact Dr.kp (by assumption) | refine Kp.drewN ?_ _ | refine Kp.drew ?_ | refine Kp.alloc ?_ _ | refine Kp.setCell ?_ (by first | exact Nat.le_refl _ | assumption | omega) _ | refine Kp.trans ?_ (by assumption) | refine Kp.trans ?_ (Dr.kp (by assumption)))⟩
  · have hq : nextI len n ⟨op, dst, a, b, word, bits, name, args, tg⟩ = [] := by simp [nextI, hl, e17, e18, e19]
    rw [hq]
    clear hq e17 e18 e19
    go_enter Try.func35, Try.ntmps35
    go_wp2
    go_ret
    exact ⟨none, 0, rfl, ints_nil _ _, by repeat (with_reducible first | exact Kp.refl _ | assumption | exact Dr.kp (by assumption) | refine Kp.drewN ?_ _ | refine Kp.drew ?_ | refine Kp.alloc ?_ _ | refine Kp.setCell ?_ (by first | exact Nat.le_refl _ | assumption | omega) _ | refine Kp.trans ?_ (by assumption) | refine Kp.trans ?_ (Dr.kp (by assumption)))⟩
end Go.Proofs.Ytkianddaccoeiaa
