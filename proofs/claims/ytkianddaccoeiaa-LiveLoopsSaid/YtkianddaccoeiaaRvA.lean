/- The reference's instructions: what they write and read, what follows them, walked. Conditions stand at each. -/
import Derived.Test.YtkianddaccoeiaaLivC
namespace Go.Proofs.Ytkianddaccoeiaa
open Go.RowKit Go.Maps Go.Proofs.Ytkianddaccoeiaa.PL
set_option linter.unusedVariables false
set_option linter.unusedSimpArgs false
set_option maxHeartbeats 4000000 in
theorem rWrites_calls (x : InsC) (w : World) (h : 1 ≤ x.i.op ∧ x.i.op ≤ 19) : Calls Try.prog 47 #[.agg x.cells.toArray] w fun e w' => e = .returned (.int .i64 x.i.writes) ∧ Kp w w' := by
  obtain ⟨⟨op, dst, a, b, word, bits, name, args, tg⟩, A, c⟩ := x
  simp only [InsC.cells] at *
  rcases op_cases h with rfl | rfl | rfl | rfl | rfl | rfl | rfl | rfl | rfl | rfl | rfl | rfl | rfl | rfl | rfl | rfl | rfl | rfl | rfl
  all_goals
    simp only [InsV.writes]
    go_enter Try.func47, Try.ntmps47
    go_wp2
    go_ret
    exact ⟨by simp, by repeat (with_reducible first | exact Kp.refl _ | assumption | exact Dr.kp (by assumption) | refine Kp.drewN ?_ _ | refine Kp.drew ?_ | refine Kp.alloc ?_ _ | refine Kp.setCell ?_ (by first | exact Nat.le_refl _ | assumption | omega) _ | refine Kp.trans ?_ (by assumption) | refine Kp.trans ?_ (Dr.kp (by assumption)))⟩
/-- An answer that is a Bool. -/
def BoolR (w : World) (b : Bool) (e : Ending) (w' : World) : Prop := e = .returned (.bool b) ∧ Kp w w'
set_option maxHeartbeats 4000000 in
theorem rreads_calls (x : InsC) (r : Nat) (w : World) (hx : x.at w) (h : 1 ≤ x.i.op ∧ x.i.op ≤ 19) (hl : x.i.args.length ≤ 10000) : Calls Try.prog 53 #[.agg x.cells.toArray, .int .i64 r] w (BoolR w (decide ((r : Int) ∈ x.i.reads))) := by
  obtain ⟨⟨op, dst, a, b, word, bits, name, args, tg⟩, A, c⟩ := x
  obtain ⟨hx, hsl⟩ := hx
  simp only [InsC.cells] at *
  by_cases e16 : op = 16
  · subst e16
    have hq : (⟨16, dst, a, b, word, bits, name, args, tg⟩ : InsV).reads = args := by simp [InsV.reads]
    rw [hq]
    clear hq h
    have hk := Aside.mk ((Kp.refl w).alloc (.cells #[.int .i64 16, .int .i64 dst, .int .i64 a, .int .i64 b, .int .u32 word, .int .u64 bits, .string name, .slice A args.length c, .int .i64 tg] 35))
    have hbi := (Blk.new w #[.int .i64 16, .int .i64 dst, .int .i64 a, .int .i64 b, .int .u32 word, .int .u64 bits, .string name, .slice A args.length c, .int .i64 tg] 35)
    have hx2 := Aside.mk (hx.kp hk.out)
    have hcc := hsl.1
    clear hx
    obtain ⟨q, c0, c1⟩ : w.heap.size < (w.alloc (.cells #[.int .i64 16, .int .i64 dst, .int .i64 a, .int .i64 b, .int .u32 word, .int .u64 bits, .string name, .slice A args.length c, .int .i64 tg] 35)).heap.size ∧ (w.alloc (.cells #[.int .i64 16, .int .i64 dst, .int .i64 a, .int .i64 b, .int .u32 word, .int .u64 bits, .string name, .slice A args.length c, .int .i64 tg] 35)).cell? ⟨w.heap.size, 0, none⟩ = some (.int .i64 16) ∧ (w.alloc (.cells #[.int .i64 16, .int .i64 dst, .int .i64 a, .int .i64 b, .int .u32 word, .int .u64 bits, .string name, .slice A args.length c, .int .i64 tg] 35)).cell? ⟨w.heap.size, 7, none⟩ = some (.slice A args.length c) := ⟨hbi.lt, hbi.cell 0, hbi.cell 7⟩
    clear hbi
    go_enter Try.func53, Try.ntmps53
    go_wp2
    generalize w.alloc (.cells #[.int .i64 16, .int .i64 dst, .int .i64 a, .int .i64 b, .int .u32 word, .int .u64 bits, .string name, .slice A args.length c, .int .i64 tg] 35) = W at *
    go_loop [42] (fun i => ∃ k : Nat, k ≤ args.length ∧ i = .int .i64 k ∧ Aside (∀ (j : Nat) (z : Int), j < k → args[j]? = some z → z ≠ r)) (fun i => args.length - (intOf i).toNat)
    case atStart => exact ⟨0, Nat.zero_le _, rfl, ⟨fun j z hj => absurd hj (by omega)⟩⟩
    case round =>
      obtain ⟨k, hk2, rfl, hall⟩ := hrel
      by_cases hlt : k < args.length
      · obtain ⟨z, hz⟩ : ∃ z, Aside (args[k]? = some z) := ⟨_, ⟨List.getElem?_eq_getElem hlt⟩⟩
        obtain ⟨ga, oa, hAe, hga, hca⟩ := hx2.out.one hlt
        rw [List.getD_eq_getElem?_getD, hz.out, Option.getD_some] at hca
        obtain rfl := hAe
        by_cases ez : z = r
        · have g1 : (z == (r : Int)) = true := by simp [ez]
          have hin : Aside (decide ((r : Int) ∈ args) = true) := ⟨by rw [decide_eq_true_eq, ← ez]; exact List.mem_of_getElem? hz.out⟩
          replace ez := Aside.mk ez
          go_wp2
          go_ret
          exact ⟨by rw [hin.out]; rfl, hk.out⟩
        · have g1 : (z == (r : Int)) = false := by simp [ez]
          replace ez := Aside.mk ez
          go_wp2
          go_round
          case rel =>
            refine ⟨k + 1, by omega, by go_num, ⟨fun j y hj hy => ?_⟩⟩
            by_cases e : j = k
            · subst e
              obtain rfl := Option.some.inj (hz.out.symm.trans hy)
              exact ez.out
            · exact hall.out j y (by omega) hy
          case measure => simp [intOf]; omega
      · obtain rfl : k = args.length := by omega
        have hin : Aside (decide ((r : Int) ∈ args) = false) := ⟨by
          rw [decide_eq_false_iff_not]
          intro hm
          obtain ⟨j, hj, e⟩ := List.mem_iff_getElem.1 hm
          exact hall.out j _ hj (List.getElem?_eq_getElem hj) e⟩
        go_wp2
        go_ret
        exact ⟨by rw [hin.out]; rfl, hk.out⟩
  · by_cases ha : a = r
    · have g1 : (a == (r : Int)) = true := by simp [ha]
      have ha0 : 0 ≤ a := by omega
      obtain ⟨d, hd⟩ : ∃ d, Aside (decide ((r : Int) ∈ (⟨op, dst, a, b, word, bits, name, args, tg⟩ : InsV).reads) = d) := ⟨_, ⟨rfl⟩⟩
      rw [hd.out]
      replace hd := hd.out
      rcases op_cases h with rfl | rfl | rfl | rfl | rfl | rfl | rfl | rfl | rfl | rfl | rfl | rfl | rfl | rfl | rfl | rfl | rfl | rfl | rfl
      all_goals first | (exact absurd rfl e16) | skip
      all_goals
        simp only [InsV.reads] at hd
        simp [ha] at hd
        subst hd
        clear ha
        go_enter Try.func53, Try.ntmps53
        go_wp2
        go_ret
        exact ⟨rfl, by repeat (with_reducible first | exact Kp.refl _ | assumption | exact Dr.kp (by assumption) | refine Kp.drewN ?_ _ | refine Kp.drew ?_ | refine Kp.alloc ?_ _ | refine Kp.setCell ?_ (by first | exact Nat.le_refl _ | assumption | omega) _ | refine Kp.trans ?_ (by assumption) | refine Kp.trans ?_ (Dr.kp (by assumption)))⟩
    · have g1 : (a == (r : Int)) = false := by simp [ha]
      by_cases hb : b = r
      · have g2 : (b == (r : Int)) = true := by simp [hb]
        obtain ⟨d, hd⟩ : ∃ d, Aside (decide ((r : Int) ∈ (⟨op, dst, a, b, word, bits, name, args, tg⟩ : InsV).reads) = d) := ⟨_, ⟨rfl⟩⟩
        rw [hd.out]
        replace hd := hd.out
        have ha' : ¬(r : Int) = a := fun h => ha h.symm
        rcases op_cases h with rfl | rfl | rfl | rfl | rfl | rfl | rfl | rfl | rfl | rfl | rfl | rfl | rfl | rfl | rfl | rfl | rfl | rfl | rfl
        all_goals first | (exact absurd rfl e16) | skip
        all_goals
          simp only [InsV.reads] at hd
          simp [*] at hd
          subst hd
          clear ha hb ha'
          go_enter Try.func53, Try.ntmps53
          go_wp2
          go_ret
          exact ⟨rfl, by repeat (with_reducible first | exact Kp.refl _ | assumption | exact Dr.kp (by assumption) | refine Kp.drewN ?_ _ | refine Kp.drew ?_ | refine Kp.alloc ?_ _ | refine Kp.setCell ?_ (by first | exact Nat.le_refl _ | assumption | omega) _ | refine Kp.trans ?_ (by assumption) | refine Kp.trans ?_ (Dr.kp (by assumption)))⟩
      · have g2 : (b == (r : Int)) = false := by simp [hb]
        obtain ⟨d, hd⟩ : ∃ d, Aside (decide ((r : Int) ∈ (⟨op, dst, a, b, word, bits, name, args, tg⟩ : InsV).reads) = d) := ⟨_, ⟨rfl⟩⟩
        rw [hd.out]
        replace hd := hd.out
        have ha' : ¬(r : Int) = a := fun h => ha h.symm
        have hb' : ¬(r : Int) = b := fun h => hb h.symm
        rcases op_cases h with rfl | rfl | rfl | rfl | rfl | rfl | rfl | rfl | rfl | rfl | rfl | rfl | rfl | rfl | rfl | rfl | rfl | rfl | rfl
        all_goals first | (exact absurd rfl e16) | skip
        all_goals
          simp only [InsV.reads] at hd
          simp [*] at hd
          subst hd
          clear ha hb ha' hb'
          go_enter Try.func53, Try.ntmps53
          go_wp2
          go_ret
          exact ⟨rfl, by repeat (with_reducible first | exact Kp.refl _ | assumption | exact Dr.kp (by assumption) | refine Kp.drewN ?_ _ | refine Kp.drew ?_ | refine Kp.alloc ?_ _ | refine Kp.setCell ?_ (by first | exact Nat.le_refl _ | assumption | omega) _ | refine Kp.trans ?_ (by assumption) | refine Kp.trans ?_ (Dr.kp (by assumption)))⟩
end Go.Proofs.Ytkianddaccoeiaa
