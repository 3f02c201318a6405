/- The reference of relocations carried out, walked. Condition: the arguments are words. -/
import Derived.Test.YtgifefkoldocmaaPlainPatch
import Derived.Test.YtgifefkoldocmaaWordRs
import Derived.Test.YtgifefkoldocmaaCodeRd
namespace Go.Proofs.Ytgifefkoldocmaa
open Go.RowKit Go.Maps Go.Proofs.Ytgifefkoldocmaa.PC Go.Proofs.Ytgifefkoldocmaa.PW
set_option linter.unusedVariables false
set_option linter.unusedSimpArgs false
set_option maxHeartbeats 1000000 in
theorem rHi_calls (v : Int) (hv : U v) (w : World) : Calls Try.prog 13 #[.int .u32 v] w fun e w' => e = .returned (.int .i64 (hiV v)) ∧ Kp w w' := by
  have hv' : 0 ≤ v ∧ v ≤ 4294967295 := hv
  have hm : 0 ≤ (v + 2048) % 4294967296 ∧ (v + 2048) % 4294967296 < 4294967296 := by omega
  go_enter Try.func13, Try.ntmps13
  go_wp2_with ((go_at_call 30); (refine Calls.mono (rOf_calls _ ?_ ?_ _) ?_); (omega); (omega); (rintro e w1 ⟨rfl, hd1⟩))
  go_ret
  exact ⟨rfl, by repeat (with_reducible first | exact Kp.refl _ | assumption | exact Dr.kp (by assumption) | refine Kp.drewN ?_ _ | refine Kp.drew ?_ | refine Kp.alloc ?_ _ | refine Kp.setCell ?_ (by first | exact Nat.le_refl _ | assumption | omega) _ | refine Kp.trans ?_ (by assumption) | refine Kp.trans ?_ (Dr.kp (by assumption)))⟩
set_option maxHeartbeats 1000000 in
theorem rLo_calls (v : Int) (hv : U v) (w : World) : Calls Try.prog 14 #[.int .u32 v] w fun e w' => e = .returned (.int .i64 (loV v)) ∧ Kp w w' := by
  have hv' : 0 ≤ v ∧ v ≤ 4294967295 := hv
  by_cases h : 2048 ≤ v % 4096
  · have hl := Aside.mk (show loV v = v % 4096 - 4096 by unfold loV; rw [if_pos h])
    go_enter Try.func14, Try.ntmps14
    go_wp2
    go_ret
    exact ⟨by rw [hl.out]; rfl, by repeat (with_reducible first | exact Kp.refl _ | assumption | exact Dr.kp (by assumption) | refine Kp.drewN ?_ _ | refine Kp.drew ?_ | refine Kp.alloc ?_ _ | refine Kp.setCell ?_ (by first | exact Nat.le_refl _ | assumption | omega) _ | refine Kp.trans ?_ (by assumption) | refine Kp.trans ?_ (Dr.kp (by assumption)))⟩
  · have hl := Aside.mk (show loV v = v % 4096 by unfold loV; rw [if_neg h])
    go_enter Try.func14, Try.ntmps14
    go_wp2
    go_ret
    exact ⟨by rw [hl.out]; rfl, by repeat (with_reducible first | exact Kp.refl _ | assumption | exact Dr.kp (by assumption) | refine Kp.drewN ?_ _ | refine Kp.drew ?_ | refine Kp.alloc ?_ _ | refine Kp.setCell ?_ (by first | exact Nat.le_refl _ | assumption | omega) _ | refine Kp.trans ?_ (by assumption) | refine Kp.trans ?_ (Dr.kp (by assumption)))⟩
theorem tbl_kinds : ∀ i : Fin 55, (match tbl[i.val]? with | some f => decide ((f.kind = 73 ↔ ofK 2 ((i.val : Int) + 1)) ∧ (f.kind = 83 ↔ ofK 3 ((i.val : Int) + 1)) ∧ (f.kind = 66 ↔ ofK 5 ((i.val : Int) + 1))) | none => false) = true := by decide +kernel
theorem kinds_of {op : Int} {f : Fm} (hf : formOf op = some f) : (f.kind = 73 ↔ ofK 2 op) ∧ (f.kind = 83 ↔ ofK 3 op) ∧ (f.kind = 66 ↔ ofK 5 op) := by
  obtain ⟨_, o1, o2⟩ := formOf_good hf
  have ht := tbl_kinds ⟨(op - 1).toNat, by omega⟩
  unfold formOf at hf
  rw [if_pos ⟨o1, o2⟩] at hf
  simp only [hf] at ht
  have e : (((op - 1).toNat : Nat) : Int) + 1 = op := by omega
  rw [e] at ht
  exact of_decide_eq_true ht
/-- What is told of a word and a kind. -/
def OfR (k x : Int) (b : Bool) : Prop := ∃ op rd rs1 rs2 n er : Int, DecR x op rd rs1 rs2 n er ∧ (b = true ↔ er = 0 ∧ n = 0 ∧ ofK k op)
theorem Blk.two0 {w : World} {b : Nat} {a0 a1 a2 a3 a4 : Value} {ty : TypeId} (h : Blk w b #[a0, a1, a2, a3, a4] ty) : b < w.heap.size ∧ w.cell? ⟨b, 0, none⟩ = some a0 ∧ w.cell? ⟨b, 4, none⟩ = some a4 := ⟨h.lt, h.cell 0, h.cell 4⟩
set_option maxHeartbeats 2000000 in
theorem rOf5_calls (k x : Int) (hk : 1 ≤ k ∧ k ≤ 5) (hx : U x) (w : World) :
    Calls Try.prog 27 #[.int .i64 k, .int .u32 x] w fun e w' => ∃ b : Bool, e = .returned (.bool b) ∧ OfR k x b ∧ Kp w w' := by
  have hx' := Aside.mk hx
  go_enter Try.func27, Try.ntmps27
  go_wp2_with fail
  refine Calls.mono (rDecode_calls x hx'.out _) ?_
  rintro e w1 ⟨op, rd, rs1, rs2, n, er, rfl, k1, hd⟩
  have hb := Aside.mk (Blk.new w1 #[.int .i64 op, .int .i64 rd, .int .i64 rs1, .int .i64 rs2, .int .i64 n] 36)
  have kk := Aside.mk (k1.alloc (.cells #[.int .i64 op, .int .i64 rd, .int .i64 rs1, .int .i64 rs2, .int .i64 n] 36))
  clear k1
  have her : er = 0 ∧ (∃ f, formOf op = some f) ∨ er = 2 ∧ op = 0 := by
    rcases hd with h | h
    · obtain ⟨f, hf, _⟩ := insE_form h.2.1
      exact Or.inl ⟨h.1, f, hf⟩
    · exact Or.inr ⟨h.1, h.2.1⟩
  replace hd := Aside.mk hd
  obtain ⟨il, i0, i4⟩ := hb.out.two0
  have oc := fun w => Of_calls op w
  rcases her with ⟨rfl, f, hf⟩ | ⟨rfl, rfl⟩
  · obtain ⟨K1, K2, K3⟩ := kinds_of hf
    simp only [refOf, hf, rowV] at oc
    generalize (if f.kind = 69 then 0 else f.rs2) = r4 at *
    replace oc := Aside.mk oc
    replace K1 := Aside.mk K1
    replace K2 := Aside.mk K2
    replace K3 := Aside.mk K3
    clear hf
    go_wp2_with fail
    refine Calls.mono (oc.out _) ?_
    rintro e w2 ⟨rfl, k2⟩
    replace hb := Aside.mk ((hb.out.kp k2).alloc (.cells #[.int .u8 f.kind, .int .i64 f.op, .int .i64 f.f3, .int .i64 f.f7, .int .i64 r4] 92))
    have hr := Aside.mk (Blk.new w2 #[.int .u8 f.kind, .int .i64 f.op, .int .i64 f.f3, .int .i64 f.f7, .int .i64 r4] 92)
    replace kk := Aside.mk ((kk.out.trans k2).alloc (.cells #[.int .u8 f.kind, .int .i64 f.op, .int .i64 f.f3, .int .i64 f.f7, .int .i64 r4] 92))
    clear k2 il i0 i4 oc
    obtain ⟨il, i0, i4⟩ := hb.out.two0
    obtain ⟨rl, r0, -⟩ := hr.out.two0
    by_cases hn : n = 0
    · subst hn
      have h5 : k = 1 ∨ k = 2 ∨ k = 3 ∨ k = 4 ∨ k = 5 := by omega
      clear hk
      rcases h5 with rfl | rfl | rfl | rfl | rfl <;>
      · go_wp2
        all_goals
          go_ret
          refine ⟨_, rfl, ⟨op, rd, rs1, rs2, 0, 0, hd.out, ?_⟩, kk.out⟩
          have g1 := K1.out
          have g2 := K2.out
          have g3 := K3.out
          first
          | (simp [ofK]; done)
          | (simp; first | exact g1 | exact g2 | exact g3)
    · have hn' := Aside.mk hn
      go_wp2
      go_ret
      exact ⟨_, rfl, ⟨op, rd, rs1, rs2, n, 0, hd.out, by have := hn'.out; simp [this]⟩, kk.out⟩
  · have hr0 : refOf 0 = .agg #[.int .u8 0, .int .i64 0, .int .i64 0, .int .i64 0, .int .i64 0] := rfl
    rw [hr0] at oc
    replace oc := Aside.mk oc
    clear hr0
    go_wp2_with ((go_at_call 41); (refine Calls.mono (oc.out _) ?_); (rintro e w2 ⟨rfl, k2⟩))
    go_ret
    exact ⟨_, rfl, ⟨0, rd, rs1, rs2, n, 2, hd.out, by simp⟩, (kk.out.trans k2).alloc _⟩
set_option maxHeartbeats 2000000 in
theorem rPatch_calls (k x v p : Int) (hx : U x) (hv : U v) (hp : U p) (w : World) :
    Calls Try.prog 10 #[.int .i64 k, .int .u32 x, .int .u32 v, .int .u32 p] w fun e w' => ∃ W E : Int, e = .returned (.tuple #[.int .u32 W, .int .i64 E]) ∧ PatR k x v p W E ∧ Kp w w' := by
  by_cases hk : k < 1 ∨ 6 < k
  · have h1 := Aside.mk hk
    by_cases h2 : k < 1
    · go_enter Try.func10, Try.ntmps10
      go_wp2
      go_ret2
      exact ⟨0, 1, rfl, Or.inl ⟨h1.out, rfl, rfl⟩, by repeat (with_reducible first | exact Kp.refl _ | assumption | exact Dr.kp (by assumption) | refine Kp.drewN ?_ _ | refine Kp.drew ?_ | refine Kp.alloc ?_ _ | refine Kp.setCell ?_ (by first | exact Nat.le_refl _ | assumption | omega) _ | refine Kp.trans ?_ (by assumption) | refine Kp.trans ?_ (Dr.kp (by assumption)))⟩
    · have h3 : 6 < k := by omega
      go_enter Try.func10, Try.ntmps10
      go_wp2
      go_ret2
      exact ⟨0, 1, rfl, Or.inl ⟨h1.out, rfl, rfl⟩, by repeat (with_reducible first | exact Kp.refl _ | assumption | exact Dr.kp (by assumption) | refine Kp.drewN ?_ _ | refine Kp.drew ?_ | refine Kp.alloc ?_ _ | refine Kp.setCell ?_ (by first | exact Nat.le_refl _ | assumption | omega) _ | refine Kp.trans ?_ (by assumption) | refine Kp.trans ?_ (Dr.kp (by assumption)))⟩
  by_cases h6 : k = 6
  · subst h6
    go_enter Try.func10, Try.ntmps10
    go_wp2
    go_ret2
    exact ⟨v, 0, rfl, Or.inr (Or.inl ⟨rfl, rfl, rfl⟩), by repeat (with_reducible first | exact Kp.refl _ | assumption | exact Dr.kp (by assumption) | refine Kp.drewN ?_ _ | refine Kp.drew ?_ | refine Kp.alloc ?_ _ | refine Kp.setCell ?_ (by first | exact Nat.le_refl _ | assumption | omega) _ | refine Kp.trans ?_ (by assumption) | refine Kp.trans ?_ (Dr.kp (by assumption)))⟩
  have h5 : 1 ≤ k ∧ k ≤ 5 := by omega
  clear hk
  have hx' := Aside.mk hx
  have hk5 := Aside.mk h5
  have k0 : ¬k < 1 := by omega
  have k6 : ¬6 < k := by omega
  have k7 : (k == 6) = false := by simpa using h6
  have hvr : 0 ≤ v ∧ v ≤ 4294967295 := hv
  have hpr : 0 ≤ p ∧ p ≤ 4294967295 := hp
  go_enter Try.func10, Try.ntmps10
  go_wp2_with fail
  refine Calls.mono (rOf5_calls k x hk5.out hx'.out _) ?_
  rintro e w1 ⟨b, rfl, ⟨op, rd, rs1, rs2, n, er, hd, hb⟩, k1⟩
  replace hd := Aside.mk hd
  replace k1 := Aside.mk k1
  cases b
  · have hb' : Aside (er ≠ 0 ∨ n ≠ 0 ∨ ¬ofK k op) := ⟨by
      by_cases e1 : er = 0
      · by_cases e2 : n = 0
        · exact Or.inr (Or.inr (fun e3 => by have := hb.2 ⟨e1, e2, e3⟩; cases this))
        · exact Or.inr (Or.inl e2)
      · exact Or.inl e1⟩
    clear hb
    go_wp2_with fail
    go_ret2
    exact ⟨0, 2, rfl, Or.inr (Or.inr ⟨hk5.out, op, rd, rs1, rs2, n, er, hd.out, Or.inl ⟨hb'.out, rfl, rfl⟩⟩), k1.out⟩
  · obtain ⟨rfl, rfl, hof⟩ := hb.1 rfl
    clear hb
    replace hof := Aside.mk hof
    go_wp2_with fail
    refine Calls.mono (rDecode_calls x hx'.out _) ?_
    rintro e w2 ⟨op', rd', rs1', rs2', n', er', rfl, k2, hd'⟩
    obtain ⟨rfl, rfl, rfl, rfl, rfl, rfl⟩ := decR_unique hd.out hd'
    clear hd'
    have hb := Aside.mk (Blk.new w2 #[.int .i64 op, .int .i64 rd, .int .i64 rs1, .int .i64 rs2, .int .i64 0] 36)
    have kk := Aside.mk ((k1.out.trans k2).alloc (.cells #[.int .i64 op, .int .i64 rd, .int .i64 rs1, .int .i64 rs2, .int .i64 0] 36))
    clear k1 k2
    go_upto_region 9 with (first | ((go_at_call 30); (refine Calls.mono (rOf_calls _ ?_ ?_ _) ?_); (omega); (omega); (rintro e w3 ⟨rfl, hd3⟩)) | ((go_at_call 29); (refine Calls.mono (rSigned_calls _ (U_mod _) _) ?_); (rintro e w4 ⟨rfl, hd4⟩)))
    replace hb := Aside.mk (hb.out.kp ((Dr.kp hd3).trans (Dr.kp hd4)))
    replace kk := Aside.mk (kk.out.trans ((Dr.kp hd3).trans (Dr.kp hd4)))
    clear hd3 hd4
    have him := immP_range k v p
    have ec := fun w => rEncode_calls op rd rs1 rs2 (immP k v p) ⟨by omega, by omega⟩ w
    have h0 : insE op rd rs1 rs2 0 = 0 := by
      rcases hd.out with h | h
      · exact h.2.1
      · exact absurd h.1 (by decide)
    have hi := ins_imm (m := immP k v p) hof.out h0
    clear h0 him
    have h5' : k = 1 ∨ k = 2 ∨ k = 3 ∨ k = 4 ∨ k = 5 := by omega
    clear h5 k0 k6 k7 h6
    cases hfo : fitsOp op (immP k v p)
    · rw [hfo] at hi
      rw [hi] at ec
      clear hi
      replace hfo := Aside.mk hfo
      rcases h5' with rfl | rfl | rfl | rfl | rfl
      all_goals
        simp only [immP_1, immP_2, immP_3, immP_4, immP_5] at ec
        replace ec := Aside.mk ec
      · go_wp2_with (first | ((go_at_call 13); (refine Calls.mono (rHi_calls v hv _) ?_); (rintro e w5 ⟨rfl, k5⟩); (have hb5 := Aside.mk (hb.out.kp k5)); (have kk5 := Aside.mk (kk.out.trans k5)); (obtain ⟨il, i0, i1, i2, i3, i4, -⟩ := hb5.out.five)) | ((go_at_call 31); (refine Calls.mono (ec.out _) ?_); (rintro e w6 ⟨rfl, k6⟩)))
        go_ret2
        exact ⟨0, 7, rfl, Or.inr (Or.inr ⟨hk5.out, op, rd, rs1, rs2, 0, 0, hd.out, Or.inr ⟨rfl, rfl, hof.out, Or.inl ⟨hfo.out, rfl, rfl⟩⟩⟩), kk5.out.trans k6⟩
      · go_wp2_with (first | ((go_at_call 14); (refine Calls.mono (rLo_calls v hv _) ?_); (rintro e w5 ⟨rfl, k5⟩); (have hb5 := Aside.mk (hb.out.kp k5)); (have kk5 := Aside.mk (kk.out.trans k5)); (obtain ⟨il, i0, i1, i2, i3, i4, -⟩ := hb5.out.five)) | ((go_at_call 31); (refine Calls.mono (ec.out _) ?_); (rintro e w6 ⟨rfl, k6⟩)))
        go_ret2
        exact ⟨0, 7, rfl, Or.inr (Or.inr ⟨hk5.out, op, rd, rs1, rs2, 0, 0, hd.out, Or.inr ⟨rfl, rfl, hof.out, Or.inl ⟨hfo.out, rfl, rfl⟩⟩⟩), kk5.out.trans k6⟩
      · go_wp2_with (first | ((go_at_call 14); (refine Calls.mono (rLo_calls v hv _) ?_); (rintro e w5 ⟨rfl, k5⟩); (have hb5 := Aside.mk (hb.out.kp k5)); (have kk5 := Aside.mk (kk.out.trans k5)); (obtain ⟨il, i0, i1, i2, i3, i4, -⟩ := hb5.out.five)) | ((go_at_call 31); (refine Calls.mono (ec.out _) ?_); (rintro e w6 ⟨rfl, k6⟩)))
        go_ret2
        exact ⟨0, 7, rfl, Or.inr (Or.inr ⟨hk5.out, op, rd, rs1, rs2, 0, 0, hd.out, Or.inr ⟨rfl, rfl, hof.out, Or.inl ⟨hfo.out, rfl, rfl⟩⟩⟩), kk5.out.trans k6⟩
      · obtain ⟨il, i0, i1, i2, i3, i4, -⟩ := hb.out.five
        go_wp2_with (first | fail | ((go_at_call 31); (refine Calls.mono (ec.out _) ?_); (rintro e w6 ⟨rfl, k6⟩)))
        go_ret2
        exact ⟨0, 7, rfl, Or.inr (Or.inr ⟨hk5.out, op, rd, rs1, rs2, 0, 0, hd.out, Or.inr ⟨rfl, rfl, hof.out, Or.inl ⟨hfo.out, rfl, rfl⟩⟩⟩), kk.out.trans k6⟩
      · obtain ⟨il, i0, i1, i2, i3, i4, -⟩ := hb.out.five
        go_wp2_with (first | fail | ((go_at_call 31); (refine Calls.mono (ec.out _) ?_); (rintro e w6 ⟨rfl, k6⟩)))
        go_ret2
        exact ⟨0, 7, rfl, Or.inr (Or.inr ⟨hk5.out, op, rd, rs1, rs2, 0, 0, hd.out, Or.inr ⟨rfl, rfl, hof.out, Or.inl ⟨hfo.out, rfl, rfl⟩⟩⟩), kk.out.trans k6⟩
    · rw [hfo] at hi
      rw [hi] at ec
      clear hi
      replace hfo := Aside.mk hfo
      rcases h5' with rfl | rfl | rfl | rfl | rfl
      all_goals
        simp only [immP_1, immP_2, immP_3, immP_4, immP_5] at ec
        replace ec := Aside.mk ec
      · go_wp2_with (first | ((go_at_call 13); (refine Calls.mono (rHi_calls v hv _) ?_); (rintro e w5 ⟨rfl, k5⟩); (have hb5 := Aside.mk (hb.out.kp k5)); (have kk5 := Aside.mk (kk.out.trans k5)); (obtain ⟨il, i0, i1, i2, i3, i4, -⟩ := hb5.out.five)) | ((go_at_call 31); (refine Calls.mono (ec.out _) ?_); (rintro e w6 ⟨rfl, k6⟩)))
        go_ret2
        exact ⟨_, 0, rfl, Or.inr (Or.inr ⟨hk5.out, op, rd, rs1, rs2, 0, 0, hd.out, Or.inr ⟨rfl, rfl, hof.out, Or.inr ⟨hfo.out, rfl, rfl⟩⟩⟩), kk5.out.trans k6⟩
      · go_wp2_with (first | ((go_at_call 14); (refine Calls.mono (rLo_calls v hv _) ?_); (rintro e w5 ⟨rfl, k5⟩); (have hb5 := Aside.mk (hb.out.kp k5)); (have kk5 := Aside.mk (kk.out.trans k5)); (obtain ⟨il, i0, i1, i2, i3, i4, -⟩ := hb5.out.five)) | ((go_at_call 31); (refine Calls.mono (ec.out _) ?_); (rintro e w6 ⟨rfl, k6⟩)))
        go_ret2
        exact ⟨_, 0, rfl, Or.inr (Or.inr ⟨hk5.out, op, rd, rs1, rs2, 0, 0, hd.out, Or.inr ⟨rfl, rfl, hof.out, Or.inr ⟨hfo.out, rfl, rfl⟩⟩⟩), kk5.out.trans k6⟩
      · go_wp2_with (first | ((go_at_call 14); (refine Calls.mono (rLo_calls v hv _) ?_); (rintro e w5 ⟨rfl, k5⟩); (have hb5 := Aside.mk (hb.out.kp k5)); (have kk5 := Aside.mk (kk.out.trans k5)); (obtain ⟨il, i0, i1, i2, i3, i4, -⟩ := hb5.out.five)) | ((go_at_call 31); (refine Calls.mono (ec.out _) ?_); (rintro e w6 ⟨rfl, k6⟩)))
        go_ret2
        exact ⟨_, 0, rfl, Or.inr (Or.inr ⟨hk5.out, op, rd, rs1, rs2, 0, 0, hd.out, Or.inr ⟨rfl, rfl, hof.out, Or.inr ⟨hfo.out, rfl, rfl⟩⟩⟩), kk5.out.trans k6⟩
      · obtain ⟨il, i0, i1, i2, i3, i4, -⟩ := hb.out.five
        go_wp2_with (first | fail | ((go_at_call 31); (refine Calls.mono (ec.out _) ?_); (rintro e w6 ⟨rfl, k6⟩)))
        go_ret2
        exact ⟨_, 0, rfl, Or.inr (Or.inr ⟨hk5.out, op, rd, rs1, rs2, 0, 0, hd.out, Or.inr ⟨rfl, rfl, hof.out, Or.inr ⟨hfo.out, rfl, rfl⟩⟩⟩), kk.out.trans k6⟩
      · obtain ⟨il, i0, i1, i2, i3, i4, -⟩ := hb.out.five
        go_wp2_with (first | fail | ((go_at_call 31); (refine Calls.mono (ec.out _) ?_); (rintro e w6 ⟨rfl, k6⟩)))
        go_ret2
        exact ⟨_, 0, rfl, Or.inr (Or.inr ⟨hk5.out, op, rd, rs1, rs2, 0, 0, hd.out, Or.inr ⟨rfl, rfl, hof.out, Or.inr ⟨hfo.out, rfl, rfl⟩⟩⟩), kk.out.trans k6⟩
end Go.Proofs.Ytgifefkoldocmaa
