/- Encode, walked. -/
import Derived.Test.YtnbooljaodkedaaPlainPatch
import Derived.Deep.DeepCutAuto
import Derived.Deep.RegionHeld3
namespace Go.Proofs.Ytnbooljaodkedaa
open Go.RowKit Go.Maps Go.Proofs.Ytnbooljaodkedaa.PC
set_option linter.unusedVariables false
set_option linter.unusedSimpArgs false
/-- A block of five cells, kept. -/
theorem five {W w1 : World} {b : Nat} {a0 a1 a2 a3 a4 : Value} {ty : TypeId} (k : Kp W w1) (h : W.heap[b]? = some (.cells #[a0, a1, a2, a3, a4] ty)) :
    w1.heap[b]? = some (.cells #[a0, a1, a2, a3, a4] ty) ∧ w1.cell? ⟨b, 0, none⟩ = some a0 ∧ w1.cell? ⟨b, 1, none⟩ = some a1 ∧ w1.cell? ⟨b, 2, none⟩ = some a2 ∧ w1.cell? ⟨b, 3, none⟩ = some a3 ∧ w1.cell? ⟨b, 4, none⟩ = some a4 ∧ b < w1.heap.size ∧
      w1.frozen? ⟨b, 0, none⟩ = false ∧ w1.frozen? ⟨b, 1, none⟩ = false ∧ w1.frozen? ⟨b, 2, none⟩ = false ∧ w1.frozen? ⟨b, 3, none⟩ = false ∧ w1.frozen? ⟨b, 4, none⟩ = false := by
  have hl : b < W.heap.size := (Array.getElem?_eq_some_iff.1 h).1
  have e := (k.block hl).trans h
  refine ⟨e, ?_, ?_, ?_, ?_, ?_, Nat.lt_of_lt_of_le hl k.size, ?_, ?_, ?_, ?_, ?_⟩ <;> simp [World.cell?, World.frozen?, e]
theorem new_in (w : World) (o : Obj) : (w.alloc o).drew.heap[w.heap.size]? = some o := heap_new rfl
theorem old_in (w : World) (o o2 : Obj) : ((w.alloc o).alloc o2).drew.heap[w.heap.size]? = some o := by
  show ((w.alloc o).alloc o2).heap[w.heap.size]? = some o
  rw [Below.heap_alloc _ _ _ (by rw [World.size_alloc]; omega)]
  exact heap_new rfl
theorem new2_in (w : World) (o o2 : Obj) : ((w.alloc o).alloc o2).drew.heap[w.heap.size + 1]? = some o2 := by
  show ((w.alloc o).alloc o2).heap[w.heap.size + 1]? = some o2
  exact heap_new (by rw [World.size_alloc])
/-- What is known behind the first statement: the instruction's cells, and the form's. -/
def CutF (w : World) (f : Fm) (op rd rs1 rs2 n : Int) (b : Nat) (wx : World) : Prop :=
  Kp w wx ∧ w.heap.size < b ∧ b < wx.heap.size ∧ (wx.cell? ⟨b, 0, none⟩ = some (.int .u8 f.kind) ∧ wx.cell? ⟨b, 1, none⟩ = some (.int .u32 f.op) ∧ wx.cell? ⟨b, 2, none⟩ = some (.int .u32 f.f3) ∧ wx.cell? ⟨b, 3, none⟩ = some (.int .u32 f.f7) ∧ wx.cell? ⟨b, 4, none⟩ = some (.int .i64 f.rs2)) ∧
    wx.cell? ⟨w.heap.size, 0, none⟩ = some (.int .i64 op) ∧ wx.cell? ⟨w.heap.size, 1, none⟩ = some (.int .i64 rd) ∧ wx.cell? ⟨w.heap.size, 2, none⟩ = some (.int .i64 rs1) ∧ wx.cell? ⟨w.heap.size, 3, none⟩ = some (.int .i64 rs2) ∧ wx.cell? ⟨w.heap.size, 4, none⟩ = some (.int .i64 n)
theorem cut_new {w w1 : World} {f : Fm} {op rd rs1 rs2 n : Int} {ty : TypeId} (k : Kp w w1) (cl : w.heap.size < w1.heap.size) (c0 : w1.cell? ⟨w.heap.size, 0, none⟩ = some (.int .i64 op)) (c1 : w1.cell? ⟨w.heap.size, 1, none⟩ = some (.int .i64 rd)) (c2 : w1.cell? ⟨w.heap.size, 2, none⟩ = some (.int .i64 rs1)) (c3 : w1.cell? ⟨w.heap.size, 3, none⟩ = some (.int .i64 rs2)) (c4 : w1.cell? ⟨w.heap.size, 4, none⟩ = some (.int .i64 n)) :
    CutF w f op rd rs1 rs2 n w1.heap.size (w1.alloc (.cells #[.int .u8 f.kind, .int .u32 f.op, .int .u32 f.f3, .int .u32 f.f7, .int .i64 f.rs2] ty)) := by
  refine ⟨k.alloc _, cl, by rw [World.size_alloc]; omega, ⟨?_, ?_, ?_, ?_, ?_⟩, ?_, ?_, ?_, ?_, ?_⟩
  · rw [cell_new]; rfl
  · rw [cell_new]; rfl
  · rw [cell_new]; rfl
  · rw [cell_new]; rfl
  · rw [cell_new]; rfl
  · rw [cell_kept _ _ cl]; exact c0
  · rw [cell_kept _ _ cl]; exact c1
  · rw [cell_kept _ _ cl]; exact c2
  · rw [cell_kept _ _ cl]; exact c3
  · rw [cell_kept _ _ cl]; exact c4
theorem cut_set {w w1 : World} {f : Fm} {op rd rs1 rs2 n : Int} {d0 d1 d2 d3 d4 : Value} (k : Kp w w1) (c0 : w1.cell? ⟨w.heap.size, 0, none⟩ = some (.int .i64 op)) (c1 : w1.cell? ⟨w.heap.size, 1, none⟩ = some (.int .i64 rd)) (c2 : w1.cell? ⟨w.heap.size, 2, none⟩ = some (.int .i64 rs1)) (c3 : w1.cell? ⟨w.heap.size, 3, none⟩ = some (.int .i64 rs2)) (c4 : w1.cell? ⟨w.heap.size, 4, none⟩ = some (.int .i64 n))
    (e0 : w1.cell? ⟨w.heap.size + 1, 0, none⟩ = some d0) (e1 : w1.cell? ⟨w.heap.size + 1, 1, none⟩ = some d1) (e2 : w1.cell? ⟨w.heap.size + 1, 2, none⟩ = some d2) (e3 : w1.cell? ⟨w.heap.size + 1, 3, none⟩ = some d3) (e4 : w1.cell? ⟨w.heap.size + 1, 4, none⟩ = some d4) (dl : w.heap.size + 1 < w1.heap.size) :
    CutF w f op rd rs1 rs2 n (w.heap.size + 1) (((((w1.setCell ⟨w.heap.size + 1, 0, none⟩ (.int .u8 f.kind)).setCell ⟨w.heap.size + 1, 1, none⟩ (.int .u32 f.op)).setCell ⟨w.heap.size + 1, 2, none⟩ (.int .u32 f.f3)).setCell ⟨w.heap.size + 1, 3, none⟩ (.int .u32 f.f7)).setCell ⟨w.heap.size + 1, 4, none⟩ (.int .i64 f.rs2)) := by
  have hb : w.heap.size ≤ w.heap.size + 1 := Nat.le_succ _
  have hne : w.heap.size ≠ w.heap.size + 1 := by omega
  refine ⟨((((k.setCell hb _).setCell hb _).setCell hb _).setCell hb _).setCell hb _, by omega, by simpa using dl, ⟨?_, ?_, ?_, ?_, ?_⟩, ?_, ?_, ?_, ?_, ?_⟩ <;> simp [World.cell?_setCell_other, World.cell?_setCell_same, *]
/-- The cells, kept. -/
theorem CutF.kept {w wx wy : World} {f : Fm} {op rd rs1 rs2 n : Int} {b : Nat} (h : CutF w f op rd rs1 rs2 n b wx) (k : Kp wx wy) : CutF w f op rd rs1 rs2 n b wy := by
  obtain ⟨kp, lb, lw, ⟨b0, b1, b2, b3, b4⟩, c0, c1, c2, c3, c4⟩ := h
  have ls : w.heap.size < wx.heap.size := by omega
  exact ⟨kp.trans k, lb, Nat.lt_of_lt_of_le lw k.size, ⟨(k.cell lw).trans b0, (k.cell lw).trans b1, (k.cell lw).trans b2, (k.cell lw).trans b3, (k.cell lw).trans b4⟩, (k.cell ls).trans c0, (k.cell ls).trans c1, (k.cell ls).trans c2, (k.cell ls).trans c3, (k.cell ls).trans c4⟩
theorem Kp.undrew {w w' : World} (h : Kp w.drew w') : Kp w w' := ((Kp.refl w).drew).trans h
theorem ins_two {f : Fm} {op rd rs1 rs2 n : Int} (hf : formOf op = some f) (h : ¬f.uRd ∧ rd ≠ 0 ∨ ¬f.uRs1 ∧ rs1 ≠ 0 ∨ ¬f.uRs2 ∧ rs2 ≠ 0 ∨ ¬f.uImm ∧ n ≠ 0) : insE op rd rs1 rs2 n = 2 ∧ insW op rd rs1 rs2 n = 0 := by
  have e : encE f rd rs1 rs2 n = 2 := by unfold encE; rw [if_pos h]
  simp [insE, insW, hf, e]
theorem not_two {f : Fm} {rd rs1 rs2 n : Int} (h : (f.uRd ∨ rd = 0) ∧ (f.uRs1 ∨ rs1 = 0) ∧ (f.uRs2 ∨ rs2 = 0) ∧ (f.uImm ∨ n = 0)) : ¬(¬f.uRd ∧ rd ≠ 0 ∨ ¬f.uRs1 ∧ rs1 ≠ 0 ∨ ¬f.uRs2 ∧ rs2 ≠ 0 ∨ ¬f.uImm ∧ n ≠ 0) := by
  obtain ⟨h1, h2, h3, h4⟩ := h
  rintro (⟨a, b⟩ | ⟨a, b⟩ | ⟨a, b⟩ | ⟨a, b⟩)
  · exact b (h1.resolve_left a)
  · exact b (h2.resolve_left a)
  · exact b (h3.resolve_left a)
  · exact b (h4.resolve_left a)
theorem ins_one1 {f : Fm} {op rd rs1 rs2 n : Int} (hf : formOf op = some f) (hp : (f.uRd ∨ rd = 0) ∧ (f.uRs1 ∨ rs1 = 0) ∧ (f.uRs2 ∨ rs2 = 0) ∧ (f.uImm ∨ n = 0)) (h : rd < 0 ∨ 31 < rd ∨ rs1 < 0 ∨ 31 < rs1 ∨ rs2 < 0 ∨ 31 < rs2 ∨ f.uImm ∧ ¬fitsK f.kind n) : insE op rd rs1 rs2 n = 1 ∧ insW op rd rs1 rs2 n = 0 := by
  have e : encE f rd rs1 rs2 n = 1 := by unfold encE; rw [if_neg (not_two hp), if_pos h]
  simp [insE, insW, hf, e]
theorem ins_ok {f : Fm} {op rd rs1 rs2 n : Int} (hf : formOf op = some f) (hp : (f.uRd ∨ rd = 0) ∧ (f.uRs1 ∨ rs1 = 0) ∧ (f.uRs2 ∨ rs2 = 0) ∧ (f.uImm ∨ n = 0)) (h : ¬(rd < 0 ∨ 31 < rd ∨ rs1 < 0 ∨ 31 < rs1 ∨ rs2 < 0 ∨ 31 < rs2 ∨ f.uImm ∧ ¬fitsK f.kind n)) :
    insE op rd rs1 rs2 n = 0 ∧ insW op rd rs1 rs2 n = encW f rd rs1 rs2 n ∧ encE f rd rs1 rs2 n = 0 := by
  have e : encE f rd rs1 rs2 n = 0 := by unfold encE; rw [if_neg (not_two hp), if_neg h]
  simp [insE, insW, hf, e]
theorem word_wrap {f : Fm} (hf : f.good) {rd rs1 rs2 n x : Int} (h : encE f rd rs1 rs2 n = 0) (hx : (if f.rs2 = 32 then rs1 else rs2) = x) :
    bits .or .u32 (bits .or .u32 (bits .or .u32 (bits .or .u32 (bits .or .u32 (bits .or .u32 f.op (IntKind.u32.wrap (IntKind.u32.wrap rd * 128))) (IntKind.u32.wrap (f.f3 * 4096))) (IntKind.u32.wrap (IntKind.u32.wrap rs1 * 32768))) (IntKind.u32.wrap (IntKind.u32.wrap x * 1048576))) (IntKind.u32.wrap (f.f7 * 33554432))) (immB f.kind n) = encW f rd rs1 rs2 n := by
  obtain ⟨u1, u2, u3, u4, r1, r2, r3, r4, r5, r6, hfit⟩ := encE_zero h
  have g := hf
  obtain ⟨g1, g2, g3, g4, g5, g6, hk⟩ := g
  have hx1 : 0 ≤ x ∧ x ≤ 31 := by rw [← hx]; split <;> omega
  clear hk hfit u1 u2 u3 u4
  have W : ∀ a : Int, 0 ≤ a → a < 4294967296 → IntKind.u32.wrap a = a := fun a h0 h1 => wraps_u32 a h0 (by simpa using h1)
  rw [W rd (by omega) (by omega), W rs1 (by omega) (by omega), W x (by omega) (by omega), W (rd * 128) (by omega) (by omega), W (f.f3 * 4096) (by omega) (by omega), W (rs1 * 32768) (by omega) (by omega), W (x * 1048576) (by omega) (by omega), W (f.f7 * 33554432) (by omega) (by omega), ← hx]
  exact word_or hf h
set_option maxRecDepth 100000 in
set_option maxHeartbeats 4000000 in
theorem Encode_calls (op rd rs1 rs2 n : Int) (ho : -9223372036854775808 ≤ op ∧ op ≤ 9223372036854775807) (hn : -9223372036854775808 ≤ n ∧ n ≤ 9223372036854775807) (w : World) :
    Calls Try.prog 29 #[.agg #[.int .i64 op, .int .i64 rd, .int .i64 rs1, .int .i64 rs2, .int .i64 n]] w fun e w' => e = .returned (.tuple #[.int .u32 (insW op rd rs1 rs2 n), .int .i64 (insE op rd rs1 rs2 n)]) ∧ Kp w w' := by
  cases hf : formOf op with
  | none =>
    replace hf := Aside.mk hf
    go_enter Try.func29, Try.ntmps29
    go_upto_region 1 with fail
    go_cut [5] (fun s5 wx => s5 = .bool false ∧ Kp w wx)
    case first =>
      go_region_held3 (fun w' => w'.cell? ⟨w.heap.size, 0, none⟩ = some (.int .i64 op)) (go_keep) (first | (((go_at_call 45); (refine Calls.mono (forms_calls _) ?_); (rintro e w1 ⟨rfl, kp1, hown⟩)); (simp only [World.size_alloc, World.size_drew] at hown); (have kp0 : Aside (Kp w w1) := ⟨by first | exact ((Kp.refl _).alloc _).drew.trans kp1 | exact (((Kp.refl _).alloc _).alloc _).drew.trans kp1⟩); (first | ((obtain ⟨-, c0, c1, c2, c3, c4, cl, -⟩ := five kp1 (old_in _ _ _)); (obtain ⟨-, d0, d1, d2, d3, d4, dl, f0, f1, f2, f3, f4⟩ := five kp1 (new2_in _ _ _))) | (obtain ⟨-, c0, c1, c2, c3, c4, cl, -⟩ := five kp1 (new_in _ _))); (clear kp1); (have hlk := look_none hown ho hf.out); (have hlk2 := fun o => look_none (hown.alloc o) ho hf.out); (simp only [zeroF] at hlk hlk2)))
      all_goals (go_wp2_with fail; go_meet; have kp0 := kp0.out; with_reducible first | exact ⟨rfl, kp0.alloc _⟩ | exact ⟨rfl, ((((kp0.setCell (Nat.le_succ _) _).setCell (Nat.le_succ _) _).setCell (Nat.le_succ _) _).setCell (Nat.le_succ _) _).setCell (Nat.le_succ _) _⟩)
    case rest =>
      obtain ⟨rfl, kpc⟩ := hcut
      go_wp2
      go_ret2
      simp only [insE, insW, hf.out]
      exact ⟨rfl, by repeat (with_reducible first | exact Kp.refl _ | assumption | exact Dr.kp (by assumption) | refine Kp.drewN ?_ _ | refine Kp.drew ?_ | refine Kp.alloc ?_ _ | refine Kp.setCell ?_ (by first | exact Nat.le_refl _ | assumption | omega) _ | refine Kp.trans ?_ (by assumption) | refine Kp.trans ?_ (Dr.kp (by assumption)))⟩
  | some f =>
    have hg := (formOf_good hf).1
    replace hf := Aside.mk hf
    go_enter Try.func29, Try.ntmps29
    go_upto_region 1 with fail
    go_cut [4, 5] (fun s4 s5 wx => s5 = .bool true ∧ ∃ b, s4 = .pointer (some ⟨b, 0, none⟩) ∧ CutF w f op rd rs1 rs2 n b wx)
    case first =>
      go_region_held3 (fun w' => w'.cell? ⟨w.heap.size, 0, none⟩ = some (.int .i64 op)) (go_keep) (first | (((go_at_call 45); (refine Calls.mono (forms_calls _) ?_); (rintro e w1 ⟨rfl, kp1, hown⟩)); (simp only [World.size_alloc, World.size_drew] at hown); (have kp0 : Aside (Kp w w1) := ⟨by first | exact ((Kp.refl _).alloc _).drew.trans kp1 | exact (((Kp.refl _).alloc _).alloc _).drew.trans kp1⟩); (first | ((obtain ⟨-, c0, c1, c2, c3, c4, cl, -⟩ := five kp1 (old_in _ _ _)); (obtain ⟨-, d0, d1, d2, d3, d4, dl, f0, f1, f2, f3, f4⟩ := five kp1 (new2_in _ _ _))) | (obtain ⟨-, c0, c1, c2, c3, c4, cl, -⟩ := five kp1 (new_in _ _))); (clear kp1); (have hlk := look_some hown ho hf.out); (have hlk2 := fun o => look_some (hown.alloc o) ho hf.out)))
      all_goals (go_wp2_with fail; go_meet; with_reducible first | exact ⟨rfl, _, rfl, cut_new kp0.out cl c0 c1 c2 c3 c4⟩ | exact ⟨rfl, _, rfl, cut_set kp0.out c0 c1 c2 c3 c4 d0 d1 d2 d3 d4 dl⟩)
    case rest =>
      obtain ⟨rfl, b, rfl, kpc, lb, lw, ⟨b0, b1, b2, b3, b4⟩, c0, c1, c2, c3, c4⟩ := hcut
      go_wp2_with (first | ((go_at_call 46); (refine Calls.mono (uses_calls f hg _) ?_); (rintro e w2 ⟨rfl, kp2⟩)))
      have hc2 := CutF.kept ⟨kpc, lb, lw, ⟨b0, b1, b2, b3, b4⟩, c0, c1, c2, c3, c4⟩ kp2
      clear kpc lb lw b0 b1 b2 b3 b4 c0 c1 c2 c3 c4 kp2
      replace hc2 := Aside.mk hc2
      go_loopw [22] (fun i wr => Dr w2 wr ∧ (i = .int .i64 0 ∨ (i = .int .i64 1 ∧ (f.uRd ∨ rd = 0)) ∨ (i = .int .i64 2 ∧ (f.uRd ∨ rd = 0) ∧ (f.uRs1 ∨ rs1 = 0)) ∨ (i = .int .i64 3 ∧ (f.uRd ∨ rd = 0) ∧ (f.uRs1 ∨ rs1 = 0) ∧ (f.uRs2 ∨ rs2 = 0)) ∨ (i = .int .i64 4 ∧ (f.uRd ∨ rd = 0) ∧ (f.uRs1 ∨ rs1 = 0) ∧ (f.uRs2 ∨ rs2 = 0) ∧ (f.uImm ∨ n = 0)))) (fun i _ => 4 - (intOf i).toNat)
      case atStart => exact ⟨Dr.refl _, Or.inl rfl⟩
      case round =>
        obtain ⟨⟨m, rfl⟩, hp⟩ := hrel
        rcases hp with rfl | ⟨rfl, hp⟩ | ⟨rfl, hp⟩ | ⟨rfl, hp⟩ | ⟨rfl, hp⟩
        · skip
          obtain ⟨kpc, lb, lw, -, c0, c1, c2, c3, c4⟩ := hc2.out
          have hi1 : ∀ w : World, (Instr.index 122 (usesV f) (.int .i64 0)).run Try.prog w = .ok (.bool (decide f.uRd)) w := fun _ => rfl
          have hi2 : ∀ w : World, (Instr.index 124 (.agg #[.int .i64 rd, .int .i64 rs1, .int .i64 rs2, .int .i64 n]) (.int .i64 0)).run Try.prog w = .ok (.int .i64 rd) w := fun _ => rfl
          by_cases hu : f.uRd
          · go_wp2
            go_roundw
            case rel => exact ⟨⟨_, rfl⟩, Or.inr (Or.inl ⟨rfl, Or.inl hu⟩)⟩
            case measure => simp [intOf]
          · by_cases hz : rd = 0
            · subst hz
              go_wp2
              go_roundw
              case rel => exact ⟨⟨_, rfl⟩, Or.inr (Or.inl ⟨rfl, Or.inr (by first | rfl | trivial)⟩)⟩
              case measure => simp [intOf]
            · go_wp2
              go_ret2
              obtain ⟨r1, r2⟩ := ins_two (op := op) hf.out (Or.inl ⟨hu, hz⟩)
              rw [r1, r2]
              exact ⟨rfl, by repeat (with_reducible first | exact Kp.refl _ | assumption | exact Dr.kp (by assumption) | refine Kp.drewN ?_ _ | refine Kp.drew ?_ | refine Kp.alloc ?_ _ | refine Kp.setCell ?_ (by first | exact Nat.le_refl _ | assumption | omega) _ | refine Kp.trans ?_ (by assumption) | refine Kp.trans ?_ (Dr.kp (by assumption)))⟩
        · replace hp := Aside.mk hp
          obtain ⟨kpc, lb, lw, -, c0, c1, c2, c3, c4⟩ := hc2.out
          have hi1 : ∀ w : World, (Instr.index 122 (usesV f) (.int .i64 1)).run Try.prog w = .ok (.bool (decide f.uRs1)) w := fun _ => rfl
          have hi2 : ∀ w : World, (Instr.index 124 (.agg #[.int .i64 rd, .int .i64 rs1, .int .i64 rs2, .int .i64 n]) (.int .i64 1)).run Try.prog w = .ok (.int .i64 rs1) w := fun _ => rfl
          by_cases hu : f.uRs1
          · go_wp2
            go_roundw
            case rel => exact ⟨⟨_, rfl⟩, Or.inr (Or.inr (Or.inl ⟨rfl, ⟨hp.out, Or.inl hu⟩⟩))⟩
            case measure => simp [intOf]
          · by_cases hz : rs1 = 0
            · subst hz
              go_wp2
              go_roundw
              case rel => exact ⟨⟨_, rfl⟩, Or.inr (Or.inr (Or.inl ⟨rfl, ⟨hp.out, Or.inr (by first | rfl | trivial)⟩⟩))⟩
              case measure => simp [intOf]
            · go_wp2
              go_ret2
              obtain ⟨r1, r2⟩ := ins_two (op := op) hf.out (Or.inr (Or.inl ⟨hu, hz⟩))
              rw [r1, r2]
              exact ⟨rfl, by repeat (with_reducible first | exact Kp.refl _ | assumption | exact Dr.kp (by assumption) | refine Kp.drewN ?_ _ | refine Kp.drew ?_ | refine Kp.alloc ?_ _ | refine Kp.setCell ?_ (by first | exact Nat.le_refl _ | assumption | omega) _ | refine Kp.trans ?_ (by assumption) | refine Kp.trans ?_ (Dr.kp (by assumption)))⟩
        · replace hp := Aside.mk hp
          obtain ⟨kpc, lb, lw, -, c0, c1, c2, c3, c4⟩ := hc2.out
          have hi1 : ∀ w : World, (Instr.index 122 (usesV f) (.int .i64 2)).run Try.prog w = .ok (.bool (decide f.uRs2)) w := fun _ => rfl
          have hi2 : ∀ w : World, (Instr.index 124 (.agg #[.int .i64 rd, .int .i64 rs1, .int .i64 rs2, .int .i64 n]) (.int .i64 2)).run Try.prog w = .ok (.int .i64 rs2) w := fun _ => rfl
          by_cases hu : f.uRs2
          · go_wp2
            go_roundw
            case rel => exact ⟨⟨_, rfl⟩, Or.inr (Or.inr (Or.inr (Or.inl ⟨rfl, ⟨hp.out.1, hp.out.2, Or.inl hu⟩⟩)))⟩
            case measure => simp [intOf]
          · by_cases hz : rs2 = 0
            · subst hz
              go_wp2
              go_roundw
              case rel => exact ⟨⟨_, rfl⟩, Or.inr (Or.inr (Or.inr (Or.inl ⟨rfl, ⟨hp.out.1, hp.out.2, Or.inr (by first | rfl | trivial)⟩⟩)))⟩
              case measure => simp [intOf]
            · go_wp2
              go_ret2
              obtain ⟨r1, r2⟩ := ins_two (op := op) hf.out (Or.inr (Or.inr (Or.inl ⟨hu, hz⟩)))
              rw [r1, r2]
              exact ⟨rfl, by repeat (with_reducible first | exact Kp.refl _ | assumption | exact Dr.kp (by assumption) | refine Kp.drewN ?_ _ | refine Kp.drew ?_ | refine Kp.alloc ?_ _ | refine Kp.setCell ?_ (by first | exact Nat.le_refl _ | assumption | omega) _ | refine Kp.trans ?_ (by assumption) | refine Kp.trans ?_ (Dr.kp (by assumption)))⟩
        · replace hp := Aside.mk hp
          obtain ⟨kpc, lb, lw, -, c0, c1, c2, c3, c4⟩ := hc2.out
          have hi1 : ∀ w : World, (Instr.index 122 (usesV f) (.int .i64 3)).run Try.prog w = .ok (.bool (decide f.uImm)) w := fun _ => rfl
          have hi2 : ∀ w : World, (Instr.index 124 (.agg #[.int .i64 rd, .int .i64 rs1, .int .i64 rs2, .int .i64 n]) (.int .i64 3)).run Try.prog w = .ok (.int .i64 n) w := fun _ => rfl
          by_cases hu : f.uImm
          · go_wp2
            go_roundw
            case rel => exact ⟨⟨_, rfl⟩, Or.inr (Or.inr (Or.inr (Or.inr (⟨rfl, ⟨hp.out.1, hp.out.2.1, hp.out.2.2, Or.inl hu⟩⟩))))⟩
            case measure => simp [intOf]
          · by_cases hz : n = 0
            · subst hz
              go_wp2
              go_roundw
              case rel => exact ⟨⟨_, rfl⟩, Or.inr (Or.inr (Or.inr (Or.inr (⟨rfl, ⟨hp.out.1, hp.out.2.1, hp.out.2.2, Or.inr (by first | rfl | trivial)⟩⟩))))⟩
              case measure => simp [intOf]
            · go_wp2
              go_ret2
              obtain ⟨r1, r2⟩ := ins_two (op := op) hf.out (Or.inr (Or.inr (Or.inr (⟨hu, hz⟩))))
              rw [r1, r2]
              exact ⟨rfl, by repeat (with_reducible first | exact Kp.refl _ | assumption | exact Dr.kp (by assumption) | refine Kp.drewN ?_ _ | refine Kp.drew ?_ | refine Kp.alloc ?_ _ | refine Kp.setCell ?_ (by first | exact Nat.le_refl _ | assumption | omega) _ | refine Kp.trans ?_ (by assumption) | refine Kp.trans ?_ (Dr.kp (by assumption)))⟩
        · replace hp := Aside.mk hp
          obtain ⟨kpc, lb, lw, -, c0, c1, c2, c3, c4⟩ := hc2.out
          go_wp2
          clear kpc lb lw c0 c1 c2 c3 c4
          go_loopw [50] (fun i wr => Dr w2 wr ∧ (i = .int .i64 0 ∨ (i = .int .i64 1 ∧ (0 ≤ rd ∧ rd ≤ 31)) ∨ (i = .int .i64 2 ∧ (0 ≤ rd ∧ rd ≤ 31) ∧ (0 ≤ rs1 ∧ rs1 ≤ 31)) ∨ (i = .int .i64 3 ∧ (0 ≤ rd ∧ rd ≤ 31) ∧ (0 ≤ rs1 ∧ rs1 ≤ 31) ∧ (0 ≤ rs2 ∧ rs2 ≤ 31)))) (fun i _ => 3 - (intOf i).toNat)
          case atStart => exact ⟨⟨_, rfl⟩, Or.inl rfl⟩
          case round =>
            obtain ⟨⟨m', rfl⟩, hq⟩ := hrel
            rcases hq with rfl | ⟨rfl, hq⟩ | ⟨rfl, hq⟩ | ⟨rfl, hq⟩
            · skip
              have hi2 : ∀ w : World, (Instr.index 125 (.agg #[.int .i64 rd, .int .i64 rs1, .int .i64 rs2]) (.int .i64 0)).run Try.prog w = .ok (.int .i64 rd) w := fun _ => rfl
              by_cases hz : rd < 0
              · go_wp2
                go_ret2
                obtain ⟨r1, r2⟩ := ins_one1 (op := op) hf.out hp.out (by first | exact Or.inl hz)
                rw [r1, r2]
                exact ⟨rfl, by have kpc := hc2.out.1; repeat (with_reducible first | exact Kp.refl _ | assumption | exact Dr.kp (by assumption) | refine Kp.drewN ?_ _ | refine Kp.drew ?_ | refine Kp.alloc ?_ _ | refine Kp.setCell ?_ (by first | exact Nat.le_refl _ | assumption | omega) _ | refine Kp.trans ?_ (by assumption) | refine Kp.trans ?_ (Dr.kp (by assumption)))⟩
              · by_cases hy : 31 < rd
                · go_wp2
                  go_ret2
                  obtain ⟨r1, r2⟩ := ins_one1 (op := op) hf.out hp.out (by first | exact Or.inr (Or.inl hy))
                  rw [r1, r2]
                  exact ⟨rfl, by have kpc := hc2.out.1; repeat (with_reducible first | exact Kp.refl _ | assumption | exact Dr.kp (by assumption) | refine Kp.drewN ?_ _ | refine Kp.drew ?_ | refine Kp.alloc ?_ _ | refine Kp.setCell ?_ (by first | exact Nat.le_refl _ | assumption | omega) _ | refine Kp.trans ?_ (by assumption) | refine Kp.trans ?_ (Dr.kp (by assumption)))⟩
                · have hz2 : 0 ≤ rd ∧ rd ≤ 31 := by omega
                  replace hz2 := Aside.mk hz2
                  go_wp2
                  go_roundw
                  case rel => exact ⟨⟨_, rfl⟩, Or.inr (Or.inl ⟨rfl, hz2.out⟩)⟩
                  case measure => simp [intOf]
            · replace hq := Aside.mk hq
              have hi2 : ∀ w : World, (Instr.index 125 (.agg #[.int .i64 rd, .int .i64 rs1, .int .i64 rs2]) (.int .i64 1)).run Try.prog w = .ok (.int .i64 rs1) w := fun _ => rfl
              by_cases hz : rs1 < 0
              · go_wp2
                go_ret2
                obtain ⟨r1, r2⟩ := ins_one1 (op := op) hf.out hp.out (by first | exact Or.inr (Or.inr (Or.inl hz)))
                rw [r1, r2]
                exact ⟨rfl, by have kpc := hc2.out.1; repeat (with_reducible first | exact Kp.refl _ | assumption | exact Dr.kp (by assumption) | refine Kp.drewN ?_ _ | refine Kp.drew ?_ | refine Kp.alloc ?_ _ | refine Kp.setCell ?_ (by first | exact Nat.le_refl _ | assumption | omega) _ | refine Kp.trans ?_ (by assumption) | refine Kp.trans ?_ (Dr.kp (by assumption)))⟩
              · by_cases hy : 31 < rs1
                · go_wp2
                  go_ret2
                  obtain ⟨r1, r2⟩ := ins_one1 (op := op) hf.out hp.out (by first | exact Or.inr (Or.inr (Or.inr (Or.inl hy))))
                  rw [r1, r2]
                  exact ⟨rfl, by have kpc := hc2.out.1; repeat (with_reducible first | exact Kp.refl _ | assumption | exact Dr.kp (by assumption) | refine Kp.drewN ?_ _ | refine Kp.drew ?_ | refine Kp.alloc ?_ _ | refine Kp.setCell ?_ (by first | exact Nat.le_refl _ | assumption | omega) _ | refine Kp.trans ?_ (by assumption) | refine Kp.trans ?_ (Dr.kp (by assumption)))⟩
                · have hz2 : 0 ≤ rs1 ∧ rs1 ≤ 31 := by omega
                  replace hz2 := Aside.mk hz2
                  go_wp2
                  go_roundw
                  case rel => exact ⟨⟨_, rfl⟩, Or.inr (Or.inr (Or.inl ⟨rfl, ⟨hq.out, hz2.out⟩⟩))⟩
                  case measure => simp [intOf]
            · replace hq := Aside.mk hq
              have hi2 : ∀ w : World, (Instr.index 125 (.agg #[.int .i64 rd, .int .i64 rs1, .int .i64 rs2]) (.int .i64 2)).run Try.prog w = .ok (.int .i64 rs2) w := fun _ => rfl
              by_cases hz : rs2 < 0
              · go_wp2
                go_ret2
                obtain ⟨r1, r2⟩ := ins_one1 (op := op) hf.out hp.out (by first | exact Or.inr (Or.inr (Or.inr (Or.inr (Or.inl hz)))))
                rw [r1, r2]
                exact ⟨rfl, by have kpc := hc2.out.1; repeat (with_reducible first | exact Kp.refl _ | assumption | exact Dr.kp (by assumption) | refine Kp.drewN ?_ _ | refine Kp.drew ?_ | refine Kp.alloc ?_ _ | refine Kp.setCell ?_ (by first | exact Nat.le_refl _ | assumption | omega) _ | refine Kp.trans ?_ (by assumption) | refine Kp.trans ?_ (Dr.kp (by assumption)))⟩
              · by_cases hy : 31 < rs2
                · go_wp2
                  go_ret2
                  obtain ⟨r1, r2⟩ := ins_one1 (op := op) hf.out hp.out (by first | exact Or.inr (Or.inr (Or.inr (Or.inr (Or.inr (Or.inl hy))))))
                  rw [r1, r2]
                  exact ⟨rfl, by have kpc := hc2.out.1; repeat (with_reducible first | exact Kp.refl _ | assumption | exact Dr.kp (by assumption) | refine Kp.drewN ?_ _ | refine Kp.drew ?_ | refine Kp.alloc ?_ _ | refine Kp.setCell ?_ (by first | exact Nat.le_refl _ | assumption | omega) _ | refine Kp.trans ?_ (by assumption) | refine Kp.trans ?_ (Dr.kp (by assumption)))⟩
                · have hz2 : 0 ≤ rs2 ∧ rs2 ≤ 31 := by omega
                  replace hz2 := Aside.mk hz2
                  go_wp2
                  go_roundw
                  case rel => exact ⟨⟨_, rfl⟩, Or.inr (Or.inr (Or.inr (⟨rfl, ⟨hq.out.1, hq.out.2, hz2.out⟩⟩)))⟩
                  case measure => simp [intOf]
            · replace hq := Aside.mk hq
              have kp2' : Kp w2 (w2.drewN m') := (Kp.refl w2).drewN m'
              have hcd := hc2.out.kept kp2'
              have done1 : ∀ (hu : f.uImm ∧ ¬fitsK f.kind n), insE op rd rs1 rs2 n = 1 ∧ insW op rd rs1 rs2 n = 0 := fun hu => ins_one1 (op := op) hf.out hp.out (Or.inr (Or.inr (Or.inr (Or.inr (Or.inr (Or.inr hu))))))
              have done2 : ∀ (hu : ¬(f.uImm ∧ ¬fitsK f.kind n)), _ := fun hu => ins_ok (op := op) hf.out hp.out (by have h := hq.out; rintro (a | a | a | a | a | a | a) <;> first | omega | exact hu a)
              replace done1 := Aside.mk done1
              replace done2 := Aside.mk done2
              replace hcd := Aside.mk hcd
              clear hc2 kp2'
              generalize hwd : w2.drewN m' = wd at *
              clear hwd
              go_upto_region 16 with fail
              go_cut [69] (fun s wx => s = .bool (decide (f.uImm ∧ ¬fitsK f.kind n)) ∧ CutF w f op rd rs1 rs2 n b wx)
              case first =>
                have hi3 : ∀ w : World, (Instr.index 122 (usesV f) (.int .i64 3)).run Try.prog w = .ok (.bool (decide f.uImm)) w := fun _ => rfl
                obtain ⟨kpc, lb, lw, ⟨b0, b1, b2, b3, b4⟩, c0, c1, c2, c3, c4⟩ := hcd.out
                by_cases hu : f.uImm
                · by_cases hfit : fitsK f.kind n
                  · go_wp2_with (first | ((go_at_call 46); (refine Calls.mono (uses_calls f hg _) ?_); (rintro e w3 ⟨rfl, kp3⟩); (have hc3 := CutF.kept hcd.out kp3); (have hc3' := Aside.mk hc3); (obtain ⟨kpc3, lb3, lw3, ⟨b03, b13, b23, b33, b43⟩, c03, c13, c23, c33, c43⟩ := hc3); clear kp3) | ((go_at_call 47); (refine Calls.mono (fits_calls f hg n hn _) ?_); (rintro e w4 ⟨rfl, kp4⟩); (have hc4 := CutF.kept ⟨kpc3, lb3, lw3, ⟨b03, b13, b23, b33, b43⟩, c03, c13, c23, c33, c43⟩ kp4); (have hc4' := hc4); (replace hc4 := Aside.mk hc4); (obtain ⟨kpc4, lb4, lw4, ⟨b04, b14, b24, b34, b44⟩, c04, c14, c24, c34, c44⟩ := hc4'); clear kp4))
                    go_meet
                    exact ⟨by simp [hu, hfit], hc4.out⟩
                  · go_wp2_with (first | ((go_at_call 46); (refine Calls.mono (uses_calls f hg _) ?_); (rintro e w3 ⟨rfl, kp3⟩); (have hc3 := CutF.kept hcd.out kp3); (have hc3' := Aside.mk hc3); (obtain ⟨kpc3, lb3, lw3, ⟨b03, b13, b23, b33, b43⟩, c03, c13, c23, c33, c43⟩ := hc3); clear kp3) | ((go_at_call 47); (refine Calls.mono (fits_calls f hg n hn _) ?_); (rintro e w4 ⟨rfl, kp4⟩); (have hc4 := CutF.kept ⟨kpc3, lb3, lw3, ⟨b03, b13, b23, b33, b43⟩, c03, c13, c23, c33, c43⟩ kp4); (have hc4' := hc4); (replace hc4 := Aside.mk hc4); (obtain ⟨kpc4, lb4, lw4, ⟨b04, b14, b24, b34, b44⟩, c04, c14, c24, c34, c44⟩ := hc4'); clear kp4))
                    go_meet
                    exact ⟨by simp [hu, hfit], hc4.out⟩
                · go_wp2_with (first | ((go_at_call 46); (refine Calls.mono (uses_calls f hg _) ?_); (rintro e w3 ⟨rfl, kp3⟩); (have hc3 := CutF.kept hcd.out kp3); (have hc3' := Aside.mk hc3); (obtain ⟨kpc3, lb3, lw3, ⟨b03, b13, b23, b33, b43⟩, c03, c13, c23, c33, c43⟩ := hc3); clear kp3) | ((go_at_call 47); (refine Calls.mono (fits_calls f hg n hn _) ?_); (rintro e w4 ⟨rfl, kp4⟩); (have hc4 := CutF.kept ⟨kpc3, lb3, lw3, ⟨b03, b13, b23, b33, b43⟩, c03, c13, c23, c33, c43⟩ kp4); (have hc4' := hc4); (replace hc4 := Aside.mk hc4); (obtain ⟨kpc4, lb4, lw4, ⟨b04, b14, b24, b34, b44⟩, c04, c14, c24, c34, c44⟩ := hc4'); clear kp4))
                  go_meet
                  exact ⟨by simp [hu], hc3'.out⟩
              case rest =>
                obtain ⟨rfl, hc4⟩ := hcut
                replace hc4 := Aside.mk hc4
                by_cases hu : f.uImm ∧ ¬fitsK f.kind n
                · go_wp2
                  go_ret2
                  obtain ⟨r1, r2⟩ := done1.out hu
                  rw [r1, r2]
                  exact ⟨rfl, hc4.out.1⟩
                · obtain ⟨r1, r2, r3⟩ := done2.out hu
                  replace r1 := Aside.mk r1
                  replace r2 := Aside.mk r2
                  replace r3 := Aside.mk r3
                  obtain ⟨kpc, lb, lw, ⟨b0, b1, b2, b3, b4⟩, c0, c1, c2, c3, c4⟩ := hc4.out
                  go_upto_if 74 with fail
                  go_cut [10] (fun s wx => s = .int .i64 (if f.rs2 = 32 then rs1 else rs2) ∧ CutF w f op rd rs1 rs2 n b wx)
                  case first =>
                    by_cases hr : f.rs2 = 32
                    · go_wp2
                      go_meet
                      exact ⟨by simp [hr], hc4.out⟩
                    · go_wp2
                      go_meet
                      exact ⟨by simp [hr], hc4.out⟩
                  case rest =>
                    clear kpc lb lw b0 b1 b2 b3 b4 c0 c1 c2 c3 c4 hc4 hu
                    obtain ⟨rfl, hc5⟩ := hcut
                    have hc5' := hc5
                    obtain ⟨kpc, lb, lw, ⟨b0, b1, b2, b3, b4⟩, c0, c1, c2, c3, c4⟩ := hc5'
                    replace hc5 := Aside.mk hc5
                    generalize hx : (if f.rs2 = 32 then rs1 else rs2) = x at *
                    replace hx := Aside.mk hx
                    go_wp2_with fail
                    go_region_held3 (fun w' => w'.cell? ⟨b, 0, none⟩ = some (.int .u8 f.kind) ∧ w'.cell? ⟨b, 1, none⟩ = some (.int .u32 f.op) ∧ w'.cell? ⟨b, 2, none⟩ = some (.int .u32 f.f3) ∧ w'.cell? ⟨b, 3, none⟩ = some (.int .u32 f.f7) ∧ w'.cell? ⟨b, 4, none⟩ = some (.int .i64 f.rs2) ∧ w'.cell? ⟨w.heap.size, 1, none⟩ = some (.int .i64 rd) ∧ w'.cell? ⟨w.heap.size, 2, none⟩ = some (.int .i64 rs1) ∧ w'.cell? ⟨w.heap.size, 4, none⟩ = some (.int .i64 n)) (go_keep) (first | ((go_at_call 48); (refine Calls.mono (imm_calls f hg n hn _) ?_); (rintro e w5 ⟨rfl, kp5⟩); (obtain ⟨kpc5, lb5, lw5, ⟨b05, b15, b25, b35, b45⟩, c05, c15, c25, c35, c45⟩ := CutF.kept hc5.out (Kp.undrew kp5)); clear kp5))
                    all_goals
                      go_wp2_with fail
                      go_ret2
                      rw [r1.out, r2.out]
                      exact ⟨congrArg (fun b => Ending.returned (Value.tuple #[.int .u32 b, .int .i64 0])) (word_wrap hg r3.out hx.out), kpc5⟩
end Go.Proofs.Ytnbooljaodkedaa
