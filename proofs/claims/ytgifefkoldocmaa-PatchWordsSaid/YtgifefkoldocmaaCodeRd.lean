/- The reference's Decode, walked. -/
import Derived.Test.YtgifefkoldocmaaCodeReZ
import Derived.Test.YtgifefkoldocmaaCodeDb
import Derived.IntWalk
namespace Go.Proofs.Ytgifefkoldocmaa
open Go.RowKit Go.Maps Go.Proofs.Ytgifefkoldocmaa.PC
set_option linter.unusedVariables false
set_option linter.unusedSimpArgs false
/-- The fields of a word, as the reference has them. -/
structure Flds (x : Int) : Prop where
  e7_5 : fieldV x 7 5 = x / 128 % 32
  e15_5 : fieldV x 15 5 = x / 32768 % 32
  e20_5 : fieldV x 20 5 = x / 1048576 % 32
  e20_12 : fieldV x 20 12 = x / 1048576
  e25_7 : fieldV x 25 7 = x / 33554432
  e8_4 : fieldV x 8 4 = x / 256 % 16
  e25_6 : fieldV x 25 6 = x / 33554432 % 64
  e7_1 : fieldV x 7 1 = x / 128 % 2
  e31_1 : fieldV x 31 1 = x / 2147483648 % 2
  e21_10 : fieldV x 21 10 = x / 2097152 % 1024
  e20_1 : fieldV x 20 1 = x / 1048576 % 2
  e12_8 : fieldV x 12 8 = x / 4096 % 256
  e12_20 : fieldV x 12 20 = x / 4096
theorem flds {x : Int} (hx : 0 ≤ x ∧ x ≤ 4294967295) : Flds x := by
  refine ⟨by simp [fieldV], by simp [fieldV], by simp [fieldV], ?_, ?_, by simp [fieldV], by simp [fieldV], by simp [fieldV], by simp [fieldV], by simp [fieldV], by simp [fieldV], by simp [fieldV], ?_⟩
  · simp only [fieldV, Int.reduceToNat, Int.reducePow]; omega
  · simp only [fieldV, Int.reduceToNat, Int.reducePow]; omega
  · simp only [fieldV, Int.reduceToNat, Int.reducePow]; omega
theorem field_x {x f n y : Int} (hx : 0 ≤ x ∧ x ≤ 4294967295) (hf : 0 ≤ f ∧ f ≤ 40) (hn : 0 ≤ n ∧ n ≤ 40) (e : fieldV x f n = y) (w : World) :
    Calls Try.prog 42 #[.int .i64 x, .int .i64 f, .int .i64 n] w fun e w' => e = .returned (.int .i64 y) ∧ Dr w w' := by
  rw [← e]
  exact field_calls' x f n (by omega) hf hn w
theorem imm73 (x : Int) : immOf 73 x = if x / 1048576 ≥ 2048 then x / 1048576 - 4096 else x / 1048576 := rfl
theorem imm83 {x : Int} (hx : 0 ≤ x ∧ x ≤ 4294967295) : immOf 83 x = if x / 128 % 32 + 32 * (x / 33554432) ≥ 2048 then x / 128 % 32 + 32 * (x / 33554432) - 4096 else x / 128 % 32 + 32 * (x / 33554432) := by
  have e : immOf 83 x = (if x / 33554432 ≥ 64 then x / 33554432 - 128 else x / 33554432) * 32 + x / 128 % 32 := rfl
  rw [e]
  split <;> split <;> omega
theorem imm66 (x : Int) : immOf 66 x = 2 * (x / 256 % 16) + 32 * (x / 33554432 % 64) + 2048 * (x / 128 % 2) - 4096 * (x / 2147483648 % 2) := rfl
theorem imm74 (x : Int) : immOf 74 x = 2 * (x / 2097152 % 1024) + 2048 * (x / 1048576 % 2) + 4096 * (x / 4096 % 256) - 1048576 * (x / 2147483648 % 2) := rfl
/-- What a round finds, by the form. -/
theorem cs_of {f : Fm} {x : Int} (hg : f.good) :
    cRd f x = (if f.kind = 82 ∨ f.kind = 73 ∨ f.kind = 72 ∨ f.kind = 85 ∨ f.kind = 74 then x / 128 % 32 else 0) := rfl
theorem sums_D (x : Int) : IntKind.i64.wrap (32 * fieldV x 25 7) = 32 * fieldV x 25 7 ∧ IntKind.i64.wrap (fieldV x 7 5 + 32 * fieldV x 25 7) = fieldV x 7 5 + 32 * fieldV x 25 7 := by
  have b1 := fieldV_range x 25 7
  have b2 := fieldV_range x 7 5
  exact ⟨IntWalk.i64_in _ (by omega), IntWalk.i64_in _ (by omega)⟩
/-- None of the first numbers' instructions has this word. -/
def NoHitK (x : Int) (k : Nat) : Prop := ∀ op f, formOf op = some f → op < k → ¬Hit op x
theorem noHitK_start (x : Int) : NoHitK x 1 := by
  intro op f hf hl
  have := (formOf_good hf).2
  omega
theorem noHitK_step {x : Int} {k : Nat} (h : NoHitK x k) (hk : ¬Hit k x) : NoHitK x (k + 1) := by
  intro op f hf hl
  by_cases e : op = k
  · rw [e]; exact hk
  · exact h op f hf (by omega)
theorem noHitK_end {x : Int} {k : Nat} (h : NoHitK x k) (hk : 56 ≤ k) : DecR x 0 0 0 0 0 2 := by
  refine decR_none fun op f hf => h op f hf ?_
  have := (formOf_good hf).2
  omega
theorem e_br {x : Int} (F : Flds x) : 2 * fieldV x 8 4 + 32 * fieldV x 25 6 + 2048 * fieldV x 7 1 - 4096 * fieldV x 31 1 = immOf 66 x := by
  rw [imm66, F.e8_4, F.e25_6, F.e7_1, F.e31_1]
theorem e_ju {x : Int} (F : Flds x) : 2 * fieldV x 21 10 + 2048 * fieldV x 20 1 + 4096 * fieldV x 12 8 - 1048576 * fieldV x 31 1 = immOf 74 x := by
  rw [imm74, F.e21_10, F.e20_1, F.e12_8, F.e31_1]
theorem sums_E (x : Int) : IntKind.i64.wrap (2 * fieldV x 8 4) = 2 * fieldV x 8 4 ∧ IntKind.i64.wrap (32 * fieldV x 25 6) = 32 * fieldV x 25 6 ∧ IntKind.i64.wrap (2 * fieldV x 8 4 + 32 * fieldV x 25 6) = 2 * fieldV x 8 4 + 32 * fieldV x 25 6 ∧
    IntKind.i64.wrap (2048 * fieldV x 7 1) = 2048 * fieldV x 7 1 ∧ IntKind.i64.wrap (2 * fieldV x 8 4 + 32 * fieldV x 25 6 + 2048 * fieldV x 7 1) = 2 * fieldV x 8 4 + 32 * fieldV x 25 6 + 2048 * fieldV x 7 1 ∧
    IntKind.i64.wrap (4096 * fieldV x 31 1) = 4096 * fieldV x 31 1 ∧ IntKind.i64.wrap (2 * fieldV x 8 4 + 32 * fieldV x 25 6 + 2048 * fieldV x 7 1 - 4096 * fieldV x 31 1) = 2 * fieldV x 8 4 + 32 * fieldV x 25 6 + 2048 * fieldV x 7 1 - 4096 * fieldV x 31 1 := by
  have b1 := fieldV_range x 8 4
  have b2 := fieldV_range x 25 6
  have b3 := fieldV_range x 7 1
  have b4 := fieldV_range x 31 1
  exact ⟨IntWalk.i64_in _ (by omega), IntWalk.i64_in _ (by omega), IntWalk.i64_in _ (by omega), IntWalk.i64_in _ (by omega), IntWalk.i64_in _ (by omega), IntWalk.i64_in _ (by omega), IntWalk.i64_in _ (by omega)⟩
theorem sums_F (x : Int) : IntKind.i64.wrap (2 * fieldV x 21 10) = 2 * fieldV x 21 10 ∧ IntKind.i64.wrap (2048 * fieldV x 20 1) = 2048 * fieldV x 20 1 ∧ IntKind.i64.wrap (2 * fieldV x 21 10 + 2048 * fieldV x 20 1) = 2 * fieldV x 21 10 + 2048 * fieldV x 20 1 ∧
    IntKind.i64.wrap (4096 * fieldV x 12 8) = 4096 * fieldV x 12 8 ∧ IntKind.i64.wrap (2 * fieldV x 21 10 + 2048 * fieldV x 20 1 + 4096 * fieldV x 12 8) = 2 * fieldV x 21 10 + 2048 * fieldV x 20 1 + 4096 * fieldV x 12 8 ∧
    IntKind.i64.wrap (1048576 * fieldV x 31 1) = 1048576 * fieldV x 31 1 ∧ IntKind.i64.wrap (2 * fieldV x 21 10 + 2048 * fieldV x 20 1 + 4096 * fieldV x 12 8 - 1048576 * fieldV x 31 1) = 2 * fieldV x 21 10 + 2048 * fieldV x 20 1 + 4096 * fieldV x 12 8 - 1048576 * fieldV x 31 1 := by
  have b1 := fieldV_range x 21 10
  have b2 := fieldV_range x 20 1
  have b3 := fieldV_range x 12 8
  have b4 := fieldV_range x 31 1
  exact ⟨IntWalk.i64_in _ (by omega), IntWalk.i64_in _ (by omega), IntWalk.i64_in _ (by omega), IntWalk.i64_in _ (by omega), IntWalk.i64_in _ (by omega), IntWalk.i64_in _ (by omega), IntWalk.i64_in _ (by omega)⟩
set_option maxRecDepth 100000 in
set_option maxHeartbeats 2000000 in
theorem rDecode_calls (x : Int) (hx : 0 ≤ x ∧ x ≤ 4294967295) (w : World) :
    Calls Try.prog 28 #[.int .u32 x] w fun e w' => ∃ op rd rs1 rs2 n : Int, ∃ er : Int, e = .returned (.tuple #[.agg #[.int .i64 op, .int .i64 rd, .int .i64 rs1, .int .i64 rs2, .int .i64 n], .bool (decide (er = 0))]) ∧ Kp w w' ∧ DecR x op rd rs1 rs2 n er := by
  have F := Aside.mk (flds hx)
  have hx1 := hx
  replace hx : Aside (-9223372036854775808 ≤ x ∧ x ≤ 9223372036854775807) := ⟨by omega⟩
  go_enter Try.func28, Try.ntmps28
  have c1 := fieldV_range x 20 12
  have c2 := fieldV_range x 7 5
  have c3 := fieldV_range x 25 7
  go_upto_if 28 with ((go_at_call 42); (refine Calls.mono (field_calls' _ _ _ hx.out (by decide) (by decide) _) ?_); (rintro e w1 ⟨rfl, hd1⟩))
  have hd0 : Dr (w.alloc (.cells #[.int .i64 0, .int .i64 0, .int .i64 0, .int .i64 0, .int .i64 0] 36)) w1 := by repeat (first | exact Dr.refl _ | assumption | refine Dr.step ?_ _ | refine Dr.trans ?_ (by assumption))
  have kp : Aside (Kp w w1) := ⟨((Kp.refl w).alloc _).trans (Dr.kp hd0)⟩
  have hres : Aside (Blk w1 w.heap.size #[.int .i64 0, .int .i64 0, .int .i64 0, .int .i64 0, .int .i64 0] 36) := ⟨(Blk.new _ _ _).kp (Dr.kp hd0)⟩
  clear hd0
  go_cut [8] (fun s wx => s = .int .i64 (immOf 73 x) ∧ Kp w wx ∧ Blk wx w.heap.size #[.int .i64 0, .int .i64 0, .int .i64 0, .int .i64 0, .int .i64 0] 36)
  case first =>
    have e := F.out.e20_12
    have e' := Aside.mk (imm73 x)
    replace e := Aside.mk e
    by_cases h : 2048 ≤ fieldV x 20 12
    · have h' := Aside.mk h
      go_wp2
      go_meet
      exact ⟨by rw [e'.out, ← e.out, if_pos h'.out], kp.out, hres.out⟩
    · have h' := Aside.mk h
      go_wp2
      go_meet
      exact ⟨by rw [e'.out, ← e.out, if_neg (Int.not_le.2 h'.out)], kp.out, hres.out⟩
  case rest =>
    clear kp hres hd1
    obtain ⟨rfl, kp, hres⟩ := hcut
    replace kp := Aside.mk kp
    replace hres := Aside.mk hres
    go_upto_if 38 with ((go_at_call 42); (refine Calls.mono (field_calls' _ _ _ hx.out (by decide) (by decide) _) ?_); (rintro e w1 ⟨rfl, hd1⟩))
    have hd0 : Dr wc w1 := by repeat (first | exact Dr.refl _ | assumption | refine Dr.step ?_ _ | refine Dr.trans ?_ (by assumption))
    replace kp : Aside (Kp w w1) := ⟨kp.out.trans (Dr.kp hd0)⟩
    replace hres : Aside (Blk w1 w.heap.size #[.int .i64 0, .int .i64 0, .int .i64 0, .int .i64 0, .int .i64 0] 36) := ⟨hres.out.kp (Dr.kp hd0)⟩
    clear hd0
    go_cut [9] (fun s wx => s = .int .i64 (immOf 83 x) ∧ Kp w wx ∧ Blk wx w.heap.size #[.int .i64 0, .int .i64 0, .int .i64 0, .int .i64 0, .int .i64 0] 36)
    case first =>
      have e := imm83 hx1
      have ea := F.out.e25_7
      have eb := F.out.e7_5
      rw [← ea, ← eb] at e
      replace e := Aside.mk e
      clear ea eb
      by_cases h : 2048 ≤ fieldV x 7 5 + 32 * fieldV x 25 7
      · have h' := Aside.mk h
        go_wp2
        go_meet
        exact ⟨by rw [e.out, if_pos h'.out], kp.out, hres.out⟩
      · have h' := Aside.mk h
        go_wp2
        go_meet
        exact ⟨by rw [e.out, if_neg (Int.not_le.2 h'.out)], kp.out, hres.out⟩
    case rest =>
      clear kp hres hd1
      obtain ⟨rfl, kp, hres⟩ := hcut
      replace kp := Aside.mk kp
      replace hres := Aside.mk hres
      have c4 := fieldV_range x 8 4
      have c5 := fieldV_range x 25 6
      have c6 := fieldV_range x 7 1
      have c7 := fieldV_range x 31 1
      have c8 := fieldV_range x 21 10
      have c9 := fieldV_range x 20 1
      have c10 := fieldV_range x 12 8
      go_wp2_with ((go_at_call 42); (refine Calls.mono (field_calls' _ _ _ hx.out (by decide) (by decide) _) ?_); (rintro e w1 ⟨rfl, hd1⟩))
      have hd0 : Dr wc w1 := by repeat (first | exact Dr.refl _ | assumption | refine Dr.step ?_ _ | refine Dr.trans ?_ (by assumption))
      replace kp : Aside (Kp w w1) := ⟨kp.out.trans (Dr.kp hd0)⟩
      replace hres : Aside (Blk w1 w.heap.size #[.int .i64 0, .int .i64 0, .int .i64 0, .int .i64 0, .int .i64 0] 36) := ⟨hres.out.kp (Dr.kp hd0)⟩
      clear hd0 hd1 c1 c2 c3 c4 c5 c6 c7 c8 c9 c10
      rw [e_br F.out, e_ju F.out]
      go_loopw [12] (fun i wr => ∃ k : Nat, 1 ≤ k ∧ k ≤ 56 ∧ i = .int .i64 k ∧ NoHitK x k ∧ Kp w wr ∧ Blk wr w.heap.size #[.int .i64 0, .int .i64 0, .int .i64 0, .int .i64 0, .int .i64 0] 36) (fun i _ => 56 - (intOf i).toNat)
      case atStart => exact ⟨1, Nat.le_refl _, by omega, rfl, noHitK_start x, kp.out, hres.out⟩
      case round =>
        clear kp hres
        obtain ⟨k, h1, h2, rfl, hno, kp, hres⟩ := hrel
        replace kp := Aside.mk kp
        replace hres := Aside.mk hres
        by_cases hlt : k < 56
        · obtain ⟨f, hf⟩ := formOf_some (op := k) (by omega)
          have hg := (formOf_good hf).1
          have oc := fun w => Of_calls (k : Int) w
          simp only [refOf, hf, rowV] at oc
          replace oc := Aside.mk oc
          replace hf := Aside.mk hf
          replace hg := Aside.mk hg
          go_upto_region 16 with ((go_at_call 41); (refine Calls.mono (oc.out _) ?_); (rintro e w2 ⟨rfl, k2⟩))
          have hbi := Aside.mk (((Blk.new wr #[.int .i64 (k : Int), .int .i64 0, .int .i64 0, .int .i64 0, .int .i64 0] 36).kp k2).alloc (.cells #[.int .u8 f.kind, .int .i64 f.op, .int .i64 f.f3, .int .i64 f.f7, .int .i64 (if f.kind = 69 then 0 else f.rs2)] 92))
          have hbr := Aside.mk (Blk.new w2 #[.int .u8 f.kind, .int .i64 f.op, .int .i64 f.f3, .int .i64 f.f7, .int .i64 (if f.kind = 69 then 0 else f.rs2)] 92)
          have kk : Aside (Kp wr (w2.alloc (.cells #[.int .u8 f.kind, .int .i64 f.op, .int .i64 f.f3, .int .i64 f.f7, .int .i64 (if f.kind = 69 then 0 else f.rs2)] 92))) := ⟨(((Kp.refl wr).alloc _).trans k2).alloc _⟩
          have hsz : Aside (w2.heap.size ≠ wr.heap.size) := ⟨by have := k2.size; rw [World.size_alloc] at this; omega⟩
          clear k2
          generalize w2.alloc (.cells #[.int .u8 f.kind, .int .i64 f.op, .int .i64 f.f3, .int .i64 f.f7, .int .i64 (if f.kind = 69 then 0 else f.rs2)] 92) = W at *
          generalize w2.heap.size = br at *
          obtain ⟨bl, b0, b1, b2, b3, b4, -⟩ := hbr.out.five
          obtain ⟨il, i0, i1, i2, i3, i4, j0, j1, j2, j3, j4⟩ := hbi.out.five
          go_upto_block 2 with fail
          go_cut [] (fun wx => Kp wr wx ∧ Blk wx wr.heap.size #[.int .i64 (k : Int), .int .i64 (cRd f x), .int .i64 (cRs1 f x), .int .i64 (cRs2 f x), .int .i64 (cImm f x)] 36)
          case first =>
            clear hno kp hres
            obtain ⟨kind, o, f3, f7, r⟩ := f
            simp only at hbi hbr b0 b1 b2 b3 b4
            have hk := hg.out.2.2.2.2.2.2
            simp only at hk
            rcases hk with ⟨rfl, hr⟩ | ⟨rfl, _⟩ | ⟨rfl, _⟩ | ⟨rfl, _⟩ | ⟨rfl, _⟩ | ⟨rfl, _⟩ | ⟨rfl, _⟩ | ⟨rfl, _⟩
            · skip
              by_cases hr3 : r < 0
              · have hr4 : ((r : Int) == -1) = true := by simp; omega
                have b4' : (if (82 : Int) = 69 then (0 : Int) else r) = r := rfl
                have cRd_ : Aside (cRd (⟨82, o, f3, f7, r⟩ : Fm) x = fieldV x 7 5) := ⟨by rw [cRd, if_pos (by simp [Fm.uRd]), F.out.e7_5]⟩
                have cRs1_ : Aside (cRs1 (⟨82, o, f3, f7, r⟩ : Fm) x = fieldV x 15 5) := ⟨by rw [cRs1, if_pos (by simp [Fm.uRs1]), F.out.e15_5]⟩
                have cRs2_ : Aside (cRs2 (⟨82, o, f3, f7, r⟩ : Fm) x = fieldV x 20 5) := ⟨by rw [cRs2, if_pos (by simp [Fm.uRs2, hr3]), F.out.e20_5]⟩
                have cImm_ : Aside (cImm (⟨82, o, f3, f7, r⟩ : Fm) x = 0) := ⟨rfl⟩
                go_wp2_with ((go_at_call 42); (refine Calls.mono (field_calls' _ _ _ hx.out (by decide) (by decide) _) ?_); (rintro e w1 ⟨rfl, hd1⟩))
                go_meet
                rw [cRd_.out, cRs1_.out, cRs2_.out, cImm_.out]
                exact ⟨(((kk.out.setCell (Nat.le_refl _) _).setCell (Nat.le_refl _) _).setCell (Nat.le_refl _) _), ((hbi.out.set _).set _).set _⟩
              · have hr4 : ((r : Int) == -1) = false := by simp; omega
                have cRd_ : Aside (cRd (⟨82, o, f3, f7, r⟩ : Fm) x = fieldV x 7 5) := ⟨by rw [cRd, if_pos (by simp [Fm.uRd]), F.out.e7_5]⟩
                have cRs1_ : Aside (cRs1 (⟨82, o, f3, f7, r⟩ : Fm) x = fieldV x 15 5) := ⟨by rw [cRs1, if_pos (by simp [Fm.uRs1]), F.out.e15_5]⟩
                have cRs2_ : Aside (cRs2 (⟨82, o, f3, f7, r⟩ : Fm) x = 0) := ⟨by rw [cRs2, if_neg (by simp [Fm.uRs2, hr3])]⟩
                have cImm_ : Aside (cImm (⟨82, o, f3, f7, r⟩ : Fm) x = 0) := ⟨rfl⟩
                go_wp2_with ((go_at_call 42); (refine Calls.mono (field_calls' _ _ _ hx.out (by decide) (by decide) _) ?_); (rintro e w1 ⟨rfl, hd1⟩))
                go_meet
                rw [cRd_.out, cRs1_.out, cRs2_.out, cImm_.out]
                exact ⟨((kk.out.setCell (Nat.le_refl _) _).setCell (Nat.le_refl _) _), (hbi.out.set _).set _⟩
            · skip
              have cRd_ : Aside (cRd (⟨73, o, f3, f7, r⟩ : Fm) x = fieldV x 7 5) := ⟨by rw [cRd, if_pos (by simp [Fm.uRd]), F.out.e7_5]⟩
              have cRs1_ : Aside (cRs1 (⟨73, o, f3, f7, r⟩ : Fm) x = fieldV x 15 5) := ⟨by rw [cRs1, if_pos (by simp [Fm.uRs1]), F.out.e15_5]⟩
              have cRs2_ : Aside (cRs2 (⟨73, o, f3, f7, r⟩ : Fm) x = 0) := ⟨by rw [cRs2, if_neg (by simp [Fm.uRs2])]⟩
              have cImm_ : Aside (cImm (⟨73, o, f3, f7, r⟩ : Fm) x = immOf 73 x) := ⟨rfl⟩
              go_wp2_with ((go_at_call 42); (refine Calls.mono (field_calls' _ _ _ hx.out (by decide) (by decide) _) ?_); (rintro e w1 ⟨rfl, hd1⟩))
              go_meet
              rw [cRd_.out, cRs1_.out, cRs2_.out, cImm_.out]
              exact ⟨((((kk.out.setCell (Nat.le_refl _) _).setCell (Nat.le_refl _) _).setCell (Nat.le_refl _) _).setCell (Nat.le_refl _) _).setCell (Nat.le_refl _) _, ((((hbi.out.set _).set _).set _).set _).set _⟩
            · skip
              have cRd_ : Aside (cRd (⟨72, o, f3, f7, r⟩ : Fm) x = fieldV x 7 5) := ⟨by rw [cRd, if_pos (by simp [Fm.uRd]), F.out.e7_5]⟩
              have cRs1_ : Aside (cRs1 (⟨72, o, f3, f7, r⟩ : Fm) x = fieldV x 15 5) := ⟨by rw [cRs1, if_pos (by simp [Fm.uRs1]), F.out.e15_5]⟩
              have cRs2_ : Aside (cRs2 (⟨72, o, f3, f7, r⟩ : Fm) x = 0) := ⟨by rw [cRs2, if_neg (by simp [Fm.uRs2])]⟩
              have cImm_ : Aside (cImm (⟨72, o, f3, f7, r⟩ : Fm) x = fieldV x 20 5) := ⟨by rw [F.out.e20_5]; rfl⟩
              go_wp2_with ((go_at_call 42); (refine Calls.mono (field_calls' _ _ _ hx.out (by decide) (by decide) _) ?_); (rintro e w1 ⟨rfl, hd1⟩))
              go_meet
              rw [cRd_.out, cRs1_.out, cRs2_.out, cImm_.out]
              exact ⟨((((kk.out.setCell (Nat.le_refl _) _).setCell (Nat.le_refl _) _).setCell (Nat.le_refl _) _).setCell (Nat.le_refl _) _).setCell (Nat.le_refl _) _, ((((hbi.out.set _).set _).set _).set _).set _⟩
            · skip
              have cRd_ : Aside (cRd (⟨83, o, f3, f7, r⟩ : Fm) x = 0) := ⟨by rw [cRd, if_neg (by simp [Fm.uRd])]⟩
              have cRs1_ : Aside (cRs1 (⟨83, o, f3, f7, r⟩ : Fm) x = fieldV x 15 5) := ⟨by rw [cRs1, if_pos (by simp [Fm.uRs1]), F.out.e15_5]⟩
              have cRs2_ : Aside (cRs2 (⟨83, o, f3, f7, r⟩ : Fm) x = fieldV x 20 5) := ⟨by rw [cRs2, if_pos (by simp [Fm.uRs2]), F.out.e20_5]⟩
              have cImm_ : Aside (cImm (⟨83, o, f3, f7, r⟩ : Fm) x = immOf 83 x) := ⟨rfl⟩
              go_wp2_with ((go_at_call 42); (refine Calls.mono (field_calls' _ _ _ hx.out (by decide) (by decide) _) ?_); (rintro e w1 ⟨rfl, hd1⟩))
              go_meet
              rw [cRd_.out, cRs1_.out, cRs2_.out, cImm_.out]
              exact ⟨((((kk.out.setCell (Nat.le_refl _) _).setCell (Nat.le_refl _) _).setCell (Nat.le_refl _) _).setCell (Nat.le_refl _) _).setCell (Nat.le_refl _) _, ((((hbi.out.set _).set _).set _).set _).set _⟩
            · skip
              have cRd_ : Aside (cRd (⟨66, o, f3, f7, r⟩ : Fm) x = 0) := ⟨by rw [cRd, if_neg (by simp [Fm.uRd])]⟩
              have cRs1_ : Aside (cRs1 (⟨66, o, f3, f7, r⟩ : Fm) x = fieldV x 15 5) := ⟨by rw [cRs1, if_pos (by simp [Fm.uRs1]), F.out.e15_5]⟩
              have cRs2_ : Aside (cRs2 (⟨66, o, f3, f7, r⟩ : Fm) x = fieldV x 20 5) := ⟨by rw [cRs2, if_pos (by simp [Fm.uRs2]), F.out.e20_5]⟩
              have cImm_ : Aside (cImm (⟨66, o, f3, f7, r⟩ : Fm) x = immOf 66 x) := ⟨rfl⟩
              go_wp2_with ((go_at_call 42); (refine Calls.mono (field_calls' _ _ _ hx.out (by decide) (by decide) _) ?_); (rintro e w1 ⟨rfl, hd1⟩))
              go_meet
              rw [cRd_.out, cRs1_.out, cRs2_.out, cImm_.out]
              exact ⟨((((kk.out.setCell (Nat.le_refl _) _).setCell (Nat.le_refl _) _).setCell (Nat.le_refl _) _).setCell (Nat.le_refl _) _).setCell (Nat.le_refl _) _, ((((hbi.out.set _).set _).set _).set _).set _⟩
            · skip
              have cRd_ : Aside (cRd (⟨85, o, f3, f7, r⟩ : Fm) x = fieldV x 7 5) := ⟨by rw [cRd, if_pos (by simp [Fm.uRd]), F.out.e7_5]⟩
              have cRs1_ : Aside (cRs1 (⟨85, o, f3, f7, r⟩ : Fm) x = 0) := ⟨by rw [cRs1, if_neg (by simp [Fm.uRs1])]⟩
              have cRs2_ : Aside (cRs2 (⟨85, o, f3, f7, r⟩ : Fm) x = 0) := ⟨by rw [cRs2, if_neg (by simp [Fm.uRs2])]⟩
              have cImm_ : Aside (cImm (⟨85, o, f3, f7, r⟩ : Fm) x = fieldV x 12 20) := ⟨by rw [F.out.e12_20]; rfl⟩
              go_wp2_with ((go_at_call 42); (refine Calls.mono (field_calls' _ _ _ hx.out (by decide) (by decide) _) ?_); (rintro e w1 ⟨rfl, hd1⟩); (obtain ⟨-, p0, p1, p2, p3, p4, q0, q1, q2, q3, q4⟩ := (hbi.out.kp (Dr.kp hd1)).five))
              go_meet
              rw [cRd_.out, cRs1_.out, cRs2_.out, cImm_.out]
              exact ⟨(((((kk.out.trans (Dr.kp hd1)).setCell (Nat.le_refl _) _).setCell (Nat.le_refl _) _).setCell (Nat.le_refl _) _).setCell (Nat.le_refl _) _).setCell (Nat.le_refl _) _, (((((hbi.out.kp (Dr.kp hd1)).set _).set _).set _).set _).set _⟩
            · skip
              have cRd_ : Aside (cRd (⟨74, o, f3, f7, r⟩ : Fm) x = fieldV x 7 5) := ⟨by rw [cRd, if_pos (by simp [Fm.uRd]), F.out.e7_5]⟩
              have cRs1_ : Aside (cRs1 (⟨74, o, f3, f7, r⟩ : Fm) x = 0) := ⟨by rw [cRs1, if_neg (by simp [Fm.uRs1])]⟩
              have cRs2_ : Aside (cRs2 (⟨74, o, f3, f7, r⟩ : Fm) x = 0) := ⟨by rw [cRs2, if_neg (by simp [Fm.uRs2])]⟩
              have cImm_ : Aside (cImm (⟨74, o, f3, f7, r⟩ : Fm) x = immOf 74 x) := ⟨rfl⟩
              go_wp2_with ((go_at_call 42); (refine Calls.mono (field_calls' _ _ _ hx.out (by decide) (by decide) _) ?_); (rintro e w1 ⟨rfl, hd1⟩))
              go_meet
              rw [cRd_.out, cRs1_.out, cRs2_.out, cImm_.out]
              exact ⟨((((kk.out.setCell (Nat.le_refl _) _).setCell (Nat.le_refl _) _).setCell (Nat.le_refl _) _).setCell (Nat.le_refl _) _).setCell (Nat.le_refl _) _, ((((hbi.out.set _).set _).set _).set _).set _⟩
            · skip
              have cRd_ : Aside (cRd (⟨69, o, f3, f7, r⟩ : Fm) x = 0) := ⟨by rw [cRd, if_neg (by simp [Fm.uRd])]⟩
              have cRs1_ : Aside (cRs1 (⟨69, o, f3, f7, r⟩ : Fm) x = 0) := ⟨by rw [cRs1, if_neg (by simp [Fm.uRs1])]⟩
              have cRs2_ : Aside (cRs2 (⟨69, o, f3, f7, r⟩ : Fm) x = 0) := ⟨by rw [cRs2, if_neg (by simp [Fm.uRs2])]⟩
              have cImm_ : Aside (cImm (⟨69, o, f3, f7, r⟩ : Fm) x = 0) := ⟨rfl⟩
              go_wp2_with ((go_at_call 42); (refine Calls.mono (field_calls' _ _ _ hx.out (by decide) (by decide) _) ?_); (rintro e w1 ⟨rfl, hd1⟩))
              go_meet
              rw [cRd_.out, cRs1_.out, cRs2_.out, cImm_.out]
              exact ⟨kk.out, hbi.out⟩
          case rest =>
            clear kk hbi hbr bl b0 b1 b2 b3 b4 il i0 i1 i2 i3 i4 j0 j1 j2 j3 j4
            obtain ⟨kx, bx⟩ := hcut
            replace kp : Aside (Kp w wc) := ⟨kp.out.trans kx⟩
            replace hres := Aside.mk (hres.out.kp kx)
            replace bx := Aside.mk bx
            clear kx
            replace hno : Aside (NoHitK x k) := ⟨hno⟩
            obtain ⟨il, i0, i1, i2, i3, i4, -⟩ := bx.out.five
            by_cases hE : insE k (cRd f x) (cRs1 f x) (cRs2 f x) (cImm f x) = 0
            · by_cases hW : insW k (cRd f x) (cRs1 f x) (cRs2 f x) (cImm f x) = x
              · have hEE := Aside.mk hE
                have hWW := Aside.mk hW
                go_wp2_with ((go_at_call 31); (refine Calls.mono (rEncode_calls (k : Int) (cRd f x) (cRs1 f x) (cRs2 f x) (cImm f x) (immOf_range hx1) _) ?_); (rintro e w6 ⟨rfl, k6⟩); (replace kp : Aside (Kp w w6) := ⟨kp.out.trans k6⟩); (replace hres := Aside.mk (hres.out.kp k6)); (replace bx := Aside.mk (bx.out.kp k6)); clear k6 il i0 i1 i2 i3 i4; (obtain ⟨il, i0, i1, i2, i3, i4, -⟩ := bx.out.five); (obtain ⟨rl, r0, r1, r2, r3, r4, s0, s1, s2, s3, s4⟩ := hres.out.five))
                refine bodyPost_ret (results_cell_tmp_row rfl _ _ w.heap.size _ _ _ rfl (Blk.set (Blk.set (Blk.set (Blk.set (Blk.set hres.out _) _) _) _) _) Try.underlying36 (by kernel_rfl)) rfl ?_
                exact ⟨_, _, _, _, _, 0, rfl, ((((kp.out.setCell (Nat.le_refl _) _).setCell (Nat.le_refl _) _).setCell (Nat.le_refl _) _).setCell (Nat.le_refl _) _).setCell (Nat.le_refl _) _, Or.inl ⟨rfl, hEE.out, hWW.out⟩⟩
              · have hnh := Aside.mk (no_hit hf.out (fun h => hW h.2))
                go_wp2_with ((go_at_call 31); (refine Calls.mono (rEncode_calls (k : Int) (cRd f x) (cRs1 f x) (cRs2 f x) (cImm f x) (immOf_range hx1) _) ?_); (rintro e w6 ⟨rfl, k6⟩); (replace kp : Aside (Kp w w6) := ⟨kp.out.trans k6⟩); (replace hres := Aside.mk (hres.out.kp k6)); (replace bx := Aside.mk (bx.out.kp k6)); clear k6 il i0 i1 i2 i3 i4; (obtain ⟨il, i0, i1, i2, i3, i4, -⟩ := bx.out.five); (obtain ⟨rl, r0, r1, r2, r3, r4, s0, s1, s2, s3, s4⟩ := hres.out.five))
                go_roundw
                case rel => exact ⟨k + 1, by omega, by omega, by go_num, noHitK_step hno.out hnh.out, kp.out, hres.out⟩
                case measure => simp [intOf]; omega
            · have hnh := Aside.mk (no_hit hf.out (fun h => hE h.1))
              go_wp2_with ((go_at_call 31); (refine Calls.mono (rEncode_calls (k : Int) (cRd f x) (cRs1 f x) (cRs2 f x) (cImm f x) (immOf_range hx1) _) ?_); (rintro e w6 ⟨rfl, k6⟩); (replace kp : Aside (Kp w w6) := ⟨kp.out.trans k6⟩); (replace hres := Aside.mk (hres.out.kp k6)); (replace bx := Aside.mk (bx.out.kp k6)); clear k6 il i0 i1 i2 i3 i4; (obtain ⟨il, i0, i1, i2, i3, i4, -⟩ := bx.out.five); (obtain ⟨rl, r0, r1, r2, r3, r4, s0, s1, s2, s3, s4⟩ := hres.out.five))
              go_roundw
              case rel => exact ⟨k + 1, by omega, by omega, by go_num, noHitK_step hno.out hnh.out, kp.out, hres.out⟩
              case measure => simp [intOf]; omega
        · obtain ⟨rl, r0, r1, r2, r3, r4, s0, s1, s2, s3, s4⟩ := hres.out.five
          have hD := Aside.mk (noHitK_end hno (by omega))
          go_wp2
          refine bodyPost_ret (results_cell_tmp_row rfl _ _ w.heap.size _ _ _ rfl (Blk.set (Blk.set (Blk.set (Blk.set (Blk.set hres.out _) _) _) _) _) Try.underlying36 (by kernel_rfl)) rfl ?_
          exact ⟨0, 0, 0, 0, 0, 2, rfl, ((((kp.out.setCell (Nat.le_refl _) _).setCell (Nat.le_refl _) _).setCell (Nat.le_refl _) _).setCell (Nat.le_refl _) _).setCell (Nat.le_refl _) _, hD.out⟩
end Go.Proofs.Ytgifefkoldocmaa
