/- CodeImms: the law, walked. Condition: the arguments are numbers of their types. -/
import Derived.Test.YtkmklmpolnkkeaaCodeLawC
namespace Go.Proofs.Ytkmklmpolnkkeaa
open Go.RowKit Go.Maps Go.Proofs.Ytkmklmpolnkkeaa.PC
set_option linter.unusedVariables false
set_option linter.unusedSimpArgs false
theorem tmod2 (n : Int) : Int.tmod n 2 = 0 ↔ n % 2 = 0 := ⟨fun h => by have := Int.dvd_of_tmod_eq_zero h; omega, fun h => (half_even h).1⟩
theorem imms_plain0 (imm : Int) : fitsOp 18 imm = decide (-2048 ≤ imm ∧ imm ≤ 2047) ∧ insE 18 0 0 0 imm = if (-2048 ≤ imm ∧ imm ≤ 2047) then 0 else 1 := by
  obtain ⟨f, hf⟩ : ∃ f, formOf 18 = some f := formOf_some (by decide)
  have hf' : formOf 18 = tbl[17]? := rfl
  rw [hf'] at hf
  have hk : tbl[17]? = some (tbl[17]'(by decide)) := List.getElem?_eq_getElem (by decide)
  rw [hk] at hf
  obtain rfl := Option.some.inj hf
  rw [hk] at hf'
  have hF : fitsK (tbl[17]'(by decide)).kind imm ↔ (-2048 ≤ imm ∧ imm ≤ 2047) := by
    simp [fitsK, tbl]
    try omega
  refine ⟨?_, ?_⟩
  · unfold fitsOp
    rw [hf']
    simp only [hF]
  · unfold insE
    rw [hf']
    show encE _ 0 0 0 imm = _
    unfold encE
    have hu : (tbl[17]'(by decide)).uImm := by decide
    rw [if_neg (by simp [hu])]
    simp only [hF, hu]
    by_cases hg : (-2048 ≤ imm ∧ imm ≤ 2047)
    · rw [if_neg (by simp [hg]), if_pos hg]
    · rw [if_pos (by simp only [hg]; simp), if_neg hg]
set_option maxRecDepth 100000 in
set_option maxHeartbeats 2000000 in
theorem imms_0 (which imm : Int) (hb : 0 ≤ which) (hw : which % 8 = 0) (h2 : I64 imm) (w : World) :
    Calls Try.prog 8 #[.int .u8 which, .int .i64 imm] w fun e w' => e = .returned (.bool true) ∧ Kp w w' := by
  have hx := insW_range 18 0 0 0 imm
  obtain ⟨hfit, hE⟩ := imms_plain0 imm
  replace hE := Aside.mk hE
  replace hfit := Aside.mk hfit
  have ht := Aside.mk (tmod2 imm)
  have hi1 : ∀ wz : World, (Instr.index 46 (.agg #[.int .i64 (-2048), .int .i64 0, .int .i64 (-2048), .int .i64 (-4096), .int .i64 0, .int .i64 (-1048576), .int .i64 (-2048), .int .i64 (-2048)]) (.int .u8 0)).run Try.prog wz = .ok (.int .i64 (-2048)) wz := fun _ => rfl
  have hi2 : ∀ wz : World, (Instr.index 46 (.agg #[.int .i64 2047, .int .i64 31, .int .i64 2047, .int .i64 4094, .int .i64 1048575, .int .i64 1048574, .int .i64 2047, .int .i64 2047]) (.int .u8 0)).run Try.prog wz = .ok (.int .i64 2047) wz := fun _ => rfl
  go_enter Try.func8, Try.ntmps8
  go_upto_region 8 with ((go_at_call 9); (refine Calls.mono (awake03_calls _) ?_); (rintro e w1 ⟨rfl, k1⟩))
  clear hi1 hi2 hb hw
  generalize hWW : World.alloc w1 _ = W at *
  have kk : Aside (Kp w W) := ⟨by rw [← hWW]; exact k1.alloc _⟩
  clear k1 hWW
  go_cut [10] (fun s wx => s = .bool (decide (-2048 ≤ imm ∧ imm ≤ 2047)) ∧ wx = W)
  case first =>
    by_cases c1 : imm < -2048
    · go_wp2
      go_meet
      exact ⟨by simp; omega, rfl⟩
    by_cases c2 : 2047 < imm
    · go_wp2
      go_meet
      exact ⟨by simp; omega, rfl⟩
    go_wp2
    go_meet
    exact ⟨by simp; omega, rfl⟩
  case rest =>
    obtain ⟨rfl, rfl⟩ := hcut
    go_wp2_with fail
    refine Calls.mono (Encode_calls 18 0 0 0 imm (by decide) h2 _) ?_
    rintro e w2 ⟨rfl, k2⟩
    have b1 := Aside.mk ((Blk.new _ _ _).kp k2)
    replace kk : Aside (Kp w w2) := ⟨(kk.out.alloc _).trans k2⟩
    clear k2
    have hfc := fun w => Fits_calls 18 imm (by decide) h2 w
    rw [hfit.out] at hfc
    replace hfc := Aside.mk hfc
    by_cases hg : (-2048 ≤ imm ∧ imm ≤ 2047)
    · have e1 : insE 18 0 0 0 imm = 0 := by rw [hE.out, if_pos hg]
      have he := Aside.mk e1
      go_wp2_with fail
      refine Calls.mono (Decode_calls _ hx _) ?_
      rintro e w4 ⟨a, b, c, d, g, er, rfl, k4, hd⟩
      obtain ⟨rfl, rfl, rfl, rfl, rfl, rfl⟩ := decR_of he.out hd
      replace kk : Aside (Kp w w4) := ⟨kk.out.trans k4⟩
      replace b1 := Aside.mk (b1.out.kp k4)
      clear k4 hd
      have b2 := Aside.mk (Blk.new w4 #[.int .i64 18, .int .i64 0, .int .i64 0, .int .i64 0, .int .i64 g] 23)
      have b3 := Aside.mk (b1.out.alloc (.cells #[.int .i64 18, .int .i64 0, .int .i64 0, .int .i64 0, .int .i64 g] 23))
      replace kk := Aside.mk (kk.out.alloc (.cells #[.int .i64 18, .int .i64 0, .int .i64 0, .int .i64 0, .int .i64 g] 23))
      go_wp2_with ((go_at_call 11); (refine Calls.mono (hfc.out _) ?_); (rintro e w5 ⟨rfl, k5⟩); (have b4 := b2.out.kp k5); (have b5 := b3.out.kp k5); (obtain ⟨x, x0, x1, x2, x3, x4, -⟩ := b4.five); (obtain ⟨y, y0, y1, y2, y3, y4, -⟩ := b5.five); (replace b4 := Aside.mk b4); (replace b5 := Aside.mk b5); (replace k5 := Aside.mk k5))
      go_ret
      exact ⟨rfl, kk.out.trans k5.out⟩
    · have e1 : insE 18 0 0 0 imm = 1 := by rw [hE.out, if_neg hg]
      go_wp2_with fail
      refine Calls.mono (Decode_calls _ hx _) ?_
      rintro e w4 ⟨a, b, c, d, g, er, rfl, k4, hd⟩
      replace kk : Aside (Kp w w4) := ⟨kk.out.trans k4⟩
      clear k4 hd b1
      go_wp2_with ((go_at_call 11); (refine Calls.mono (hfc.out _) ?_); (rintro e w5 ⟨rfl, k5⟩); (replace k5 := Aside.mk k5))
      go_ret
      exact ⟨rfl, (kk.out.alloc _).trans k5.out⟩
theorem imms_plain1 (imm : Int) : fitsOp 24 imm = decide (0 ≤ imm ∧ imm ≤ 31) ∧ insE 24 0 0 0 imm = if (0 ≤ imm ∧ imm ≤ 31) then 0 else 1 := by
  obtain ⟨f, hf⟩ : ∃ f, formOf 24 = some f := formOf_some (by decide)
  have hf' : formOf 24 = tbl[23]? := rfl
  rw [hf'] at hf
  have hk : tbl[23]? = some (tbl[23]'(by decide)) := List.getElem?_eq_getElem (by decide)
  rw [hk] at hf
  obtain rfl := Option.some.inj hf
  rw [hk] at hf'
  have hF : fitsK (tbl[23]'(by decide)).kind imm ↔ (0 ≤ imm ∧ imm ≤ 31) := by
    simp [fitsK, tbl]
    try omega
  refine ⟨?_, ?_⟩
  · unfold fitsOp
    rw [hf']
    simp only [hF]
  · unfold insE
    rw [hf']
    show encE _ 0 0 0 imm = _
    unfold encE
    have hu : (tbl[23]'(by decide)).uImm := by decide
    rw [if_neg (by simp [hu])]
    simp only [hF, hu]
    by_cases hg : (0 ≤ imm ∧ imm ≤ 31)
    · rw [if_neg (by simp [hg]), if_pos hg]
    · rw [if_pos (by simp only [hg]; simp), if_neg hg]
set_option maxRecDepth 100000 in
set_option maxHeartbeats 2000000 in
theorem imms_1 (which imm : Int) (hb : 0 ≤ which) (hw : which % 8 = 1) (h2 : I64 imm) (w : World) :
    Calls Try.prog 8 #[.int .u8 which, .int .i64 imm] w fun e w' => e = .returned (.bool true) ∧ Kp w w' := by
  have hx := insW_range 24 0 0 0 imm
  obtain ⟨hfit, hE⟩ := imms_plain1 imm
  replace hE := Aside.mk hE
  replace hfit := Aside.mk hfit
  have ht := Aside.mk (tmod2 imm)
  have hi1 : ∀ wz : World, (Instr.index 46 (.agg #[.int .i64 (-2048), .int .i64 0, .int .i64 (-2048), .int .i64 (-4096), .int .i64 0, .int .i64 (-1048576), .int .i64 (-2048), .int .i64 (-2048)]) (.int .u8 1)).run Try.prog wz = .ok (.int .i64 (0)) wz := fun _ => rfl
  have hi2 : ∀ wz : World, (Instr.index 46 (.agg #[.int .i64 2047, .int .i64 31, .int .i64 2047, .int .i64 4094, .int .i64 1048575, .int .i64 1048574, .int .i64 2047, .int .i64 2047]) (.int .u8 1)).run Try.prog wz = .ok (.int .i64 31) wz := fun _ => rfl
  go_enter Try.func8, Try.ntmps8
  go_upto_region 8 with ((go_at_call 9); (refine Calls.mono (awake03_calls _) ?_); (rintro e w1 ⟨rfl, k1⟩))
  clear hi1 hi2 hb hw
  generalize hWW : World.alloc w1 _ = W at *
  have kk : Aside (Kp w W) := ⟨by rw [← hWW]; exact k1.alloc _⟩
  clear k1 hWW
  go_cut [10] (fun s wx => s = .bool (decide (0 ≤ imm ∧ imm ≤ 31)) ∧ wx = W)
  case first =>
    by_cases c1 : imm < 0
    · go_wp2
      go_meet
      exact ⟨by simp; omega, rfl⟩
    by_cases c2 : 31 < imm
    · go_wp2
      go_meet
      exact ⟨by simp; omega, rfl⟩
    go_wp2
    go_meet
    exact ⟨by simp; omega, rfl⟩
  case rest =>
    obtain ⟨rfl, rfl⟩ := hcut
    go_wp2_with fail
    refine Calls.mono (Encode_calls 24 0 0 0 imm (by decide) h2 _) ?_
    rintro e w2 ⟨rfl, k2⟩
    have b1 := Aside.mk ((Blk.new _ _ _).kp k2)
    replace kk : Aside (Kp w w2) := ⟨(kk.out.alloc _).trans k2⟩
    clear k2
    have hfc := fun w => Fits_calls 24 imm (by decide) h2 w
    rw [hfit.out] at hfc
    replace hfc := Aside.mk hfc
    by_cases hg : (0 ≤ imm ∧ imm ≤ 31)
    · have e1 : insE 24 0 0 0 imm = 0 := by rw [hE.out, if_pos hg]
      have he := Aside.mk e1
      go_wp2_with fail
      refine Calls.mono (Decode_calls _ hx _) ?_
      rintro e w4 ⟨a, b, c, d, g, er, rfl, k4, hd⟩
      obtain ⟨rfl, rfl, rfl, rfl, rfl, rfl⟩ := decR_of he.out hd
      replace kk : Aside (Kp w w4) := ⟨kk.out.trans k4⟩
      replace b1 := Aside.mk (b1.out.kp k4)
      clear k4 hd
      have b2 := Aside.mk (Blk.new w4 #[.int .i64 24, .int .i64 0, .int .i64 0, .int .i64 0, .int .i64 g] 23)
      have b3 := Aside.mk (b1.out.alloc (.cells #[.int .i64 24, .int .i64 0, .int .i64 0, .int .i64 0, .int .i64 g] 23))
      replace kk := Aside.mk (kk.out.alloc (.cells #[.int .i64 24, .int .i64 0, .int .i64 0, .int .i64 0, .int .i64 g] 23))
      go_wp2_with ((go_at_call 11); (refine Calls.mono (hfc.out _) ?_); (rintro e w5 ⟨rfl, k5⟩); (have b4 := b2.out.kp k5); (have b5 := b3.out.kp k5); (obtain ⟨x, x0, x1, x2, x3, x4, -⟩ := b4.five); (obtain ⟨y, y0, y1, y2, y3, y4, -⟩ := b5.five); (replace b4 := Aside.mk b4); (replace b5 := Aside.mk b5); (replace k5 := Aside.mk k5))
      go_ret
      exact ⟨rfl, kk.out.trans k5.out⟩
    · have e1 : insE 24 0 0 0 imm = 1 := by rw [hE.out, if_neg hg]
      go_wp2_with fail
      refine Calls.mono (Decode_calls _ hx _) ?_
      rintro e w4 ⟨a, b, c, d, g, er, rfl, k4, hd⟩
      replace kk : Aside (Kp w w4) := ⟨kk.out.trans k4⟩
      clear k4 hd b1
      go_wp2_with ((go_at_call 11); (refine Calls.mono (hfc.out _) ?_); (rintro e w5 ⟨rfl, k5⟩); (replace k5 := Aside.mk k5))
      go_ret
      exact ⟨rfl, (kk.out.alloc _).trans k5.out⟩
theorem imms_plain2 (imm : Int) : fitsOp 31 imm = decide (-2048 ≤ imm ∧ imm ≤ 2047) ∧ insE 31 0 0 0 imm = if (-2048 ≤ imm ∧ imm ≤ 2047) then 0 else 1 := by
  obtain ⟨f, hf⟩ : ∃ f, formOf 31 = some f := formOf_some (by decide)
  have hf' : formOf 31 = tbl[30]? := rfl
  rw [hf'] at hf
  have hk : tbl[30]? = some (tbl[30]'(by decide)) := List.getElem?_eq_getElem (by decide)
  rw [hk] at hf
  obtain rfl := Option.some.inj hf
  rw [hk] at hf'
  have hF : fitsK (tbl[30]'(by decide)).kind imm ↔ (-2048 ≤ imm ∧ imm ≤ 2047) := by
    simp [fitsK, tbl]
    try omega
  refine ⟨?_, ?_⟩
  · unfold fitsOp
    rw [hf']
    simp only [hF]
  · unfold insE
    rw [hf']
    show encE _ 0 0 0 imm = _
    unfold encE
    have hu : (tbl[30]'(by decide)).uImm := by decide
    rw [if_neg (by simp [hu])]
    simp only [hF, hu]
    by_cases hg : (-2048 ≤ imm ∧ imm ≤ 2047)
    · rw [if_neg (by simp [hg]), if_pos hg]
    · rw [if_pos (by simp only [hg]; simp), if_neg hg]
set_option maxRecDepth 100000 in
set_option maxHeartbeats 2000000 in
theorem imms_2 (which imm : Int) (hb : 0 ≤ which) (hw : which % 8 = 2) (h2 : I64 imm) (w : World) :
    Calls Try.prog 8 #[.int .u8 which, .int .i64 imm] w fun e w' => e = .returned (.bool true) ∧ Kp w w' := by
  have hx := insW_range 31 0 0 0 imm
  obtain ⟨hfit, hE⟩ := imms_plain2 imm
  replace hE := Aside.mk hE
  replace hfit := Aside.mk hfit
  have ht := Aside.mk (tmod2 imm)
  have hi1 : ∀ wz : World, (Instr.index 46 (.agg #[.int .i64 (-2048), .int .i64 0, .int .i64 (-2048), .int .i64 (-4096), .int .i64 0, .int .i64 (-1048576), .int .i64 (-2048), .int .i64 (-2048)]) (.int .u8 2)).run Try.prog wz = .ok (.int .i64 (-2048)) wz := fun _ => rfl
  have hi2 : ∀ wz : World, (Instr.index 46 (.agg #[.int .i64 2047, .int .i64 31, .int .i64 2047, .int .i64 4094, .int .i64 1048575, .int .i64 1048574, .int .i64 2047, .int .i64 2047]) (.int .u8 2)).run Try.prog wz = .ok (.int .i64 2047) wz := fun _ => rfl
  go_enter Try.func8, Try.ntmps8
  go_upto_region 8 with ((go_at_call 9); (refine Calls.mono (awake03_calls _) ?_); (rintro e w1 ⟨rfl, k1⟩))
  clear hi1 hi2 hb hw
  generalize hWW : World.alloc w1 _ = W at *
  have kk : Aside (Kp w W) := ⟨by rw [← hWW]; exact k1.alloc _⟩
  clear k1 hWW
  go_cut [10] (fun s wx => s = .bool (decide (-2048 ≤ imm ∧ imm ≤ 2047)) ∧ wx = W)
  case first =>
    by_cases c1 : imm < -2048
    · go_wp2
      go_meet
      exact ⟨by simp; omega, rfl⟩
    by_cases c2 : 2047 < imm
    · go_wp2
      go_meet
      exact ⟨by simp; omega, rfl⟩
    go_wp2
    go_meet
    exact ⟨by simp; omega, rfl⟩
  case rest =>
    obtain ⟨rfl, rfl⟩ := hcut
    go_wp2_with fail
    refine Calls.mono (Encode_calls 31 0 0 0 imm (by decide) h2 _) ?_
    rintro e w2 ⟨rfl, k2⟩
    have b1 := Aside.mk ((Blk.new _ _ _).kp k2)
    replace kk : Aside (Kp w w2) := ⟨(kk.out.alloc _).trans k2⟩
    clear k2
    have hfc := fun w => Fits_calls 31 imm (by decide) h2 w
    rw [hfit.out] at hfc
    replace hfc := Aside.mk hfc
    by_cases hg : (-2048 ≤ imm ∧ imm ≤ 2047)
    · have e1 : insE 31 0 0 0 imm = 0 := by rw [hE.out, if_pos hg]
      have he := Aside.mk e1
      go_wp2_with fail
      refine Calls.mono (Decode_calls _ hx _) ?_
      rintro e w4 ⟨a, b, c, d, g, er, rfl, k4, hd⟩
      obtain ⟨rfl, rfl, rfl, rfl, rfl, rfl⟩ := decR_of he.out hd
      replace kk : Aside (Kp w w4) := ⟨kk.out.trans k4⟩
      replace b1 := Aside.mk (b1.out.kp k4)
      clear k4 hd
      have b2 := Aside.mk (Blk.new w4 #[.int .i64 31, .int .i64 0, .int .i64 0, .int .i64 0, .int .i64 g] 23)
      have b3 := Aside.mk (b1.out.alloc (.cells #[.int .i64 31, .int .i64 0, .int .i64 0, .int .i64 0, .int .i64 g] 23))
      replace kk := Aside.mk (kk.out.alloc (.cells #[.int .i64 31, .int .i64 0, .int .i64 0, .int .i64 0, .int .i64 g] 23))
      go_wp2_with ((go_at_call 11); (refine Calls.mono (hfc.out _) ?_); (rintro e w5 ⟨rfl, k5⟩); (have b4 := b2.out.kp k5); (have b5 := b3.out.kp k5); (obtain ⟨x, x0, x1, x2, x3, x4, -⟩ := b4.five); (obtain ⟨y, y0, y1, y2, y3, y4, -⟩ := b5.five); (replace b4 := Aside.mk b4); (replace b5 := Aside.mk b5); (replace k5 := Aside.mk k5))
      go_ret
      exact ⟨rfl, kk.out.trans k5.out⟩
    · have e1 : insE 31 0 0 0 imm = 1 := by rw [hE.out, if_neg hg]
      go_wp2_with fail
      refine Calls.mono (Decode_calls _ hx _) ?_
      rintro e w4 ⟨a, b, c, d, g, er, rfl, k4, hd⟩
      replace kk : Aside (Kp w w4) := ⟨kk.out.trans k4⟩
      clear k4 hd b1
      go_wp2_with ((go_at_call 11); (refine Calls.mono (hfc.out _) ?_); (rintro e w5 ⟨rfl, k5⟩); (replace k5 := Aside.mk k5))
      go_ret
      exact ⟨rfl, (kk.out.alloc _).trans k5.out⟩
theorem imms_plain3 (imm : Int) : fitsOp 32 imm = decide (-4096 ≤ imm ∧ imm ≤ 4094 ∧ imm % 2 = 0) ∧ insE 32 0 0 0 imm = if (-4096 ≤ imm ∧ imm ≤ 4094 ∧ imm % 2 = 0) then 0 else 1 := by
  obtain ⟨f, hf⟩ : ∃ f, formOf 32 = some f := formOf_some (by decide)
  have hf' : formOf 32 = tbl[31]? := rfl
  rw [hf'] at hf
  have hk : tbl[31]? = some (tbl[31]'(by decide)) := List.getElem?_eq_getElem (by decide)
  rw [hk] at hf
  obtain rfl := Option.some.inj hf
  rw [hk] at hf'
  have hF : fitsK (tbl[31]'(by decide)).kind imm ↔ (-4096 ≤ imm ∧ imm ≤ 4094 ∧ imm % 2 = 0) := by
    simp [fitsK, tbl]
    try omega
  refine ⟨?_, ?_⟩
  · unfold fitsOp
    rw [hf']
    simp only [hF]
  · unfold insE
    rw [hf']
    show encE _ 0 0 0 imm = _
    unfold encE
    have hu : (tbl[31]'(by decide)).uImm := by decide
    rw [if_neg (by simp [hu])]
    simp only [hF, hu]
    by_cases hg : (-4096 ≤ imm ∧ imm ≤ 4094 ∧ imm % 2 = 0)
    · rw [if_neg (by simp [hg]), if_pos hg]
    · rw [if_pos (by simp only [hg]; simp), if_neg hg]
set_option maxRecDepth 100000 in
set_option maxHeartbeats 2000000 in
theorem imms_3 (which imm : Int) (hb : 0 ≤ which) (hw : which % 8 = 3) (h2 : I64 imm) (w : World) :
    Calls Try.prog 8 #[.int .u8 which, .int .i64 imm] w fun e w' => e = .returned (.bool true) ∧ Kp w w' := by
  have hx := insW_range 32 0 0 0 imm
  obtain ⟨hfit, hE⟩ := imms_plain3 imm
  replace hE := Aside.mk hE
  replace hfit := Aside.mk hfit
  have ht := Aside.mk (tmod2 imm)
  have hi1 : ∀ wz : World, (Instr.index 46 (.agg #[.int .i64 (-2048), .int .i64 0, .int .i64 (-2048), .int .i64 (-4096), .int .i64 0, .int .i64 (-1048576), .int .i64 (-2048), .int .i64 (-2048)]) (.int .u8 3)).run Try.prog wz = .ok (.int .i64 (-4096)) wz := fun _ => rfl
  have hi2 : ∀ wz : World, (Instr.index 46 (.agg #[.int .i64 2047, .int .i64 31, .int .i64 2047, .int .i64 4094, .int .i64 1048575, .int .i64 1048574, .int .i64 2047, .int .i64 2047]) (.int .u8 3)).run Try.prog wz = .ok (.int .i64 4094) wz := fun _ => rfl
  go_enter Try.func8, Try.ntmps8
  go_upto_region 8 with ((go_at_call 9); (refine Calls.mono (awake03_calls _) ?_); (rintro e w1 ⟨rfl, k1⟩))
  clear hi1 hi2 hb hw
  generalize hWW : World.alloc w1 _ = W at *
  have kk : Aside (Kp w W) := ⟨by rw [← hWW]; exact k1.alloc _⟩
  clear k1 hWW
  go_cut [10] (fun s wx => s = .bool (decide (-4096 ≤ imm ∧ imm ≤ 4094 ∧ imm % 2 = 0)) ∧ wx = W)
  case first =>
    by_cases c1 : imm < -4096
    · go_wp2
      go_meet
      exact ⟨by simp; omega, rfl⟩
    by_cases c2 : 4094 < imm
    · go_wp2
      go_meet
      exact ⟨by simp; omega, rfl⟩
    by_cases c3 : imm % 2 = 0
    · have c4 := ht.out.2 c3
      have c5 := Aside.mk c3
      clear c3
      go_wp2
      go_meet
      exact ⟨by have := c5.out; simp; omega, rfl⟩
    · have c4 : ¬Int.tmod imm 2 = 0 := fun h => c3 (ht.out.1 h)
      have c5 := Aside.mk c3
      clear c3
      go_wp2
      go_meet
      refine ⟨congrArg Value.bool ?_, rfl⟩
      rw [show (Int.tmod imm 2 == 0) = false from by simpa using c4]
      exact (decide_eq_false (fun h => c5.out h.2.2)).symm
  case rest =>
    obtain ⟨rfl, rfl⟩ := hcut
    go_wp2_with fail
    refine Calls.mono (Encode_calls 32 0 0 0 imm (by decide) h2 _) ?_
    rintro e w2 ⟨rfl, k2⟩
    have b1 := Aside.mk ((Blk.new _ _ _).kp k2)
    replace kk : Aside (Kp w w2) := ⟨(kk.out.alloc _).trans k2⟩
    clear k2
    have hfc := fun w => Fits_calls 32 imm (by decide) h2 w
    rw [hfit.out] at hfc
    replace hfc := Aside.mk hfc
    by_cases hg : (-4096 ≤ imm ∧ imm ≤ 4094 ∧ imm % 2 = 0)
    · have e1 : insE 32 0 0 0 imm = 0 := by rw [hE.out, if_pos hg]
      have he := Aside.mk e1
      go_wp2_with fail
      refine Calls.mono (Decode_calls _ hx _) ?_
      rintro e w4 ⟨a, b, c, d, g, er, rfl, k4, hd⟩
      obtain ⟨rfl, rfl, rfl, rfl, rfl, rfl⟩ := decR_of he.out hd
      replace kk : Aside (Kp w w4) := ⟨kk.out.trans k4⟩
      replace b1 := Aside.mk (b1.out.kp k4)
      clear k4 hd
      have b2 := Aside.mk (Blk.new w4 #[.int .i64 32, .int .i64 0, .int .i64 0, .int .i64 0, .int .i64 g] 23)
      have b3 := Aside.mk (b1.out.alloc (.cells #[.int .i64 32, .int .i64 0, .int .i64 0, .int .i64 0, .int .i64 g] 23))
      replace kk := Aside.mk (kk.out.alloc (.cells #[.int .i64 32, .int .i64 0, .int .i64 0, .int .i64 0, .int .i64 g] 23))
      go_wp2_with ((go_at_call 11); (refine Calls.mono (hfc.out _) ?_); (rintro e w5 ⟨rfl, k5⟩); (have b4 := b2.out.kp k5); (have b5 := b3.out.kp k5); (obtain ⟨x, x0, x1, x2, x3, x4, -⟩ := b4.five); (obtain ⟨y, y0, y1, y2, y3, y4, -⟩ := b5.five); (replace b4 := Aside.mk b4); (replace b5 := Aside.mk b5); (replace k5 := Aside.mk k5))
      go_ret
      exact ⟨rfl, kk.out.trans k5.out⟩
    · have e1 : insE 32 0 0 0 imm = 1 := by rw [hE.out, if_neg hg]
      go_wp2_with fail
      refine Calls.mono (Decode_calls _ hx _) ?_
      rintro e w4 ⟨a, b, c, d, g, er, rfl, k4, hd⟩
      replace kk : Aside (Kp w w4) := ⟨kk.out.trans k4⟩
      clear k4 hd b1
      go_wp2_with ((go_at_call 11); (refine Calls.mono (hfc.out _) ?_); (rintro e w5 ⟨rfl, k5⟩); (replace k5 := Aside.mk k5))
      go_ret
      exact ⟨rfl, (kk.out.alloc _).trans k5.out⟩
theorem imms_plain4 (imm : Int) : fitsOp 38 imm = decide (0 ≤ imm ∧ imm ≤ 1048575) ∧ insE 38 0 0 0 imm = if (0 ≤ imm ∧ imm ≤ 1048575) then 0 else 1 := by
  obtain ⟨f, hf⟩ : ∃ f, formOf 38 = some f := formOf_some (by decide)
  have hf' : formOf 38 = tbl[37]? := rfl
  rw [hf'] at hf
  have hk : tbl[37]? = some (tbl[37]'(by decide)) := List.getElem?_eq_getElem (by decide)
  rw [hk] at hf
  obtain rfl := Option.some.inj hf
  rw [hk] at hf'
  have hF : fitsK (tbl[37]'(by decide)).kind imm ↔ (0 ≤ imm ∧ imm ≤ 1048575) := by
    simp [fitsK, tbl]
    try omega
  refine ⟨?_, ?_⟩
  · unfold fitsOp
    rw [hf']
    simp only [hF]
  · unfold insE
    rw [hf']
    show encE _ 0 0 0 imm = _
    unfold encE
    have hu : (tbl[37]'(by decide)).uImm := by decide
    rw [if_neg (by simp [hu])]
    simp only [hF, hu]
    by_cases hg : (0 ≤ imm ∧ imm ≤ 1048575)
    · rw [if_neg (by simp [hg]), if_pos hg]
    · rw [if_pos (by simp only [hg]; simp), if_neg hg]
set_option maxRecDepth 100000 in
set_option maxHeartbeats 2000000 in
theorem imms_4 (which imm : Int) (hb : 0 ≤ which) (hw : which % 8 = 4) (h2 : I64 imm) (w : World) :
    Calls Try.prog 8 #[.int .u8 which, .int .i64 imm] w fun e w' => e = .returned (.bool true) ∧ Kp w w' := by
  have hx := insW_range 38 0 0 0 imm
  obtain ⟨hfit, hE⟩ := imms_plain4 imm
  replace hE := Aside.mk hE
  replace hfit := Aside.mk hfit
  have ht := Aside.mk (tmod2 imm)
  have hi1 : ∀ wz : World, (Instr.index 46 (.agg #[.int .i64 (-2048), .int .i64 0, .int .i64 (-2048), .int .i64 (-4096), .int .i64 0, .int .i64 (-1048576), .int .i64 (-2048), .int .i64 (-2048)]) (.int .u8 4)).run Try.prog wz = .ok (.int .i64 (0)) wz := fun _ => rfl
  have hi2 : ∀ wz : World, (Instr.index 46 (.agg #[.int .i64 2047, .int .i64 31, .int .i64 2047, .int .i64 4094, .int .i64 1048575, .int .i64 1048574, .int .i64 2047, .int .i64 2047]) (.int .u8 4)).run Try.prog wz = .ok (.int .i64 1048575) wz := fun _ => rfl
  go_enter Try.func8, Try.ntmps8
  go_upto_region 8 with ((go_at_call 9); (refine Calls.mono (awake03_calls _) ?_); (rintro e w1 ⟨rfl, k1⟩))
  clear hi1 hi2 hb hw
  generalize hWW : World.alloc w1 _ = W at *
  have kk : Aside (Kp w W) := ⟨by rw [← hWW]; exact k1.alloc _⟩
  clear k1 hWW
  go_cut [10] (fun s wx => s = .bool (decide (0 ≤ imm ∧ imm ≤ 1048575)) ∧ wx = W)
  case first =>
    by_cases c1 : imm < 0
    · go_wp2
      go_meet
      exact ⟨by simp; omega, rfl⟩
    by_cases c2 : 1048575 < imm
    · go_wp2
      go_meet
      exact ⟨by simp; omega, rfl⟩
    go_wp2
    go_meet
    exact ⟨by simp; omega, rfl⟩
  case rest =>
    obtain ⟨rfl, rfl⟩ := hcut
    go_wp2_with fail
    refine Calls.mono (Encode_calls 38 0 0 0 imm (by decide) h2 _) ?_
    rintro e w2 ⟨rfl, k2⟩
    have b1 := Aside.mk ((Blk.new _ _ _).kp k2)
    replace kk : Aside (Kp w w2) := ⟨(kk.out.alloc _).trans k2⟩
    clear k2
    have hfc := fun w => Fits_calls 38 imm (by decide) h2 w
    rw [hfit.out] at hfc
    replace hfc := Aside.mk hfc
    by_cases hg : (0 ≤ imm ∧ imm ≤ 1048575)
    · have e1 : insE 38 0 0 0 imm = 0 := by rw [hE.out, if_pos hg]
      have he := Aside.mk e1
      go_wp2_with fail
      refine Calls.mono (Decode_calls _ hx _) ?_
      rintro e w4 ⟨a, b, c, d, g, er, rfl, k4, hd⟩
      obtain ⟨rfl, rfl, rfl, rfl, rfl, rfl⟩ := decR_of he.out hd
      replace kk : Aside (Kp w w4) := ⟨kk.out.trans k4⟩
      replace b1 := Aside.mk (b1.out.kp k4)
      clear k4 hd
      have b2 := Aside.mk (Blk.new w4 #[.int .i64 38, .int .i64 0, .int .i64 0, .int .i64 0, .int .i64 g] 23)
      have b3 := Aside.mk (b1.out.alloc (.cells #[.int .i64 38, .int .i64 0, .int .i64 0, .int .i64 0, .int .i64 g] 23))
      replace kk := Aside.mk (kk.out.alloc (.cells #[.int .i64 38, .int .i64 0, .int .i64 0, .int .i64 0, .int .i64 g] 23))
      go_wp2_with ((go_at_call 11); (refine Calls.mono (hfc.out _) ?_); (rintro e w5 ⟨rfl, k5⟩); (have b4 := b2.out.kp k5); (have b5 := b3.out.kp k5); (obtain ⟨x, x0, x1, x2, x3, x4, -⟩ := b4.five); (obtain ⟨y, y0, y1, y2, y3, y4, -⟩ := b5.five); (replace b4 := Aside.mk b4); (replace b5 := Aside.mk b5); (replace k5 := Aside.mk k5))
      go_ret
      exact ⟨rfl, kk.out.trans k5.out⟩
    · have e1 : insE 38 0 0 0 imm = 1 := by rw [hE.out, if_neg hg]
      go_wp2_with fail
      refine Calls.mono (Decode_calls _ hx _) ?_
      rintro e w4 ⟨a, b, c, d, g, er, rfl, k4, hd⟩
      replace kk : Aside (Kp w w4) := ⟨kk.out.trans k4⟩
      clear k4 hd b1
      go_wp2_with ((go_at_call 11); (refine Calls.mono (hfc.out _) ?_); (rintro e w5 ⟨rfl, k5⟩); (replace k5 := Aside.mk k5))
      go_ret
      exact ⟨rfl, (kk.out.alloc _).trans k5.out⟩
theorem imms_plain5 (imm : Int) : fitsOp 40 imm = decide (-1048576 ≤ imm ∧ imm ≤ 1048574 ∧ imm % 2 = 0) ∧ insE 40 0 0 0 imm = if (-1048576 ≤ imm ∧ imm ≤ 1048574 ∧ imm % 2 = 0) then 0 else 1 := by
  obtain ⟨f, hf⟩ : ∃ f, formOf 40 = some f := formOf_some (by decide)
  have hf' : formOf 40 = tbl[39]? := rfl
  rw [hf'] at hf
  have hk : tbl[39]? = some (tbl[39]'(by decide)) := List.getElem?_eq_getElem (by decide)
  rw [hk] at hf
  obtain rfl := Option.some.inj hf
  rw [hk] at hf'
  have hF : fitsK (tbl[39]'(by decide)).kind imm ↔ (-1048576 ≤ imm ∧ imm ≤ 1048574 ∧ imm % 2 = 0) := by
    simp [fitsK, tbl]
    try omega
  refine ⟨?_, ?_⟩
  · unfold fitsOp
    rw [hf']
    simp only [hF]
  · unfold insE
    rw [hf']
    show encE _ 0 0 0 imm = _
    unfold encE
    have hu : (tbl[39]'(by decide)).uImm := by decide
    rw [if_neg (by simp [hu])]
    simp only [hF, hu]
    by_cases hg : (-1048576 ≤ imm ∧ imm ≤ 1048574 ∧ imm % 2 = 0)
    · rw [if_neg (by simp [hg]), if_pos hg]
    · rw [if_pos (by simp only [hg]; simp), if_neg hg]
set_option maxRecDepth 100000 in
set_option maxHeartbeats 2000000 in
theorem imms_5 (which imm : Int) (hb : 0 ≤ which) (hw : which % 8 = 5) (h2 : I64 imm) (w : World) :
    Calls Try.prog 8 #[.int .u8 which, .int .i64 imm] w fun e w' => e = .returned (.bool true) ∧ Kp w w' := by
  have hx := insW_range 40 0 0 0 imm
  obtain ⟨hfit, hE⟩ := imms_plain5 imm
  replace hE := Aside.mk hE
  replace hfit := Aside.mk hfit
  have ht := Aside.mk (tmod2 imm)
  have hi1 : ∀ wz : World, (Instr.index 46 (.agg #[.int .i64 (-2048), .int .i64 0, .int .i64 (-2048), .int .i64 (-4096), .int .i64 0, .int .i64 (-1048576), .int .i64 (-2048), .int .i64 (-2048)]) (.int .u8 5)).run Try.prog wz = .ok (.int .i64 (-1048576)) wz := fun _ => rfl
  have hi2 : ∀ wz : World, (Instr.index 46 (.agg #[.int .i64 2047, .int .i64 31, .int .i64 2047, .int .i64 4094, .int .i64 1048575, .int .i64 1048574, .int .i64 2047, .int .i64 2047]) (.int .u8 5)).run Try.prog wz = .ok (.int .i64 1048574) wz := fun _ => rfl
  go_enter Try.func8, Try.ntmps8
  go_upto_region 8 with ((go_at_call 9); (refine Calls.mono (awake03_calls _) ?_); (rintro e w1 ⟨rfl, k1⟩))
  clear hi1 hi2 hb hw
  generalize hWW : World.alloc w1 _ = W at *
  have kk : Aside (Kp w W) := ⟨by rw [← hWW]; exact k1.alloc _⟩
  clear k1 hWW
  go_cut [10] (fun s wx => s = .bool (decide (-1048576 ≤ imm ∧ imm ≤ 1048574 ∧ imm % 2 = 0)) ∧ wx = W)
  case first =>
    by_cases c1 : imm < -1048576
    · go_wp2
      go_meet
      exact ⟨by simp; omega, rfl⟩
    by_cases c2 : 1048574 < imm
    · go_wp2
      go_meet
      exact ⟨by simp; omega, rfl⟩
    by_cases c3 : imm % 2 = 0
    · have c4 := ht.out.2 c3
      have c5 := Aside.mk c3
      clear c3
      go_wp2
      go_meet
      exact ⟨by have := c5.out; simp; omega, rfl⟩
    · have c4 : ¬Int.tmod imm 2 = 0 := fun h => c3 (ht.out.1 h)
      have c5 := Aside.mk c3
      clear c3
      go_wp2
      go_meet
      refine ⟨congrArg Value.bool ?_, rfl⟩
      rw [show (Int.tmod imm 2 == 0) = false from by simpa using c4]
      exact (decide_eq_false (fun h => c5.out h.2.2)).symm
  case rest =>
    obtain ⟨rfl, rfl⟩ := hcut
    go_wp2_with fail
    refine Calls.mono (Encode_calls 40 0 0 0 imm (by decide) h2 _) ?_
    rintro e w2 ⟨rfl, k2⟩
    have b1 := Aside.mk ((Blk.new _ _ _).kp k2)
    replace kk : Aside (Kp w w2) := ⟨(kk.out.alloc _).trans k2⟩
    clear k2
    have hfc := fun w => Fits_calls 40 imm (by decide) h2 w
    rw [hfit.out] at hfc
    replace hfc := Aside.mk hfc
    by_cases hg : (-1048576 ≤ imm ∧ imm ≤ 1048574 ∧ imm % 2 = 0)
    · have e1 : insE 40 0 0 0 imm = 0 := by rw [hE.out, if_pos hg]
      have he := Aside.mk e1
      go_wp2_with fail
      refine Calls.mono (Decode_calls _ hx _) ?_
      rintro e w4 ⟨a, b, c, d, g, er, rfl, k4, hd⟩
      obtain ⟨rfl, rfl, rfl, rfl, rfl, rfl⟩ := decR_of he.out hd
      replace kk : Aside (Kp w w4) := ⟨kk.out.trans k4⟩
      replace b1 := Aside.mk (b1.out.kp k4)
      clear k4 hd
      have b2 := Aside.mk (Blk.new w4 #[.int .i64 40, .int .i64 0, .int .i64 0, .int .i64 0, .int .i64 g] 23)
      have b3 := Aside.mk (b1.out.alloc (.cells #[.int .i64 40, .int .i64 0, .int .i64 0, .int .i64 0, .int .i64 g] 23))
      replace kk := Aside.mk (kk.out.alloc (.cells #[.int .i64 40, .int .i64 0, .int .i64 0, .int .i64 0, .int .i64 g] 23))
      go_wp2_with ((go_at_call 11); (refine Calls.mono (hfc.out _) ?_); (rintro e w5 ⟨rfl, k5⟩); (have b4 := b2.out.kp k5); (have b5 := b3.out.kp k5); (obtain ⟨x, x0, x1, x2, x3, x4, -⟩ := b4.five); (obtain ⟨y, y0, y1, y2, y3, y4, -⟩ := b5.five); (replace b4 := Aside.mk b4); (replace b5 := Aside.mk b5); (replace k5 := Aside.mk k5))
      go_ret
      exact ⟨rfl, kk.out.trans k5.out⟩
    · have e1 : insE 40 0 0 0 imm = 1 := by rw [hE.out, if_neg hg]
      go_wp2_with fail
      refine Calls.mono (Decode_calls _ hx _) ?_
      rintro e w4 ⟨a, b, c, d, g, er, rfl, k4, hd⟩
      replace kk : Aside (Kp w w4) := ⟨kk.out.trans k4⟩
      clear k4 hd b1
      go_wp2_with ((go_at_call 11); (refine Calls.mono (hfc.out _) ?_); (rintro e w5 ⟨rfl, k5⟩); (replace k5 := Aside.mk k5))
      go_ret
      exact ⟨rfl, (kk.out.alloc _).trans k5.out⟩
theorem imms_plain6 (imm : Int) : fitsOp 43 imm = decide (-2048 ≤ imm ∧ imm ≤ 2047) ∧ insE 43 0 0 0 imm = if (-2048 ≤ imm ∧ imm ≤ 2047) then 0 else 1 := by
  obtain ⟨f, hf⟩ : ∃ f, formOf 43 = some f := formOf_some (by decide)
  have hf' : formOf 43 = tbl[42]? := rfl
  rw [hf'] at hf
  have hk : tbl[42]? = some (tbl[42]'(by decide)) := List.getElem?_eq_getElem (by decide)
  rw [hk] at hf
  obtain rfl := Option.some.inj hf
  rw [hk] at hf'
  have hF : fitsK (tbl[42]'(by decide)).kind imm ↔ (-2048 ≤ imm ∧ imm ≤ 2047) := by
    simp [fitsK, tbl]
    try omega
  refine ⟨?_, ?_⟩
  · unfold fitsOp
    rw [hf']
    simp only [hF]
  · unfold insE
    rw [hf']
    show encE _ 0 0 0 imm = _
    unfold encE
    have hu : (tbl[42]'(by decide)).uImm := by decide
    rw [if_neg (by simp [hu])]
    simp only [hF, hu]
    by_cases hg : (-2048 ≤ imm ∧ imm ≤ 2047)
    · rw [if_neg (by simp [hg]), if_pos hg]
    · rw [if_pos (by simp only [hg]; simp), if_neg hg]
set_option maxRecDepth 100000 in
set_option maxHeartbeats 2000000 in
theorem imms_6 (which imm : Int) (hb : 0 ≤ which) (hw : which % 8 = 6) (h2 : I64 imm) (w : World) :
    Calls Try.prog 8 #[.int .u8 which, .int .i64 imm] w fun e w' => e = .returned (.bool true) ∧ Kp w w' := by
  have hx := insW_range 43 0 0 0 imm
  obtain ⟨hfit, hE⟩ := imms_plain6 imm
  replace hE := Aside.mk hE
  replace hfit := Aside.mk hfit
  have ht := Aside.mk (tmod2 imm)
  have hi1 : ∀ wz : World, (Instr.index 46 (.agg #[.int .i64 (-2048), .int .i64 0, .int .i64 (-2048), .int .i64 (-4096), .int .i64 0, .int .i64 (-1048576), .int .i64 (-2048), .int .i64 (-2048)]) (.int .u8 6)).run Try.prog wz = .ok (.int .i64 (-2048)) wz := fun _ => rfl
  have hi2 : ∀ wz : World, (Instr.index 46 (.agg #[.int .i64 2047, .int .i64 31, .int .i64 2047, .int .i64 4094, .int .i64 1048575, .int .i64 1048574, .int .i64 2047, .int .i64 2047]) (.int .u8 6)).run Try.prog wz = .ok (.int .i64 2047) wz := fun _ => rfl
  go_enter Try.func8, Try.ntmps8
  go_upto_region 8 with ((go_at_call 9); (refine Calls.mono (awake03_calls _) ?_); (rintro e w1 ⟨rfl, k1⟩))
  clear hi1 hi2 hb hw
  generalize hWW : World.alloc w1 _ = W at *
  have kk : Aside (Kp w W) := ⟨by rw [← hWW]; exact k1.alloc _⟩
  clear k1 hWW
  go_cut [10] (fun s wx => s = .bool (decide (-2048 ≤ imm ∧ imm ≤ 2047)) ∧ wx = W)
  case first =>
    by_cases c1 : imm < -2048
    · go_wp2
      go_meet
      exact ⟨by simp; omega, rfl⟩
    by_cases c2 : 2047 < imm
    · go_wp2
      go_meet
      exact ⟨by simp; omega, rfl⟩
    go_wp2
    go_meet
    exact ⟨by simp; omega, rfl⟩
  case rest =>
    obtain ⟨rfl, rfl⟩ := hcut
    go_wp2_with fail
    refine Calls.mono (Encode_calls 43 0 0 0 imm (by decide) h2 _) ?_
    rintro e w2 ⟨rfl, k2⟩
    have b1 := Aside.mk ((Blk.new _ _ _).kp k2)
    replace kk : Aside (Kp w w2) := ⟨(kk.out.alloc _).trans k2⟩
    clear k2
    have hfc := fun w => Fits_calls 43 imm (by decide) h2 w
    rw [hfit.out] at hfc
    replace hfc := Aside.mk hfc
    by_cases hg : (-2048 ≤ imm ∧ imm ≤ 2047)
    · have e1 : insE 43 0 0 0 imm = 0 := by rw [hE.out, if_pos hg]
      have he := Aside.mk e1
      go_wp2_with fail
      refine Calls.mono (Decode_calls _ hx _) ?_
      rintro e w4 ⟨a, b, c, d, g, er, rfl, k4, hd⟩
      obtain ⟨rfl, rfl, rfl, rfl, rfl, rfl⟩ := decR_of he.out hd
      replace kk : Aside (Kp w w4) := ⟨kk.out.trans k4⟩
      replace b1 := Aside.mk (b1.out.kp k4)
      clear k4 hd
      have b2 := Aside.mk (Blk.new w4 #[.int .i64 43, .int .i64 0, .int .i64 0, .int .i64 0, .int .i64 g] 23)
      have b3 := Aside.mk (b1.out.alloc (.cells #[.int .i64 43, .int .i64 0, .int .i64 0, .int .i64 0, .int .i64 g] 23))
      replace kk := Aside.mk (kk.out.alloc (.cells #[.int .i64 43, .int .i64 0, .int .i64 0, .int .i64 0, .int .i64 g] 23))
      go_wp2_with ((go_at_call 11); (refine Calls.mono (hfc.out _) ?_); (rintro e w5 ⟨rfl, k5⟩); (have b4 := b2.out.kp k5); (have b5 := b3.out.kp k5); (obtain ⟨x, x0, x1, x2, x3, x4, -⟩ := b4.five); (obtain ⟨y, y0, y1, y2, y3, y4, -⟩ := b5.five); (replace b4 := Aside.mk b4); (replace b5 := Aside.mk b5); (replace k5 := Aside.mk k5))
      go_ret
      exact ⟨rfl, kk.out.trans k5.out⟩
    · have e1 : insE 43 0 0 0 imm = 1 := by rw [hE.out, if_neg hg]
      go_wp2_with fail
      refine Calls.mono (Decode_calls _ hx _) ?_
      rintro e w4 ⟨a, b, c, d, g, er, rfl, k4, hd⟩
      replace kk : Aside (Kp w w4) := ⟨kk.out.trans k4⟩
      clear k4 hd b1
      go_wp2_with ((go_at_call 11); (refine Calls.mono (hfc.out _) ?_); (rintro e w5 ⟨rfl, k5⟩); (replace k5 := Aside.mk k5))
      go_ret
      exact ⟨rfl, (kk.out.alloc _).trans k5.out⟩
theorem imms_plain7 (imm : Int) : fitsOp 27 imm = decide (-2048 ≤ imm ∧ imm ≤ 2047) ∧ insE 27 0 0 0 imm = if (-2048 ≤ imm ∧ imm ≤ 2047) then 0 else 1 := by
  obtain ⟨f, hf⟩ : ∃ f, formOf 27 = some f := formOf_some (by decide)
  have hf' : formOf 27 = tbl[26]? := rfl
  rw [hf'] at hf
  have hk : tbl[26]? = some (tbl[26]'(by decide)) := List.getElem?_eq_getElem (by decide)
  rw [hk] at hf
  obtain rfl := Option.some.inj hf
  rw [hk] at hf'
  have hF : fitsK (tbl[26]'(by decide)).kind imm ↔ (-2048 ≤ imm ∧ imm ≤ 2047) := by
    simp [fitsK, tbl]
    try omega
  refine ⟨?_, ?_⟩
  · unfold fitsOp
    rw [hf']
    simp only [hF]
  · unfold insE
    rw [hf']
    show encE _ 0 0 0 imm = _
    unfold encE
    have hu : (tbl[26]'(by decide)).uImm := by decide
    rw [if_neg (by simp [hu])]
    simp only [hF, hu]
    by_cases hg : (-2048 ≤ imm ∧ imm ≤ 2047)
    · rw [if_neg (by simp [hg]), if_pos hg]
    · rw [if_pos (by simp only [hg]; simp), if_neg hg]
set_option maxRecDepth 100000 in
set_option maxHeartbeats 2000000 in
theorem imms_7 (which imm : Int) (hb : 0 ≤ which) (hw : which % 8 = 7) (h2 : I64 imm) (w : World) :
    Calls Try.prog 8 #[.int .u8 which, .int .i64 imm] w fun e w' => e = .returned (.bool true) ∧ Kp w w' := by
  have hx := insW_range 27 0 0 0 imm
  obtain ⟨hfit, hE⟩ := imms_plain7 imm
  replace hE := Aside.mk hE
  replace hfit := Aside.mk hfit
  have ht := Aside.mk (tmod2 imm)
  have hi1 : ∀ wz : World, (Instr.index 46 (.agg #[.int .i64 (-2048), .int .i64 0, .int .i64 (-2048), .int .i64 (-4096), .int .i64 0, .int .i64 (-1048576), .int .i64 (-2048), .int .i64 (-2048)]) (.int .u8 7)).run Try.prog wz = .ok (.int .i64 (-2048)) wz := fun _ => rfl
  have hi2 : ∀ wz : World, (Instr.index 46 (.agg #[.int .i64 2047, .int .i64 31, .int .i64 2047, .int .i64 4094, .int .i64 1048575, .int .i64 1048574, .int .i64 2047, .int .i64 2047]) (.int .u8 7)).run Try.prog wz = .ok (.int .i64 2047) wz := fun _ => rfl
  go_enter Try.func8, Try.ntmps8
  go_upto_region 8 with ((go_at_call 9); (refine Calls.mono (awake03_calls _) ?_); (rintro e w1 ⟨rfl, k1⟩))
  clear hi1 hi2 hb hw
  generalize hWW : World.alloc w1 _ = W at *
  have kk : Aside (Kp w W) := ⟨by rw [← hWW]; exact k1.alloc _⟩
  clear k1 hWW
  go_cut [10] (fun s wx => s = .bool (decide (-2048 ≤ imm ∧ imm ≤ 2047)) ∧ wx = W)
  case first =>
    by_cases c1 : imm < -2048
    · go_wp2
      go_meet
      exact ⟨by simp; omega, rfl⟩
    by_cases c2 : 2047 < imm
    · go_wp2
      go_meet
      exact ⟨by simp; omega, rfl⟩
    go_wp2
    go_meet
    exact ⟨by simp; omega, rfl⟩
  case rest =>
    obtain ⟨rfl, rfl⟩ := hcut
    go_wp2_with fail
    refine Calls.mono (Encode_calls 27 0 0 0 imm (by decide) h2 _) ?_
    rintro e w2 ⟨rfl, k2⟩
    have b1 := Aside.mk ((Blk.new _ _ _).kp k2)
    replace kk : Aside (Kp w w2) := ⟨(kk.out.alloc _).trans k2⟩
    clear k2
    have hfc := fun w => Fits_calls 27 imm (by decide) h2 w
    rw [hfit.out] at hfc
    replace hfc := Aside.mk hfc
    by_cases hg : (-2048 ≤ imm ∧ imm ≤ 2047)
    · have e1 : insE 27 0 0 0 imm = 0 := by rw [hE.out, if_pos hg]
      have he := Aside.mk e1
      go_wp2_with fail
      refine Calls.mono (Decode_calls _ hx _) ?_
      rintro e w4 ⟨a, b, c, d, g, er, rfl, k4, hd⟩
      obtain ⟨rfl, rfl, rfl, rfl, rfl, rfl⟩ := decR_of he.out hd
      replace kk : Aside (Kp w w4) := ⟨kk.out.trans k4⟩
      replace b1 := Aside.mk (b1.out.kp k4)
      clear k4 hd
      have b2 := Aside.mk (Blk.new w4 #[.int .i64 27, .int .i64 0, .int .i64 0, .int .i64 0, .int .i64 g] 23)
      have b3 := Aside.mk (b1.out.alloc (.cells #[.int .i64 27, .int .i64 0, .int .i64 0, .int .i64 0, .int .i64 g] 23))
      replace kk := Aside.mk (kk.out.alloc (.cells #[.int .i64 27, .int .i64 0, .int .i64 0, .int .i64 0, .int .i64 g] 23))
      go_wp2_with ((go_at_call 11); (refine Calls.mono (hfc.out _) ?_); (rintro e w5 ⟨rfl, k5⟩); (have b4 := b2.out.kp k5); (have b5 := b3.out.kp k5); (obtain ⟨x, x0, x1, x2, x3, x4, -⟩ := b4.five); (obtain ⟨y, y0, y1, y2, y3, y4, -⟩ := b5.five); (replace b4 := Aside.mk b4); (replace b5 := Aside.mk b5); (replace k5 := Aside.mk k5))
      go_ret
      exact ⟨rfl, kk.out.trans k5.out⟩
    · have e1 : insE 27 0 0 0 imm = 1 := by rw [hE.out, if_neg hg]
      go_wp2_with fail
      refine Calls.mono (Decode_calls _ hx _) ?_
      rintro e w4 ⟨a, b, c, d, g, er, rfl, k4, hd⟩
      replace kk : Aside (Kp w w4) := ⟨kk.out.trans k4⟩
      clear k4 hd b1
      go_wp2_with ((go_at_call 11); (refine Calls.mono (hfc.out _) ?_); (rintro e w5 ⟨rfl, k5⟩); (replace k5 := Aside.mk k5))
      go_ret
      exact ⟨rfl, (kk.out.alloc _).trans k5.out⟩
theorem codeImms_law (which imm : Int) (w0 : (Lit.int .u8 which).wf = true) (w1 : (Lit.int .i64 imm).wf = true) (w : World) : Calls Try.prog 8 #[.int .u8 which, .int .i64 imm] w fun e w' => e = .returned (.bool true) ∧ Below w.heap.size w w' := by
  have hb := bounds_u8 w0
  have h2 := I64_of w1
  have h8 : which % 8 = 0 ∨ which % 8 = 1 ∨ which % 8 = 2 ∨ which % 8 = 3 ∨ which % 8 = 4 ∨ which % 8 = 5 ∨ which % 8 = 6 ∨ which % 8 = 7 := by omega
  refine Calls.mono (?_ : Calls Try.prog 8 #[.int .u8 which, .int .i64 imm] w fun e w' => e = .returned (.bool true) ∧ Kp w w') (fun _ _ ⟨he, hk⟩ => ⟨he, hk.out⟩)
  rcases h8 with h | h | h | h | h | h | h | h
  · exact imms_0 which imm hb.1 h h2 w
  · exact imms_1 which imm hb.1 h h2 w
  · exact imms_2 which imm hb.1 h h2 w
  · exact imms_3 which imm hb.1 h h2 w
  · exact imms_4 which imm hb.1 h h2 w
  · exact imms_5 which imm hb.1 h h2 w
  · exact imms_6 which imm hb.1 h h2 w
  · exact imms_7 which imm hb.1 h h2 w
end Go.Proofs.Ytkmklmpolnkkeaa
