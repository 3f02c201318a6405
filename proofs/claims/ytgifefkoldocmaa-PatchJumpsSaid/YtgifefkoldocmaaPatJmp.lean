/- PatchJumps, walked. Condition: the arguments are numbers of their types. -/
import Derived.Test.YtgifefkoldocmaaPatJ
namespace Go.Proofs.Ytgifefkoldocmaa
open Go.RowKit Go.Maps Go.Proofs.Ytgifefkoldocmaa.PC Go.Proofs.Ytgifefkoldocmaa.PW
set_option linter.unusedVariables false
set_option linter.unusedSimpArgs false
theorem enc_40 : insE 40 1 0 0 0 = 0 := by decide +kernel
theorem enc_32 : insE 32 0 0 0 0 = 0 := by decide +kernel
set_option maxRecDepth 100000 in
set_option maxHeartbeats 1000000 in
theorem jumps_t (F T : Int) (hF : 0 ≤ F ∧ F ≤ 65535) (hT : 0 ≤ T ∧ T ≤ 65535) (w : World) : Calls Try.prog 5 #[.int .u16 F, .int .u16 T, .bool false] w fun e w' => e = .returned (.bool true) ∧ Kp w w' := by
  obtain ⟨P, hP⟩ : ∃ P : Nat, F * 4 = (P : Int) := ⟨(F * 4).toNat, by omega⟩
  obtain ⟨V, hV⟩ : ∃ V : Int, T * 4 = V := ⟨_, rfl⟩
  have bP : P % 4 = 0 ∧ P ≤ 262140 := by omega
  have bV : V % 4 = 0 ∧ 0 ≤ V ∧ V ≤ 262140 := by omega
  have ec := fun w => Encode_calls 40 1 0 0 0 (by decide) (by decide) w
  rw [enc_40] at ec
  obtain ⟨a, ha⟩ : ∃ a, Aside (insW 40 1 0 0 0 = a) := ⟨_, ⟨rfl⟩⟩
  have ua := insW_range 40 1 0 0 0
  rw [ha.out] at ec ua
  have pc := fun w => Patch_calls 4 a V P ua (by unfold U; omega) (by unfold U; omega) w
  have him : immP 4 V P = V - P := imm_far (by decide) (by omega) (by omega)
  have hfit : fitsOp 40 (immP 4 V P) = true ↔ -1048576 ≤ V - P ∧ V - P ≤ 1048574 := by rw [him]; exact fits_40 (V - P) (by omega)
  replace him := Aside.mk him
  replace hfit := Aside.mk hfit
  replace ec := Aside.mk ec
  replace pc := Aside.mk pc
  replace hP := Aside.mk hP
  replace hV := Aside.mk hV
  go_enter Try.func5, Try.ntmps5
  go_wp2_with fail
  refine Calls.mono (awake08_calls _) ?_
  rintro e w1 ⟨rfl, k1⟩
  go_upto_region 4 with fail
  rw [hP.out, hV.out]
  go_wp2_with fail
  refine Calls.mono (ec.out _) ?_
  rintro e w2 ⟨rfl, k2⟩
  replace k2 : Aside (Kp w w2) := ⟨Kp.trans (by repeat (first | exact Kp.refl _ | assumption | exact Dr.kp (by assumption) | refine Kp.drewN ?_ _ | refine Kp.drew ?_ | refine Kp.alloc ?_ _ | refine Kp.setCell ?_ (by first | exact Nat.le_refl _ | assumption | omega) _ | refine Kp.trans ?_ (by assumption) | refine Kp.trans ?_ (Dr.kp (by assumption)))) k2⟩
  clear k1 ua
  go_wp2_with fail
  refine Calls.mono (pc.out _) ?_
  rintro e w3 ⟨x, E, rfl, hp, k3⟩
  rw [← ha.out] at hp
  replace k3 : Aside (Kp w w3) := ⟨k2.out.trans k3⟩
  clear k2
  rcases patR_two (Or.inr (Or.inr (Or.inr (Or.inl ⟨rfl, rfl⟩)))) enc_40 hp with ⟨hf, rfl, rfl⟩ | ⟨hf, hx, rfl, he⟩
  · have hn : ¬(-1048576 ≤ V - P ∧ V - P ≤ 1048574) := fun h => by rw [hfit.out.2 h] at hf; cases hf
    clear hf hp
    have hn2 : V - P < -1048576 ∨ (-1048576 ≤ V - P ∧ 1048574 < V - P) := by omega
    clear hn
    rcases hn2 with hn | ⟨hn1, hn2⟩
    · have b1 : decide ((-1048576 : Int) ≤ V - P) = false := by simp; omega
      go_wp2_with fail
      all_goals go_ret
      all_goals exact ⟨rfl, k3.out⟩
    · have b1 : decide ((-1048576 : Int) ≤ V - P) = true := by simp; omega
      have b2 : decide (V - P ≤ (1048574 : Int)) = false := by simp; omega
      go_wp2_with fail
      all_goals go_ret
      all_goals exact ⟨rfl, k3.out⟩
  · have hn := hfit.out.1 hf
    clear hf hp
    rw [him.out] at hx he
    have ux : U x := by rw [hx]; exact insW_range _ _ _ _ _
    replace hx := Aside.mk (decR_ins he hx)
    clear he
    have b1 : decide ((-1048576 : Int) ≤ V - P) = true := by simp; omega
    have b2 : decide (V - P ≤ (1048574 : Int)) = true := by simp; omega
    have hmk := made_u8 (P + 4) (by omega)
    simp only [Int.natCast_add, Int.cast_ofNat_Int] at hmk
    replace ux := Aside.mk ux
    go_upto_region 15 with fail
    have bB : Aside (Blk (w3.alloc (.cells (memC (List.replicate (P + 4) 0)) 5)) w3.heap.size (memC (List.replicate (P + 4) 0)) 5) := ⟨Blk.new _ _ _⟩
    have b1 := bytes_one ((w3.alloc (.cells (memC (List.replicate (P + 4) 0)) 5)).drew) ux.out
    rw [World.size_drew, sz1] at b1
    replace b1 := Aside.mk b1
    have s3 := Aside.mk k3.out.size
    clear hmk b2
    have hle : (P : Int) ≤ (P : Int) + 4 := by omega
    go_cut [18] (fun s wx => ∃ B, s = .slice (some ⟨B, 0, none⟩) (P + 4) (P + 4) ∧ w.heap.size ≤ B ∧ Kp w wx ∧ Blk wx B (memC (jumpL P x)) 5)
    case first =>
      go_region_law (first | ((refine step_copy_at rfl (.tmp 79) (.tmp 82) rfl rfl rfl hrow (pre := List.replicate (P + 4) 0) (bB.out.kp (((Kp.refl _).drew).trans k6)) (bytesL_length [x]) (by simp) ?_); (intro w7 hb7 hm7)) | ((go_simp); (go_at_call 16); (refine Calls.mono b1.out ?_); (rintro e w6 ⟨A6, n6, c6, rfl, k6, hrow⟩)))
      all_goals
        go_wp2_with fail
        go_meet
        rw [jumpL_splice] at hb7
        exact ⟨w3.heap.size, rfl, s3.out, (((((k3.out.alloc _).drew).trans k6).mod.behind hm7 (S := fun _ => False) (fun k e => Or.inr (by have := s3.out; have h2 : k = w3.heap.size := e; omega))).toKp (fun k e => e.elim)), hb7⟩
    case rest =>
      obtain ⟨B0, rfl, gB0, kk, hb⟩ := hcut
      have hl := jumpL_length P x
      have hrow := row_of hb gB0 (by omega)
      rw [hl] at hrow
      have hf : upV (jumpL P x).length = upV (P + 4) := by rw [hl]
      have hup : P + 4 ≤ upV (P + 4) ∧ upV (P + 4) ≤ P + 19 := by unfold upV; omega
      have hup2 : P + 4 ≤ upV (upV (P + 4) + 0) ∧ upV (upV (P + 4) + 0) ≤ P + 40 := by unfold upV; omega
      have ld := Aside.mk (fun W (hr : rowBy W w.heap.size (.slice (some ⟨B0, 0, none⟩) (P + 4) (P + 4)) (jumpL P x)) => Load_at (P : Int) 0 0 (upV (P + 4)) (upV (upV (P + 4) + 0)) rfl hr (jumpL_byte P x) (by unfold U; omega) (by decide) (by omega) hf rfl (by omega))
      generalize upV (upV (P + 4) + 0) = top at *
      generalize upV (P + 4) = floor at *
      have st := Aside.mk (jmp_steps (r := jmpS P x floor top) (r' := jalS P x (V - P) floor top) rfl (jal_step ux.out bP.1 hup2.1 hx.out))
      replace hrow := Aside.mk hrow
      replace kk := Aside.mk kk
      replace hb := Aside.mk hb
      clear hf b1
      go_wp2_with fail
      refine Calls.mono (ld.out _ hrow.out) ?_
      rintro e w7 ⟨M, B, K, rfl, ⟨gM, gB, gK⟩, k7, hm⟩
      have s7 := kk.out.size
      have lM := hm.m.lt
      have hout : w.heap.size ≤ M ∧ w.heap.size ≤ B ∧ w.heap.size ≤ K := by omega
      replace kk : Aside (Kp w w7) := ⟨kk.out.trans k7⟩
      clear k7 gM gB gK s7
      replace hm := Aside.mk hm
      replace hout := Aside.mk hout
      go_wp2_with fail
      refine Calls.mono (Run_at (jmpTr (jmpS P x floor top) (jalS P x (V - P) floor top)) 1 1 rfl 1 _ hm.out words_none rfl (by decide) st.out (Or.inl (by decide)) (by decide) _ rfl) ?_
      rintro e w8 ⟨ev, rfl, hmod, hm8, hev⟩
      obtain ⟨A8, n8, c8, rfl⟩ := own_slice hev
      clear hev
      have kk8 : Aside (Kp w w8) := ⟨(kk.out.mod.behind hmod (S := fun _ => False) (fun k e => Or.inr (by have := hout.out; rcases e with e | e | e <;> omega))).toKp (fun k e => e.elim)⟩
      have lM8 := hm8.m.lt
      have hpc : (jmpTr (jmpS P x floor top) (jalS P x (V - P) floor top) 1).s.pc = V := by
        show ((P : Int) + (V - P)) % 4294967296 = V
        omega
      have wc := fun W (k : Kp w8 W) => Place_calls (hm8.kp k)
      rw [hpc] at wc
      replace wc := Aside.mk wc
      replace hm8 := Aside.mk hm8
      clear hmod
      have hfl := fld_res
      go_wp2_with ((go_at_call 19); (refine Calls.mono (wc.out _ (by repeat (with_reducible first | exact Kp.refl _ | assumption | exact Dr.kp (by assumption) | refine Kp.drewN ?_ _ | refine Kp.drew ?_ | refine Kp.alloc ?_ _ | refine Kp.setCell ?_ (by first | exact Nat.le_refl _ | assumption | omega) _ | refine Kp.trans ?_ (by assumption) | refine Kp.trans ?_ (Dr.kp (by assumption))))) ?_); (rintro e w9 ⟨rfl, k9⟩))
      all_goals go_ret
      all_goals exact ⟨rfl, kk8.out.trans k9⟩
set_option maxRecDepth 100000 in
set_option maxHeartbeats 1000000 in
theorem jumps_b (F T : Int) (hF : 0 ≤ F ∧ F ≤ 65535) (hT : 0 ≤ T ∧ T ≤ 65535) (w : World) : Calls Try.prog 5 #[.int .u16 F, .int .u16 T, .bool true] w fun e w' => e = .returned (.bool true) ∧ Kp w w' := by
  obtain ⟨P, hP⟩ : ∃ P : Nat, F * 4 = (P : Int) := ⟨(F * 4).toNat, by omega⟩
  obtain ⟨V, hV⟩ : ∃ V : Int, T * 4 = V := ⟨_, rfl⟩
  have bP : P % 4 = 0 ∧ P ≤ 262140 := by omega
  have bV : V % 4 = 0 ∧ 0 ≤ V ∧ V ≤ 262140 := by omega
  have ec := fun w => Encode_calls 32 0 0 0 0 (by decide) (by decide) w
  rw [enc_32] at ec
  obtain ⟨a, ha⟩ : ∃ a, Aside (insW 32 0 0 0 0 = a) := ⟨_, ⟨rfl⟩⟩
  have ua := insW_range 32 0 0 0 0
  rw [ha.out] at ec ua
  have pc := fun w => Patch_calls 5 a V P ua (by unfold U; omega) (by unfold U; omega) w
  have him : immP 5 V P = V - P := imm_far (by decide) (by omega) (by omega)
  have hfit : fitsOp 32 (immP 5 V P) = true ↔ -4096 ≤ V - P ∧ V - P ≤ 4094 := by rw [him]; exact fits_32 (V - P) (by omega)
  replace him := Aside.mk him
  replace hfit := Aside.mk hfit
  replace ec := Aside.mk ec
  replace pc := Aside.mk pc
  replace hP := Aside.mk hP
  replace hV := Aside.mk hV
  go_enter Try.func5, Try.ntmps5
  go_wp2_with fail
  refine Calls.mono (awake08_calls _) ?_
  rintro e w1 ⟨rfl, k1⟩
  go_upto_region 4 with fail
  rw [hP.out, hV.out]
  go_wp2_with fail
  refine Calls.mono (ec.out _) ?_
  rintro e w2 ⟨rfl, k2⟩
  replace k2 : Aside (Kp w w2) := ⟨Kp.trans (by repeat (first | exact Kp.refl _ | assumption | exact Dr.kp (by assumption) | refine Kp.drewN ?_ _ | refine Kp.drew ?_ | refine Kp.alloc ?_ _ | refine Kp.setCell ?_ (by first | exact Nat.le_refl _ | assumption | omega) _ | refine Kp.trans ?_ (by assumption) | refine Kp.trans ?_ (Dr.kp (by assumption)))) k2⟩
  clear k1 ua
  go_wp2_with fail
  refine Calls.mono (pc.out _) ?_
  rintro e w3 ⟨x, E, rfl, hp, k3⟩
  rw [← ha.out] at hp
  replace k3 : Aside (Kp w w3) := ⟨k2.out.trans k3⟩
  clear k2
  rcases patR_two (Or.inr (Or.inr (Or.inr (Or.inr ⟨rfl, by decide, by decide⟩)))) enc_32 hp with ⟨hf, rfl, rfl⟩ | ⟨hf, hx, rfl, he⟩
  · have hn : ¬(-4096 ≤ V - P ∧ V - P ≤ 4094) := fun h => by rw [hfit.out.2 h] at hf; cases hf
    clear hf hp
    have hn2 : V - P < -4096 ∨ (-4096 ≤ V - P ∧ 4094 < V - P) := by omega
    clear hn
    rcases hn2 with hn | ⟨hn1, hn2⟩
    · have b1 : decide ((-4096 : Int) ≤ V - P) = false := by simp; omega
      go_wp2_with fail
      all_goals go_ret
      all_goals exact ⟨rfl, k3.out⟩
    · have b1 : decide ((-4096 : Int) ≤ V - P) = true := by simp; omega
      have b2 : decide (V - P ≤ (4094 : Int)) = false := by simp; omega
      go_wp2_with fail
      all_goals go_ret
      all_goals exact ⟨rfl, k3.out⟩
  · have hn := hfit.out.1 hf
    clear hf hp
    rw [him.out] at hx he
    have ux : U x := by rw [hx]; exact insW_range _ _ _ _ _
    replace hx := Aside.mk (decR_ins he hx)
    clear he
    have b1 : decide ((-4096 : Int) ≤ V - P) = true := by simp; omega
    have b2 : decide (V - P ≤ (4094 : Int)) = true := by simp; omega
    have hmk := made_u8 (P + 4) (by omega)
    simp only [Int.natCast_add, Int.cast_ofNat_Int] at hmk
    replace ux := Aside.mk ux
    go_upto_region 15 with fail
    have bB : Aside (Blk (w3.alloc (.cells (memC (List.replicate (P + 4) 0)) 5)) w3.heap.size (memC (List.replicate (P + 4) 0)) 5) := ⟨Blk.new _ _ _⟩
    have b1 := bytes_one ((w3.alloc (.cells (memC (List.replicate (P + 4) 0)) 5)).drew) ux.out
    rw [World.size_drew, sz1] at b1
    replace b1 := Aside.mk b1
    have s3 := Aside.mk k3.out.size
    clear hmk b2
    have hle : (P : Int) ≤ (P : Int) + 4 := by omega
    go_cut [18] (fun s wx => ∃ B, s = .slice (some ⟨B, 0, none⟩) (P + 4) (P + 4) ∧ w.heap.size ≤ B ∧ Kp w wx ∧ Blk wx B (memC (jumpL P x)) 5)
    case first =>
      go_region_law (first | ((refine step_copy_at rfl (.tmp 79) (.tmp 82) rfl rfl rfl hrow (pre := List.replicate (P + 4) 0) (bB.out.kp (((Kp.refl _).drew).trans k6)) (bytesL_length [x]) (by simp) ?_); (intro w7 hb7 hm7)) | ((go_simp); (go_at_call 16); (refine Calls.mono b1.out ?_); (rintro e w6 ⟨A6, n6, c6, rfl, k6, hrow⟩)))
      all_goals
        go_wp2_with fail
        go_meet
        rw [jumpL_splice] at hb7
        exact ⟨w3.heap.size, rfl, s3.out, (((((k3.out.alloc _).drew).trans k6).mod.behind hm7 (S := fun _ => False) (fun k e => Or.inr (by have := s3.out; have h2 : k = w3.heap.size := e; omega))).toKp (fun k e => e.elim)), hb7⟩
    case rest =>
      obtain ⟨B0, rfl, gB0, kk, hb⟩ := hcut
      have hl := jumpL_length P x
      have hrow := row_of hb gB0 (by omega)
      rw [hl] at hrow
      have hf : upV (jumpL P x).length = upV (P + 4) := by rw [hl]
      have hup : P + 4 ≤ upV (P + 4) ∧ upV (P + 4) ≤ P + 19 := by unfold upV; omega
      have hup2 : P + 4 ≤ upV (upV (P + 4) + 0) ∧ upV (upV (P + 4) + 0) ≤ P + 40 := by unfold upV; omega
      have ld := Aside.mk (fun W (hr : rowBy W w.heap.size (.slice (some ⟨B0, 0, none⟩) (P + 4) (P + 4)) (jumpL P x)) => Load_at (P : Int) 0 0 (upV (P + 4)) (upV (upV (P + 4) + 0)) rfl hr (jumpL_byte P x) (by unfold U; omega) (by decide) (by omega) hf rfl (by omega))
      generalize upV (upV (P + 4) + 0) = top at *
      generalize upV (P + 4) = floor at *
      have st := Aside.mk (jmp_steps (r := jmpS P x floor top) (r' := beqS P x (V - P) floor top) rfl (beq_step ux.out bP.1 hup2.1 hx.out))
      replace hrow := Aside.mk hrow
      replace kk := Aside.mk kk
      replace hb := Aside.mk hb
      clear hf b1
      go_wp2_with fail
      refine Calls.mono (ld.out _ hrow.out) ?_
      rintro e w7 ⟨M, B, K, rfl, ⟨gM, gB, gK⟩, k7, hm⟩
      have s7 := kk.out.size
      have lM := hm.m.lt
      have hout : w.heap.size ≤ M ∧ w.heap.size ≤ B ∧ w.heap.size ≤ K := by omega
      replace kk : Aside (Kp w w7) := ⟨kk.out.trans k7⟩
      clear k7 gM gB gK s7
      replace hm := Aside.mk hm
      replace hout := Aside.mk hout
      go_wp2_with fail
      refine Calls.mono (Run_at (jmpTr (jmpS P x floor top) (beqS P x (V - P) floor top)) 1 1 rfl 1 _ hm.out words_none rfl (by decide) st.out (Or.inl (by decide)) (by decide) _ rfl) ?_
      rintro e w8 ⟨ev, rfl, hmod, hm8, hev⟩
      obtain ⟨A8, n8, c8, rfl⟩ := own_slice hev
      clear hev
      have kk8 : Aside (Kp w w8) := ⟨(kk.out.mod.behind hmod (S := fun _ => False) (fun k e => Or.inr (by have := hout.out; rcases e with e | e | e <;> omega))).toKp (fun k e => e.elim)⟩
      have lM8 := hm8.m.lt
      have hpc : (jmpTr (jmpS P x floor top) (beqS P x (V - P) floor top) 1).s.pc = V := by
        show ((P : Int) + (V - P)) % 4294967296 = V
        omega
      have wc := fun W (k : Kp w8 W) => Place_calls (hm8.kp k)
      rw [hpc] at wc
      replace wc := Aside.mk wc
      replace hm8 := Aside.mk hm8
      clear hmod
      have hfl := fld_res
      go_wp2_with ((go_at_call 19); (refine Calls.mono (wc.out _ (by repeat (with_reducible first | exact Kp.refl _ | assumption | exact Dr.kp (by assumption) | refine Kp.drewN ?_ _ | refine Kp.drew ?_ | refine Kp.alloc ?_ _ | refine Kp.setCell ?_ (by first | exact Nat.le_refl _ | assumption | omega) _ | refine Kp.trans ?_ (by assumption) | refine Kp.trans ?_ (Dr.kp (by assumption))))) ?_); (rintro e w9 ⟨rfl, k9⟩))
      all_goals go_ret
      all_goals exact ⟨rfl, kk8.out.trans k9⟩
theorem patchJumps_law (F T : Int) (b : Bool) (w0 : (Lit.int .u16 F).wf = true) (w1 : (Lit.int .u16 T).wf = true) (w : World) : Calls Try.prog 5 #[.int .u16 F, .int .u16 T, .bool b] w fun e w' => e = .returned (.bool true) ∧ Below w.heap.size w w' := by
  cases b
  · exact (jumps_t F T (bounds_u16 w0) (bounds_u16 w1) w).mono fun _ _ ⟨he, hk⟩ => ⟨he, hk.out⟩
  · exact (jumps_b F T (bounds_u16 w0) (bounds_u16 w1) w).mono fun _ _ ⟨he, hk⟩ => ⟨he, hk.out⟩
end Go.Proofs.Ytgifefkoldocmaa
