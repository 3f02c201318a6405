/- Patched instructions in the machine: PatchLoads, walked. Condition: the arguments are numbers of their types. -/
import Derived.Test.YtgifefkoldocmaaPatAw
import Derived.Test.YtgifefkoldocmaaMachW
import Derived.Test.YtgifefkoldocmaaMachS1
namespace Go.Proofs.Ytgifefkoldocmaa
open Go.RowKit Go.Maps Go.Proofs.Ytgifefkoldocmaa.PC Go.Proofs.Ytgifefkoldocmaa.PW
set_option linter.unusedVariables false
set_option linter.unusedSimpArgs false
theorem patR_ok {k op rd rs1 rs2 v p W E : Int} (hk : ofK k op) (h0 : insE op rd rs1 rs2 0 = 0) (hfit : fitsOp op (immP k v p) = true) (h : PatR k (insW op rd rs1 rs2 0) v p W E) : W = insW op rd rs1 rs2 (immP k v p) ∧ E = 0 ∧ insE op rd rs1 rs2 (immP k v p) = 0 := by
  have hk5 : 1 ≤ k ∧ k ≤ 5 := by unfold ofK at hk; omega
  have g : PatR k (insW op rd rs1 rs2 0) v p (insW op rd rs1 rs2 (immP k v p)) 0 :=
    Or.inr (Or.inr ⟨hk5, op, rd, rs1, rs2, 0, 0, Or.inl ⟨rfl, h0, rfl⟩, Or.inr ⟨rfl, rfl, hk, Or.inr ⟨hfit, rfl, rfl⟩⟩⟩)
  obtain ⟨e1, e2⟩ := patR_unique h g
  exact ⟨e1, e2, by rw [ins_imm hk h0, if_pos hfit]⟩
theorem decR_ins {op rd rs1 rs2 n x : Int} (h : insE op rd rs1 rs2 n = 0) (hx : x = insW op rd rs1 rs2 n) : DecR x op rd rs1 rs2 n 0 := Or.inl ⟨rfl, h, hx.symm⟩
theorem enc_38 : ∀ i : Fin 32, insE 38 (i.val : Int) 0 0 0 = 0 := by decide +kernel
theorem enc_18 : ∀ i : Fin 32, insE 18 (i.val : Int) (i.val : Int) 0 0 = 0 := by decide +kernel
theorem fits_38 (n : Int) (h : 0 ≤ n ∧ n < 1048576) : fitsOp 38 n = true := by
  have e : fitsOp 38 n = decide (fitsK 85 n) := rfl
  rw [e]
  simp [fitsK]
  omega
theorem fits_18 (n : Int) (h : -2048 ≤ n ∧ n < 2048) : fitsOp 18 n = true := by
  have e : fitsOp 18 n = decide (fitsK 73 n) := rfl
  rw [e]
  simp [fitsK]
  omega
/-- What is loaded from words. -/
def bootS (l : List Int) (floor top : Nat) : RS := ⟨loadS 0 (bytesL l) floor top, [], []⟩
def ld1 (r : RS) (hi : Int) (rd : Nat) : RS := (r.on (r.s.setx rd (hi * 4096 % 4294967296))).fin 4
def ld2 (r : RS) (lo : Int) (rd : Nat) : RS := (r.on (r.s.setx rd (doV (plainV 18) (r.s.x.getD rd 0) (lo % 4294967296)))).fin 8
def ldTr (x y hi lo : Int) (rd : Nat) : Nat → RS
  | 0 => bootS [x, y] 16 16
  | 1 => ld1 (bootS [x, y] 16 16) hi rd
  | _ => ld2 (ld1 (bootS [x, y] 16 16) hi rd) lo rd
theorem ld_steps {x y hi lo : Int} {rd : Nat} (hx : DecR x 38 rd 0 0 hi 0) (hy : DecR y 18 rd rd 0 lo 0) (ux : U x) (uy : U y) : ∀ k : Nat, k < 2 → (k : Int) < 2 ∧ (ldTr x y hi lo rd k).s.state = 0 ∧ StepC (ldTr x y hi lo rd k) (ldTr x y hi lo rd (k + 1)) := by
  have hm : ∀ k, (ldTr x y hi lo rd k).s.mem = loadM (bytesL [x, y]) 16 := by
    intro k
    match k with
    | 0 => rfl
    | 1 => rfl
    | k + 2 => rfl
  have hlen : (loadM (bytesL [x, y]) 16).length = 16 := rfl
  have g0 : getN (loadM (bytesL [x, y]) 16) 0 4 = x := load_word [x, y] 16 0 (by simp) ux
  have g1 : getN (loadM (bytesL [x, y]) 16) 4 4 = y := load_word [x, y] 16 1 (by simp) uy
  intro k hk
  match k, hk with
  | 0, _ =>
    refine ⟨by decide, rfl, ?_⟩
    intro w b1 b2 R M B K N h hT hN
    have hin : (ldTr x y hi lo rd 0).s.inside := ⟨rfl, by rw [hm, hlen]; exact (by decide : (0 : Int) + 4 ≤ 16)⟩
    refine (step_lui (b2 := b2) h (by omega) hin (n := hi) (d := rd) (e := 0) (f := 0) (by show DecR (getN (ldTr x y hi lo rd 0).s.mem _ 4) _ _ _ _ _ _; rw [hm]; exact (by rw [show (ldTr x y hi lo rd 0).s.pc.toNat = 0 from rfl, g0]; exact hx))).mono ?_
    rintro e w' ⟨he, hmod, hr⟩
    exact ⟨he, hmod, hr.more (by omega)⟩
  | 1, _ =>
    refine ⟨by decide, rfl, ?_⟩
    intro w b1 b2 R M B K N h hT hN
    have hin : (ldTr x y hi lo rd 1).s.inside := ⟨rfl, by rw [hm, hlen]; exact (by decide : (4 : Int) + 4 ≤ 16)⟩
    refine (step_alui (b2 := b2) h (by omega) hin (op := 18) (n := lo) (d := rd) (e := rd) (f := 0) (by show DecR (getN (ldTr x y hi lo rd 1).s.mem _ 4) _ _ _ _ _ _; rw [hm]; exact (by rw [show (ldTr x y hi lo rd 1).s.pc.toNat = 4 from rfl, g1]; exact hy)) (by decide)).mono ?_
    rintro e w' ⟨he, hmod, hr⟩
    exact ⟨he, hmod, hr.more (by omega)⟩
theorem getD_set_same (l : List Int) (i : Nat) (v : Int) (h : i < l.length) : (l.set i v).getD i 0 = v := by rw [getD_set, if_pos ⟨rfl, h⟩]
theorem getD_set_ne (l : List Int) (i j : Nat) (v : Int) (h : i ≠ j) : (l.set i v).getD j 0 = l.getD j 0 := by rw [getD_set, if_neg (fun e => h e.1)]
theorem doV_add (a b : Int) : doV 1 a b = (a + b) % 4294967296 := rfl
theorem ld_end {x y v : Int} {rd : Nat} (hr : 1 ≤ rd ∧ rd ≤ 31) (hv : U v) : (ldTr x y (hiV v) (loV v) rd 2).s.x.getD rd 0 = v ∧ (ldTr x y (hiV v) (loV v) rd 2).s.state = 0 := by
  refine ⟨?_, rfl⟩
  have l0 : (ldTr x y (hiV v) (loV v) rd 0).s.x.length = 32 := rfl
  have e1 : (ldTr x y (hiV v) (loV v) rd 1).s.x = ((ldTr x y (hiV v) (loV v) rd 0).s.x.set rd (hiV v * 4096 % 4294967296)).set 0 0 := rfl
  have l1 : (ldTr x y (hiV v) (loV v) rd 1).s.x.length = 32 := by rw [e1]; simp [l0]
  have e2 : (ldTr x y (hiV v) (loV v) rd 2).s.x = ((ldTr x y (hiV v) (loV v) rd 1).s.x.set rd (doV (plainV 18) ((ldTr x y (hiV v) (loV v) rd 1).s.x.getD rd 0) (loV v % 4294967296))).set 0 0 := rfl
  have g1 : (ldTr x y (hiV v) (loV v) rd 1).s.x.getD rd 0 = hiV v * 4096 % 4294967296 := by
    rw [e1, getD_set_ne _ _ _ _ (by omega), getD_set_same _ _ _ (by omega)]
  rw [e2, getD_set_ne _ _ _ _ (by omega), getD_set_same _ _ _ (by omega), g1]
  exact (doV_add _ _).trans (parts_law hv)
theorem own_slice {w : World} {base : Nat} {t : TypeId} {sz n : Nat} {v : Value} {xs : List Value} (h : w.ownsRow base t sz v n xs) : ∃ A n c, v = .slice A n c := by
  rcases h.2 with ⟨h, _⟩ | ⟨g, cap, cur, h, _⟩
  · exact ⟨_, _, _, h⟩
  · exact ⟨_, _, _, h⟩
theorem row_slice {w : World} {base : Nat} {v : Value} {l : List Int} (h : rowBy w base v l) : ∃ A n c, v = .slice A n c := by
  rcases h.2 with ⟨h, _⟩ | ⟨g, cap, cur, h, _⟩
  · exact ⟨_, _, _, h⟩
  · exact ⟨_, _, _, h⟩
set_option maxRecDepth 100000 in
theorem fld_res (W : World) (a b n : Int) (A : Option Addr) (m c : Nat) : (Instr.field 48 (.agg #[.int .i64 a, .int .u32 b, .slice A m c, .int .i64 n]) 3).run Try.prog W = .ok (.int .i64 n) W := by rfl
theorem hiV_imm (v p : Int) : immP 1 v p = hiV v := rfl
set_option maxRecDepth 100000 in
set_option maxHeartbeats 4000000 in
theorem patchLoads_any (v r : Int) (hv : U v) (hr : 0 ≤ r ∧ r ≤ 255) (w : World) : Calls Try.prog 6 #[.int .u32 v, .int .u8 r] w fun e w' => e = .returned (.bool true) ∧ Kp w w' := by
  obtain ⟨rd, hrd⟩ : ∃ rd : Nat, r % 31 + 1 = (rd : Int) := ⟨(r % 31 + 1).toNat, by omega⟩
  have hrd' : 1 ≤ rd ∧ rd ≤ 31 := by omega
  have e38 := enc_38 ⟨rd, by omega⟩
  have e18 := enc_18 ⟨rd, by omega⟩
  simp only at e38 e18
  have ec1 := fun w => Encode_calls 38 rd 0 0 0 (by decide) (by decide) w
  have ec2 := fun w => Encode_calls 18 rd rd 0 0 (by decide) (by decide) w
  have ua := insW_range 38 rd 0 0 0
  have ub := insW_range 18 rd rd 0 0
  rw [e38] at ec1
  rw [e18] at ec2
  obtain ⟨a, ha⟩ : ∃ a, Aside (insW 38 rd 0 0 0 = a) := ⟨_, ⟨rfl⟩⟩
  obtain ⟨b, hb⟩ : ∃ b, Aside (insW 18 rd rd 0 0 = b) := ⟨_, ⟨rfl⟩⟩
  rw [ha.out] at ec1 ua
  rw [hb.out] at ec2 ub
  have pc1 := fun w => Patch_calls 1 a v 0 ua hv (by unfold U; decide) w
  have pc2 := fun w => Patch_calls 2 b v 4 ub hv (by unfold U; decide) w
  have kp0 : Aside (Kp w w) := ⟨Kp.refl w⟩
  replace ec1 := Aside.mk ec1
  replace ec2 := Aside.mk ec2
  replace pc1 := Aside.mk pc1
  replace pc2 := Aside.mk pc2
  replace e38 := Aside.mk e38
  replace e18 := Aside.mk e18
  replace hrd := Aside.mk hrd
  replace hrd' := Aside.mk hrd'
  go_enter Try.func6, Try.ntmps6
  go_wp2_with fail
  refine Calls.mono (awake08_calls _) ?_
  rintro e w1 ⟨rfl, k1⟩
  go_wp2_with fail
  rw [hrd.out]
  refine Calls.mono (ec1.out _) ?_
  rintro e w2 ⟨rfl, k2⟩
  go_wp2_with fail
  refine Calls.mono (ec2.out _) ?_
  rintro e w3 ⟨rfl, k3⟩
  go_wp2_with fail
  refine Calls.mono (pc1.out _) ?_
  rintro e w4 ⟨x, E1, rfl, hp1, k4⟩
  rw [← ha.out] at hp1
  obtain ⟨hx, rfl, ex⟩ := patR_ok (Or.inl ⟨rfl, rfl⟩) e38.out (fits_38 _ (hiV_range v)) hp1
  clear hp1
  replace hx := Aside.mk hx
  replace ex := Aside.mk ex
  go_wp2_with fail
  refine Calls.mono (pc2.out _) ?_
  rintro e w5 ⟨y, E2, rfl, hp2, k5⟩
  rw [← hb.out] at hp2
  obtain ⟨hy, rfl, ey⟩ := patR_ok (Or.inr (Or.inl ⟨rfl, Or.inl ⟨by decide, by decide⟩⟩)) e18.out (fits_18 _ (loV_range v)) hp2
  clear hp2
  have kk : Aside (Kp w w5) := ⟨(((k1.trans k2).trans k3).trans k4).trans k5⟩
  clear k1 k2 k3 k4 k5
  have ux : U x := by rw [hx.out]; exact insW_range _ _ _ _ _
  have uy : U y := by rw [hy]; exact insW_range _ _ _ _ _
  replace hy := Aside.mk hy
  replace ey := Aside.mk ey
  replace ux := Aside.mk ux
  replace uy := Aside.mk uy
  clear ua ub ec1 ec2 pc1 pc2
  have bl := Aside.mk (Blk.new w5 #[.int .u32 x, .int .u32 y] 22)
  go_wp2_with fail
  refine Calls.mono (Bytes_calls (some ⟨w5.heap.size, 0, none⟩) 2 [x, y] (by simp) ?_ (by simp) ?_) ?_
  · intro i
    match i with
    | 0 => exact ux.out
    | 1 => exact uy.out
    | i + 2 => exact (by unfold U; decide : U 0)
  · intro _
    refine ⟨_, 0, rfl, bl.out.lt, fun i hi => ?_⟩
    rw [bl.out.cell]
    match i, hi with
    | 0, _ => rfl
    | 1, _ => rfl
  rintro e w6 ⟨vb, rfl, k6, hrow⟩
  obtain ⟨A6, n6, c6, rfl⟩ := row_slice hrow
  replace hrow := Aside.mk hrow
  replace kk : Aside (Kp w w6) := ⟨(kk.out.alloc _).trans k6⟩
  clear k6
  go_wp2_with fail
  refine Calls.mono (Load_at 0 0 0 16 16 rfl hrow.out (bytesL_byte _) ⟨Int.le_refl _, by decide⟩ (by decide) (by rw [bytesL_length]; simp) (by simp [bytesL_length, upV]) (by decide) (by decide)) ?_
  rintro e w7 ⟨M, B, K, rfl, ⟨gM, gB, gK⟩, k7, hm⟩
  have s7 := kk.out.size
  have lM := hm.m.lt
  have hout : w.heap.size ≤ M ∧ w.heap.size ≤ B ∧ w.heap.size ≤ K := by omega
  replace kk : Aside (Kp w w7) := ⟨kk.out.trans k7⟩
  clear k7 gM gB gK s7
  replace hm := Aside.mk hm
  replace hout := Aside.mk hout
  have ld := Aside.mk (ld_steps (decR_ins ex.out hx.out) (decR_ins ey.out hy.out) ux.out uy.out)
  go_wp2_with fail
  refine Calls.mono (Run_at (ldTr x y (hiV v) (loV v) rd) 2 2 rfl 2 _ hm.out words_none rfl (by decide) ld.out (Or.inl (by decide)) (by decide) _ rfl) ?_
  rintro e w8 ⟨ev, rfl, hmod, hm8, hev⟩
  obtain ⟨A8, n8, c8, rfl⟩ := own_slice hev
  clear hev
  have kk8 : Aside (Kp w w8) := ⟨(kk.out.mod.behind hmod (S := fun _ => False) (fun k e => Or.inr (by have := hout.out; rcases e with e | e | e <;> omega))).toKp (fun k e => e.elim)⟩
  have le := ld_end (x := x) (y := y) hrd'.out hv
  have lM8 := hm8.m.lt
  replace hm8 := Aside.mk hm8
  replace le := Aside.mk le
  have wc := fun W (k : Kp w8 W) => Word_calls (hm8.out.kp k) rd (by have := hrd'.out; omega)
  rw [le.out.1] at wc
  replace wc := Aside.mk wc
  clear hmod
  have hfl := fld_res
  go_wp2_with ((go_at_call 20); (refine Calls.mono (wc.out _ (by repeat (with_reducible first | exact Kp.refl _ | assumption | exact Dr.kp (by assumption) | refine Kp.drewN ?_ _ | refine Kp.drew ?_ | refine Kp.alloc ?_ _ | refine Kp.setCell ?_ (by first | exact Nat.le_refl _ | assumption | omega) _ | refine Kp.trans ?_ (by assumption) | refine Kp.trans ?_ (Dr.kp (by assumption))))) ?_); (rintro e w9 ⟨rfl, k9⟩))
  all_goals go_ret
  all_goals exact ⟨rfl, kk8.out.trans k9⟩
theorem patchLoads_law (v r : Int) (w0 : (Lit.int .u32 v).wf = true) (w1 : (Lit.int .u8 r).wf = true) (w : World) : Calls Try.prog 6 #[.int .u32 v, .int .u8 r] w fun e w' => e = .returned (.bool true) ∧ Below w.heap.size w w' :=
  (patchLoads_any v r (U_of w0) (bounds_u8 w1) w).mono fun _ _ ⟨he, hk⟩ => ⟨he, hk.out⟩
end Go.Proofs.Ytgifefkoldocmaa
