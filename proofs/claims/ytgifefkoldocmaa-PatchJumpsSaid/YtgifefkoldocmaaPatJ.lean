/- Jumps that are patched, in the machine: plain law, steps. No condition. -/
import Derived.Test.YtgifefkoldocmaaPatMach
import Derived.Test.YtgifefkoldocmaaMachS2
namespace Go.Proofs.Ytgifefkoldocmaa
open Go.RowKit Go.Maps Go.Proofs.Ytgifefkoldocmaa.PC Go.Proofs.Ytgifefkoldocmaa.PW
set_option linter.unusedVariables false
set_option linter.unusedSimpArgs false
theorem patR_two {k op rd rs1 rs2 v p W E : Int} (hk : ofK k op) (h0 : insE op rd rs1 rs2 0 = 0) (h : PatR k (insW op rd rs1 rs2 0) v p W E) :
    fitsOp op (immP k v p) = false ∧ W = 0 ∧ E = 7 ∨ fitsOp op (immP k v p) = true ∧ W = insW op rd rs1 rs2 (immP k v p) ∧ E = 0 ∧ insE op rd rs1 rs2 (immP k v p) = 0 := by
  by_cases hf : fitsOp op (immP k v p) = true
  · obtain ⟨e1, e2, e3⟩ := patR_ok hk h0 hf h
    exact Or.inr ⟨hf, e1, e2, e3⟩
  · have hf' : fitsOp op (immP k v p) = false := by simpa using hf
    have hk5 : 1 ≤ k ∧ k ≤ 5 := by unfold ofK at hk; omega
    have g : PatR k (insW op rd rs1 rs2 0) v p 0 7 :=
      Or.inr (Or.inr ⟨hk5, op, rd, rs1, rs2, 0, 0, Or.inl ⟨rfl, h0, rfl⟩, Or.inr ⟨rfl, rfl, hk, Or.inl ⟨hf', rfl, rfl⟩⟩⟩)
    obtain ⟨e1, e2⟩ := patR_unique h g
    exact Or.inl ⟨hf', e1, e2⟩
theorem imm_far {k v p : Int} (hk : k = 4 ∨ k = 5) (hv : 0 ≤ v ∧ v ≤ 262140) (hp : 0 ≤ p ∧ p ≤ 262140) : immP k v p = v - p := by
  have e : immP k v p = sgn ((v - p) % 4294967296) := by
    rcases hk with rfl | rfl
    · rfl
    · rfl
  rw [e]
  unfold sgn
  split <;> omega
theorem fits_40 (n : Int) (h : n % 4 = 0) : fitsOp 40 n = true ↔ -1048576 ≤ n ∧ n ≤ 1048574 := by
  have e : fitsOp 40 n = decide (fitsK 74 n) := rfl
  rw [e]
  simp [fitsK]
  omega
theorem fits_32 (n : Int) (h : n % 4 = 0) : fitsOp 32 n = true ↔ -4096 ≤ n ∧ n ≤ 4094 := by
  have e : fitsOp 32 n = decide (fitsK 66 n) := rfl
  rw [e]
  simp [fitsK]
  omega
theorem step_copy_at {ops : Array Oper} {o : Oper} {a : Act} {w : World} {K : Act → World → Prop} {Q : Exit → Act → World → Prop} {E : Prop} (hgd : o.guard = none) (d s : Operand)
    (ho : o.op = .call { callee := .builtin .copy, args := #[d, s], argTypes := #[38, 38] }) {v : Value} {base dl dc B off : Nat} {pre l : List Int} (hd : a.eval d = .slice (some ⟨B, off, none⟩) dl dc) (hs : a.eval s = v)
    (hv : rowBy w base v l) (hg : Blk w B (memC pre) 5) (hl : l.length = dl) (ht : off + dl ≤ pre.length)
    (h : ∀ w', Blk w' B (memC (splice pre off l)) 5 → Mod (fun k => k = B) w w' → K (a.put o.dst (goInt (byV l).length)) w') :
    if Region.wanted o (yielded ops a.tmps) = true then Oper.wp Try.prog o a w K Q else E := by
  obtain ⟨A, n, c, hvs, hn, hA⟩ : ∃ A n c, v = .slice A n c ∧ n = l.length ∧ (0 < n → ∃ g, A = some ⟨g, 0, none⟩ ∧ ∀ j x, (byV l)[j]? = some x → w.cell? ⟨g, j, none⟩ = some x) := by
    rcases hv.2 with ⟨h1, h2⟩ | ⟨g, cap, cur, h1, _, h3, _, _, h6, h7⟩
    · exact ⟨_, _, _, h1, h2.symm, fun h => absurd h (by decide)⟩
    · refine ⟨_, _, _, h1, rfl, fun _ => ⟨g, rfl, fun j x hx => ?_⟩⟩
      rw [← h7, List.getElem?_take] at hx
      split at hx
      · have : cur[j]? = some x := by simpa using hx
        simp [World.cell?, h3, this]
      · cases hx
  rw [hvs] at hs
  have hbl : (byV l).length = n := by simp [byV, hn]
  refine step_copy_mod hgd d s _ _ ho 5 Try.underlying38 (by kernel_rfl) _ A dl dc n c hd hs B off (pre.map (Value.int .u8)) 5 hg (byV l) ?_ ?_ ?_ ?_ ?_
  · rw [hbl]; exact (Nat.min_eq_left (by omega)).symm
  · intro hpos
    obtain ⟨g, rfl, e⟩ := hA (by omega)
    refine ⟨rfl, _, rfl, fun j v hj => ?_⟩
    have e2 : (⟨g, 0, none⟩ : Addr).add j = ⟨g, j, none⟩ := by unfold Addr.add; split <;> simp_all
    rw [e2]
    exact e j v hj
  · simp; omega
  · intro v hv
    simp only [byV, List.mem_map] at hv
    obtain ⟨x, _, rfl⟩ := hv
    rfl
  · intro w' hg' hm
    refine h w' ?_ hm
    have e : splice (pre.map (Value.int .u8)) off (byV l) = (splice pre off l).map (Value.int .u8) := by simp [splice, byV, List.map_append, List.map_take, List.map_drop]
    rw [e] at hg'
    exact hg'
theorem row_of {w : World} {b base : Nat} {l : List Int} (h : Blk w b (memC l) 5) (hb : base ≤ b) (hl : l.length ≤ 2097152) : rowBy w base (.slice (some ⟨b, 0, none⟩) l.length l.length) l :=
  ⟨by simp [byV], Or.inr ⟨b, l.length, memC l, rfl, hb, h, Nat.le_refl _, by unfold maxLen; omega, by simp [memC], by simp [memC, byV]; exact List.take_of_length_le (by simp)⟩⟩
def jumpL (P : Nat) (x : Int) : List Int := List.replicate P 0 ++ bytesL [x]
theorem jumpL_length (P : Nat) (x : Int) : (jumpL P x).length = P + 4 := by simp [jumpL, bytesL_length]
theorem jumpL_splice (P : Nat) (x : Int) : splice (List.replicate (P + 4) 0) P (bytesL [x]) = jumpL P x := by
  have e := bytesL_length [x]
  simp only [List.length_singleton] at e
  simp [splice, jumpL, e, List.take_replicate]
theorem jumpL_byte (P : Nat) (x : Int) : ∀ b ∈ jumpL P x, Byte b := by
  intro b hb
  rcases List.mem_append.1 hb with hb | hb
  · rw [List.eq_of_mem_replicate hb]; exact ⟨by decide, by decide⟩
  · exact bytesL_byte _ b hb
theorem jumpL_word (P top : Nat) {x : Int} (ux : U x) : getN (loadM (jumpL P x) top) P 4 = x := by
  have g : ∀ j, j < 4 → (loadM (jumpL P x) top).getD (P + j) 0 = (bytesL [x]).getD j 0 := by
    intro j hj
    rw [loadM_get _ _ _ (by rw [jumpL_length]; omega)]
    simp [jumpL, List.getD_eq_getElem?_getD, List.getElem?_append_right]
  have h := load_word [x] 16 0 (by simp) ux
  simp only [getN, Nat.mul_zero] at h ⊢
  rw [g 0 (by decide), g 1 (by decide), g 2 (by decide), g 3 (by decide)]
  have q : ∀ j, j < 4 → (loadM (bytesL [x]) 16).getD (0 + j) 0 = (bytesL [x]).getD j 0 := by
    intro j hj
    rw [Nat.zero_add, loadM_get _ _ _ (by rw [bytesL_length]; simpa using hj)]
  rw [q 0 (by decide), q 1 (by decide), q 2 (by decide), q 3 (by decide)] at h
  exact h
def jmpS (P : Nat) (x : Int) (floor top : Nat) : RS := ⟨loadS P (jumpL P x) floor top, [], []⟩
def jmpTr (r r' : RS) : Nat → RS
  | 0 => r
  | _ => r'
theorem jmp_in (P : Nat) (x : Int) (floor top : Nat) (h4 : P % 4 = 0) (ht : P + 4 ≤ top) : (jmpS P x floor top).s.inside := by
  refine ⟨?_, ?_⟩
  · show (P : Int) % 4 = 0
    omega
  · show (P : Int) + 4 ≤ ((loadM (jumpL P x) top).length : Int)
    rw [loadM_length _ _ (by rw [jumpL_length]; exact ht)]
    omega
theorem jmp_here (P : Nat) {x : Int} (floor top : Nat) (ux : U x) : (jmpS P x floor top).s.here = x := by
  show getN (loadM (jumpL P x) top) ((P : Int).toNat) 4 = x
  rw [Int.toNat_natCast]
  exact jumpL_word P top ux
def jalS (P : Nat) (x n : Int) (floor top : Nat) : RS := ((jmpS P x floor top).on ((jmpS P x floor top).s.setx 1 (((P : Int) + 4) % 4294967296))).fin (((P : Int) + n) % 4294967296)
def beqS (P : Nat) (x n : Int) (floor top : Nat) : RS := (jmpS P x floor top).fin (((P : Int) + n) % 4294967296)
theorem jal_step {P : Nat} {x n : Int} {floor top : Nat} (ux : U x) (h4 : P % 4 = 0) (ht : P + 4 ≤ top) (hx : DecR x 40 1 0 0 n 0) : StepC (jmpS P x floor top) (jalS P x n floor top) := by
  intro w b1 b2 R M B K N h hT hN
  refine (step_jal (b2 := b2) h (by omega) (jmp_in P x floor top h4 ht) (n := n) (d := 1) (e := 0) (f := 0) (by rw [jmp_here P floor top ux]; exact hx)).mono ?_
  rintro e w' ⟨he, hmod, hr⟩
  exact ⟨he, hmod, hr.more (by omega)⟩
theorem beq_step {P : Nat} {x n : Int} {floor top : Nat} (ux : U x) (h4 : P % 4 = 0) (ht : P + 4 ≤ top) (hx : DecR x 32 0 0 0 n 0) : StepC (jmpS P x floor top) (beqS P x n floor top) := by
  intro w b1 b2 R M B K N h hT hN
  refine (step_bt (b2 := b2) h (by omega) (jmp_in P x floor top h4 ht) (op := 32) (n := n) (d := 0) (e := 0) (f := 0) (by rw [jmp_here P floor top ux]; exact hx) (by decide) (by simp [takenV])).mono ?_
  rintro e w' ⟨he, hmod, hr⟩
  exact ⟨he, hmod, hr.more (by omega)⟩
theorem jmp_steps {r r' : RS} (h0 : r.s.state = 0) (h : StepC r r') : ∀ k : Nat, k < 1 → (k : Int) < 1 ∧ (jmpTr r r' k).s.state = 0 ∧ StepC (jmpTr r r' k) (jmpTr r r' (k + 1)) := by
  intro k hk
  obtain rfl : k = 0 := by omega
  exact ⟨by decide, h0, h⟩
theorem bytes_one (W : World) {x : Int} (ux : U x) : Calls Try.prog 16 #[.slice (some ⟨W.heap.size, 0, none⟩) 1 1] (W.alloc (.cells #[.int .u32 x] 22)) fun e w' => ∃ A n c, e = .returned (.slice A n c) ∧ Kp W w' ∧ rowBy w' W.heap.size (.slice A n c) (bytesL [x]) := by
  have bl := Blk.new W #[.int .u32 x] 22
  refine Calls.mono (Bytes_calls (some ⟨W.heap.size, 0, none⟩) 1 [x] (by simp) ?_ (by simp) ?_) ?_
  · intro i
    match i with
    | 0 => exact ux
    | i + 1 => exact (by unfold U; decide : U 0)
  · intro _
    refine ⟨_, 0, rfl, bl.lt, fun i hi => ?_⟩
    rw [bl.cell]
    match i, hi with
    | 0, _ => rfl
  · rintro e w' ⟨v, rfl, k, hr⟩
    obtain ⟨A, n, c, rfl⟩ := row_slice hr
    refine ⟨A, n, c, rfl, ((Kp.refl W).alloc _).trans k, hr.1, ?_⟩
    rcases hr.2 with h | ⟨g, cap, cur, h1, h2, h3⟩
    · exact Or.inl h
    · exact Or.inr ⟨g, cap, cur, h1, Nat.le_trans (by rw [sz1]; omega) h2, h3⟩
end Go.Proofs.Ytgifefkoldocmaa
