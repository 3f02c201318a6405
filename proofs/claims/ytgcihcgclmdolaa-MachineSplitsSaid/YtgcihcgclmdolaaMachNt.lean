/- Every step of the machine: it is made, or stops it; runs by their steps. Conditions stand at each. -/
import Derived.Test.YtgcihcgclmdolaaMachNr
import Derived.Test.YtgcihcgclmdolaaMachS1
import Derived.Test.YtgcihcgclmdolaaMachS2
import Derived.Test.YtgcihcgclmdolaaMachS3
import Derived.Test.YtgcihcgclmdolaaMachRv
namespace Go.Proofs.Ytgcihcgclmdolaa
open Go.RowKit Go.Maps Go.Proofs.Ytgcihcgclmdolaa.PC Go.Proofs.Ytgcihcgclmdolaa.PW
set_option linter.unusedVariables false
set_option linter.unusedSimpArgs false
/-- Whether a machine asks for input. -/
def asksP (s : MS) : Prop := s.here = 115 ∧ s.x.getD 17 0 = 2
instance (s : MS) : Decidable (asksP s) := by unfold asksP; exact inferInstance
/-- What is left of the input behind a step. -/
def nextI (s : MS) (inp : List Int) : List Int := if asksP s then inp.tail else inp
theorem nextI_same {s : MS} (h : ¬asksP s) (inp : List Int) : nextI s inp = inp := by unfold nextI; rw [if_neg h]
theorem dec_115 : DecR 115 42 0 0 0 0 0 := Or.inl ⟨rfl, by decide +kernel, by decide +kernel⟩
theorem ask_op {s : MS} {op d e f n : Int} (hd : DecR s.here op d e f n 0) (h : op ≠ 42) : ¬asksP s := by
  rintro ⟨h1, _⟩
  rw [h1] at hd
  exact h (decR_uniq hd dec_115).1
theorem here_42 {s : MS} {d e f n : Int} (hd : DecR s.here 42 d e f n 0) : s.here = 115 := by
  rcases hd with ⟨-, h, hw⟩ | ⟨h, _⟩
  · obtain ⟨fm, hf, e, _⟩ := insE_form h
    obtain ⟨u1, u2, u3, u4, r1, r2, r3, r4, r5, r6, hfit⟩ := encE_zero e
    have hf2 : fm = ⟨69, 115, 0, 0, -1⟩ := by
      have e2 : formOf 42 = some ⟨69, 115, 0, 0, -1⟩ := by decide +kernel
      rw [e2] at hf
      injection hf with hf
      exact hf.symm
    subst hf2
    simp [Fm.uRd, Fm.uRs1, Fm.uRs2, Fm.uImm] at u1 u2 u3 u4
    subst u1 u2 u3 u4
    rw [← hw]
    decide +kernel
  · cases h
theorem op_cases {op : Int} (h : 1 ≤ op ∧ op ≤ 55) : (1 ≤ op ∧ op ≤ 17) ∨ (18 ≤ op ∧ op ≤ 26) ∨ op = 27 ∨ op = 28 ∨ op = 29 ∨ op = 30 ∨ op = 31 ∨ (32 ≤ op ∧ op ≤ 37) ∨ op = 38 ∨ op = 39 ∨ op = 40 ∨ op = 41 ∨ op = 42 ∨ op = 43 ∨ op = 44 ∨ (45 ≤ op ∧ op ≤ 48) ∨ op = 49 ∨ op = 50 ∨ (51 ≤ op ∧ op ≤ 53) ∨ op = 54 ∨ op = 55 := by omega
theorem plainStep {s : MS} {inp : List Int} {r' : List Ev → RS} (h : ∀ ev, StepC ⟨s, inp, ev⟩ (r' ev)) (hp : ∀ ev, r' ev = ⟨(r' []).s, inp, ev⟩) (ha : ¬asksP s) :
    ∃ (s' : MS) (inp' : List Int) (es : List Ev), (∀ ev, StepC ⟨s, inp, ev⟩ ⟨s', inp', ev ++ es⟩) ∧ inp' = nextI s inp ∧ es.length ≤ 1 :=
  ⟨(r' []).s, inp, [], fun ev => by rw [List.append_nil, ← hp ev]; exact h ev, (nextI_same ha inp).symm, Nat.zero_le _⟩
theorem askStep {s : MS} {inp inp' : List Int} {r' : List Ev → RS} (h : ∀ ev, StepC ⟨s, inp, ev⟩ (r' ev)) (hp : ∀ ev, r' ev = ⟨(r' []).s, inp', ev⟩) (ha : inp' = nextI s inp) :
    ∃ (s' : MS) (inp' : List Int) (es : List Ev), (∀ ev, StepC ⟨s, inp, ev⟩ ⟨s', inp', ev ++ es⟩) ∧ inp' = nextI s inp ∧ es.length ≤ 1 :=
  ⟨(r' []).s, inp', [], fun ev => by rw [List.append_nil, ← hp ev]; exact h ev, ha, Nat.zero_le _⟩
theorem tellStep {s : MS} {inp : List Int} {e : Ev} {r' : List Ev → RS} (h : ∀ ev, StepC ⟨s, inp, ev⟩ (r' ev)) (hp : ∀ ev, r' ev = ⟨(r' []).s, inp, ev ++ [e]⟩) (ha : ¬asksP s) :
    ∃ (s' : MS) (inp' : List Int) (es : List Ev), (∀ ev, StepC ⟨s, inp, ev⟩ ⟨s', inp', ev ++ es⟩) ∧ inp' = nextI s inp ∧ es.length ≤ 1 :=
  ⟨(r' []).s, inp, [e], fun ev => by rw [← hp ev]; exact h ev, (nextI_same ha inp).symm, Nat.le_refl _⟩
set_option maxHeartbeats 1000000 in
/-- Every step is made, or stops the machine. -/
theorem step_total (s : MS) (inp : List Int) :
    (∃ (s' : MS) (inp' : List Int) (es : List Ev), (∀ ev, StepC ⟨s, inp, ev⟩ ⟨s', inp', ev ++ es⟩) ∧ inp' = nextI s inp ∧ es.length ≤ 1) ∨ ∃ c : Int, c ≠ 0 ∧ ∀ ev, StopC ⟨s, inp, ev⟩ c := by
  by_cases hin : s.inside
  case neg => exact Or.inr ⟨3, by decide, fun ev w b1 R M B K N hr hN => (stop_far hr (Or.inl ⟨hin, rfl⟩)).mono (fun e' w' ⟨he, hm, hr⟩ => ⟨he, hm, hr.more (by omega)⟩)⟩
  by_cases hd : ∃ op rd rs1 rs2 n : Int, DecR s.here op rd rs1 rs2 n 0
  case neg => exact Or.inr ⟨2, by decide, fun ev w b1 R M B K N hr hN => (stop_far hr (Or.inr ⟨hin, fun op rd rs1 rs2 n h => hd ⟨op, rd, rs1, rs2, n, h⟩, rfl⟩)).mono (fun e' w' ⟨he, hm, hr⟩ => ⟨he, hm, hr.more (by omega)⟩)⟩
  obtain ⟨op, rd, rs1, rs2, n, hd⟩ := hd
  obtain ⟨ho, h1, h2, h3⟩ := decR_ops hd
  obtain ⟨d, rfl⟩ := Int.eq_ofNat_of_zero_le h1.1
  obtain ⟨e, rfl⟩ := Int.eq_ofNat_of_zero_le h2.1
  obtain ⟨f, rfl⟩ := Int.eq_ofNat_of_zero_le h3.1
  have cases := op_cases ho
  rcases cases with c | c | c | c | c | c | c | c | c | c | c | c | c | c | c | c | c | c | c | c | c
  · exact Or.inl (plainStep (fun ev => fun w b1 b2 R M B K N hr hT hN => (step_alu (b2 := b2) hr (by omega) hin (n := n) (d := d) (e := e) (f := f) hd c.2).mono (fun e' w' ⟨he, hm, hr⟩ => ⟨he, hm, hr.more (by omega)⟩)) (fun _ => rfl) (ask_op hd (by omega)))
  · exact Or.inl (plainStep (fun ev => fun w b1 b2 R M B K N hr hT hN => (step_alui (b2 := b2) hr (by omega) hin (n := n) (d := d) (e := e) (f := f) hd c).mono (fun e' w' ⟨he, hm, hr⟩ => ⟨he, hm, hr.more (by omega)⟩)) (fun _ => rfl) (ask_op hd (by omega)))
  · obtain rfl : op = 27 := by omega
    by_cases ha : ((s.x.getD e 0 + n) % 4294967296) % 1 = 0 ∧ ((s.x.getD e 0 + n) % 4294967296) + 1 ≤ s.mem.length
    · exact Or.inl (plainStep (fun ev => fun w b1 b2 R M B K N hr hT hN => (step_LB (b2 := b2) hr (by omega) hin (n := n) (d := d) (e := e) (f := f) hd ha.1 ha.2).mono (fun e' w' ⟨he, hm, hr⟩ => ⟨he, hm, hr.more (by omega)⟩)) (fun _ => rfl) (ask_op hd (by omega)))
    · exact Or.inr ⟨3, by decide, fun ev w b1 R M B K N hr hN => (stop_LB hr (by omega) hin (n := n) (d := d) (e := e) (f := f) hd ha).mono (fun e' w' ⟨he, hm, hr⟩ => ⟨he, hm, hr.more (by omega)⟩)⟩
  · obtain rfl : op = 28 := by omega
    by_cases ha : ((s.x.getD e 0 + n) % 4294967296) % 1 = 0 ∧ ((s.x.getD e 0 + n) % 4294967296) + 1 ≤ s.mem.length
    · exact Or.inl (plainStep (fun ev => fun w b1 b2 R M B K N hr hT hN => (step_LBU (b2 := b2) hr (by omega) hin (n := n) (d := d) (e := e) (f := f) hd ha.1 ha.2).mono (fun e' w' ⟨he, hm, hr⟩ => ⟨he, hm, hr.more (by omega)⟩)) (fun _ => rfl) (ask_op hd (by omega)))
    · exact Or.inr ⟨3, by decide, fun ev w b1 R M B K N hr hN => (stop_LBU hr (by omega) hin (n := n) (d := d) (e := e) (f := f) hd ha).mono (fun e' w' ⟨he, hm, hr⟩ => ⟨he, hm, hr.more (by omega)⟩)⟩
  · obtain rfl : op = 29 := by omega
    by_cases ha : ((s.x.getD e 0 + n) % 4294967296) % 4 = 0 ∧ ((s.x.getD e 0 + n) % 4294967296) + 4 ≤ s.mem.length
    · exact Or.inl (plainStep (fun ev => fun w b1 b2 R M B K N hr hT hN => (step_LW (b2 := b2) hr (by omega) hin (n := n) (d := d) (e := e) (f := f) hd ha.1 ha.2).mono (fun e' w' ⟨he, hm, hr⟩ => ⟨he, hm, hr.more (by omega)⟩)) (fun _ => rfl) (ask_op hd (by omega)))
    · exact Or.inr ⟨3, by decide, fun ev w b1 R M B K N hr hN => (stop_LW hr (by omega) hin (n := n) (d := d) (e := e) (f := f) hd ha).mono (fun e' w' ⟨he, hm, hr⟩ => ⟨he, hm, hr.more (by omega)⟩)⟩
  · obtain rfl : op = 30 := by omega
    by_cases ha : ((s.x.getD e 0 + n) % 4294967296) % 1 = 0 ∧ ((s.x.getD e 0 + n) % 4294967296) + 1 ≤ s.mem.length
    · exact Or.inl (plainStep (fun ev => fun w b1 b2 R M B K N hr hT hN => (step_SB (b2 := b2) hr (by omega) hin (n := n) (d := d) (e := e) (f := f) hd ha.1 ha.2).mono (fun e' w' ⟨he, hm, hr⟩ => ⟨he, hm, hr.more (by omega)⟩)) (fun _ => rfl) (ask_op hd (by omega)))
    · exact Or.inr ⟨3, by decide, fun ev w b1 R M B K N hr hN => (stop_SB hr (by omega) hin (n := n) (d := d) (e := e) (f := f) hd ha).mono (fun e' w' ⟨he, hm, hr⟩ => ⟨he, hm, hr.more (by omega)⟩)⟩
  · obtain rfl : op = 31 := by omega
    by_cases ha : ((s.x.getD e 0 + n) % 4294967296) % 4 = 0 ∧ ((s.x.getD e 0 + n) % 4294967296) + 4 ≤ s.mem.length
    · exact Or.inl (plainStep (fun ev => fun w b1 b2 R M B K N hr hT hN => (step_SW (b2 := b2) hr (by omega) hin (n := n) (d := d) (e := e) (f := f) hd ha.1 ha.2).mono (fun e' w' ⟨he, hm, hr⟩ => ⟨he, hm, hr.more (by omega)⟩)) (fun _ => rfl) (ask_op hd (by omega)))
    · exact Or.inr ⟨3, by decide, fun ev w b1 R M B K N hr hN => (stop_SW hr (by omega) hin (n := n) (d := d) (e := e) (f := f) hd ha).mono (fun e' w' ⟨he, hm, hr⟩ => ⟨he, hm, hr.more (by omega)⟩)⟩
  · cases ht : takenV op (s.x.getD e 0) (s.x.getD f 0) with
    | true => exact Or.inl (plainStep (fun ev => fun w b1 b2 R M B K N hr hT hN => (step_bt (b2 := b2) hr (by omega) hin (n := n) (d := d) (e := e) (f := f) hd c ht).mono (fun e' w' ⟨he, hm, hr⟩ => ⟨he, hm, hr.more (by omega)⟩)) (fun _ => rfl) (ask_op hd (by omega)))
    | false => exact Or.inl (plainStep (fun ev => fun w b1 b2 R M B K N hr hT hN => (step_bn (b2 := b2) hr (by omega) hin (n := n) (d := d) (e := e) (f := f) hd c ht).mono (fun e' w' ⟨he, hm, hr⟩ => ⟨he, hm, hr.more (by omega)⟩)) (fun _ => rfl) (ask_op hd (by omega)))
  · obtain rfl : op = 38 := by omega
    exact Or.inl (plainStep (fun ev => fun w b1 b2 R M B K N hr hT hN => (step_lui (b2 := b2) hr (by omega) hin (n := n) (d := d) (e := e) (f := f) hd ).mono (fun e' w' ⟨he, hm, hr⟩ => ⟨he, hm, hr.more (by omega)⟩)) (fun _ => rfl) (ask_op hd (by omega)))
  · obtain rfl : op = 39 := by omega
    exact Or.inl (plainStep (fun ev => fun w b1 b2 R M B K N hr hT hN => (step_auipc (b2 := b2) hr (by omega) hin (n := n) (d := d) (e := e) (f := f) hd ).mono (fun e' w' ⟨he, hm, hr⟩ => ⟨he, hm, hr.more (by omega)⟩)) (fun _ => rfl) (ask_op hd (by omega)))
  · obtain rfl : op = 40 := by omega
    exact Or.inl (plainStep (fun ev => fun w b1 b2 R M B K N hr hT hN => (step_jal (b2 := b2) hr (by omega) hin (n := n) (d := d) (e := e) (f := f) hd ).mono (fun e' w' ⟨he, hm, hr⟩ => ⟨he, hm, hr.more (by omega)⟩)) (fun _ => rfl) (ask_op hd (by omega)))
  · obtain rfl : op = 41 := by omega
    exact Or.inl (plainStep (fun ev => fun w b1 b2 R M B K N hr hT hN => (step_jalr (b2 := b2) hr (by omega) hin (n := n) (d := d) (e := e) (f := f) hd ).mono (fun e' w' ⟨he, hm, hr⟩ => ⟨he, hm, hr.more (by omega)⟩)) (fun _ => rfl) (ask_op hd (by omega)))
  · obtain rfl : op = 42 := by omega
    have h115 := here_42 hd
    by_cases h17 : 1 ≤ s.x.getD 17 0 ∧ s.x.getD 17 0 ≤ 5
    case neg => exact Or.inr ⟨2, by decide, fun ev w b1 R M B K N hr hN => (stop_ecall hr (by omega) hin (n := n) (d := d) (e := e) (f := f) hd h17).mono (fun e' w' ⟨he, hm, hr⟩ => ⟨he, hm, hr.more (by omega)⟩)⟩
    have x5 : s.x.getD 17 0 = 1 ∨ s.x.getD 17 0 = 2 ∨ s.x.getD 17 0 = 3 ∨ s.x.getD 17 0 = 4 ∨ s.x.getD 17 0 = 5 := by omega
    rcases x5 with x | x | x | x | x
    · exact Or.inl (tellStep (fun ev w b1 b2 R M B K N hr hT hN => (step_ecall (b2 := b2) hr (by omega) hin (n := n) (d := d) (e := e) (f := f) hd (r' := ⟨s, inp, ev ++ [⟨1, s.x.getD 10 0, 0⟩]⟩) hT (fun W N' h' hT' hN' => call_put h' x hN' hT') rfl).mono (fun e' w' ⟨he, hm, hr⟩ => ⟨he, hm, hr⟩)) (fun _ => rfl) (fun h => by have := h.2; omega))
    · cases inp with
      | nil =>
        exact Or.inl (askStep (fun ev => fun w b1 b2 R M B K N hr hT hN => (step_ecall (b2 := b2) hr (by omega) hin (n := n) (d := d) (e := e) (f := f) hd (r' := ⟨s.setx 10 0, [], ev⟩) hT (fun W N' h' hT' hN' => (call_none h' x rfl).mono (fun e' w' ⟨he, hm, hr⟩ => ⟨he, hm, hr.more (by omega)⟩)) rfl).mono (fun e' w' ⟨he, hm, hr⟩ => ⟨he, hm, hr⟩)) (fun _ => rfl) (by unfold nextI; rw [if_pos ⟨h115, x⟩]; rfl))
      | cons v l =>
        exact Or.inl (askStep (fun ev => fun w b1 b2 R M B K N hr hT hN => (step_ecall (b2 := b2) hr (by omega) hin (n := n) (d := d) (e := e) (f := f) hd (r' := ⟨s.setx 10 v, l, ev⟩) hT (fun W N' h' hT' hN' => (call_get h' x rfl hT').mono (fun e' w' ⟨he, hm, hr⟩ => ⟨he, hm, hr.more (by omega)⟩)) rfl).mono (fun e' w' ⟨he, hm, hr⟩ => ⟨he, hm, hr⟩)) (fun _ => rfl) (by unfold nextI; rw [if_pos ⟨h115, x⟩]; rfl))
    · exact Or.inl (plainStep (fun ev => fun w b1 b2 R M B K N hr hT hN => (step_ecall (b2 := b2) hr (by omega) hin (n := n) (d := d) (e := e) (f := f) hd (r' := ⟨{ s with state := 1, code := s.x.getD 10 0 }, inp, ev⟩) hT (fun W N' h' hT' hN' => (call_halt h' x).mono (fun e' w' ⟨he, hm, hr⟩ => ⟨he, hm, hr.more (by omega)⟩)) rfl).mono (fun e' w' ⟨he, hm, hr⟩ => ⟨he, hm, hr⟩)) (fun _ => rfl) (fun h => by have := h.2; omega))
    · exact Or.inl (plainStep (fun ev => fun w b1 b2 R M B K N hr hT hN => (step_ecall (b2 := b2) hr (by omega) hin (n := n) (d := d) (e := e) (f := f) hd (r' := ⟨{ s with state := 4 }, inp, ev⟩) hT (fun W N' h' hT' hN' => (call_stack h' x).mono (fun e' w' ⟨he, hm, hr⟩ => ⟨he, hm, hr.more (by omega)⟩)) rfl).mono (fun e' w' ⟨he, hm, hr⟩ => ⟨he, hm, hr⟩)) (fun _ => rfl) (fun h => by have := h.2; omega))
    · exact Or.inl (tellStep (fun ev w b1 b2 R M B K N hr hT hN => (step_ecall (b2 := b2) hr (by omega) hin (n := n) (d := d) (e := e) (f := f) hd (r' := ⟨s, inp, ev ++ [⟨2, 0, s.f.getD 10 0⟩]⟩) hT (fun W N' h' hT' hN' => call_real h' x hN' hT') rfl).mono (fun e' w' ⟨he, hm, hr⟩ => ⟨he, hm, hr⟩)) (fun _ => rfl) (fun h => by have := h.2; omega))
  · obtain rfl : op = 43 := by omega
    by_cases ha : ((s.x.getD e 0 + n) % 4294967296) % 8 = 0 ∧ ((s.x.getD e 0 + n) % 4294967296) + 8 ≤ s.mem.length
    · exact Or.inl (plainStep (fun ev => fun w b1 b2 R M B K N hr hT hN => (step_FLD (b2 := b2) hr (by omega) hin (n := n) (d := d) (e := e) (f := f) hd ha.1 ha.2).mono (fun e' w' ⟨he, hm, hr⟩ => ⟨he, hm, hr.more (by omega)⟩)) (fun _ => rfl) (ask_op hd (by omega)))
    · exact Or.inr ⟨3, by decide, fun ev w b1 R M B K N hr hN => (stop_FLD hr (by omega) hin (n := n) (d := d) (e := e) (f := f) hd ha).mono (fun e' w' ⟨he, hm, hr⟩ => ⟨he, hm, hr.more (by omega)⟩)⟩
  · obtain rfl : op = 44 := by omega
    by_cases ha : ((s.x.getD e 0 + n) % 4294967296) % 8 = 0 ∧ ((s.x.getD e 0 + n) % 4294967296) + 8 ≤ s.mem.length
    · exact Or.inl (plainStep (fun ev => fun w b1 b2 R M B K N hr hT hN => (step_FSD (b2 := b2) hr (by omega) hin (n := n) (d := d) (e := e) (f := f) hd ha.1 ha.2).mono (fun e' w' ⟨he, hm, hr⟩ => ⟨he, hm, hr.more (by omega)⟩)) (fun _ => rfl) (ask_op hd (by omega)))
    · exact Or.inr ⟨3, by decide, fun ev w b1 R M B K N hr hN => (stop_FSD hr (by omega) hin (n := n) (d := d) (e := e) (f := f) hd ha).mono (fun e' w' ⟨he, hm, hr⟩ => ⟨he, hm, hr.more (by omega)⟩)⟩
  · exact Or.inl (plainStep (fun ev => fun w b1 b2 R M B K N hr hT hN => (step_reals (b2 := b2) hr (by omega) hin (n := n) (d := d) (e := e) (f := f) hd (by omega) (fun W N' h' => reals_do (b2 := b2) h' c d e f (by omega) (by omega) (by omega) n) rfl).mono (fun e' w' ⟨he, hm, hr⟩ => ⟨he, hm, hr.more (by omega)⟩)) (fun _ => rfl) (ask_op hd (by omega)))
  · obtain rfl : op = 49 := by omega
    exact Or.inl (plainStep (fun ev => fun w b1 b2 R M B K N hr hT hN => (step_reals (b2 := b2) hr (by omega) hin (n := n) (d := d) (e := e) (f := f) hd (by omega) (fun W N' h' => reals_mv (b2 := b2) h' d e f (by omega) (by omega) (by omega) n) rfl).mono (fun e' w' ⟨he, hm, hr⟩ => ⟨he, hm, hr.more (by omega)⟩)) (fun _ => rfl) (ask_op hd (by omega)))
  · obtain rfl : op = 50 := by omega
    exact Or.inl (plainStep (fun ev => fun w b1 b2 R M B K N hr hT hN => (step_reals (b2 := b2) hr (by omega) hin (n := n) (d := d) (e := e) (f := f) hd (by omega) (fun W N' h' => reals_neg (b2 := b2) h' d e f (by omega) (by omega) (by omega) n) rfl).mono (fun e' w' ⟨he, hm, hr⟩ => ⟨he, hm, hr.more (by omega)⟩)) (fun _ => rfl) (ask_op hd (by omega)))
  · exact Or.inl (plainStep (fun ev => fun w b1 b2 R M B K N hr hT hN => (step_reals (b2 := b2) hr (by omega) hin (n := n) (d := d) (e := e) (f := f) hd (by omega) (fun W N' h' => reals_cmp (b2 := b2) h' c d e f (by omega) (by omega) (by omega) n) rfl).mono (fun e' w' ⟨he, hm, hr⟩ => ⟨he, hm, hr.more (by omega)⟩)) (fun _ => rfl) (ask_op hd (by omega)))
  · obtain rfl : op = 54 := by omega
    exact Or.inl (plainStep (fun ev => fun w b1 b2 R M B K N hr hT hN => (step_reals (b2 := b2) hr (by omega) hin (n := n) (d := d) (e := e) (f := f) hd (by omega) (fun W N' h' => reals_toi (b2 := b2) h' d e f (by omega) (by omega) (by omega) n) rfl).mono (fun e' w' ⟨he, hm, hr⟩ => ⟨he, hm, hr.more (by omega)⟩)) (fun _ => rfl) (ask_op hd (by omega)))
  · obtain rfl : op = 55 := by omega
    exact Or.inl (plainStep (fun ev => fun w b1 b2 R M B K N hr hT hN => (step_reals (b2 := b2) hr (by omega) hin (n := n) (d := d) (e := e) (f := f) hd (by omega) (fun W N' h' => reals_cv (b2 := b2) h' d e f (by omega) (by omega) (by omega) n) rfl).mono (fun e' w' ⟨he, hm, hr⟩ => ⟨he, hm, hr.more (by omega)⟩)) (fun _ => rfl) (ask_op hd (by omega)))
end Go.Proofs.Ytgcihcgclmdolaa
