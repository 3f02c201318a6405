/- Plain law of reading a word back. No condition. -/
import Derived.Test.YtgcihcgclmdolaaCodeB
namespace Go.Proofs.Ytgcihcgclmdolaa.PC
/-- Whether a word is of this instruction's number. -/
def Hit (op x : Int) : Prop := ∃ f, formOf op = some f ∧ encE f (cRd f x) (cRs1 f x) (cRs2 f x) (cImm f x) = 0 ∧ encW f (cRd f x) (cRs1 f x) (cRs2 f x) (cImm f x) = x
theorem hit_of {op rd rs1 rs2 n x : Int} (h : insE op rd rs1 rs2 n = 0) (hw : insW op rd rs1 rs2 n = x) : ∃ f, formOf op = some f ∧ f.sig x ∧ cRd f x = rd ∧ cRs1 f x = rs1 ∧ cRs2 f x = rs2 ∧ cImm f x = n ∧ encE f rd rs1 rs2 n = 0 ∧ encW f rd rs1 rs2 n = x := by
  obtain ⟨f, e1, e2, e3⟩ := insE_form h
  obtain ⟨_, _, a1, a2, a3, a4, as⟩ := back (formOf_good e1).1 e2
  rw [e3] at hw
  rw [hw] at a1 a2 a3 a4 as
  exact ⟨f, e1, as, a1, a2, a3, a4, e2, hw⟩
theorem hit_mk {op rd rs1 rs2 n x : Int} (h : insE op rd rs1 rs2 n = 0) (hw : insW op rd rs1 rs2 n = x) : Hit op x := by
  obtain ⟨f, e1, as, a1, a2, a3, a4, e2, e3⟩ := hit_of h hw
  exact ⟨f, e1, by rw [a1, a2, a3, a4]; exact e2, by rw [a1, a2, a3, a4]; exact e3⟩
theorem hit_sig {op x : Int} {f : Fm} (hf : formOf op = some f) (h : Hit op x) : f.sig x ∧ encE f (cRd f x) (cRs1 f x) (cRs2 f x) (cImm f x) = 0 ∧ encW f (cRd f x) (cRs1 f x) (cRs2 f x) (cImm f x) = x := by
  obtain ⟨g, e1, e2, e3⟩ := h
  rw [hf] at e1
  obtain rfl := Option.some.inj e1
  obtain ⟨_, _, _, _, _, _, as⟩ := back (formOf_good hf).1 e2
  rw [e3] at as
  exact ⟨as, e2, e3⟩
/-- What reading a word comes to. -/
def DecR (x op rd rs1 rs2 n er : Int) : Prop :=
  er = 0 ∧ insE op rd rs1 rs2 n = 0 ∧ insW op rd rs1 rs2 n = x ∨ er = 2 ∧ op = 0 ∧ rd = 0 ∧ rs1 = 0 ∧ rs2 = 0 ∧ n = 0 ∧ ∀ o a b c d, ¬(insE o a b c d = 0 ∧ insW o a b c d = x)
theorem decR_none {x : Int} (h : ∀ op f, formOf op = some f → ¬Hit op x) : DecR x 0 0 0 0 0 2 := by
  refine Or.inr ⟨rfl, rfl, rfl, rfl, rfl, rfl, ?_⟩
  rintro o a b c d ⟨h1, h2⟩
  obtain ⟨f, e1, _⟩ := insE_form h1
  exact h o f e1 (hit_mk h1 h2)
theorem insE_some {op rd rs1 rs2 n : Int} {f : Fm} (hf : formOf op = some f) : insE op rd rs1 rs2 n = encE f rd rs1 rs2 n ∧ (encE f rd rs1 rs2 n = 0 → insW op rd rs1 rs2 n = encW f rd rs1 rs2 n) := by
  refine ⟨by simp [insE, hf], fun h => by simp [insW, hf, h]⟩
theorem no_hit {op x : Int} {f : Fm} (hf : formOf op = some f) (h : ¬(insE op (cRd f x) (cRs1 f x) (cRs2 f x) (cImm f x) = 0 ∧ insW op (cRd f x) (cRs1 f x) (cRs2 f x) (cImm f x) = x)) : ¬Hit op x := by
  intro hh
  obtain ⟨_, e2, e3⟩ := hit_sig hf hh
  obtain ⟨h1, h2⟩ := insE_some (rd := cRd f x) (rs1 := cRs1 f x) (rs2 := cRs2 f x) (n := cImm f x) hf
  exact h ⟨h1.trans e2, (h2 e2).trans e3⟩
theorem no_hit_op {op x : Int} {f : Fm} (hf : formOf op = some f) (h : ¬f.op = x % 128) : ¬Hit op x := fun hh => h (hit_sig hf hh).1.1.symm
theorem immOf_range {k x : Int} (hx : 0 ≤ x ∧ x ≤ 4294967295) : -9223372036854775808 ≤ immOf k x ∧ immOf k x ≤ 9223372036854775807 := by
  unfold immOf
  split
  · split <;> omega
  split
  · omega
  split
  · split <;> omega
  split
  · omega
  split
  · omega
  split
  · omega
  · omega
theorem cImm_none {f : Fm} (hf : f.good) (h : ¬f.uImm) (x : Int) : cImm f x = 0 := by
  unfold cImm immOf
  unfold Fm.uImm at h
  have := hf.2.2.2.2.2.2
  rw [if_neg (by omega), if_neg (by omega), if_neg (by omega), if_neg (by omega), if_neg (by omega), if_neg (by omega)]
end Go.Proofs.Ytgcihcgclmdolaa.PC
