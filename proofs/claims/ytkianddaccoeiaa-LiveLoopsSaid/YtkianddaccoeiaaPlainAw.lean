/- The document's example of what is live, by value. No condition. -/
import Derived.Test.YtkianddaccoeiaaPlainClash
namespace Go.Proofs.Ytkianddaccoeiaa.PL
set_option linter.unusedVariables false
set_option linter.unusedSimpArgs false
def ins (op dst a b word to : Int) : InsV := ⟨op, dst, a, b, word, 0, ByteArray.empty, [], to⟩
def awF : FunV := ⟨⟨#[102]⟩, false, [], [1, 1, 1], [], [ins 1 0 0 0 0 0, ins 1 1 0 0 0 0, ins 4 2 0 1 1 0, ins 17 0 2 0 0 0]⟩
theorem awF_ok : awF.ok := by
  refine ⟨fun i hi => ?_, by decide, fun i hi => ?_, fun p hp => by cases hp⟩
  · simp only [awF, List.mem_cons, List.not_mem_nil, or_false] at hi
    rcases hi with rfl | rfl | rfl | rfl
    · exact ⟨by decide, by decide, fun r hr => by simp [InsV.reads, ins] at hr, Or.inr (by unfold inK; decide)⟩
    · exact ⟨by decide, by decide, fun r hr => by simp [InsV.reads, ins] at hr, Or.inr (by unfold inK; decide)⟩
    · refine ⟨by decide, by decide, fun r hr => ?_, Or.inr (by unfold inK; decide)⟩
      simp [InsV.reads, ins] at hr
      unfold inK
      rcases hr with rfl | rfl <;> decide
    · refine ⟨by decide, by decide, fun r hr => ?_, Or.inl (by decide)⟩
      simp [InsV.reads, ins] at hr
      subst hr
      unfold inK
      decide
  · cases hi
    exact Or.inl rfl
def awS (n : Nat) (r : Int) : Bool := decide ((n = 1 ∧ r = 0) ∨ (n = 2 ∧ (r = 0 ∨ r = 1)) ∨ (n = 3 ∧ r = 2))
theorem awS_iff {n : Nat} {r : Int} : awS n r = true ↔ (n = 1 ∧ r = 0) ∨ (n = 2 ∧ (r = 0 ∨ r = 1)) ∨ (n = 3 ∧ r = 2) := by simp [awS]
theorem aw_at {n : Nat} {i : InsV} (h : awF.code[n]? = some i) : (n = 0 ∧ i = ins 1 0 0 0 0 0) ∨ (n = 1 ∧ i = ins 1 1 0 0 0 0) ∨ (n = 2 ∧ i = ins 4 2 0 1 1 0) ∨ (n = 3 ∧ i = ins 17 0 2 0 0 0) := by
  match n, h with
  | 0, h => exact Or.inl ⟨rfl, (Option.some.inj h).symm⟩
  | 1, h => exact Or.inr (Or.inl ⟨rfl, (Option.some.inj h).symm⟩)
  | 2, h => exact Or.inr (Or.inr (Or.inl ⟨rfl, (Option.some.inj h).symm⟩))
  | 3, h => exact Or.inr (Or.inr (Or.inr ⟨rfl, (Option.some.inj h).symm⟩))
theorem aw_closed : Closed awF (fun n r => awS n r = true) := by
  intro n i hi
  rcases aw_at hi with ⟨rfl, rfl⟩ | ⟨rfl, rfl⟩ | ⟨rfl, rfl⟩ | ⟨rfl, rfl⟩
  · refine ⟨fun r hr => by simp [InsV.reads, ins] at hr, fun m hm r hr hne => ?_⟩
    simp [nextI, ins, awF] at hm
    subst hm
    rw [awS_iff] at hr
    simp [InsV.writes, ins] at hne
    omega
  · refine ⟨fun r hr => by simp [InsV.reads, ins] at hr, fun m hm r hr hne => ?_⟩
    simp [nextI, ins, awF] at hm
    subst hm
    rw [awS_iff] at hr ⊢
    simp [InsV.writes, ins] at hne
    omega
  · refine ⟨fun r hr => ?_, fun m hm r hr hne => ?_⟩
    · simp [InsV.reads, ins] at hr
      rw [awS_iff]
      omega
    · simp [nextI, ins, awF] at hm
      subst hm
      rw [awS_iff] at hr ⊢
      simp [InsV.writes, ins] at hne
      omega
  · refine ⟨fun r hr => ?_, fun m hm => ?_⟩
    · simp [InsV.reads, ins] at hr
      rw [awS_iff]
      omega
    · simp [nextI, ins] at hm
theorem aw_sound : ∀ n r, awS n r = true → LiveP awF n r := by
  have h2 : ∀ r, (r = 0 ∨ r = 1) → LiveP awF 2 r := fun r hr => ((live_closed awF) 2 _ rfl).1 r (by simp [InsV.reads, ins]; omega)
  intro n r h
  rw [awS_iff] at h
  rcases h with ⟨rfl, rfl⟩ | ⟨rfl, h⟩ | ⟨rfl, rfl⟩
  · exact ((live_closed awF) 1 _ rfl).2 2 (by simp [nextI, ins, awF]) 0 (h2 0 (Or.inl rfl)) (by simp [InsV.writes, ins])
  · exact h2 r h
  · exact ((live_closed awF) 3 _ rfl).1 2 (by simp [InsV.reads, ins])
theorem aw_live : liveB awF = awS := by
  funext n r
  exact (live_eq aw_sound aw_closed n r).symm
def awC (x y : Int) : Bool := decide (x = 0 ∧ y = 1)
theorem aw_behind {n : Nat} {i : InsV} {r : Int} (hi : awF.code[n]? = some i) (h : behindB awF n i r = true) : (n = 0 ∧ r = 0) ∨ (n = 1 ∧ (r = 0 ∨ r = 1)) ∨ (n = 2 ∧ r = 2) := by
  unfold behindB at h
  rw [aw_live] at h
  obtain ⟨m, hm, hr⟩ := List.any_eq_true.1 h
  rcases aw_at hi with ⟨rfl, rfl⟩ | ⟨rfl, rfl⟩ | ⟨rfl, rfl⟩ | ⟨rfl, rfl⟩
  · simp [nextI, ins, awF] at hm
    subst hm
    rw [awS_iff] at hr
    simp at hr
    omega
  · simp [nextI, ins, awF] at hm
    subst hm
    rw [awS_iff] at hr
    simp at hr
    omega
  · simp [nextI, ins, awF] at hm
    subst hm
    rw [awS_iff] at hr
    simp at hr
    omega
  · simp [nextI, ins] at hm
theorem aw_clash : clashB awF = awC := by
  funext x y
  refine (clash_eq (S := awC) (fun x y h => ?_) (fun a b ha hb hs => ?_) x y).symm
  · simp only [awC, decide_eq_true_eq] at h
    obtain ⟨rfl, rfl⟩ := h
    refine ⟨by unfold inK; decide, by unfold inK; decide, by decide, by decide, Or.inr (Or.inl ⟨1, _, rfl, by decide, ?_, Or.inl (by decide)⟩)⟩
    unfold behindB
    rw [aw_live]
    decide
  · intro hne _
    rcases hs with ⟨n, i, hi, hw, hbh, -⟩ | ⟨h1, -⟩
    · have hb2 := aw_behind hi hbh
      unfold inK at ha
      have hw2 : (n = 0 ∧ a = 0) ∨ (n = 1 ∧ a = 1) ∨ (n = 2 ∧ a = 2) := by
        rcases aw_at hi with ⟨rfl, rfl⟩ | ⟨rfl, rfl⟩ | ⟨rfl, rfl⟩ | ⟨rfl, rfl⟩ <;> simp [InsV.writes, ins] at hw <;> omega
      have : a = 1 ∧ b = 0 := by omega
      obtain ⟨rfl, rfl⟩ := this
      decide
    · exfalso
      rcases h1 with h1 | h1
      · rw [aw_live, awS_iff] at h1
        omega
      · cases h1
theorem aw_list : listP 3 (clashB awF) = [(0, 1)] := by
  rw [aw_clash]
  decide
end Go.Proofs.Ytkianddaccoeiaa.PL
