/- The keys of a set of numbers, collected. Conditions stand at each. -/
import Derived.Test.YtkianddaccoeiaaLivK
namespace Go.Proofs.Ytkianddaccoeiaa
open Go.RowKit Go.Maps Go.Sort Go.Shelf Go.Proofs.Ytkianddaccoeiaa.PL
set_option linter.unusedVariables false
set_option linter.unusedSimpArgs false
theorem keysI_calls (b : Nat) (w : World) : Calls Try.prog 19 #[.map (some b)] w fun e w' => e = .returned (.func (.func 38) #[] #[.pointer (some ⟨w.heap.size, 0, none⟩)]) ∧ w.alloc (.cells #[.map (some b)] 53) = w' :=
  (callsIn_wide (n := 5)).1 ((AnyZI.keys_in Try.keysA Fence.wide 5 trivial rfl (some b) w).mono fun _ _ ⟨he, hw⟩ => ⟨he, hw.symm⟩)
theorem keys_eqI {D : DataW Value} : Go.intKeys D = intKs D := by
  cases D <;> rfl
/-- The numbers of a set, in order. -/
def listI (K : Nat) (S : Int → Bool) : List Int := ((List.range K).map fun r : Nat => (r : Int)).filter S
theorem collectI_calls {w : World} {b Bm K : Nat} {S : Int → Bool} (h : SetAt w b K S) (hK : K ≤ 10000) (hm : w.cell? ⟨Bm, 0, none⟩ = some (.map (some b))) :
    Calls Try.prog 24 #[.func (.func 38) #[] #[.pointer (some ⟨Bm, 0, none⟩)]] w fun e w' => ∃ v ss, e = .returned v ∧ ss.Perm (listI K S) ∧ w'.ownsRow w.heap.size 3 1 v ss.length (ss.map (Value.int .i64)) ∧ (v = .slice none 0 0 ↔ ss = []) ∧ Kp w w' := by
  obtain ⟨_, _, eBm, hBm⟩ := cell_some hm
  cases eBm
  obtain ⟨D, hown, hS, hb⟩ := h
  obtain ⟨hp, hsz⟩ := SetAt.keys hown hS hb
  have hle := card_le K S
  have e38 : ∀ args w, (callFunc 38 args).run Try.prog w = .ok (.enter 38 args) w := enters_of Try.func38 (by kernel_rfl) rfl
  have hseq : SeqGives Fence.wide 3 Try.prog 38 #[.pointer (some ⟨Bm, 0, none⟩)] encZ (fun ss => ss.Perm (Go.intKeys D)) (Maps.size D) w :=
    AnyZI.keys_gives (ρ := Try.keysA_ren) { Try.keysA with } Fence.wide _ trivial rfl (by omega) Bm b _ D w hBm hm hown
  have hc := AnyZI.collect_in Try.collA Fence.wide 5 trivial trivial rfl (by omega) 38 #[.pointer (some ⟨Bm, 0, none⟩)] trivial e38 _ (Maps.size D) (by rw [hsz]; unfold maxLen; omega) (by rw [hsz]; omega) w hseq
  refine (callsIn_wide (n := 5)).1 (hc.mono ?_)
  rintro e w' ⟨v, ss, he, hss, hrow, hnil, hbl⟩
  rw [keys_eqI] at hss
  exact ⟨v, ss, he, hss.trans hp, hrow, hnil, ⟨hbl⟩⟩
theorem keysI2_calls (b : Nat) (w : World) (hb : b < w.heap.size) : Calls Try.prog 19 #[.map (some b)] w fun e w' => e = .returned (.func (.func 38) #[] #[.pointer (some ⟨w.heap.size, 0, none⟩)]) ∧ Kp w w' ∧ w'.cell? ⟨w.heap.size, 0, none⟩ = some (.map (some b)) :=
  (keysI_calls b w).mono fun _ _ ⟨he, hw⟩ => by
    subst hw
    exact ⟨he, (Kp.refl w).alloc _, (Blk.new w #[.map (some b)] 53).cell 0⟩
theorem keysP2_calls (b : Nat) (w : World) : Calls Try.prog 26 #[.map (some b)] w fun e w' => e = .returned (.func (.func 44) #[] #[.pointer (some ⟨w.heap.size, 0, none⟩)]) ∧ Kp w w' ∧ w'.cell? ⟨w.heap.size, 0, none⟩ = some (.map (some b)) :=
  (callsIn_wide (n := 5)).1 ((keysP_in 5 (some b) w).mono fun _ _ ⟨he, hw⟩ => by
    subst hw
    exact ⟨he, (Kp.refl w).alloc _, (Blk.new w #[.map (some b)] 57).cell 0⟩)
/-- A row of the call's own that holds numbers. -/
theorem own_ints {w : World} {base n : Nat} {v : Value} {l : List Int} (h : w.ownsRow base 3 1 v n (l.map (Value.int .i64))) (hn : n = l.length) : ∃ A c, v = .slice A n c ∧ IntsAt w A l ∧ ∀ g off, A = some ⟨g, off, none⟩ → base ≤ g := by
  subst hn
  rcases h.2 with ⟨h1, h2⟩ | ⟨g, cap, cur, h1, h2, h3, h4, h5, h6, h7⟩
  · refine ⟨none, 0, by rw [h1, h2], fun hne => absurd (List.eq_nil_of_length_eq_zero h2) hne, fun g off e => by cases e⟩
  · refine ⟨_, cap, h1, fun _ => ⟨g, 0, rfl, (Array.getElem?_eq_some_iff.1 h3).1, fun i hi => ?_⟩, fun g' off e => by cases e; exact h2⟩
    have e : cur[i]? = some (.int .i64 (l.getD i 0)) := by
      have := congrArg (fun L => L[i]?) h7
      simp only [List.getElem?_take] at this
      rw [if_pos (by omega), List.getElem?_map, List.getElem?_eq_getElem hi] at this
      rw [List.getD_eq_getElem?_getD, List.getElem?_eq_getElem hi]
      simpa using this
    rw [Nat.zero_add]
    simp [World.cell?, h3, e]
theorem listI_mem {K : Nat} {S : Int → Bool} (h : ∀ x, S x = true → 0 ≤ x ∧ x < K) (x : Int) : x ∈ listI K S ↔ S x = true := mem_below h x
set_option maxRecDepth 100000 in
theorem info_int : ∃ i z, Try.prog.info? 3 = some i ∧ i.zero = some z ∧ i.size = 1 ∧ i.bytes = 8 ∧ z.cells.size = 1 := ⟨_, _, rfl, rfl, rfl, rfl, rfl⟩
end Go.Proofs.Ytkianddaccoeiaa
