/- The registers that are live, in order, walked. Conditions stand at each. -/
import Derived.Test.YtkianddaccoeiaaLivM
import Derived.Test.YtkianddaccoeiaaLaidS
namespace Go.Proofs.Ytkianddaccoeiaa
open Go.RowKit Go.Maps Go.Sort Go.Shelf Go.Proofs.Ytkianddaccoeiaa.PL
set_option linter.unusedVariables false
set_option linter.unusedSimpArgs false
theorem sortsI (m : Nat) : AnyZI.SortsIn Try.prog Try.sortedA_ren Fence.wide m :=
  ⟨fun blk off cap ss W hH hblk hsz => callsIn_wide.2 (AnyM.slices_Sort_int Try.sortA blk off cap ss W hH hblk hsz),
   fun p cap W => callsIn_wide.2 (AnyM.slices_Sort_int_none Try.sortA p cap W)⟩
theorem listI_sorted (K : Nat) (S : Int → Bool) : (listI K S).Pairwise (fun x y => decide (x ≤ y) = true) := by
  unfold listI
  refine List.Pairwise.filter _ ?_
  rw [List.pairwise_map]
  refine List.Pairwise.imp (R := fun a b => a < b) (fun h => by rw [decide_eq_true_eq]; omega) List.pairwise_lt_range
theorem sort_listI {K : Nat} {S : Int → Bool} {l : List Int} (h : l.Perm (listI K S)) : l.mergeSort (fun x y => decide (x ≤ y)) = listI K S := by
  refine List.Perm.eq_of_pairwise (le := fun x y => decide (x ≤ y) = true) (fun p q _ _ h1 h2 => ?_) ?_ (listI_sorted K S) ((List.mergeSort_perm l _).trans h)
  · rw [decide_eq_true_eq] at h1 h2
    omega
  · exact List.pairwise_mergeSort (le := fun x y : Int => decide (x ≤ y)) (fun a b c h1 h2 => by rw [decide_eq_true_eq] at *; omega) (fun a b => by rw [Bool.or_eq_true, decide_eq_true_eq, decide_eq_true_eq]; omega) l
set_option maxHeartbeats 1000000 in
theorem sortedI_calls {w : World} {b Bm K : Nat} {S : Int → Bool} (h : SetAt w b K S) (hK : K ≤ 10000) (hm : w.cell? ⟨Bm, 0, none⟩ = some (.map (some b))) :
    Calls Try.prog 18 #[.func (.func 38) #[] #[.pointer (some ⟨Bm, 0, none⟩)]] w (fun e w' => ∃ A c, e = .returned (.slice A (listI K S).length c) ∧ IntsAt w' A (listI K S) ∧ (∀ g off, A = some ⟨g, off, none⟩ → w.heap.size ≤ g) ∧ w'.ownsRow w.heap.size 3 1 (.slice A (listI K S).length c) (listI K S).length ((listI K S).map (Value.int .i64)) ∧ Kp w w') := by
  obtain ⟨_, _, eBm, hBm⟩ := cell_some hm
  cases eBm
  obtain ⟨D, hown, hS, hb⟩ := h
  obtain ⟨hp, hsz⟩ := SetAt.keys hown hS hb
  have hle := card_le K S
  have e38 : ∀ args w, (callFunc 38 args).run Try.prog w = .ok (.enter 38 args) w := enters_of Try.func38 (by kernel_rfl) rfl
  have e37 : ∀ args w, (callFunc 37 args).run Try.prog w = .ok (.enter 37 args) w := enters_of Try.func37 (by kernel_rfl) rfl
  have hseq : SeqGives Fence.wide 2 Try.prog 38 #[.pointer (some ⟨Bm, 0, none⟩)] encZ (fun ss => ss.Perm (Go.intKeys D)) (Maps.size D) w :=
    AnyZI.keys_gives (ρ := Try.keysA_ren) { Try.keysA with } Fence.wide _ trivial rfl (by omega) Bm b _ D w hBm hm hown
  have cS := AnyZI.sorted_in Try.sortedA Fence.wide 5 trivial trivial trivial trivial rfl (by omega) (sortsI _) e37 38 #[.pointer (some ⟨Bm, 0, none⟩)] trivial e38 _ (Maps.size D) (by rw [hsz]; unfold maxLen; omega) (by rw [hsz]; omega) w hseq
  refine (callsIn_wide (n := 5)).1 (cS.mono ?_)
  rintro e w' ⟨v, ss, rfl, hss, hrow, hnil, hbl⟩
  rw [keys_eqI] at hss
  have hpl : ss.Perm (listI K S) := hss.trans hp
  rw [sort_listI hpl, hpl.length_eq] at hrow
  obtain ⟨A, c, rfl, hA, hg⟩ := own_ints hrow rfl
  exact ⟨A, c, rfl, hA, hg, hrow, ⟨hbl⟩⟩
end Go.Proofs.Ytkianddaccoeiaa
