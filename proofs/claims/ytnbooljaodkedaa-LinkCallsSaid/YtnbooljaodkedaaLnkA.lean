/- Objects: names, symbols, walked. Conditions stand at each. -/
import Derived.Test.YtnbooljaodkedaaProg
import Derived.Test.YtnbooljaodkedaaReg
import Derived.Test.YtnbooljaodkedaaPlainLnkB
namespace Go.Proofs.Ytnbooljaodkedaa
open Go.RowKit Go.Proofs.Ytnbooljaodkedaa.PC Go.Proofs.Ytnbooljaodkedaa.PW
set_option linter.unusedVariables false
set_option linter.unusedSimpArgs false
/-- What is thrown where something is no object. -/
def thrownF : List PanicEntry := [{ v := .iface 29 (.int .i64 2), recovered := false }]
theorem need_ok (w : World) : Calls Try.prog 67 #[.bool true] w fun e w' => e = .returned (.tuple #[]) ∧ w = w' := by
  go_enter Try.func67, Try.ntmps67
  go_wp2
  first | go_end0 | refine bodyPost_ret (results_none rfl _ _ _) rfl ?_
  all_goals exact ⟨rfl, rfl⟩
theorem need_no (w : World) : Calls Try.prog 67 #[.bool false] w fun e w' => e = .panicked thrownF ∧ w = w' := by
  go_enter Try.func67, Try.ntmps67
  go_wp2
  exact ⟨rfl, rfl, rfl⟩
theorem or32 : ∀ c : Fin 256, let x := Go.bits .or .u8 (c.val : Int) 32; (0 ≤ x ∧ x ≤ 255) ∧ ((97 ≤ x ∧ x ≤ 122) ↔ (97 ≤ (c.val : Int) ∧ (c.val : Int) ≤ 122 ∨ 65 ≤ (c.val : Int) ∧ (c.val : Int) ≤ 90)) := by decide +kernel
theorem bytesOf_at (s : ByteArray) (k : Nat) (h : k < s.size) : (bytesOf s).getD k 0 = (s[k].toNat : Int) := by
  have h' : k < s.data.toList.length := by simpa using h
  simp [bytesOf, List.getD_eq_getElem?_getD, List.getElem?_map, List.getElem?_eq_getElem h']
  rfl
theorem bytesOf_len (s : ByteArray) : (bytesOf s).length = s.size := by simp [bytesOf]
theorem name_no {s : ByteArray} (k : Nat) (h : k < s.size) (hc : okC (s[k].toNat : Int) = false) : nameV s = false := by
  have hm : (s[k].toNat : Int) ∈ bytesOf s := by
    rw [← bytesOf_at s k h, List.getD_eq_getElem?_getD, List.getElem?_eq_getElem (by rw [bytesOf_len]; exact h)]
    exact List.getElem_mem _
  have : (bytesOf s).all okC = false := by
    rw [Bool.eq_false_iff]
    intro e
    rw [List.all_eq_true] at e
    rw [e _ hm] at hc
    cases hc
  simp [nameV, this]
theorem name_yes {s : ByteArray} (h1 : 1 ≤ s.size) (h2 : s.size ≤ 40) (h3 : ¬(48 ≤ (s[0].toNat : Int) ∧ (s[0].toNat : Int) ≤ 57)) (h : ∀ k (hk : k < s.size), okC (s[k].toNat : Int) = true) : nameV s = true := by
  have : (bytesOf s).all okC = true := by
    rw [List.all_eq_true]
    intro x hx
    obtain ⟨k, hk, rfl⟩ := List.mem_iff_getElem.1 hx
    rw [bytesOf_len] at hk
    have := bytesOf_at s k hk
    rw [List.getD_eq_getElem?_getD, List.getElem?_eq_getElem (by rw [bytesOf_len]; exact hk)] at this
    simp only [Option.getD_some] at this
    rw [this]
    exact h k hk
  unfold nameV
  rw [this, bytesOf_at s 0 (by omega)]
  simp only [h1, h2, and_self, decide_true, Bool.true_and, Bool.and_true, Bool.not_eq_true', decide_eq_false_iff_not]
  exact h3
set_option maxHeartbeats 4000000 in
theorem Name_calls (s : ByteArray) (hs : s.size ≤ 140737488355328) (w : World) : Calls Try.prog 68 #[.string s] w fun e w' => e = .returned (.bool (nameV s)) ∧ w = w' := by
  by_cases h0 : s.size < 1
  · have hv : nameV s = false := by simp [nameV]; omega
    rw [hv]
    go_enter Try.func68, Try.ntmps68
    go_wp2
    go_ret
    exact ⟨rfl, rfl⟩
  by_cases h1 : 40 < s.size
  · have hv : nameV s = false := by simp [nameV]; omega
    rw [hv]
    go_enter Try.func68, Try.ntmps68
    go_wp2
    go_ret
    exact ⟨rfl, rfl⟩
  have p0 : 0 < s.size := by omega
  have hy := @name_yes s (by omega) (by omega)
  have hn := Aside.mk (@name_no s)
  by_cases hd : 48 ≤ (s[0].toNat : Int) ∧ (s[0].toNat : Int) ≤ 57
  · have hv : nameV s = false := by
      have := bytesOf_at s 0 p0
      unfold nameV
      rw [this]
      have hd2 : (48 : Int) ≤ (s[0].toNat : Int) ∧ (s[0].toNat : Int) ≤ 57 := by omega
      rw [decide_eq_true hd2]
      simp
    rw [hv]
    obtain ⟨d0, d1⟩ := hd
    clear hy hn hv
    go_enter Try.func68, Try.ntmps68
    go_wp2
    go_ret
    exact ⟨rfl, rfl⟩
  replace hy := Aside.mk (hy hd)
  generalize hq : nameV s = q at *
  replace hq := Aside.mk hq
  by_cases hd1 : 48 ≤ (s[0].toNat : Int)
  all_goals
    go_enter Try.func68, Try.ntmps68
    go_wp2
    clear hd
    go_loop [25] (fun i => ∃ k : Nat, k ≤ s.size ∧ i = .int .i64 k ∧ Aside (∀ j (hj : j < s.size), j < k → okC (s[j].toNat : Int) = true)) (fun i => s.size - (intOf i).toNat)
    case atStart => exact ⟨0, Nat.zero_le _, rfl, ⟨fun j _ h => absurd h (by omega)⟩⟩
    case round =>
      obtain ⟨k, hk, rfl, hall⟩ := hrel
      by_cases hlt : k < s.size
      · have ho := or32 ⟨s[k].toNat, UInt8.toNat_lt _⟩
        simp only at ho
        obtain ⟨⟨o0, o1⟩, o2⟩ := ho
        have hno := Aside.mk (hn.out k hlt)
        have hn1 := Aside.mk (show okC (s[k].toNat : Int) = true → ∀ j (hj : j < s.size), j < k + 1 → okC (s[j].toNat : Int) = true from fun hok j hj hjk => by
          by_cases e : j < k
          · exact hall.out j hj e
          · obtain rfl : j = k := by omega
            exact hok)
        have hcb : (s[k].toNat : Int) ≤ 255 := by have := UInt8.toNat_lt s[k]; omega
        replace o2 := Aside.mk o2
        by_cases e95 : (s[k].toNat : Int) = 95
        all_goals by_cases e46 : (s[k].toNat : Int) = 46
        all_goals first
          | (have g95 : ((s[k].toNat : Int) != 95) = false := by rw [e95]; rfl)
          | (have g95 : ((s[k].toNat : Int) != 95) = true := bne_iff_ne.2 e95)
        all_goals first
          | (have g46 : ((s[k].toNat : Int) != 46) = false := by rw [e46]; rfl)
          | (have g46 : ((s[k].toNat : Int) != 46) = true := bne_iff_ne.2 e46)
        all_goals replace e95 := Aside.mk e95
        all_goals replace e46 := Aside.mk e46
        all_goals go_wp2
        all_goals first
          | (go_ret
             have hf : okC (s[k].toNat : Int) = false := by { have := o2.out; have := e95.out; have := e46.out; simp [okC]; omega }
             have hz := hno.out hf
             subst hz
             exact ⟨rfl, rfl⟩)
          | (go_round
             case rel =>
               have hf : okC (s[k].toNat : Int) = true := by { have := o2.out; have := e95.out; have := e46.out; simp [okC]; omega }
               exact ⟨k + 1, by omega, by go_num, ⟨hn1.out hf⟩⟩
             case measure => simp [intOf]; omega)
      · obtain rfl : k = s.size := by omega
        have := hq.out
        have hv := hy.out (fun j hj => hall.out j hj hj)
        go_wp2
        go_ret
        exact ⟨rfl, rfl⟩
end Go.Proofs.Ytnbooljaodkedaa
