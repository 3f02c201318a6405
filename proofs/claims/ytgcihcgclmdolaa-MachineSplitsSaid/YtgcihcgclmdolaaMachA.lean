/- The machine's bytes: at, number, put, up, walked. Conditions stand at each. -/
import Derived.Test.YtgcihcgclmdolaaMachD
import Derived.Test.YtgcihcgclmdolaaWordWalks
import Derived.WalkLawsBesides
namespace Go.Proofs.Ytgcihcgclmdolaa
open Go.RowKit Go.Maps Go.Proofs.Ytgcihcgclmdolaa.PC Go.Proofs.Ytgcihcgclmdolaa.PW
set_option linter.unusedVariables false
set_option linter.unusedSimpArgs false
/-- What is thrown by a step. -/
def thrown (n : Int) : List PanicEntry := [{ v := .iface 90 (.int .i64 n), recovered := false }]
set_option maxHeartbeats 1000000 in
theorem at_ok {w : World} {M B K N : Nat} {s : MS} (hm : Mac w M B K s N) (a n : Int) (ha : U a) (hn : 1 ≤ n ∧ n ≤ 8) (h1 : a % n = 0) (h2 : a + n ≤ s.mem.length) :
    Calls Try.prog 49 #[.pointer (some ⟨M, 0, none⟩), .int .u32 a, .int .i64 n] w fun e w' => e = .returned (.slice (some ⟨B, a.toNat, none⟩) n.toNat (s.mem.length - a.toNat)) ∧ w = w' := by
  obtain ⟨lm, lb, c0, -⟩ := hm.facts
  have ha' : 0 ≤ a ∧ a ≤ 4294967295 := ha
  have hl := hm.ok.lm
  replace hm := Aside.mk hm
  obtain ⟨A, rfl⟩ := Int.eq_ofNat_of_zero_le ha'.1
  obtain ⟨n', rfl⟩ := Int.eq_ofNat_of_zero_le (show 0 ≤ n by omega)
  have h3 : (((A : Int) % (n' : Int)) == 0) = true := by simpa using h1
  have h4 : (((A : Int) % (n' : Int)) != 0) = false := by simpa using h1
  go_enter Try.func49, Try.ntmps49
  go_wp2
  go_ret
  refine ⟨?_, rfl⟩
  show Ending.returned (Value.slice (some ⟨B, A, none⟩) (A + n' - A) (s.mem.length - A)) = _
  rw [Nat.add_sub_cancel_left]
  rfl
set_option maxHeartbeats 1000000 in
theorem at_bad {w : World} {M B K N : Nat} {s : MS} (hm : Mac w M B K s N) (a n : Int) (ha : U a) (hn : 1 ≤ n ∧ n ≤ 8) (h : ¬(a % n = 0 ∧ a + n ≤ s.mem.length)) :
    Calls Try.prog 49 #[.pointer (some ⟨M, 0, none⟩), .int .u32 a, .int .i64 n] w fun e w' => e = .panicked (thrown 3) ∧ w = w' := by
  obtain ⟨lm, lb, c0, -⟩ := hm.facts
  have ha' : 0 ≤ a ∧ a ≤ 4294967295 := ha
  have hl := hm.ok.lm
  replace hm := Aside.mk hm
  by_cases h1 : a % n = 0
  · have h2 : (s.mem.length : Int) < a + n := by omega
    clear h
    go_enter Try.func49, Try.ntmps49
    go_wp2
    exact ⟨rfl, rfl, rfl⟩
  · clear h
    go_enter Try.func49, Try.ntmps49
    go_wp2
    exact ⟨rfl, rfl, rfl⟩
theorem shift8 (k : Nat) : (2 : Int) ^ (8 * k) = 256 ^ k := by rw [Int.pow_mul]; rfl
set_option maxHeartbeats 1000000 in
theorem number_still {w : World} {B : Nat} {mem : List Int} (hb : Blk w B (memC mem) 5) (hm : ∀ b ∈ mem, Byte b) (a n c : Nat) (hn : n ≤ 8) (h : a + n ≤ mem.length) :
    Calls Try.prog 48 #[.slice (some ⟨B, a, none⟩) n c] w fun e w' => e = .returned (.int .u64 (getN mem a n)) ∧ w' = w := by
  have hbl := hb.lt
  replace hb := Aside.mk hb
  replace hm := Aside.mk hm
  go_enter Try.func48, Try.ntmps48
  go_wp2
  go_loopw [3, 8] (fun v i wr => ∃ k : Nat, k ≤ n ∧ i = .int .i64 k ∧ v = .int .u64 (getN mem a k) ∧ wr = w) (fun _ i _ => n - (intOf i).toNat)
  case atStart => exact ⟨0, Nat.zero_le _, rfl, rfl, rfl⟩
  case round =>
    obtain ⟨k, hk, rfl, rfl, rfl⟩ := hrel
    by_cases hlt : k < n
    · have hc : wr.cell? ⟨B, a + k, none⟩ = some (.int .u8 (mem.getD (a + k) 0)) := by
        exact (hb.out.cell _).trans (memC_at mem _ (by omega))
      have hbt := byte_getD hm.out (a + k)
      have hr := getN_range hm.out a k
      have ho := or_u64 k (by omega) hr hbt
      have hs := byte_shl k (by omega) hbt
      have hge : getN mem a (k + 1) = getN mem a k + mem.getD (a + k) 0 * 256 ^ k := rfl
      replace ho := Aside.mk ho
      replace hs := Aside.mk hs
      replace hge := Aside.mk hge
      clear hr
      generalize hB : mem.getD (a + k) 0 = byt at *
      clear hB
      generalize getN mem a k = g at *
      have hby : 0 ≤ byt ∧ byt ≤ 255 := hbt
      clear hbt
      go_wp2
      go_roundw
      case rel => exact ⟨k + 1, by omega, by go_num, by rw [shift8, IntKind.wrap_u64, hs.out, ho.out, hge.out], trivial⟩
      case measure => simp [intOf]; omega
    · obtain rfl : n = k := by omega
      go_wp2
      go_ret
      exact ⟨rfl, rfl⟩
theorem number_calls {w : World} {B : Nat} {mem : List Int} (hb : Blk w B (memC mem) 5) (hm : ∀ b ∈ mem, Byte b) (a n c : Nat) (hn : n ≤ 8) (h : a + n ≤ mem.length) :
    Calls Try.prog 48 #[.slice (some ⟨B, a, none⟩) n c] w fun e w' => e = .returned (.int .u64 (getN mem a n)) ∧ Dr w w' :=
  (number_still hb hm a n c hn h).mono fun _ _ ⟨he, hw⟩ => ⟨he, by rw [hw]; exact Dr.refl _⟩
set_option maxHeartbeats 1000000 in
theorem bput_calls {w : World} {B : Nat} {mem : List Int} (hb : Blk w B (memC mem) 5) (a n c : Nat) (v : Int) (hv : U64 v) (hn : n ≤ 8) (h : a + n ≤ mem.length) :
    Calls Try.prog 54 #[.slice (some ⟨B, a, none⟩) n c, .int .u64 v] w fun e w' => e = .returned (.tuple #[]) ∧ Mod (fun k => k = B) w w' ∧ Blk w' B (memC (putN mem a v n)) 5 := by
  have hv' : 0 ≤ v ∧ v ≤ 18446744073709551615 := hv
  have hbl := hb.lt
  replace hb := Aside.mk hb
  go_enter Try.func54, Try.ntmps54
  go_wp2
  go_loopw [7] (fun i wr => ∃ k : Nat, k ≤ n ∧ i = .int .i64 k ∧ Mod (fun k => k = B) w wr ∧ Blk wr B (memC (putN mem a v k)) 5) (fun i _ => n - (intOf i).toNat)
  case atStart => exact ⟨0, Nat.zero_le _, rfl, Mod.refl _ _, hb.out⟩
  case round =>
    obtain ⟨k, hk, rfl, hd, hbk⟩ := hrel
    have hle : B < wr.heap.size := hbk.lt
    have hlen := putN_length mem a v k
    replace hd := Aside.mk hd
    by_cases hlt : k < n
    · have hc := (hbk.cell (a + k)).trans (memC_at _ (a + k) (by omega))
      have hf := hbk.frozen (a + k)
      replace hlen := Aside.mk hlen
      replace hbk := Aside.mk hbk
      have hdiv : Aside (0 ≤ v / 256 ^ k) := ⟨Int.ediv_nonneg hv'.1 (Int.le_of_lt (pow256 k))⟩
      go_wp2
      go_roundw
      case rel =>
        refine ⟨k + 1, by omega, by go_num, hd.out.setCell rfl _, ?_⟩
        have h1 := hbk.out.set (i := a + k) (Value.int .u8 (v / 256 ^ k % 256))
        rw [memC_set] at h1
        rw [shift8]
        exact h1
      case measure => simp [intOf]; omega
    · obtain rfl : n = k := by omega
      replace hlen := Aside.mk hlen
      replace hbk := Aside.mk hbk
      go_wp2
      go_end0
      exact ⟨rfl, hd.out, hbk.out⟩
end Go.Proofs.Ytgcihcgclmdolaa
