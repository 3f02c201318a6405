/- CodeDecodes: the law, walked. Condition: the argument is a word. -/
import Derived.Test.YtkmklmpolnkkeaaCodeLawC
import Derived.Test.YtkmklmpolnkkeaaCodeRd
namespace Go.Proofs.Ytkmklmpolnkkeaa
open Go.RowKit Go.Maps Go.Proofs.Ytkmklmpolnkkeaa.PC
set_option linter.unusedVariables false
set_option linter.unusedSimpArgs false
theorem decR_unique {x a b c d g er a' b' c' d' g' er' : Int} (h : DecR x a b c d g er) (h' : DecR x a' b' c' d' g' er') : a = a' ∧ b = b' ∧ c = c' ∧ d = d' ∧ g = g' ∧ er = er' := by
  rcases h with ⟨h1, h2, h3⟩ | ⟨h1, rfl, rfl, rfl, rfl, rfl, h2⟩ <;> rcases h' with ⟨k1, k2, k3⟩ | ⟨k1, rfl, rfl, rfl, rfl, rfl, k2⟩
  · obtain ⟨r1, r2, r3, r4, r5⟩ := ins_one h2 k2 (h3.trans k3.symm)
    exact ⟨r1, r2, r3, r4, r5, h1.trans k1.symm⟩
  · exact absurd ⟨h2, h3⟩ (k2 _ _ _ _ _)
  · exact absurd ⟨k2, k3⟩ (h2 _ _ _ _ _)
  · exact ⟨rfl, rfl, rfl, rfl, rfl, h1.trans k1.symm⟩
/-- The numbers that reading a word gives are numbers of their types. -/
theorem decR_range {x a b c d g er : Int} (h : DecR x a b c d g er) : I64 a ∧ I64 g := by
  rcases h with ⟨_, h2, _⟩ | ⟨_, rfl, rfl, rfl, rfl, rfl, _⟩
  · obtain ⟨f, hf, e, _⟩ := insE_form h2
    obtain ⟨_, r1, r2⟩ := formOf_good hf
    obtain ⟨u1, u2, u3, u4, r1, r2, r3, r4, r5, r6, hfit⟩ := encE_zero e
    refine ⟨by unfold I64; omega, ?_⟩
    unfold I64
    rcases u4 with u | rfl
    · have := hfit u
      unfold fitsK at this
      omega
    · omega
  · unfold I64; omega
set_option maxHeartbeats 1000000 in
theorem codeDecodes_any (x : Int) (hx : 0 ≤ x ∧ x ≤ 4294967295) (w : World) :
    Calls Try.prog 7 #[.int .u32 x] w fun e w' => e = .returned (.bool true) ∧ Kp w w' := by
  go_enter Try.func7, Try.ntmps7
  go_wp2_with fail
  refine Calls.mono (awake03_calls _) ?_
  rintro e w1 ⟨rfl, k1⟩
  go_wp2_with fail
  refine Calls.mono (Decode_calls x hx _) ?_
  rintro e w2 ⟨a, b, c, d, g, er, rfl, k2, hd⟩
  have kk : Aside (Kp w w2) := ⟨k1.trans k2⟩
  have b1 := Aside.mk (Blk.new w2 #[.int .i64 a, .int .i64 b, .int .i64 c, .int .i64 d, .int .i64 g] 23)
  clear k1 k2
  replace hd := Aside.mk hd
  go_wp2_with fail
  refine Calls.mono (rDecode_calls x hx _) ?_
  rintro e w3 ⟨a', b', c', d', g', er', rfl, k3, hd'⟩
  obtain ⟨rfl, rfl, rfl, rfl, rfl, rfl⟩ := decR_unique hd.out hd'
  clear hd'
  replace b1 := Aside.mk (b1.out.kp k3)
  have b2 := Aside.mk (Blk.new w3 #[.int .i64 a, .int .i64 b, .int .i64 c, .int .i64 d, .int .i64 g] 23)
  have kk' : Aside (Kp w w3) := ⟨(kk.out.alloc _).trans k3⟩
  have hsz : Aside (w2.heap.size < w3.heap.size) := ⟨b1.out.lt⟩
  clear k3 kk
  replace b1 := Aside.mk (b1.out.alloc (.cells #[.int .i64 a, .int .i64 b, .int .i64 c, .int .i64 d, .int .i64 g] 23))
  obtain ⟨h1, h2⟩ := decR_range hd.out
  replace kk' := Aside.mk (kk'.out.alloc (.cells #[.int .i64 a, .int .i64 b, .int .i64 c, .int .i64 d, .int .i64 g] 23))
  have kk := kk'
  clear kk'
  obtain ⟨rl, r0, r1, r2, r3, r4, -⟩ := b1.out.five
  obtain ⟨sl, s0, s1, s2, s3, s4, -⟩ := b2.out.five
  have hc : er = 0 ∧ insE a b c d g = 0 ∧ insW a b c d g = x ∨ er = 2 := by
    rcases hd.out with h | h
    · exact Or.inl h
    · exact Or.inr h.1
  clear hd
  rcases hc with ⟨rfl, e1, e2⟩ | rfl
  · have e1' := Aside.mk e1
    go_wp2_with ((go_at_call 10); (refine Calls.mono (Encode_calls a b c d g h1 h2 _) ?_); (rintro e w4 ⟨rfl, k4⟩))
    go_ret
    exact ⟨rfl, kk.out.trans k4⟩
  · go_wp2_with ((go_at_call 10); (refine Calls.mono (Encode_calls a b c d g h1 h2 _) ?_); (rintro e w4 ⟨rfl, k4⟩))
    go_ret
    exact ⟨rfl, kk.out.trans k4⟩
theorem codeDecodes_law (x : Int) (w0 : (Lit.int .u32 x).wf = true) (w : World) : Calls Try.prog 7 #[.int .u32 x] w fun e w' => e = .returned (.bool true) ∧ Below w.heap.size w w' :=
  (codeDecodes_any x (by have := bounds_u32 w0; omega) w).mono fun _ _ ⟨he, hk⟩ => ⟨he, hk.out⟩
end Go.Proofs.Ytkmklmpolnkkeaa
