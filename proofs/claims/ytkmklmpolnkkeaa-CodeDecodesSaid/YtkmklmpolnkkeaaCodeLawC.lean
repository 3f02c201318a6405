/- CodeEncodes: the law, walked. Condition: the arguments are numbers of their types. -/
import Derived.Test.YtkmklmpolnkkeaaCodeLawA
import Derived.Test.YtkmklmpolnkkeaaCodeReZ
import Derived.Test.YtkmklmpolnkkeaaCodeD
namespace Go.Proofs.Ytkmklmpolnkkeaa
open Go.RowKit Go.Maps Go.Proofs.Ytkmklmpolnkkeaa.PC
set_option linter.unusedVariables false
set_option linter.unusedSimpArgs false
theorem insW_range (op rd rs1 rs2 n : Int) : 0 ≤ insW op rd rs1 rs2 n ∧ insW op rd rs1 rs2 n ≤ 4294967295 := by
  by_cases h : insE op rd rs1 rs2 n = 0
  · obtain ⟨f, e1, e2, e3⟩ := insE_form h
    have := back (formOf_good e1).1 e2
    rw [e3]
    omega
  · have : insW op rd rs1 rs2 n = 0 := by
      unfold insW
      unfold insE at h
      cases hf : formOf op with
      | none => rfl
      | some f =>
        rw [hf] at h
        simp only at h
        simp [h]
    omega
/-- What reading a word that is an instruction's comes to. -/
theorem decR_of {op rd rs1 rs2 n a b c d g er : Int} (h : insE op rd rs1 rs2 n = 0) (hd : DecR (insW op rd rs1 rs2 n) a b c d g er) : er = 0 ∧ a = op ∧ b = rd ∧ c = rs1 ∧ d = rs2 ∧ g = n := by
  rcases hd with ⟨h1, h2, h3⟩ | ⟨_, _, _, _, _, _, h2⟩
  · obtain ⟨r1, r2, r3, r4, r5⟩ := ins_one h2 h h3
    exact ⟨h1, r1, r2, r3, r4, r5⟩
  · exact absurd ⟨h, rfl⟩ (h2 op rd rs1 rs2 n)
set_option maxHeartbeats 1000000 in
theorem codeEncodes_any (op rd rs1 rs2 n : Int) (h1 : I64 op) (h2 : I64 n) (w : World) :
    Calls Try.prog 6 #[.agg #[.int .i64 op, .int .i64 rd, .int .i64 rs1, .int .i64 rs2, .int .i64 n]] w fun e w' => e = .returned (.bool true) ∧ Kp w w' := by
  have hx := insW_range op rd rs1 rs2 n
  go_enter Try.func6, Try.ntmps6
  go_wp2_with fail
  refine Calls.mono (awake03_calls _) ?_
  rintro e w1 ⟨rfl, k1⟩
  have b1 := Aside.mk ((Blk.new _ _ _).kp k1)
  have kk : Aside (Kp w w1) := ⟨((Kp.refl w).alloc _).trans k1⟩
  clear k1
  obtain ⟨x, x0, x1, x2, x3, x4, -⟩ := b1.out.five
  go_wp2_with fail
  refine Calls.mono (Encode_calls op rd rs1 rs2 n h1 h2 _) ?_
  rintro e w2 ⟨rfl, k2⟩
  replace kk : Aside (Kp w w2) := ⟨kk.out.trans k2⟩
  replace b1 := Aside.mk (b1.out.kp k2)
  clear k2 x x0 x1 x2 x3 x4
  obtain ⟨x, x0, x1, x2, x3, x4, -⟩ := b1.out.five
  go_wp2_with fail
  refine Calls.mono (rEncode_calls op rd rs1 rs2 n h2 _) ?_
  rintro e w3 ⟨rfl, k3⟩
  replace kk : Aside (Kp w w3) := ⟨kk.out.trans k3⟩
  replace b1 := Aside.mk (b1.out.kp k3)
  clear k3 x x0 x1 x2 x3 x4
  by_cases e1 : insE op rd rs1 rs2 n = 0
  · have he := Aside.mk e1
    go_wp2_with fail
    refine Calls.mono (Decode_calls _ hx _) ?_
    rintro e w4 ⟨a, b, c, d, g, er, rfl, k4, hd⟩
    obtain ⟨rfl, rfl, rfl, rfl, rfl, rfl⟩ := decR_of he.out hd
    have kk' : Aside (Kp w w4) := ⟨kk.out.trans k4⟩
    replace b1 := Aside.mk (b1.out.kp k4)
    clear k4 hd
    obtain ⟨x, x0, x1, x2, x3, x4, -⟩ := b1.out.five
    go_wp2
    go_ret
    exact ⟨rfl, kk'.out.alloc _⟩
  · go_wp2
    go_ret
    exact ⟨rfl, kk.out⟩
section
variable {H : Type} {enc : TypeId × Value → H} {W : World} {base : Nat}
open Go.WideShapes Go.ChangeShapes in
theorem codeEncodes_law {v0 : Value} {d0 : DataW H} {p0 : List MemPlace} (hv0 : Value.okWide Try.prog W .any base 23 v0) (h0 : DataW.Trod enc Try.prog W 0 (fun _ => true) true 23 v0 d0 p0) :
    Calls Try.prog 6 #[v0] W fun e w' => e = .returned (.bool true) ∧ Below W.heap.size W w' := by
  obtain ⟨op, rd, rs1, rs2, n, rfl, i0, i1, i2, i3, i4⟩ := instr_open hv0 h0
  exact (codeEncodes_any op rd rs1 rs2 n i0 i4 W).mono fun _ _ ⟨he, hk⟩ => ⟨he, hk.out⟩
end
end Go.Proofs.Ytkmklmpolnkkeaa
