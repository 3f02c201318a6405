/- LinkCalls: a function's name, walked. Condition: it is one of the first. -/
import Derived.Test.YtnbooljaodkedaaCalQ
import Derived.Laws.BytesArg
namespace Go.Proofs.Ytnbooljaodkedaa
open Go.RowKit Go.Maps Go.Proofs.Ytnbooljaodkedaa.PC Go.Proofs.Ytnbooljaodkedaa.PW
set_option linter.unusedVariables false
set_option linter.unusedSimpArgs false
set_option maxRecDepth 100000 in
theorem conv_one (x : Int) (w : World) : (convert 26 9 (.slice (some ⟨w.heap.size, 0, none⟩) 1 1)).run Try.prog (w.alloc (.cells #[.int .u8 x] 5)) = .ok (.string (strOfNums [x])) (w.alloc (.cells #[.int .u8 x] 5)) := by
  refine run_convert_bytes_arg _ _ _ Try.underlying26 Try.underlying5 w.heap.size 0 _ 1 [x] rfl (fun i hi => ?_) _ Try.underlying9
  obtain rfl : i = 0 := by simp at hi; omega
  exact (Blk.new w #[.int .u8 x] 5).cell 0
theorem nm_str : ∀ i : Fin 11, (⟨#[102]⟩ : ByteArray) ++ strOfNums [97 + (i.val : Int)] = nmF i.val := by decide +kernel
set_option maxRecDepth 100000 in
set_option maxHeartbeats 2000000 in
theorem nm_calls (i : Nat) (hi : i ≤ 10) (w : World) : Calls Try.prog 11 #[.int .i64 i] w fun e w' => e = .returned (.string (nmF i)) ∧ Kp w w' := by
  have hs := Aside.mk (nm_str ⟨i, by omega⟩)
  have hc := conv_one (97 + (i : Int)) w
  go_enter Try.func11, Try.ntmps11
  go_wp2_with fail
  rw [hs.out]
  go_ret
  exact ⟨rfl, (Kp.refl w).alloc _⟩
end Go.Proofs.Ytnbooljaodkedaa
