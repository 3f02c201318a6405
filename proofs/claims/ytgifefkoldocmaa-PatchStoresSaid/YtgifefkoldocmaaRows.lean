/-
  No cell of these rows narrows 'for every input' (looked for: loops, veiled, ifaces, maps, wideKeys, modest, calm, conditions, laid).
  DERIVED. THE GIVEN ROWS OF THIS SEAT. 5 by the template 'for every input the law returns true; each argument reads behind the call as it read before'; 0 by the template 'total and deterministic' (their statements: YtgifefkoldocmaaTotals.lean).
  GIVEN WITH THE SEED: the statements are not yours to turn. If you find one false, say at which input.
  Laid BY PROGRAM, IN A SANDBOX (cutbox-rows.mjs): the forced cells as the released guide's own fill.sh prints them over the translation 6aa876f156269410… (all of the seat's roots in one cut). By AI agents, Wed Nov 11 2026. No macro, syntax, notation, axiom, sorry.
-/
import Derived.Test.YtgifefkoldocmaaChecked
import GoSem.Claim
import GoSem.ClaimJoined
import GoSem.ClaimMapViews
import Derived.JoinedTies
import Derived.KernelRfl
namespace Go.Proofs.Ytgifefkoldocmaa
/- THE CELL 'sum', in the pinned program and in every row, IS THE sha256 OF THE DUMP (.gsa) THAT YtgifefkoldocmaaProg.lean LOADS. Nothing in Lean hashes anything: it is a label: what it is worth is what the hold of that sum in a sandbox is worth. -/
noncomputable def Try.pinned : Pinned := { name := "ytgifefkoldocmaa", sum := "6aa876f156269410c9672c85054b77b323ee01bced586624070f7f047b7e6586", checked := Try.checked }
namespace Rows
def none {H : Type} : Left H := { results := [], args := [] }

/-- 'solderlaw08.PatchWords': WHATEVER THE INPUT: true; the input reads as it did. -/
def patchWordsSpec : ChangeSpec := { name := "patchWords", fn := fun _ => fun
  | [d1, d2, d3] => { results := [.lit (.bool true)], args := [d1, d2, d3] }
  | _ => none }
def patchWordsRow : OpenClaim := { program := "ytgifefkoldocmaa", sum := "6aa876f156269410c9672c85054b77b323ee01bced586624070f7f047b7e6586", func := "solder/solderlaw08.PatchWords", spec := "patchWords", unfollowed := true, recurses := true, apart := false }
def PatchWordsSaid : Prop := patchWordsRow.holds Try.pinned (OpenSpec.ofChange patchWordsSpec)

/-- ITS FALSE NEIGHBOUR: 'it returns false'. Refute it at one input. -/
def patchWordsWrong : ChangeSpec := { name := "patchWords", fn := fun _ => fun
  | [d1, d2, d3] => { results := [.lit (.bool false)], args := [d1, d2, d3] }
  | _ => none }
def PatchWordsWrongFalsely : Prop := patchWordsRow.holds Try.pinned (OpenSpec.ofChange patchWordsWrong)

/-- 'solderlaw08.PatchParts': WHATEVER THE INPUT: true; the input reads as it did. -/
def patchPartsSpec : ChangeSpec := { name := "patchParts", fn := fun _ => fun
  | [d] => { results := [.lit (.bool true)], args := [d] }
  | _ => none }
def patchPartsRow : OpenClaim := { program := "ytgifefkoldocmaa", sum := "6aa876f156269410c9672c85054b77b323ee01bced586624070f7f047b7e6586", func := "solder/solderlaw08.PatchParts", spec := "patchParts", unfollowed := true, recurses := true, apart := false }
def PatchPartsSaid : Prop := patchPartsRow.holds Try.pinned (OpenSpec.ofChange patchPartsSpec)

/-- ITS FALSE NEIGHBOUR: 'it returns false'. Refute it at one input. -/
def patchPartsWrong : ChangeSpec := { name := "patchParts", fn := fun _ => fun
  | [d] => { results := [.lit (.bool false)], args := [d] }
  | _ => none }
def PatchPartsWrongFalsely : Prop := patchPartsRow.holds Try.pinned (OpenSpec.ofChange patchPartsWrong)

/-- 'solderlaw08.PatchJumps': WHATEVER THE INPUT: true; the input reads as it did. -/
def patchJumpsSpec : ChangeSpec := { name := "patchJumps", fn := fun _ => fun
  | [d1, d2, d3] => { results := [.lit (.bool true)], args := [d1, d2, d3] }
  | _ => none }
def patchJumpsRow : OpenClaim := { program := "ytgifefkoldocmaa", sum := "6aa876f156269410c9672c85054b77b323ee01bced586624070f7f047b7e6586", func := "solder/solderlaw08.PatchJumps", spec := "patchJumps", inPlace := ["math.Float64frombits", "math.Float64bits", "math.archTrunc"], unfollowed := true, recurses := true, apart := false }
def PatchJumpsSaid : Prop := patchJumpsRow.holds Try.pinned (OpenSpec.ofChange patchJumpsSpec)

/-- ITS FALSE NEIGHBOUR: 'it returns false'. Refute it at one input. -/
def patchJumpsWrong : ChangeSpec := { name := "patchJumps", fn := fun _ => fun
  | [d1, d2, d3] => { results := [.lit (.bool false)], args := [d1, d2, d3] }
  | _ => none }
def PatchJumpsWrongFalsely : Prop := patchJumpsRow.holds Try.pinned (OpenSpec.ofChange patchJumpsWrong)

/-- 'solderlaw08.PatchLoads': WHATEVER THE INPUT: true; the input reads as it did. -/
def patchLoadsSpec : ChangeSpec := { name := "patchLoads", fn := fun _ => fun
  | [d1, d2] => { results := [.lit (.bool true)], args := [d1, d2] }
  | _ => none }
def patchLoadsRow : OpenClaim := { program := "ytgifefkoldocmaa", sum := "6aa876f156269410c9672c85054b77b323ee01bced586624070f7f047b7e6586", func := "solder/solderlaw08.PatchLoads", spec := "patchLoads", inPlace := ["math.Float64frombits", "math.Float64bits", "math.archTrunc"], unfollowed := true, recurses := true, apart := false }
def PatchLoadsSaid : Prop := patchLoadsRow.holds Try.pinned (OpenSpec.ofChange patchLoadsSpec)

/-- ITS FALSE NEIGHBOUR: 'it returns false'. Refute it at one input. -/
def patchLoadsWrong : ChangeSpec := { name := "patchLoads", fn := fun _ => fun
  | [d1, d2] => { results := [.lit (.bool false)], args := [d1, d2] }
  | _ => none }
def PatchLoadsWrongFalsely : Prop := patchLoadsRow.holds Try.pinned (OpenSpec.ofChange patchLoadsWrong)

/-- 'solderlaw08.PatchStores': WHATEVER THE INPUT: true; the input reads as it did. -/
def patchStoresSpec : ChangeSpec := { name := "patchStores", fn := fun _ => fun
  | [d1, d2] => { results := [.lit (.bool true)], args := [d1, d2] }
  | _ => none }
def patchStoresRow : OpenClaim := { program := "ytgifefkoldocmaa", sum := "6aa876f156269410c9672c85054b77b323ee01bced586624070f7f047b7e6586", func := "solder/solderlaw08.PatchStores", spec := "patchStores", inPlace := ["math.Float64frombits", "math.Float64bits", "math.archTrunc"], unfollowed := true, recurses := true, apart := false }
def PatchStoresSaid : Prop := patchStoresRow.holds Try.pinned (OpenSpec.ofChange patchStoresSpec)

/-- ITS FALSE NEIGHBOUR: 'it returns false'. Refute it at one input. -/
def patchStoresWrong : ChangeSpec := { name := "patchStores", fn := fun _ => fun
  | [d1, d2] => { results := [.lit (.bool false)], args := [d1, d2] }
  | _ => none }
def PatchStoresWrongFalsely : Prop := patchStoresRow.holds Try.pinned (OpenSpec.ofChange patchStoresWrong)

/- THE SECOND FORM. 'bulk': how many values and letters a reading holds, each counted each time it is reached (what is shared counts as often as it is met; a slice's spare places count too). A statement '..UptoSaid' is the law's where the arguments, and the package variables that the reading takes, are together of bulk at most 1048576: NARROWER than '..Said'. Prove '..Said' where nothing that the law and all that it calls make is longer than what came in: it says more and counts as full. Else prove '..UptoSaid'. A law counts once. -/
mutual
def uptoBulk {H : Type} : DataW H → Nat
  | .lit (.string bytes) => bytes.length + 1
  | .lit _ => 1
  | .nil => 1
  | .ptr d => uptoBulk d + 1
  | .slice elems spare => uptoBulkAll elems + uptoBulkAll spare + 1
  | .agg parts => uptoBulkAll parts + 1
  | .iface _ d => uptoBulk d + 1
  | .map entries => uptoBulkEntries entries + 1
  | .held _ => 1
def uptoBulkAll {H : Type} : List (DataW H) → Nat
  | [] => 0
  | d :: r => uptoBulk d + uptoBulkAll r
def uptoBulkEntries {H : Type} : List (Lit × DataW H) → Nat
  | [] => 0
  | x :: r => uptoBulkEntry x + uptoBulkEntries r
def uptoBulkEntry {H : Type} : Lit × DataW H → Nat
  | (.string bytes, d) => bytes.length + uptoBulk d + 1
  | (_, d) => uptoBulk d + 1
 end
def uptoSmall : (H : Type) → List (DataW H) → Bool := fun _ ds => decide (uptoBulkAll ds ≤ 1048576)
def OpenSpec.upto (s : _root_.Go.ChangeSpec) : _root_.Go.OpenSpec := { _root_.Go.OpenSpec.ofChange s with cond := some uptoSmall }

/-- 'solderlaw08.PatchWords', WHERE WHAT IT READS IS OF BULK AT MOST 1048576: true; the input reads as it did. -/
def patchWordsUptoRow : OpenClaim := { program := "ytgifefkoldocmaa", sum := "6aa876f156269410c9672c85054b77b323ee01bced586624070f7f047b7e6586", func := "solder/solderlaw08.PatchWords", spec := "patchWords", unfollowed := true, recurses := true, apart := false, narrowed := true }
def PatchWordsUptoSaid : Prop := patchWordsUptoRow.holds Try.pinned (OpenSpec.upto patchWordsSpec)

/-- 'solderlaw08.PatchParts', WHERE WHAT IT READS IS OF BULK AT MOST 1048576: true; the input reads as it did. -/
def patchPartsUptoRow : OpenClaim := { program := "ytgifefkoldocmaa", sum := "6aa876f156269410c9672c85054b77b323ee01bced586624070f7f047b7e6586", func := "solder/solderlaw08.PatchParts", spec := "patchParts", unfollowed := true, recurses := true, apart := false, narrowed := true }
def PatchPartsUptoSaid : Prop := patchPartsUptoRow.holds Try.pinned (OpenSpec.upto patchPartsSpec)

/-- 'solderlaw08.PatchJumps', WHERE WHAT IT READS IS OF BULK AT MOST 1048576: true; the input reads as it did. -/
def patchJumpsUptoRow : OpenClaim := { program := "ytgifefkoldocmaa", sum := "6aa876f156269410c9672c85054b77b323ee01bced586624070f7f047b7e6586", func := "solder/solderlaw08.PatchJumps", spec := "patchJumps", inPlace := ["math.Float64frombits", "math.Float64bits", "math.archTrunc"], unfollowed := true, recurses := true, apart := false, narrowed := true }
def PatchJumpsUptoSaid : Prop := patchJumpsUptoRow.holds Try.pinned (OpenSpec.upto patchJumpsSpec)

/-- 'solderlaw08.PatchLoads', WHERE WHAT IT READS IS OF BULK AT MOST 1048576: true; the input reads as it did. -/
def patchLoadsUptoRow : OpenClaim := { program := "ytgifefkoldocmaa", sum := "6aa876f156269410c9672c85054b77b323ee01bced586624070f7f047b7e6586", func := "solder/solderlaw08.PatchLoads", spec := "patchLoads", inPlace := ["math.Float64frombits", "math.Float64bits", "math.archTrunc"], unfollowed := true, recurses := true, apart := false, narrowed := true }
def PatchLoadsUptoSaid : Prop := patchLoadsUptoRow.holds Try.pinned (OpenSpec.upto patchLoadsSpec)

/-- 'solderlaw08.PatchStores', WHERE WHAT IT READS IS OF BULK AT MOST 1048576: true; the input reads as it did. -/
def patchStoresUptoRow : OpenClaim := { program := "ytgifefkoldocmaa", sum := "6aa876f156269410c9672c85054b77b323ee01bced586624070f7f047b7e6586", func := "solder/solderlaw08.PatchStores", spec := "patchStores", inPlace := ["math.Float64frombits", "math.Float64bits", "math.archTrunc"], unfollowed := true, recurses := true, apart := false, narrowed := true }
def PatchStoresUptoSaid : Prop := patchStoresUptoRow.holds Try.pinned (OpenSpec.upto patchStoresSpec)

end Rows
end Go.Proofs.Ytgifefkoldocmaa
