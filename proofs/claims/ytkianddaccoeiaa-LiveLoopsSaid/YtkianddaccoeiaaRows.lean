/-
  No cell of these rows narrows 'for every input' (looked for: loops, veiled, ifaces, maps, wideKeys, modest, calm, conditions, laid).
  DERIVED. THE GIVEN ROWS OF THIS SEAT. 3 by the template 'for every input the law returns true; each argument reads behind the call as it read before'; 0 by the template 'total and deterministic' (their statements: YtkianddaccoeiaaTotals.lean).
  GIVEN WITH THE SEED: the statements are not yours to turn. If you find one false, say at which input.
  Laid BY PROGRAM, IN A SANDBOX (cutbox-rows.mjs): the forced cells as the released guide's own fill.sh prints them over the translation b63b531af1325f86… (all of the seat's roots in one cut). By AI agents, Wed Nov 11 2026. No macro, syntax, notation, axiom, sorry.
-/
import Derived.Test.YtkianddaccoeiaaChecked
import GoSem.Claim
import GoSem.ClaimJoined
import GoSem.ClaimMapViews
import Derived.JoinedTies
import Derived.KernelRfl
namespace Go.Proofs.Ytkianddaccoeiaa
/- THE CELL 'sum', in the pinned program and in every row, IS THE sha256 OF THE DUMP (.gsa) THAT YtkianddaccoeiaaProg.lean LOADS. Nothing in Lean hashes anything: it is a label: what it is worth is what the hold of that sum in a sandbox is worth. -/
noncomputable def Try.pinned : Pinned := { name := "ytkianddaccoeiaa", sum := "b63b531af1325f8667f3467848e77f2a2e07e20b16507ae695f98c086de4f3c7", checked := Try.checked }
namespace Rows
def none {H : Type} : Left H := { results := [], args := [] }

/-- 'solderlaw19.LiveSets': WHATEVER THE INPUT: true; the input reads as it did. -/
def liveSetsSpec : ChangeSpec := { name := "liveSets", fn := fun _ => fun
  | [d] => { results := [.lit (.bool true)], args := [d] }
  | _ => none }
def liveSetsRow : OpenClaim := { program := "ytkianddaccoeiaa", sum := "b63b531af1325f8667f3467848e77f2a2e07e20b16507ae695f98c086de4f3c7", func := "solder/solderlaw19.LiveSets", spec := "liveSets", unfollowed := true, recurses := true, plainKeys := false, apart := false }
def LiveSetsSaid : Prop := liveSetsRow.holds Try.pinned (OpenSpec.ofChange liveSetsSpec)

/-- ITS FALSE NEIGHBOUR: 'it returns false'. Refute it at one input. -/
def liveSetsWrong : ChangeSpec := { name := "liveSets", fn := fun _ => fun
  | [d] => { results := [.lit (.bool false)], args := [d] }
  | _ => none }
def LiveSetsWrongFalsely : Prop := liveSetsRow.holds Try.pinned (OpenSpec.ofChange liveSetsWrong)

/-- 'solderlaw19.LiveLoops': WHATEVER THE INPUT: true; the input reads as it did. -/
def liveLoopsSpec : ChangeSpec := { name := "liveLoops", fn := fun _ => fun
  | [d] => { results := [.lit (.bool true)], args := [d] }
  | _ => none }
def liveLoopsRow : OpenClaim := { program := "ytkianddaccoeiaa", sum := "b63b531af1325f8667f3467848e77f2a2e07e20b16507ae695f98c086de4f3c7", func := "solder/solderlaw19.LiveLoops", spec := "liveLoops", unfollowed := true, recurses := true, plainKeys := false, apart := false }
def LiveLoopsSaid : Prop := liveLoopsRow.holds Try.pinned (OpenSpec.ofChange liveLoopsSpec)

/-- ITS FALSE NEIGHBOUR: 'it returns false'. Refute it at one input. -/
def liveLoopsWrong : ChangeSpec := { name := "liveLoops", fn := fun _ => fun
  | [d] => { results := [.lit (.bool false)], args := [d] }
  | _ => none }
def LiveLoopsWrongFalsely : Prop := liveLoopsRow.holds Try.pinned (OpenSpec.ofChange liveLoopsWrong)

/-- 'solderlaw19.LiveClashes': WHATEVER THE INPUT: true; the input reads as it did. -/
def liveClashesSpec : ChangeSpec := { name := "liveClashes", fn := fun _ => fun
  | [d] => { results := [.lit (.bool true)], args := [d] }
  | _ => none }
def liveClashesRow : OpenClaim := { program := "ytkianddaccoeiaa", sum := "b63b531af1325f8667f3467848e77f2a2e07e20b16507ae695f98c086de4f3c7", func := "solder/solderlaw19.LiveClashes", spec := "liveClashes", unfollowed := true, recurses := true, plainKeys := false, apart := false }
def LiveClashesSaid : Prop := liveClashesRow.holds Try.pinned (OpenSpec.ofChange liveClashesSpec)

/-- ITS FALSE NEIGHBOUR: 'it returns false'. Refute it at one input. -/
def liveClashesWrong : ChangeSpec := { name := "liveClashes", fn := fun _ => fun
  | [d] => { results := [.lit (.bool false)], args := [d] }
  | _ => none }
def LiveClashesWrongFalsely : Prop := liveClashesRow.holds Try.pinned (OpenSpec.ofChange liveClashesWrong)

/- THE SECOND FORM. 'bulk': how many values and letters a reading holds, each counted each time it is reached (what is shared counts as often as it is met; a slice's spare places count too). A statement '..UptoSaid' is the law's where the arguments, and the package variables that the reading takes, are together of bulk at most 1048576: NARROWER than '..Said'. Prove '..Said' where nothing that the law and all that it calls make is longer than what came in: it says more and counts as full. Else prove '..UptoSaid'. A law counts once. -/
mutual
def uptoBulk {H : Type} : DataW H → Nat
  | .lit (.string bytes) => bytes.length + 1
  | .lit _ => 1
  | .nil => 1
  | .ptr d => uptoBulk d + 1
  | .slice elems spare => uptoBulkAll elems + uptoBulkAll spare + 1
  | .agg parts => uptoBulkAll parts + 1
  | .iface _ d => uptoBulk d + 1
  | .map entries => uptoBulkEntries entries + 1
  | .held _ => 1
def uptoBulkAll {H : Type} : List (DataW H) → Nat
  | [] => 0
  | d :: r => uptoBulk d + uptoBulkAll r
def uptoBulkEntries {H : Type} : List (Lit × DataW H) → Nat
  | [] => 0
  | x :: r => uptoBulkEntry x + uptoBulkEntries r
def uptoBulkEntry {H : Type} : Lit × DataW H → Nat
  | (.string bytes, d) => bytes.length + uptoBulk d + 1
  | (_, d) => uptoBulk d + 1
 end
def uptoSmall : (H : Type) → List (DataW H) → Bool := fun _ ds => decide (uptoBulkAll ds ≤ 1048576)
def OpenSpec.upto (s : _root_.Go.ChangeSpec) : _root_.Go.OpenSpec := { _root_.Go.OpenSpec.ofChange s with cond := some uptoSmall }

/-- 'solderlaw19.LiveSets', WHERE WHAT IT READS IS OF BULK AT MOST 1048576: true; the input reads as it did. -/
def liveSetsUptoRow : OpenClaim := { program := "ytkianddaccoeiaa", sum := "b63b531af1325f8667f3467848e77f2a2e07e20b16507ae695f98c086de4f3c7", func := "solder/solderlaw19.LiveSets", spec := "liveSets", unfollowed := true, recurses := true, plainKeys := false, apart := false, narrowed := true }
def LiveSetsUptoSaid : Prop := liveSetsUptoRow.holds Try.pinned (OpenSpec.upto liveSetsSpec)

/-- 'solderlaw19.LiveLoops', WHERE WHAT IT READS IS OF BULK AT MOST 1048576: true; the input reads as it did. -/
def liveLoopsUptoRow : OpenClaim := { program := "ytkianddaccoeiaa", sum := "b63b531af1325f8667f3467848e77f2a2e07e20b16507ae695f98c086de4f3c7", func := "solder/solderlaw19.LiveLoops", spec := "liveLoops", unfollowed := true, recurses := true, plainKeys := false, apart := false, narrowed := true }
def LiveLoopsUptoSaid : Prop := liveLoopsUptoRow.holds Try.pinned (OpenSpec.upto liveLoopsSpec)

/-- 'solderlaw19.LiveClashes', WHERE WHAT IT READS IS OF BULK AT MOST 1048576: true; the input reads as it did. -/
def liveClashesUptoRow : OpenClaim := { program := "ytkianddaccoeiaa", sum := "b63b531af1325f8667f3467848e77f2a2e07e20b16507ae695f98c086de4f3c7", func := "solder/solderlaw19.LiveClashes", spec := "liveClashes", unfollowed := true, recurses := true, plainKeys := false, apart := false, narrowed := true }
def LiveClashesUptoSaid : Prop := liveClashesUptoRow.holds Try.pinned (OpenSpec.upto liveClashesSpec)

end Rows
end Go.Proofs.Ytkianddaccoeiaa
