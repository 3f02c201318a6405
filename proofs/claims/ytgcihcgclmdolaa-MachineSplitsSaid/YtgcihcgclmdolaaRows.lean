/-
  No cell of these rows narrows 'for every input' (looked for: loops, veiled, ifaces, maps, wideKeys, modest, calm, conditions, laid).
  DERIVED. THE GIVEN ROWS OF THIS SEAT. 5 by the template 'for every input the law returns true; each argument reads behind the call as it read before'; 0 by the template 'total and deterministic' (their statements: YtgcihcgclmdolaaTotals.lean).
  GIVEN WITH THE SEED: the statements are not yours to turn. If you find one false, say at which input.
  Laid BY PROGRAM, IN A SANDBOX (cutbox-rows.mjs): the forced cells as the released guide's own fill.sh prints them over the translation d2a90e367fca4880… (all of the seat's roots in one cut). By AI agents, Wed Nov 11 2026. No macro, syntax, notation, axiom, sorry.
-/
import Derived.Test.YtgcihcgclmdolaaChecked
import GoSem.Claim
import GoSem.ClaimJoined
import GoSem.ClaimMapViews
import Derived.JoinedTies
import Derived.KernelRfl
namespace Go.Proofs.Ytgcihcgclmdolaa
/- THE CELL 'sum', in the pinned program and in every row, IS THE sha256 OF THE DUMP (.gsa) THAT YtgcihcgclmdolaaProg.lean LOADS. Nothing in Lean hashes anything: it is a label: what it is worth is what the hold of that sum in a sandbox is worth. -/
noncomputable def Try.pinned : Pinned := { name := "ytgcihcgclmdolaa", sum := "d2a90e367fca48809439e95053185dc8717e4894a089bcc4dc91b845646711ea", checked := Try.checked }
namespace Rows
def none {H : Type} : Left H := { results := [], args := [] }

/-- 'solderlaw04.MachineLoops': WHATEVER THE INPUT: true; the input reads as it did. -/
def machineLoopsSpec : ChangeSpec := { name := "machineLoops", fn := fun _ => fun
  | [d] => { results := [.lit (.bool true)], args := [d] }
  | _ => none }
def machineLoopsRow : OpenClaim := { program := "ytgcihcgclmdolaa", sum := "d2a90e367fca48809439e95053185dc8717e4894a089bcc4dc91b845646711ea", func := "solder/solderlaw04.MachineLoops", spec := "machineLoops", inPlace := ["math.Float64frombits", "math.Float64bits", "math.archTrunc"], unfollowed := true, recurses := true, apart := false }
def MachineLoopsSaid : Prop := machineLoopsRow.holds Try.pinned (OpenSpec.ofChange machineLoopsSpec)

/-- ITS FALSE NEIGHBOUR: 'it returns false'. Refute it at one input. -/
def machineLoopsWrong : ChangeSpec := { name := "machineLoops", fn := fun _ => fun
  | [d] => { results := [.lit (.bool false)], args := [d] }
  | _ => none }
def MachineLoopsWrongFalsely : Prop := machineLoopsRow.holds Try.pinned (OpenSpec.ofChange machineLoopsWrong)

/-- 'solderlaw04.MachineEchoes': WHATEVER THE INPUT: true; the input reads as it did. -/
def machineEchoesSpec : ChangeSpec := { name := "machineEchoes", fn := fun _ => fun
  | [d1, d2] => { results := [.lit (.bool true)], args := [d1, d2] }
  | _ => none }
def machineEchoesRow : OpenClaim := { program := "ytgcihcgclmdolaa", sum := "d2a90e367fca48809439e95053185dc8717e4894a089bcc4dc91b845646711ea", func := "solder/solderlaw04.MachineEchoes", spec := "machineEchoes", inPlace := ["math.Float64frombits", "math.Float64bits", "math.archTrunc"], unfollowed := true, recurses := true, apart := false }
def MachineEchoesSaid : Prop := machineEchoesRow.holds Try.pinned (OpenSpec.ofChange machineEchoesSpec)

/-- ITS FALSE NEIGHBOUR: 'it returns false'. Refute it at one input. -/
def machineEchoesWrong : ChangeSpec := { name := "machineEchoes", fn := fun _ => fun
  | [d1, d2] => { results := [.lit (.bool false)], args := [d1, d2] }
  | _ => none }
def MachineEchoesWrongFalsely : Prop := machineEchoesRow.holds Try.pinned (OpenSpec.ofChange machineEchoesWrong)

/-- 'solderlaw04.MachineKeeps': WHATEVER THE INPUT: true; the input reads as it did. -/
def machineKeepsSpec : ChangeSpec := { name := "machineKeeps", fn := fun _ => fun
  | [d1, d2] => { results := [.lit (.bool true)], args := [d1, d2] }
  | _ => none }
def machineKeepsRow : OpenClaim := { program := "ytgcihcgclmdolaa", sum := "d2a90e367fca48809439e95053185dc8717e4894a089bcc4dc91b845646711ea", func := "solder/solderlaw04.MachineKeeps", spec := "machineKeeps", inPlace := ["math.Float64frombits", "math.Float64bits", "math.archTrunc"], unfollowed := true, recurses := true, apart := false }
def MachineKeepsSaid : Prop := machineKeepsRow.holds Try.pinned (OpenSpec.ofChange machineKeepsSpec)

/-- ITS FALSE NEIGHBOUR: 'it returns false'. Refute it at one input. -/
def machineKeepsWrong : ChangeSpec := { name := "machineKeeps", fn := fun _ => fun
  | [d1, d2] => { results := [.lit (.bool false)], args := [d1, d2] }
  | _ => none }
def MachineKeepsWrongFalsely : Prop := machineKeepsRow.holds Try.pinned (OpenSpec.ofChange machineKeepsWrong)

/-- 'solderlaw04.MachineSplits': WHATEVER THE INPUT: true; the input reads as it did. -/
def machineSplitsSpec : ChangeSpec := { name := "machineSplits", fn := fun _ => fun
  | [d1, d2, d3] => { results := [.lit (.bool true)], args := [d1, d2, d3] }
  | _ => none }
def machineSplitsRow : OpenClaim := { program := "ytgcihcgclmdolaa", sum := "d2a90e367fca48809439e95053185dc8717e4894a089bcc4dc91b845646711ea", func := "solder/solderlaw04.MachineSplits", spec := "machineSplits", inPlace := ["math.Float64frombits", "math.Float64bits", "math.archTrunc"], unfollowed := true, recurses := true, apart := false }
def MachineSplitsSaid : Prop := machineSplitsRow.holds Try.pinned (OpenSpec.ofChange machineSplitsSpec)

/-- ITS FALSE NEIGHBOUR: 'it returns false'. Refute it at one input. -/
def machineSplitsWrong : ChangeSpec := { name := "machineSplits", fn := fun _ => fun
  | [d1, d2, d3] => { results := [.lit (.bool false)], args := [d1, d2, d3] }
  | _ => none }
def MachineSplitsWrongFalsely : Prop := machineSplitsRow.holds Try.pinned (OpenSpec.ofChange machineSplitsWrong)

/-- 'solderlaw04.MachineLoads': WHATEVER THE INPUT: true; the input reads as it did. -/
def machineLoadsSpec : ChangeSpec := { name := "machineLoads", fn := fun _ => fun
  | [d1, d2] => { results := [.lit (.bool true)], args := [d1, d2] }
  | _ => none }
def machineLoadsRow : OpenClaim := { program := "ytgcihcgclmdolaa", sum := "d2a90e367fca48809439e95053185dc8717e4894a089bcc4dc91b845646711ea", func := "solder/solderlaw04.MachineLoads", spec := "machineLoads", inPlace := ["math.Float64frombits", "math.Float64bits", "math.archTrunc"], unfollowed := true, recurses := true, apart := false }
def MachineLoadsSaid : Prop := machineLoadsRow.holds Try.pinned (OpenSpec.ofChange machineLoadsSpec)

/-- ITS FALSE NEIGHBOUR: 'it returns false'. Refute it at one input. -/
def machineLoadsWrong : ChangeSpec := { name := "machineLoads", fn := fun _ => fun
  | [d1, d2] => { results := [.lit (.bool false)], args := [d1, d2] }
  | _ => none }
def MachineLoadsWrongFalsely : Prop := machineLoadsRow.holds Try.pinned (OpenSpec.ofChange machineLoadsWrong)

/- THE SECOND FORM. 'bulk': how many values and letters a reading holds, each counted each time it is reached (what is shared counts as often as it is met; a slice's spare places count too). A statement '..UptoSaid' is the law's where the arguments, and the package variables that the reading takes, are together of bulk at most 1048576: NARROWER than '..Said'. Prove '..Said' where nothing that the law and all that it calls make is longer than what came in: it says more and counts as full. Else prove '..UptoSaid'. A law counts once. -/
mutual
def uptoBulk {H : Type} : DataW H → Nat
  | .lit (.string bytes) => bytes.length + 1
  | .lit _ => 1
  | .nil => 1
  | .ptr d => uptoBulk d + 1
  | .slice elems spare => uptoBulkAll elems + uptoBulkAll spare + 1
  | .agg parts => uptoBulkAll parts + 1
  | .iface _ d => uptoBulk d + 1
  | .map entries => uptoBulkEntries entries + 1
  | .held _ => 1
def uptoBulkAll {H : Type} : List (DataW H) → Nat
  | [] => 0
  | d :: r => uptoBulk d + uptoBulkAll r
def uptoBulkEntries {H : Type} : List (Lit × DataW H) → Nat
  | [] => 0
  | x :: r => uptoBulkEntry x + uptoBulkEntries r
def uptoBulkEntry {H : Type} : Lit × DataW H → Nat
  | (.string bytes, d) => bytes.length + uptoBulk d + 1
  | (_, d) => uptoBulk d + 1
 end
def uptoSmall : (H : Type) → List (DataW H) → Bool := fun _ ds => decide (uptoBulkAll ds ≤ 1048576)
def OpenSpec.upto (s : _root_.Go.ChangeSpec) : _root_.Go.OpenSpec := { _root_.Go.OpenSpec.ofChange s with cond := some uptoSmall }

/-- 'solderlaw04.MachineLoops', WHERE WHAT IT READS IS OF BULK AT MOST 1048576: true; the input reads as it did. -/
def machineLoopsUptoRow : OpenClaim := { program := "ytgcihcgclmdolaa", sum := "d2a90e367fca48809439e95053185dc8717e4894a089bcc4dc91b845646711ea", func := "solder/solderlaw04.MachineLoops", spec := "machineLoops", inPlace := ["math.Float64frombits", "math.Float64bits", "math.archTrunc"], unfollowed := true, recurses := true, apart := false, narrowed := true }
def MachineLoopsUptoSaid : Prop := machineLoopsUptoRow.holds Try.pinned (OpenSpec.upto machineLoopsSpec)

/-- 'solderlaw04.MachineEchoes', WHERE WHAT IT READS IS OF BULK AT MOST 1048576: true; the input reads as it did. -/
def machineEchoesUptoRow : OpenClaim := { program := "ytgcihcgclmdolaa", sum := "d2a90e367fca48809439e95053185dc8717e4894a089bcc4dc91b845646711ea", func := "solder/solderlaw04.MachineEchoes", spec := "machineEchoes", inPlace := ["math.Float64frombits", "math.Float64bits", "math.archTrunc"], unfollowed := true, recurses := true, apart := false, narrowed := true }
def MachineEchoesUptoSaid : Prop := machineEchoesUptoRow.holds Try.pinned (OpenSpec.upto machineEchoesSpec)

/-- 'solderlaw04.MachineKeeps', WHERE WHAT IT READS IS OF BULK AT MOST 1048576: true; the input reads as it did. -/
def machineKeepsUptoRow : OpenClaim := { program := "ytgcihcgclmdolaa", sum := "d2a90e367fca48809439e95053185dc8717e4894a089bcc4dc91b845646711ea", func := "solder/solderlaw04.MachineKeeps", spec := "machineKeeps", inPlace := ["math.Float64frombits", "math.Float64bits", "math.archTrunc"], unfollowed := true, recurses := true, apart := false, narrowed := true }
def MachineKeepsUptoSaid : Prop := machineKeepsUptoRow.holds Try.pinned (OpenSpec.upto machineKeepsSpec)

/-- 'solderlaw04.MachineSplits', WHERE WHAT IT READS IS OF BULK AT MOST 1048576: true; the input reads as it did. -/
def machineSplitsUptoRow : OpenClaim := { program := "ytgcihcgclmdolaa", sum := "d2a90e367fca48809439e95053185dc8717e4894a089bcc4dc91b845646711ea", func := "solder/solderlaw04.MachineSplits", spec := "machineSplits", inPlace := ["math.Float64frombits", "math.Float64bits", "math.archTrunc"], unfollowed := true, recurses := true, apart := false, narrowed := true }
def MachineSplitsUptoSaid : Prop := machineSplitsUptoRow.holds Try.pinned (OpenSpec.upto machineSplitsSpec)

/-- 'solderlaw04.MachineLoads', WHERE WHAT IT READS IS OF BULK AT MOST 1048576: true; the input reads as it did. -/
def machineLoadsUptoRow : OpenClaim := { program := "ytgcihcgclmdolaa", sum := "d2a90e367fca48809439e95053185dc8717e4894a089bcc4dc91b845646711ea", func := "solder/solderlaw04.MachineLoads", spec := "machineLoads", inPlace := ["math.Float64frombits", "math.Float64bits", "math.archTrunc"], unfollowed := true, recurses := true, apart := false, narrowed := true }
def MachineLoadsUptoSaid : Prop := machineLoadsUptoRow.holds Try.pinned (OpenSpec.upto machineLoadsSpec)

end Rows
end Go.Proofs.Ytgcihcgclmdolaa
