/-
  No cell of these rows narrows 'for every input' (looked for: loops, veiled, ifaces, maps, wideKeys, modest, calm, conditions, laid).
  DERIVED. THE GIVEN ROWS OF THIS SEAT. 6 by the template 'for every input the law returns true; each argument reads behind the call as it read before'; 0 by the template 'total and deterministic' (their statements: YtkmklmpolnkkeaaTotals.lean).
  GIVEN WITH THE SEED: the statements are not yours to turn. If you find one false, say at which input.
  Laid BY PROGRAM, IN A SANDBOX (cutbox-rows.mjs): the forced cells as the released guide's own fill.sh prints them over the translation 1fc12f289330a4db… (all of the seat's roots in one cut). By AI agents, Wed Nov 11 2026. No macro, syntax, notation, axiom, sorry.
-/
import Derived.Test.YtkmklmpolnkkeaaChecked
import GoSem.Claim
import GoSem.ClaimJoined
import GoSem.ClaimMapViews
import Derived.JoinedTies
import Derived.KernelRfl
namespace Go.Proofs.Ytkmklmpolnkkeaa
/- THE CELL 'sum', in the pinned program and in every row, IS THE sha256 OF THE DUMP (.gsa) THAT YtkmklmpolnkkeaaProg.lean LOADS. Nothing in Lean hashes anything: it is a label: what it is worth is what the hold of that sum in a sandbox is worth. -/
noncomputable def Try.pinned : Pinned := { name := "ytkmklmpolnkkeaa", sum := "1fc12f289330a4dbe97b5489d5228283635b95c5e2e757d09f3435338df08c76", checked := Try.checked }
namespace Rows
def none {H : Type} : Left H := { results := [], args := [] }

/-- 'solderlaw03.CodeOne': WHATEVER THE INPUT: true; the input reads as it did. -/
def codeOneSpec : ChangeSpec := { name := "codeOne", fn := fun _ => fun
  | [d1, d2] => { results := [.lit (.bool true)], args := [d1, d2] }
  | _ => none }
def codeOneRow : OpenClaim := { program := "ytkmklmpolnkkeaa", sum := "1fc12f289330a4dbe97b5489d5228283635b95c5e2e757d09f3435338df08c76", func := "solder/solderlaw03.CodeOne", spec := "codeOne", unfollowed := true, recurses := true, apart := false }
def CodeOneSaid : Prop := codeOneRow.holds Try.pinned (OpenSpec.ofChange codeOneSpec)

/-- ITS FALSE NEIGHBOUR: 'it returns false'. Refute it at one input. -/
def codeOneWrong : ChangeSpec := { name := "codeOne", fn := fun _ => fun
  | [d1, d2] => { results := [.lit (.bool false)], args := [d1, d2] }
  | _ => none }
def CodeOneWrongFalsely : Prop := codeOneRow.holds Try.pinned (OpenSpec.ofChange codeOneWrong)

/-- 'solderlaw03.CodeRegs': WHATEVER THE INPUT: true; the input reads as it did. -/
def codeRegsSpec : ChangeSpec := { name := "codeRegs", fn := fun _ => fun
  | [d1, d2, d3] => { results := [.lit (.bool true)], args := [d1, d2, d3] }
  | _ => none }
def codeRegsRow : OpenClaim := { program := "ytkmklmpolnkkeaa", sum := "1fc12f289330a4dbe97b5489d5228283635b95c5e2e757d09f3435338df08c76", func := "solder/solderlaw03.CodeRegs", spec := "codeRegs", unfollowed := true, recurses := true, apart := false }
def CodeRegsSaid : Prop := codeRegsRow.holds Try.pinned (OpenSpec.ofChange codeRegsSpec)

/-- ITS FALSE NEIGHBOUR: 'it returns false'. Refute it at one input. -/
def codeRegsWrong : ChangeSpec := { name := "codeRegs", fn := fun _ => fun
  | [d1, d2, d3] => { results := [.lit (.bool false)], args := [d1, d2, d3] }
  | _ => none }
def CodeRegsWrongFalsely : Prop := codeRegsRow.holds Try.pinned (OpenSpec.ofChange codeRegsWrong)

/-- 'solderlaw03.CodeFits': WHATEVER THE INPUT: true; the input reads as it did. -/
def codeFitsSpec : ChangeSpec := { name := "codeFits", fn := fun _ => fun
  | [d1, d2] => { results := [.lit (.bool true)], args := [d1, d2] }
  | _ => none }
def codeFitsRow : OpenClaim := { program := "ytkmklmpolnkkeaa", sum := "1fc12f289330a4dbe97b5489d5228283635b95c5e2e757d09f3435338df08c76", func := "solder/solderlaw03.CodeFits", spec := "codeFits", unfollowed := true, recurses := true, apart := false }
def CodeFitsSaid : Prop := codeFitsRow.holds Try.pinned (OpenSpec.ofChange codeFitsSpec)

/-- ITS FALSE NEIGHBOUR: 'it returns false'. Refute it at one input. -/
def codeFitsWrong : ChangeSpec := { name := "codeFits", fn := fun _ => fun
  | [d1, d2] => { results := [.lit (.bool false)], args := [d1, d2] }
  | _ => none }
def CodeFitsWrongFalsely : Prop := codeFitsRow.holds Try.pinned (OpenSpec.ofChange codeFitsWrong)

/-- 'solderlaw03.CodeEncodes': WHATEVER THE INPUT: true; the input reads as it did. -/
def codeEncodesSpec : ChangeSpec := { name := "codeEncodes", fn := fun _ => fun
  | [d] => { results := [.lit (.bool true)], args := [d] }
  | _ => none }
def codeEncodesRow : OpenClaim := { program := "ytkmklmpolnkkeaa", sum := "1fc12f289330a4dbe97b5489d5228283635b95c5e2e757d09f3435338df08c76", func := "solder/solderlaw03.CodeEncodes", spec := "codeEncodes", unfollowed := true, recurses := true, apart := false }
def CodeEncodesSaid : Prop := codeEncodesRow.holds Try.pinned (OpenSpec.ofChange codeEncodesSpec)

/-- ITS FALSE NEIGHBOUR: 'it returns false'. Refute it at one input. -/
def codeEncodesWrong : ChangeSpec := { name := "codeEncodes", fn := fun _ => fun
  | [d] => { results := [.lit (.bool false)], args := [d] }
  | _ => none }
def CodeEncodesWrongFalsely : Prop := codeEncodesRow.holds Try.pinned (OpenSpec.ofChange codeEncodesWrong)

/-- 'solderlaw03.CodeDecodes': WHATEVER THE INPUT: true; the input reads as it did. -/
def codeDecodesSpec : ChangeSpec := { name := "codeDecodes", fn := fun _ => fun
  | [d] => { results := [.lit (.bool true)], args := [d] }
  | _ => none }
def codeDecodesRow : OpenClaim := { program := "ytkmklmpolnkkeaa", sum := "1fc12f289330a4dbe97b5489d5228283635b95c5e2e757d09f3435338df08c76", func := "solder/solderlaw03.CodeDecodes", spec := "codeDecodes", unfollowed := true, recurses := true, apart := false }
def CodeDecodesSaid : Prop := codeDecodesRow.holds Try.pinned (OpenSpec.ofChange codeDecodesSpec)

/-- ITS FALSE NEIGHBOUR: 'it returns false'. Refute it at one input. -/
def codeDecodesWrong : ChangeSpec := { name := "codeDecodes", fn := fun _ => fun
  | [d] => { results := [.lit (.bool false)], args := [d] }
  | _ => none }
def CodeDecodesWrongFalsely : Prop := codeDecodesRow.holds Try.pinned (OpenSpec.ofChange codeDecodesWrong)

/-- 'solderlaw03.CodeImms': WHATEVER THE INPUT: true; the input reads as it did. -/
def codeImmsSpec : ChangeSpec := { name := "codeImms", fn := fun _ => fun
  | [d1, d2] => { results := [.lit (.bool true)], args := [d1, d2] }
  | _ => none }
def codeImmsRow : OpenClaim := { program := "ytkmklmpolnkkeaa", sum := "1fc12f289330a4dbe97b5489d5228283635b95c5e2e757d09f3435338df08c76", func := "solder/solderlaw03.CodeImms", spec := "codeImms", unfollowed := true, recurses := true, apart := false }
def CodeImmsSaid : Prop := codeImmsRow.holds Try.pinned (OpenSpec.ofChange codeImmsSpec)

/-- ITS FALSE NEIGHBOUR: 'it returns false'. Refute it at one input. -/
def codeImmsWrong : ChangeSpec := { name := "codeImms", fn := fun _ => fun
  | [d1, d2] => { results := [.lit (.bool false)], args := [d1, d2] }
  | _ => none }
def CodeImmsWrongFalsely : Prop := codeImmsRow.holds Try.pinned (OpenSpec.ofChange codeImmsWrong)

/- THE SECOND FORM. 'bulk': how many values and letters a reading holds, each counted each time it is reached (what is shared counts as often as it is met; a slice's spare places count too). A statement '..UptoSaid' is the law's where the arguments, and the package variables that the reading takes, are together of bulk at most 1048576: NARROWER than '..Said'. Prove '..Said' where nothing that the law and all that it calls make is longer than what came in: it says more and counts as full. Else prove '..UptoSaid'. A law counts once. -/
mutual
def uptoBulk {H : Type} : DataW H → Nat
  | .lit (.string bytes) => bytes.length + 1
  | .lit _ => 1
  | .nil => 1
  | .ptr d => uptoBulk d + 1
  | .slice elems spare => uptoBulkAll elems + uptoBulkAll spare + 1
  | .agg parts => uptoBulkAll parts + 1
  | .iface _ d => uptoBulk d + 1
  | .map entries => uptoBulkEntries entries + 1
  | .held _ => 1
def uptoBulkAll {H : Type} : List (DataW H) → Nat
  | [] => 0
  | d :: r => uptoBulk d + uptoBulkAll r
def uptoBulkEntries {H : Type} : List (Lit × DataW H) → Nat
  | [] => 0
  | x :: r => uptoBulkEntry x + uptoBulkEntries r
def uptoBulkEntry {H : Type} : Lit × DataW H → Nat
  | (.string bytes, d) => bytes.length + uptoBulk d + 1
  | (_, d) => uptoBulk d + 1
 end
def uptoSmall : (H : Type) → List (DataW H) → Bool := fun _ ds => decide (uptoBulkAll ds ≤ 1048576)
def OpenSpec.upto (s : _root_.Go.ChangeSpec) : _root_.Go.OpenSpec := { _root_.Go.OpenSpec.ofChange s with cond := some uptoSmall }

/-- 'solderlaw03.CodeOne', WHERE WHAT IT READS IS OF BULK AT MOST 1048576: true; the input reads as it did. -/
def codeOneUptoRow : OpenClaim := { program := "ytkmklmpolnkkeaa", sum := "1fc12f289330a4dbe97b5489d5228283635b95c5e2e757d09f3435338df08c76", func := "solder/solderlaw03.CodeOne", spec := "codeOne", unfollowed := true, recurses := true, apart := false, narrowed := true }
def CodeOneUptoSaid : Prop := codeOneUptoRow.holds Try.pinned (OpenSpec.upto codeOneSpec)

/-- 'solderlaw03.CodeRegs', WHERE WHAT IT READS IS OF BULK AT MOST 1048576: true; the input reads as it did. -/
def codeRegsUptoRow : OpenClaim := { program := "ytkmklmpolnkkeaa", sum := "1fc12f289330a4dbe97b5489d5228283635b95c5e2e757d09f3435338df08c76", func := "solder/solderlaw03.CodeRegs", spec := "codeRegs", unfollowed := true, recurses := true, apart := false, narrowed := true }
def CodeRegsUptoSaid : Prop := codeRegsUptoRow.holds Try.pinned (OpenSpec.upto codeRegsSpec)

/-- 'solderlaw03.CodeFits', WHERE WHAT IT READS IS OF BULK AT MOST 1048576: true; the input reads as it did. -/
def codeFitsUptoRow : OpenClaim := { program := "ytkmklmpolnkkeaa", sum := "1fc12f289330a4dbe97b5489d5228283635b95c5e2e757d09f3435338df08c76", func := "solder/solderlaw03.CodeFits", spec := "codeFits", unfollowed := true, recurses := true, apart := false, narrowed := true }
def CodeFitsUptoSaid : Prop := codeFitsUptoRow.holds Try.pinned (OpenSpec.upto codeFitsSpec)

/-- 'solderlaw03.CodeEncodes', WHERE WHAT IT READS IS OF BULK AT MOST 1048576: true; the input reads as it did. -/
def codeEncodesUptoRow : OpenClaim := { program := "ytkmklmpolnkkeaa", sum := "1fc12f289330a4dbe97b5489d5228283635b95c5e2e757d09f3435338df08c76", func := "solder/solderlaw03.CodeEncodes", spec := "codeEncodes", unfollowed := true, recurses := true, apart := false, narrowed := true }
def CodeEncodesUptoSaid : Prop := codeEncodesUptoRow.holds Try.pinned (OpenSpec.upto codeEncodesSpec)

/-- 'solderlaw03.CodeDecodes', WHERE WHAT IT READS IS OF BULK AT MOST 1048576: true; the input reads as it did. -/
def codeDecodesUptoRow : OpenClaim := { program := "ytkmklmpolnkkeaa", sum := "1fc12f289330a4dbe97b5489d5228283635b95c5e2e757d09f3435338df08c76", func := "solder/solderlaw03.CodeDecodes", spec := "codeDecodes", unfollowed := true, recurses := true, apart := false, narrowed := true }
def CodeDecodesUptoSaid : Prop := codeDecodesUptoRow.holds Try.pinned (OpenSpec.upto codeDecodesSpec)

/-- 'solderlaw03.CodeImms', WHERE WHAT IT READS IS OF BULK AT MOST 1048576: true; the input reads as it did. -/
def codeImmsUptoRow : OpenClaim := { program := "ytkmklmpolnkkeaa", sum := "1fc12f289330a4dbe97b5489d5228283635b95c5e2e757d09f3435338df08c76", func := "solder/solderlaw03.CodeImms", spec := "codeImms", unfollowed := true, recurses := true, apart := false, narrowed := true }
def CodeImmsUptoSaid : Prop := codeImmsUptoRow.holds Try.pinned (OpenSpec.upto codeImmsSpec)

end Rows
end Go.Proofs.Ytkmklmpolnkkeaa
