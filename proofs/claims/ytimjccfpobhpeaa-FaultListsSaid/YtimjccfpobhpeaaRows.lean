/-
  No cell of these rows narrows 'for every input' (looked for: loops, veiled, ifaces, maps, wideKeys, modest, calm, conditions, laid).
  DERIVED. THE GIVEN ROWS OF THIS SEAT. 5 by the template 'for every input the law returns true; each argument reads behind the call as it read before'; 0 by the template 'total and deterministic' (their statements: YtimjccfpobhpeaaTotals.lean).
  GIVEN WITH THE SEED: the statements are not yours to turn. If you find one false, say at which input.
  Laid BY PROGRAM, IN A SANDBOX (cutbox-rows.mjs): the forced cells as the released guide's own fill.sh prints them over the translation 1a7f86d59beeb88a… (all of the seat's roots in one cut). By AI agents, Wed Nov 11 2026. No macro, syntax, notation, axiom, sorry.
-/
import Derived.Test.YtimjccfpobhpeaaChecked
import GoSem.Claim
import GoSem.ClaimJoined
import GoSem.ClaimMapViews
import Derived.JoinedTies
import Derived.KernelRfl
namespace Go.Proofs.Ytimjccfpobhpeaa
/- THE CELL 'sum', in the pinned program and in every row, IS THE sha256 OF THE DUMP (.gsa) THAT YtimjccfpobhpeaaProg.lean LOADS. Nothing in Lean hashes anything: it is a label: what it is worth is what the hold of that sum in a sandbox is worth. -/
noncomputable def Try.pinned : Pinned := { name := "ytimjccfpobhpeaa", sum := "1a7f86d59beeb88ac1c785d61a369aa2ef55d83867ff31034d64df03f8f32374", checked := Try.checked }
namespace Rows
def none {H : Type} : Left H := { results := [], args := [] }

/-- 'masklaw2.FaultInjects': WHATEVER THE INPUT: true; the input reads as it did. -/
def faultInjectsSpec : ChangeSpec := { name := "faultInjects", fn := fun _ => fun
  | [d1, d2] => { results := [.lit (.bool true)], args := [d1, d2] }
  | _ => none }
def faultInjectsRow : OpenClaim := { program := "ytimjccfpobhpeaa", sum := "1a7f86d59beeb88ac1c785d61a369aa2ef55d83867ff31034d64df03f8f32374", func := "maskwright/masklaw2.FaultInjects", spec := "faultInjects", unfollowed := true, recurses := true, plainKeys := false, apart := false }
def FaultInjectsSaid : Prop := faultInjectsRow.holds Try.pinned (OpenSpec.ofChange faultInjectsSpec)

/-- ITS FALSE NEIGHBOUR: 'it returns false'. Refute it at one input. -/
def faultInjectsWrong : ChangeSpec := { name := "faultInjects", fn := fun _ => fun
  | [d1, d2] => { results := [.lit (.bool false)], args := [d1, d2] }
  | _ => none }
def FaultInjectsWrongFalsely : Prop := faultInjectsRow.holds Try.pinned (OpenSpec.ofChange faultInjectsWrong)

/-- 'masklaw2.FaultLists': WHATEVER THE INPUT: true; the input reads as it did. -/
def faultListsSpec : ChangeSpec := { name := "faultLists", fn := fun _ => fun
  | [d] => { results := [.lit (.bool true)], args := [d] }
  | _ => none }
def faultListsRow : OpenClaim := { program := "ytimjccfpobhpeaa", sum := "1a7f86d59beeb88ac1c785d61a369aa2ef55d83867ff31034d64df03f8f32374", func := "maskwright/masklaw2.FaultLists", spec := "faultLists", unfollowed := true, recurses := true, plainKeys := false, apart := false }
def FaultListsSaid : Prop := faultListsRow.holds Try.pinned (OpenSpec.ofChange faultListsSpec)

/-- ITS FALSE NEIGHBOUR: 'it returns false'. Refute it at one input. -/
def faultListsWrong : ChangeSpec := { name := "faultLists", fn := fun _ => fun
  | [d] => { results := [.lit (.bool false)], args := [d] }
  | _ => none }
def FaultListsWrongFalsely : Prop := faultListsRow.holds Try.pinned (OpenSpec.ofChange faultListsWrong)

/-- 'masklaw2.FaultDiagnoses': WHATEVER THE INPUT: true; the input reads as it did. -/
def faultDiagnosesSpec : ChangeSpec := { name := "faultDiagnoses", fn := fun _ => fun
  | [d1, d2, d3, d4] => { results := [.lit (.bool true)], args := [d1, d2, d3, d4] }
  | _ => none }
def faultDiagnosesRow : OpenClaim := { program := "ytimjccfpobhpeaa", sum := "1a7f86d59beeb88ac1c785d61a369aa2ef55d83867ff31034d64df03f8f32374", func := "maskwright/masklaw2.FaultDiagnoses", spec := "faultDiagnoses", unfollowed := true, recurses := true, plainKeys := false, apart := false }
def FaultDiagnosesSaid : Prop := faultDiagnosesRow.holds Try.pinned (OpenSpec.ofChange faultDiagnosesSpec)

/-- ITS FALSE NEIGHBOUR: 'it returns false'. Refute it at one input. -/
def faultDiagnosesWrong : ChangeSpec := { name := "faultDiagnoses", fn := fun _ => fun
  | [d1, d2, d3, d4] => { results := [.lit (.bool false)], args := [d1, d2, d3, d4] }
  | _ => none }
def FaultDiagnosesWrongFalsely : Prop := faultDiagnosesRow.holds Try.pinned (OpenSpec.ofChange faultDiagnosesWrong)

/-- 'masklaw2.FaultErrors': WHATEVER THE INPUT: true; the input reads as it did. -/
def faultErrorsSpec : ChangeSpec := { name := "faultErrors", fn := fun _ => fun
  | [d1, d2, d3] => { results := [.lit (.bool true)], args := [d1, d2, d3] }
  | _ => none }
def faultErrorsRow : OpenClaim := { program := "ytimjccfpobhpeaa", sum := "1a7f86d59beeb88ac1c785d61a369aa2ef55d83867ff31034d64df03f8f32374", func := "maskwright/masklaw2.FaultErrors", spec := "faultErrors", unfollowed := true, recurses := true, plainKeys := false, apart := false }
def FaultErrorsSaid : Prop := faultErrorsRow.holds Try.pinned (OpenSpec.ofChange faultErrorsSpec)

/-- ITS FALSE NEIGHBOUR: 'it returns false'. Refute it at one input. -/
def faultErrorsWrong : ChangeSpec := { name := "faultErrors", fn := fun _ => fun
  | [d1, d2, d3] => { results := [.lit (.bool false)], args := [d1, d2, d3] }
  | _ => none }
def FaultErrorsWrongFalsely : Prop := faultErrorsRow.holds Try.pinned (OpenSpec.ofChange faultErrorsWrong)

/-- 'masklaw2.FaultDetects': WHATEVER THE INPUT: true; the input reads as it did. -/
def faultDetectsSpec : ChangeSpec := { name := "faultDetects", fn := fun _ => fun
  | [d1, d2, d3] => { results := [.lit (.bool true)], args := [d1, d2, d3] }
  | _ => none }
def faultDetectsRow : OpenClaim := { program := "ytimjccfpobhpeaa", sum := "1a7f86d59beeb88ac1c785d61a369aa2ef55d83867ff31034d64df03f8f32374", func := "maskwright/masklaw2.FaultDetects", spec := "faultDetects", unfollowed := true, recurses := true, plainKeys := false, apart := false }
def FaultDetectsSaid : Prop := faultDetectsRow.holds Try.pinned (OpenSpec.ofChange faultDetectsSpec)

/-- ITS FALSE NEIGHBOUR: 'it returns false'. Refute it at one input. -/
def faultDetectsWrong : ChangeSpec := { name := "faultDetects", fn := fun _ => fun
  | [d1, d2, d3] => { results := [.lit (.bool false)], args := [d1, d2, d3] }
  | _ => none }
def FaultDetectsWrongFalsely : Prop := faultDetectsRow.holds Try.pinned (OpenSpec.ofChange faultDetectsWrong)

/- THE SECOND FORM. 'bulk': how many values and letters a reading holds, each counted each time it is reached (what is shared counts as often as it is met; a slice's spare places count too). A statement '..UptoSaid' is the law's where the arguments, and the package variables that the reading takes, are together of bulk at most 1048576: NARROWER than '..Said'. Prove '..Said' where nothing that the law and all that it calls make is longer than what came in: it says more and counts as full. Else prove '..UptoSaid'. A law counts once. -/
mutual
def uptoBulk {H : Type} : DataW H → Nat
  | .lit (.string bytes) => bytes.length + 1
  | .lit _ => 1
  | .nil => 1
  | .ptr d => uptoBulk d + 1
  | .slice elems spare => uptoBulkAll elems + uptoBulkAll spare + 1
  | .agg parts => uptoBulkAll parts + 1
  | .iface _ d => uptoBulk d + 1
  | .map entries => uptoBulkEntries entries + 1
  | .held _ => 1
def uptoBulkAll {H : Type} : List (DataW H) → Nat
  | [] => 0
  | d :: r => uptoBulk d + uptoBulkAll r
def uptoBulkEntries {H : Type} : List (Lit × DataW H) → Nat
  | [] => 0
  | x :: r => uptoBulkEntry x + uptoBulkEntries r
def uptoBulkEntry {H : Type} : Lit × DataW H → Nat
  | (.string bytes, d) => bytes.length + uptoBulk d + 1
  | (_, d) => uptoBulk d + 1
 end
def uptoSmall : (H : Type) → List (DataW H) → Bool := fun _ ds => decide (uptoBulkAll ds ≤ 1048576)
def OpenSpec.upto (s : _root_.Go.ChangeSpec) : _root_.Go.OpenSpec := { _root_.Go.OpenSpec.ofChange s with cond := some uptoSmall }

/-- 'masklaw2.FaultInjects', WHERE WHAT IT READS IS OF BULK AT MOST 1048576: true; the input reads as it did. -/
def faultInjectsUptoRow : OpenClaim := { program := "ytimjccfpobhpeaa", sum := "1a7f86d59beeb88ac1c785d61a369aa2ef55d83867ff31034d64df03f8f32374", func := "maskwright/masklaw2.FaultInjects", spec := "faultInjects", unfollowed := true, recurses := true, plainKeys := false, apart := false, narrowed := true }
def FaultInjectsUptoSaid : Prop := faultInjectsUptoRow.holds Try.pinned (OpenSpec.upto faultInjectsSpec)

/-- 'masklaw2.FaultLists', WHERE WHAT IT READS IS OF BULK AT MOST 1048576: true; the input reads as it did. -/
def faultListsUptoRow : OpenClaim := { program := "ytimjccfpobhpeaa", sum := "1a7f86d59beeb88ac1c785d61a369aa2ef55d83867ff31034d64df03f8f32374", func := "maskwright/masklaw2.FaultLists", spec := "faultLists", unfollowed := true, recurses := true, plainKeys := false, apart := false, narrowed := true }
def FaultListsUptoSaid : Prop := faultListsUptoRow.holds Try.pinned (OpenSpec.upto faultListsSpec)

/-- 'masklaw2.FaultDiagnoses', WHERE WHAT IT READS IS OF BULK AT MOST 1048576: true; the input reads as it did. -/
def faultDiagnosesUptoRow : OpenClaim := { program := "ytimjccfpobhpeaa", sum := "1a7f86d59beeb88ac1c785d61a369aa2ef55d83867ff31034d64df03f8f32374", func := "maskwright/masklaw2.FaultDiagnoses", spec := "faultDiagnoses", unfollowed := true, recurses := true, plainKeys := false, apart := false, narrowed := true }
def FaultDiagnosesUptoSaid : Prop := faultDiagnosesUptoRow.holds Try.pinned (OpenSpec.upto faultDiagnosesSpec)

/-- 'masklaw2.FaultErrors', WHERE WHAT IT READS IS OF BULK AT MOST 1048576: true; the input reads as it did. -/
def faultErrorsUptoRow : OpenClaim := { program := "ytimjccfpobhpeaa", sum := "1a7f86d59beeb88ac1c785d61a369aa2ef55d83867ff31034d64df03f8f32374", func := "maskwright/masklaw2.FaultErrors", spec := "faultErrors", unfollowed := true, recurses := true, plainKeys := false, apart := false, narrowed := true }
def FaultErrorsUptoSaid : Prop := faultErrorsUptoRow.holds Try.pinned (OpenSpec.upto faultErrorsSpec)

/-- 'masklaw2.FaultDetects', WHERE WHAT IT READS IS OF BULK AT MOST 1048576: true; the input reads as it did. -/
def faultDetectsUptoRow : OpenClaim := { program := "ytimjccfpobhpeaa", sum := "1a7f86d59beeb88ac1c785d61a369aa2ef55d83867ff31034d64df03f8f32374", func := "maskwright/masklaw2.FaultDetects", spec := "faultDetects", unfollowed := true, recurses := true, plainKeys := false, apart := false, narrowed := true }
def FaultDetectsUptoSaid : Prop := faultDetectsUptoRow.holds Try.pinned (OpenSpec.upto faultDetectsSpec)

end Rows
end Go.Proofs.Ytimjccfpobhpeaa
