/-
  No cell of these rows narrows 'for every input' (looked for: loops, veiled, ifaces, maps, wideKeys, modest, calm, conditions, laid).
  DERIVED. THE GIVEN ROWS OF THIS SEAT. 7 by the template 'for every input the law returns true; each argument reads behind the call as it read before'; 0 by the template 'total and deterministic' (their statements: YtabhafllkhoefaaTotals.lean).
  GIVEN WITH THE SEED: the statements are not yours to turn. If you find one false, say at which input.
  Laid BY PROGRAM, IN A SANDBOX (cutbox-rows.mjs): the forced cells as the released guide's own fill.sh prints them over the translation 2b3938875c4da03e… (all of the seat's roots in one cut). By AI agents, Wed Nov 11 2026. No macro, syntax, notation, axiom, sorry.
-/
import Derived.Test.YtabhafllkhoefaaChecked
import GoSem.Claim
import GoSem.ClaimJoined
import GoSem.ClaimMapViews
import Derived.JoinedTies
import Derived.KernelRfl
namespace Go.Proofs.Ytabhafllkhoefaa
/- THE CELL 'sum', in the pinned program and in every row, IS THE sha256 OF THE DUMP (.gsa) THAT YtabhafllkhoefaaProg.lean LOADS. Nothing in Lean hashes anything: it is a label: what it is worth is what the hold of that sum in a sandbox is worth. -/
noncomputable def Try.pinned : Pinned := { name := "ytabhafllkhoefaa", sum := "2b3938875c4da03e0009c26bbe6543d8cfec7cf56c510fa9482da5ae244dc82d", checked := Try.checked }
namespace Rows
def none {H : Type} : Left H := { results := [], args := [] }

/-- 'masklaw2.WavePacks': WHATEVER THE INPUT: true; the input reads as it did. -/
def wavePacksSpec : ChangeSpec := { name := "wavePacks", fn := fun _ => fun
  | [d1, d2] => { results := [.lit (.bool true)], args := [d1, d2] }
  | _ => none }
def wavePacksRow : OpenClaim := { program := "ytabhafllkhoefaa", sum := "2b3938875c4da03e0009c26bbe6543d8cfec7cf56c510fa9482da5ae244dc82d", func := "maskwright/masklaw2.WavePacks", spec := "wavePacks", unfollowed := true, recurses := true, apart := false }
def WavePacksSaid : Prop := wavePacksRow.holds Try.pinned (OpenSpec.ofChange wavePacksSpec)

/-- ITS FALSE NEIGHBOUR: 'it returns false'. Refute it at one input. -/
def wavePacksWrong : ChangeSpec := { name := "wavePacks", fn := fun _ => fun
  | [d1, d2] => { results := [.lit (.bool false)], args := [d1, d2] }
  | _ => none }
def WavePacksWrongFalsely : Prop := wavePacksRow.holds Try.pinned (OpenSpec.ofChange wavePacksWrong)

/-- 'masklaw2.WaveChecks': WHATEVER THE INPUT: true; the input reads as it did. -/
def waveChecksSpec : ChangeSpec := { name := "waveChecks", fn := fun _ => fun
  | [d1, d2, d3, d4] => { results := [.lit (.bool true)], args := [d1, d2, d3, d4] }
  | _ => none }
def waveChecksRow : OpenClaim := { program := "ytabhafllkhoefaa", sum := "2b3938875c4da03e0009c26bbe6543d8cfec7cf56c510fa9482da5ae244dc82d", func := "maskwright/masklaw2.WaveChecks", spec := "waveChecks", unfollowed := true, recurses := true, apart := false }
def WaveChecksSaid : Prop := waveChecksRow.holds Try.pinned (OpenSpec.ofChange waveChecksSpec)

/-- ITS FALSE NEIGHBOUR: 'it returns false'. Refute it at one input. -/
def waveChecksWrong : ChangeSpec := { name := "waveChecks", fn := fun _ => fun
  | [d1, d2, d3, d4] => { results := [.lit (.bool false)], args := [d1, d2, d3, d4] }
  | _ => none }
def WaveChecksWrongFalsely : Prop := waveChecksRow.holds Try.pinned (OpenSpec.ofChange waveChecksWrong)

/-- 'masklaw2.WaveCuts': WHATEVER THE INPUT: true; the input reads as it did. -/
def waveCutsSpec : ChangeSpec := { name := "waveCuts", fn := fun _ => fun
  | [d1, d2, d3] => { results := [.lit (.bool true)], args := [d1, d2, d3] }
  | _ => none }
def waveCutsRow : OpenClaim := { program := "ytabhafllkhoefaa", sum := "2b3938875c4da03e0009c26bbe6543d8cfec7cf56c510fa9482da5ae244dc82d", func := "maskwright/masklaw2.WaveCuts", spec := "waveCuts", unfollowed := true, recurses := true, apart := false }
def WaveCutsSaid : Prop := waveCutsRow.holds Try.pinned (OpenSpec.ofChange waveCutsSpec)

/-- ITS FALSE NEIGHBOUR: 'it returns false'. Refute it at one input. -/
def waveCutsWrong : ChangeSpec := { name := "waveCuts", fn := fun _ => fun
  | [d1, d2, d3] => { results := [.lit (.bool false)], args := [d1, d2, d3] }
  | _ => none }
def WaveCutsWrongFalsely : Prop := waveCutsRow.holds Try.pinned (OpenSpec.ofChange waveCutsWrong)

/-- 'masklaw2.WaveAppends': WHATEVER THE INPUT: true; the input reads as it did. -/
def waveAppendsSpec : ChangeSpec := { name := "waveAppends", fn := fun _ => fun
  | [d1, d2] => { results := [.lit (.bool true)], args := [d1, d2] }
  | _ => none }
def waveAppendsRow : OpenClaim := { program := "ytabhafllkhoefaa", sum := "2b3938875c4da03e0009c26bbe6543d8cfec7cf56c510fa9482da5ae244dc82d", func := "maskwright/masklaw2.WaveAppends", spec := "waveAppends", unfollowed := true, recurses := true, apart := false }
def WaveAppendsSaid : Prop := waveAppendsRow.holds Try.pinned (OpenSpec.ofChange waveAppendsSpec)

/-- ITS FALSE NEIGHBOUR: 'it returns false'. Refute it at one input. -/
def waveAppendsWrong : ChangeSpec := { name := "waveAppends", fn := fun _ => fun
  | [d1, d2] => { results := [.lit (.bool false)], args := [d1, d2] }
  | _ => none }
def WaveAppendsWrongFalsely : Prop := waveAppendsRow.holds Try.pinned (OpenSpec.ofChange waveAppendsWrong)

/-- 'masklaw2.WaveUnpacks': WHATEVER THE INPUT: true; the input reads as it did. -/
def waveUnpacksSpec : ChangeSpec := { name := "waveUnpacks", fn := fun _ => fun
  | [d] => { results := [.lit (.bool true)], args := [d] }
  | _ => none }
def waveUnpacksRow : OpenClaim := { program := "ytabhafllkhoefaa", sum := "2b3938875c4da03e0009c26bbe6543d8cfec7cf56c510fa9482da5ae244dc82d", func := "maskwright/masklaw2.WaveUnpacks", spec := "waveUnpacks", unfollowed := true, recurses := true, apart := false }
def WaveUnpacksSaid : Prop := waveUnpacksRow.holds Try.pinned (OpenSpec.ofChange waveUnpacksSpec)

/-- ITS FALSE NEIGHBOUR: 'it returns false'. Refute it at one input. -/
def waveUnpacksWrong : ChangeSpec := { name := "waveUnpacks", fn := fun _ => fun
  | [d] => { results := [.lit (.bool false)], args := [d] }
  | _ => none }
def WaveUnpacksWrongFalsely : Prop := waveUnpacksRow.holds Try.pinned (OpenSpec.ofChange waveUnpacksWrong)

/-- 'masklaw2.WaveParts': WHATEVER THE INPUT: true; the input reads as it did. -/
def wavePartsSpec : ChangeSpec := { name := "waveParts", fn := fun _ => fun
  | [d1, d2] => { results := [.lit (.bool true)], args := [d1, d2] }
  | _ => none }
def wavePartsRow : OpenClaim := { program := "ytabhafllkhoefaa", sum := "2b3938875c4da03e0009c26bbe6543d8cfec7cf56c510fa9482da5ae244dc82d", func := "maskwright/masklaw2.WaveParts", spec := "waveParts", unfollowed := true, recurses := true, apart := false }
def WavePartsSaid : Prop := wavePartsRow.holds Try.pinned (OpenSpec.ofChange wavePartsSpec)

/-- ITS FALSE NEIGHBOUR: 'it returns false'. Refute it at one input. -/
def wavePartsWrong : ChangeSpec := { name := "waveParts", fn := fun _ => fun
  | [d1, d2] => { results := [.lit (.bool false)], args := [d1, d2] }
  | _ => none }
def WavePartsWrongFalsely : Prop := wavePartsRow.holds Try.pinned (OpenSpec.ofChange wavePartsWrong)

/-- 'masklaw2.WaveRecords': WHATEVER THE INPUT: true; the input reads as it did. -/
def waveRecordsSpec : ChangeSpec := { name := "waveRecords", fn := fun _ => fun
  | [d1, d2, d3, d4] => { results := [.lit (.bool true)], args := [d1, d2, d3, d4] }
  | _ => none }
def waveRecordsRow : OpenClaim := { program := "ytabhafllkhoefaa", sum := "2b3938875c4da03e0009c26bbe6543d8cfec7cf56c510fa9482da5ae244dc82d", func := "maskwright/masklaw2.WaveRecords", spec := "waveRecords", unfollowed := true, recurses := true, apart := false }
def WaveRecordsSaid : Prop := waveRecordsRow.holds Try.pinned (OpenSpec.ofChange waveRecordsSpec)

/-- ITS FALSE NEIGHBOUR: 'it returns false'. Refute it at one input. -/
def waveRecordsWrong : ChangeSpec := { name := "waveRecords", fn := fun _ => fun
  | [d1, d2, d3, d4] => { results := [.lit (.bool false)], args := [d1, d2, d3, d4] }
  | _ => none }
def WaveRecordsWrongFalsely : Prop := waveRecordsRow.holds Try.pinned (OpenSpec.ofChange waveRecordsWrong)

/- THE SECOND FORM. 'bulk': how many values and letters a reading holds, each counted each time it is reached (what is shared counts as often as it is met; a slice's spare places count too). A statement '..UptoSaid' is the law's where the arguments, and the package variables that the reading takes, are together of bulk at most 1048576: NARROWER than '..Said'. Prove '..Said' where nothing that the law and all that it calls make is longer than what came in: it says more and counts as full. Else prove '..UptoSaid'. A law counts once. -/
mutual
def uptoBulk {H : Type} : DataW H → Nat
  | .lit (.string bytes) => bytes.length + 1
  | .lit _ => 1
  | .nil => 1
  | .ptr d => uptoBulk d + 1
  | .slice elems spare => uptoBulkAll elems + uptoBulkAll spare + 1
  | .agg parts => uptoBulkAll parts + 1
  | .iface _ d => uptoBulk d + 1
  | .map entries => uptoBulkEntries entries + 1
  | .held _ => 1
def uptoBulkAll {H : Type} : List (DataW H) → Nat
  | [] => 0
  | d :: r => uptoBulk d + uptoBulkAll r
def uptoBulkEntries {H : Type} : List (Lit × DataW H) → Nat
  | [] => 0
  | x :: r => uptoBulkEntry x + uptoBulkEntries r
def uptoBulkEntry {H : Type} : Lit × DataW H → Nat
  | (.string bytes, d) => bytes.length + uptoBulk d + 1
  | (_, d) => uptoBulk d + 1
 end
def uptoSmall : (H : Type) → List (DataW H) → Bool := fun _ ds => decide (uptoBulkAll ds ≤ 1048576)
def OpenSpec.upto (s : _root_.Go.ChangeSpec) : _root_.Go.OpenSpec := { _root_.Go.OpenSpec.ofChange s with cond := some uptoSmall }

/-- 'masklaw2.WavePacks', WHERE WHAT IT READS IS OF BULK AT MOST 1048576: true; the input reads as it did. -/
def wavePacksUptoRow : OpenClaim := { program := "ytabhafllkhoefaa", sum := "2b3938875c4da03e0009c26bbe6543d8cfec7cf56c510fa9482da5ae244dc82d", func := "maskwright/masklaw2.WavePacks", spec := "wavePacks", unfollowed := true, recurses := true, apart := false, narrowed := true }
def WavePacksUptoSaid : Prop := wavePacksUptoRow.holds Try.pinned (OpenSpec.upto wavePacksSpec)

/-- 'masklaw2.WaveChecks', WHERE WHAT IT READS IS OF BULK AT MOST 1048576: true; the input reads as it did. -/
def waveChecksUptoRow : OpenClaim := { program := "ytabhafllkhoefaa", sum := "2b3938875c4da03e0009c26bbe6543d8cfec7cf56c510fa9482da5ae244dc82d", func := "maskwright/masklaw2.WaveChecks", spec := "waveChecks", unfollowed := true, recurses := true, apart := false, narrowed := true }
def WaveChecksUptoSaid : Prop := waveChecksUptoRow.holds Try.pinned (OpenSpec.upto waveChecksSpec)

/-- 'masklaw2.WaveCuts', WHERE WHAT IT READS IS OF BULK AT MOST 1048576: true; the input reads as it did. -/
def waveCutsUptoRow : OpenClaim := { program := "ytabhafllkhoefaa", sum := "2b3938875c4da03e0009c26bbe6543d8cfec7cf56c510fa9482da5ae244dc82d", func := "maskwright/masklaw2.WaveCuts", spec := "waveCuts", unfollowed := true, recurses := true, apart := false, narrowed := true }
def WaveCutsUptoSaid : Prop := waveCutsUptoRow.holds Try.pinned (OpenSpec.upto waveCutsSpec)

/-- 'masklaw2.WaveAppends', WHERE WHAT IT READS IS OF BULK AT MOST 1048576: true; the input reads as it did. -/
def waveAppendsUptoRow : OpenClaim := { program := "ytabhafllkhoefaa", sum := "2b3938875c4da03e0009c26bbe6543d8cfec7cf56c510fa9482da5ae244dc82d", func := "maskwright/masklaw2.WaveAppends", spec := "waveAppends", unfollowed := true, recurses := true, apart := false, narrowed := true }
def WaveAppendsUptoSaid : Prop := waveAppendsUptoRow.holds Try.pinned (OpenSpec.upto waveAppendsSpec)

/-- 'masklaw2.WaveUnpacks', WHERE WHAT IT READS IS OF BULK AT MOST 1048576: true; the input reads as it did. -/
def waveUnpacksUptoRow : OpenClaim := { program := "ytabhafllkhoefaa", sum := "2b3938875c4da03e0009c26bbe6543d8cfec7cf56c510fa9482da5ae244dc82d", func := "maskwright/masklaw2.WaveUnpacks", spec := "waveUnpacks", unfollowed := true, recurses := true, apart := false, narrowed := true }
def WaveUnpacksUptoSaid : Prop := waveUnpacksUptoRow.holds Try.pinned (OpenSpec.upto waveUnpacksSpec)

/-- 'masklaw2.WaveParts', WHERE WHAT IT READS IS OF BULK AT MOST 1048576: true; the input reads as it did. -/
def wavePartsUptoRow : OpenClaim := { program := "ytabhafllkhoefaa", sum := "2b3938875c4da03e0009c26bbe6543d8cfec7cf56c510fa9482da5ae244dc82d", func := "maskwright/masklaw2.WaveParts", spec := "waveParts", unfollowed := true, recurses := true, apart := false, narrowed := true }
def WavePartsUptoSaid : Prop := wavePartsUptoRow.holds Try.pinned (OpenSpec.upto wavePartsSpec)

/-- 'masklaw2.WaveRecords', WHERE WHAT IT READS IS OF BULK AT MOST 1048576: true; the input reads as it did. -/
def waveRecordsUptoRow : OpenClaim := { program := "ytabhafllkhoefaa", sum := "2b3938875c4da03e0009c26bbe6543d8cfec7cf56c510fa9482da5ae244dc82d", func := "maskwright/masklaw2.WaveRecords", spec := "waveRecords", unfollowed := true, recurses := true, apart := false, narrowed := true }
def WaveRecordsUptoSaid : Prop := waveRecordsUptoRow.holds Try.pinned (OpenSpec.upto waveRecordsSpec)

end Rows
end Go.Proofs.Ytabhafllkhoefaa
