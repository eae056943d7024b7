/-
  No cell of these rows narrows 'for every input' (looked for: loops, veiled, ifaces, maps, wideKeys, modest, calm, conditions, laid).
  DERIVED. THE GIVEN ROWS OF THIS SEAT. 8 by the template 'for every input the law returns true; each argument reads behind the call as it read before'; 0 by the template 'total and deterministic' (their statements: YtflinpnmpkdopaaTotals.lean).
  GIVEN WITH THE SEED: the statements are not yours to turn. If you find one false, say at which input.
  Laid BY PROGRAM, IN A SANDBOX (cutbox-rows.mjs): the forced cells as the released guide's own fill.sh prints them over the translation e3617382b3798b7c… (all of the seat's roots in one cut). By AI agents, Wed Nov 11 2026. No macro, syntax, notation, axiom, sorry.
-/
import Derived.Test.YtflinpnmpkdopaaChecked
import GoSem.Claim
import GoSem.ClaimJoined
import GoSem.ClaimMapViews
import Derived.JoinedTies
import Derived.KernelRfl
namespace Go.Proofs.Ytflinpnmpkdopaa
/- THE CELL 'sum', in the pinned program and in every row, IS THE sha256 OF THE DUMP (.gsa) THAT YtflinpnmpkdopaaProg.lean LOADS. Nothing in Lean hashes anything: it is a label: what it is worth is what the hold of that sum in a sandbox is worth. -/
noncomputable def Try.pinned : Pinned := { name := "ytflinpnmpkdopaa", sum := "e3617382b3798b7c44d7647df6e09b70c5be634460c21e213b85d043392ccae2", checked := Try.checked }
namespace Rows
def none {H : Type} : Left H := { results := [], args := [] }

/-- 'stratalaw07.VersionNames': WHATEVER THE INPUT: true; the input reads as it did. -/
def versionNamesSpec : ChangeSpec := { name := "versionNames", fn := fun _ => fun
  | [] => { results := [.lit (.bool true)], args := [] }
  | _ => none }
def versionNamesRow : OpenClaim := { program := "ytflinpnmpkdopaa", sum := "e3617382b3798b7c44d7647df6e09b70c5be634460c21e213b85d043392ccae2", func := "strata/stratalaw07.VersionNames", spec := "versionNames", plainKeys := false, apart := false }
def VersionNamesSaid : Prop := versionNamesRow.holds Try.pinned (OpenSpec.ofChange versionNamesSpec)

/-- ITS FALSE NEIGHBOUR: 'it returns false'. Refute it at one input. -/
def versionNamesWrong : ChangeSpec := { name := "versionNames", fn := fun _ => fun
  | [] => { results := [.lit (.bool false)], args := [] }
  | _ => none }
def VersionNamesWrongFalsely : Prop := versionNamesRow.holds Try.pinned (OpenSpec.ofChange versionNamesWrong)

/-- 'stratalaw08.SweepNames': WHATEVER THE INPUT: true; the input reads as it did. -/
def sweepNamesSpec : ChangeSpec := { name := "sweepNames", fn := fun _ => fun
  | [] => { results := [.lit (.bool true)], args := [] }
  | _ => none }
def sweepNamesRow : OpenClaim := { program := "ytflinpnmpkdopaa", sum := "e3617382b3798b7c44d7647df6e09b70c5be634460c21e213b85d043392ccae2", func := "strata/stratalaw08.SweepNames", spec := "sweepNames", plainKeys := false, apart := false }
def SweepNamesSaid : Prop := sweepNamesRow.holds Try.pinned (OpenSpec.ofChange sweepNamesSpec)

/-- ITS FALSE NEIGHBOUR: 'it returns false'. Refute it at one input. -/
def sweepNamesWrong : ChangeSpec := { name := "sweepNames", fn := fun _ => fun
  | [] => { results := [.lit (.bool false)], args := [] }
  | _ => none }
def SweepNamesWrongFalsely : Prop := sweepNamesRow.holds Try.pinned (OpenSpec.ofChange sweepNamesWrong)

/-- 'stratalaw10.EngineNames': WHATEVER THE INPUT: true; the input reads as it did. -/
def engineNamesSpec : ChangeSpec := { name := "engineNames", fn := fun _ => fun
  | [] => { results := [.lit (.bool true)], args := [] }
  | _ => none }
def engineNamesRow : OpenClaim := { program := "ytflinpnmpkdopaa", sum := "e3617382b3798b7c44d7647df6e09b70c5be634460c21e213b85d043392ccae2", func := "strata/stratalaw10.EngineNames", spec := "engineNames", plainKeys := false, apart := false }
def EngineNamesSaid : Prop := engineNamesRow.holds Try.pinned (OpenSpec.ofChange engineNamesSpec)

/-- ITS FALSE NEIGHBOUR: 'it returns false'. Refute it at one input. -/
def engineNamesWrong : ChangeSpec := { name := "engineNames", fn := fun _ => fun
  | [] => { results := [.lit (.bool false)], args := [] }
  | _ => none }
def EngineNamesWrongFalsely : Prop := engineNamesRow.holds Try.pinned (OpenSpec.ofChange engineNamesWrong)

/-- 'stratalaw14.AdyaNames': WHATEVER THE INPUT: true; the input reads as it did. -/
def adyaNamesSpec : ChangeSpec := { name := "adyaNames", fn := fun _ => fun
  | [] => { results := [.lit (.bool true)], args := [] }
  | _ => none }
def adyaNamesRow : OpenClaim := { program := "ytflinpnmpkdopaa", sum := "e3617382b3798b7c44d7647df6e09b70c5be634460c21e213b85d043392ccae2", func := "strata/stratalaw14.AdyaNames", spec := "adyaNames", plainKeys := false, apart := false }
def AdyaNamesSaid : Prop := adyaNamesRow.holds Try.pinned (OpenSpec.ofChange adyaNamesSpec)

/-- ITS FALSE NEIGHBOUR: 'it returns false'. Refute it at one input. -/
def adyaNamesWrong : ChangeSpec := { name := "adyaNames", fn := fun _ => fun
  | [] => { results := [.lit (.bool false)], args := [] }
  | _ => none }
def AdyaNamesWrongFalsely : Prop := adyaNamesRow.holds Try.pinned (OpenSpec.ofChange adyaNamesWrong)

/-- 'stratalaw08.SweepGarbage': WHATEVER THE INPUT: true; the input reads as it did. -/
def sweepGarbageSpec : ChangeSpec := { name := "sweepGarbage", fn := fun _ => fun
  | [d1, d2, d3] => { results := [.lit (.bool true)], args := [d1, d2, d3] }
  | _ => none }
def sweepGarbageRow : OpenClaim := { program := "ytflinpnmpkdopaa", sum := "e3617382b3798b7c44d7647df6e09b70c5be634460c21e213b85d043392ccae2", func := "strata/stratalaw08.SweepGarbage", spec := "sweepGarbage", plainKeys := false, apart := false }
def SweepGarbageSaid : Prop := sweepGarbageRow.holds Try.pinned (OpenSpec.ofChange sweepGarbageSpec)

/-- ITS FALSE NEIGHBOUR: 'it returns false'. Refute it at one input. -/
def sweepGarbageWrong : ChangeSpec := { name := "sweepGarbage", fn := fun _ => fun
  | [d1, d2, d3] => { results := [.lit (.bool false)], args := [d1, d2, d3] }
  | _ => none }
def SweepGarbageWrongFalsely : Prop := sweepGarbageRow.holds Try.pinned (OpenSpec.ofChange sweepGarbageWrong)

/-- 'stratalaw07.VersionJudges': WHATEVER THE INPUT: true; the input reads as it did. -/
def versionJudgesSpec : ChangeSpec := { name := "versionJudges", fn := fun _ => fun
  | [d1, d2, d3, d4] => { results := [.lit (.bool true)], args := [d1, d2, d3, d4] }
  | _ => none }
def versionJudgesRow : OpenClaim := { program := "ytflinpnmpkdopaa", sum := "e3617382b3798b7c44d7647df6e09b70c5be634460c21e213b85d043392ccae2", func := "strata/stratalaw07.VersionJudges", spec := "versionJudges", plainKeys := false, apart := false }
def VersionJudgesSaid : Prop := versionJudgesRow.holds Try.pinned (OpenSpec.ofChange versionJudgesSpec)

/-- ITS FALSE NEIGHBOUR: 'it returns false'. Refute it at one input. -/
def versionJudgesWrong : ChangeSpec := { name := "versionJudges", fn := fun _ => fun
  | [d1, d2, d3, d4] => { results := [.lit (.bool false)], args := [d1, d2, d3, d4] }
  | _ => none }
def VersionJudgesWrongFalsely : Prop := versionJudgesRow.holds Try.pinned (OpenSpec.ofChange versionJudgesWrong)

/-- 'stratalaw07.VersionFates': WHATEVER THE INPUT: true; the input reads as it did. -/
def versionFatesSpec : ChangeSpec := { name := "versionFates", fn := fun _ => fun
  | [d1, d2, d3, d4] => { results := [.lit (.bool true)], args := [d1, d2, d3, d4] }
  | _ => none }
def versionFatesRow : OpenClaim := { program := "ytflinpnmpkdopaa", sum := "e3617382b3798b7c44d7647df6e09b70c5be634460c21e213b85d043392ccae2", func := "strata/stratalaw07.VersionFates", spec := "versionFates", plainKeys := false, apart := false }
def VersionFatesSaid : Prop := versionFatesRow.holds Try.pinned (OpenSpec.ofChange versionFatesSpec)

/-- ITS FALSE NEIGHBOUR: 'it returns false'. Refute it at one input. -/
def versionFatesWrong : ChangeSpec := { name := "versionFates", fn := fun _ => fun
  | [d1, d2, d3, d4] => { results := [.lit (.bool false)], args := [d1, d2, d3, d4] }
  | _ => none }
def VersionFatesWrongFalsely : Prop := versionFatesRow.holds Try.pinned (OpenSpec.ofChange versionFatesWrong)

/-- 'stratalaw09.ValidNotes': WHATEVER THE INPUT: true; the input reads as it did. -/
def validNotesSpec : ChangeSpec := { name := "validNotes", fn := fun _ => fun
  | [d] => { results := [.lit (.bool true)], args := [d] }
  | _ => none }
def validNotesRow : OpenClaim := { program := "ytflinpnmpkdopaa", sum := "e3617382b3798b7c44d7647df6e09b70c5be634460c21e213b85d043392ccae2", func := "strata/stratalaw09.ValidNotes", spec := "validNotes", plainKeys := false, apart := false }
def ValidNotesSaid : Prop := validNotesRow.holds Try.pinned (OpenSpec.ofChange validNotesSpec)

/-- ITS FALSE NEIGHBOUR: 'it returns false'. Refute it at one input. -/
def validNotesWrong : ChangeSpec := { name := "validNotes", fn := fun _ => fun
  | [d] => { results := [.lit (.bool false)], args := [d] }
  | _ => none }
def ValidNotesWrongFalsely : Prop := validNotesRow.holds Try.pinned (OpenSpec.ofChange validNotesWrong)

/- THE SECOND FORM. 'bulk': how many values and letters a reading holds, each counted each time it is reached (what is shared counts as often as it is met; a slice's spare places count too). A statement '..UptoSaid' is the law's where the arguments, and the package variables that the reading takes, are together of bulk at most 1048576: NARROWER than '..Said'. Prove '..Said' where nothing that the law and all that it calls make is longer than what came in: it says more and counts as full. Else prove '..UptoSaid'. A law counts once. -/
mutual
def uptoBulk {H : Type} : DataW H → Nat
  | .lit (.string bytes) => bytes.length + 1
  | .lit _ => 1
  | .nil => 1
  | .ptr d => uptoBulk d + 1
  | .slice elems spare => uptoBulkAll elems + uptoBulkAll spare + 1
  | .agg parts => uptoBulkAll parts + 1
  | .iface _ d => uptoBulk d + 1
  | .map entries => uptoBulkEntries entries + 1
  | .held _ => 1
def uptoBulkAll {H : Type} : List (DataW H) → Nat
  | [] => 0
  | d :: r => uptoBulk d + uptoBulkAll r
def uptoBulkEntries {H : Type} : List (Lit × DataW H) → Nat
  | [] => 0
  | x :: r => uptoBulkEntry x + uptoBulkEntries r
def uptoBulkEntry {H : Type} : Lit × DataW H → Nat
  | (.string bytes, d) => bytes.length + uptoBulk d + 1
  | (_, d) => uptoBulk d + 1
 end
def uptoSmall : (H : Type) → List (DataW H) → Bool := fun _ ds => decide (uptoBulkAll ds ≤ 1048576)
def OpenSpec.upto (s : _root_.Go.ChangeSpec) : _root_.Go.OpenSpec := { _root_.Go.OpenSpec.ofChange s with cond := some uptoSmall }

/-- 'stratalaw07.VersionNames', WHERE WHAT IT READS IS OF BULK AT MOST 1048576: true; the input reads as it did. -/
def versionNamesUptoRow : OpenClaim := { program := "ytflinpnmpkdopaa", sum := "e3617382b3798b7c44d7647df6e09b70c5be634460c21e213b85d043392ccae2", func := "strata/stratalaw07.VersionNames", spec := "versionNames", plainKeys := false, apart := false, narrowed := true }
def VersionNamesUptoSaid : Prop := versionNamesUptoRow.holds Try.pinned (OpenSpec.upto versionNamesSpec)

/-- 'stratalaw08.SweepNames', WHERE WHAT IT READS IS OF BULK AT MOST 1048576: true; the input reads as it did. -/
def sweepNamesUptoRow : OpenClaim := { program := "ytflinpnmpkdopaa", sum := "e3617382b3798b7c44d7647df6e09b70c5be634460c21e213b85d043392ccae2", func := "strata/stratalaw08.SweepNames", spec := "sweepNames", plainKeys := false, apart := false, narrowed := true }
def SweepNamesUptoSaid : Prop := sweepNamesUptoRow.holds Try.pinned (OpenSpec.upto sweepNamesSpec)

/-- 'stratalaw10.EngineNames', WHERE WHAT IT READS IS OF BULK AT MOST 1048576: true; the input reads as it did. -/
def engineNamesUptoRow : OpenClaim := { program := "ytflinpnmpkdopaa", sum := "e3617382b3798b7c44d7647df6e09b70c5be634460c21e213b85d043392ccae2", func := "strata/stratalaw10.EngineNames", spec := "engineNames", plainKeys := false, apart := false, narrowed := true }
def EngineNamesUptoSaid : Prop := engineNamesUptoRow.holds Try.pinned (OpenSpec.upto engineNamesSpec)

/-- 'stratalaw14.AdyaNames', WHERE WHAT IT READS IS OF BULK AT MOST 1048576: true; the input reads as it did. -/
def adyaNamesUptoRow : OpenClaim := { program := "ytflinpnmpkdopaa", sum := "e3617382b3798b7c44d7647df6e09b70c5be634460c21e213b85d043392ccae2", func := "strata/stratalaw14.AdyaNames", spec := "adyaNames", plainKeys := false, apart := false, narrowed := true }
def AdyaNamesUptoSaid : Prop := adyaNamesUptoRow.holds Try.pinned (OpenSpec.upto adyaNamesSpec)

/-- 'stratalaw08.SweepGarbage', WHERE WHAT IT READS IS OF BULK AT MOST 1048576: true; the input reads as it did. -/
def sweepGarbageUptoRow : OpenClaim := { program := "ytflinpnmpkdopaa", sum := "e3617382b3798b7c44d7647df6e09b70c5be634460c21e213b85d043392ccae2", func := "strata/stratalaw08.SweepGarbage", spec := "sweepGarbage", plainKeys := false, apart := false, narrowed := true }
def SweepGarbageUptoSaid : Prop := sweepGarbageUptoRow.holds Try.pinned (OpenSpec.upto sweepGarbageSpec)

/-- 'stratalaw07.VersionJudges', WHERE WHAT IT READS IS OF BULK AT MOST 1048576: true; the input reads as it did. -/
def versionJudgesUptoRow : OpenClaim := { program := "ytflinpnmpkdopaa", sum := "e3617382b3798b7c44d7647df6e09b70c5be634460c21e213b85d043392ccae2", func := "strata/stratalaw07.VersionJudges", spec := "versionJudges", plainKeys := false, apart := false, narrowed := true }
def VersionJudgesUptoSaid : Prop := versionJudgesUptoRow.holds Try.pinned (OpenSpec.upto versionJudgesSpec)

/-- 'stratalaw07.VersionFates', WHERE WHAT IT READS IS OF BULK AT MOST 1048576: true; the input reads as it did. -/
def versionFatesUptoRow : OpenClaim := { program := "ytflinpnmpkdopaa", sum := "e3617382b3798b7c44d7647df6e09b70c5be634460c21e213b85d043392ccae2", func := "strata/stratalaw07.VersionFates", spec := "versionFates", plainKeys := false, apart := false, narrowed := true }
def VersionFatesUptoSaid : Prop := versionFatesUptoRow.holds Try.pinned (OpenSpec.upto versionFatesSpec)

/-- 'stratalaw09.ValidNotes', WHERE WHAT IT READS IS OF BULK AT MOST 1048576: true; the input reads as it did. -/
def validNotesUptoRow : OpenClaim := { program := "ytflinpnmpkdopaa", sum := "e3617382b3798b7c44d7647df6e09b70c5be634460c21e213b85d043392ccae2", func := "strata/stratalaw09.ValidNotes", spec := "validNotes", plainKeys := false, apart := false, narrowed := true }
def ValidNotesUptoSaid : Prop := validNotesUptoRow.holds Try.pinned (OpenSpec.upto validNotesSpec)

end Rows
end Go.Proofs.Ytflinpnmpkdopaa
