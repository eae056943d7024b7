/-
  NARROWER THAN 'FOR EVERY INPUT', by the rows' own cells (each row's printed sentence says how): AdyaLine: laid · AdyaGrades: laid.
  DERIVED. THE GIVEN ROWS OF THIS SEAT. 2 by the template 'for every input the law returns true; each argument reads behind the call as it read before'; 0 by the template 'total and deterministic' (their statements: YtooigfkjdemnlaaGreatDoorTotals.lean).
  GIVEN WITH THE SEED: the statements are not yours to turn. If you find one false, say at which input.
  Laid BY PROGRAM, IN A SANDBOX (cutbox-rows.mjs): the forced cells as the released guide's own fill.sh prints them over the translation 2512678c651529e5… (all of the seat's roots in one cut). By AI agents, Wed Nov 11 2026. No macro, syntax, notation, axiom, sorry.
-/
import Derived.Test.YtooigfkjdemnlaaGreatDoorChecked
import GoSem.Claim
import GoSem.ClaimJoined
import GoSem.ClaimMapViews
import Derived.JoinedTies
import Derived.KernelRfl
namespace Go.Proofs.YtooigfkjdemnlaaGreatDoor
/- THE CELL 'sum', in the pinned program and in every row, IS THE sha256 OF THE DUMP (.gsa) THAT YtooigfkjdemnlaaGreatDoorProg.lean LOADS. Nothing in Lean hashes anything: it is a label: what it is worth is what the hold of that sum in a sandbox is worth. -/
noncomputable def Tryz.pinned : Pinned := { name := "ytooigfkjdemnlaagreatdoor", sum := "2512678c651529e58658583ae94b682a7606cd71272b75853771ed8c1b04a0f8", checked := Tryz.checked }
namespace Rows
def none {H : Type} : Left H := { results := [], args := [] }

/- WHAT THE LISTED PACKAGE-LEVEL VARIABLES READ AS WHEN THE CALL BEGINS. Each datum BY PROGRAM (the guide's laid-datum.mjs) off the statement by which the dump's own 'gosem.cut.vars' lays the variable. In a bare row this is a premise. The card (YtooigfkjdemnlaaGreatDoorCards.lean) ties it to the program's text. -/
def laid_strata_adya_bans {H : Type} : DataW H := .agg [.lit (.int .i64 0), .lit (.int .i64 1), .lit (.int .i64 0), .lit (.int .i64 0), .lit (.int .i64 7), .lit (.int .i64 8)]

/-- 'stratalaw14.AdyaLine': WHATEVER THE INPUT: true; the input reads as it did. -/
def adyaLineSpec : ChangeSpec := { name := "adyaLine", fn := fun _ => fun
  | [d] => { results := [.lit (.bool true)], args := [d] }
  | _ => none }
def adyaLineRow : OpenClaim := { program := "ytooigfkjdemnlaagreatdoor", sum := "2512678c651529e58658583ae94b682a7606cd71272b75853771ed8c1b04a0f8", func := "strata/stratalaw14.AdyaLine", spec := "adyaLine", inPlace := ["maps.clone"], unfollowed := true, recurses := true, named := ["strata/adya.bans"], apart := false, laid := [("strata/adya.bans", laid_strata_adya_bans)] }
def AdyaLineSaid : Prop := adyaLineRow.holds Tryz.pinned (OpenSpec.ofChange adyaLineSpec)

/-- ITS FALSE NEIGHBOUR: 'it returns false'. Refute it at one input. -/
def adyaLineWrong : ChangeSpec := { name := "adyaLine", fn := fun _ => fun
  | [d] => { results := [.lit (.bool false)], args := [d] }
  | _ => none }
def AdyaLineWrongFalsely : Prop := adyaLineRow.holds Tryz.pinned (OpenSpec.ofChange adyaLineWrong)

/-- 'stratalaw14.AdyaGrades': WHATEVER THE INPUT: true; the input reads as it did. -/
def adyaGradesSpec : ChangeSpec := { name := "adyaGrades", fn := fun _ => fun
  | [d] => { results := [.lit (.bool true)], args := [d] }
  | _ => none }
def adyaGradesRow : OpenClaim := { program := "ytooigfkjdemnlaagreatdoor", sum := "2512678c651529e58658583ae94b682a7606cd71272b75853771ed8c1b04a0f8", func := "strata/stratalaw14.AdyaGrades", spec := "adyaGrades", inPlace := ["maps.clone"], unfollowed := true, recurses := true, named := ["strata/adya.bans"], apart := false, laid := [("strata/adya.bans", laid_strata_adya_bans)] }
def AdyaGradesSaid : Prop := adyaGradesRow.holds Tryz.pinned (OpenSpec.ofChange adyaGradesSpec)

/-- ITS FALSE NEIGHBOUR: 'it returns false'. Refute it at one input. -/
def adyaGradesWrong : ChangeSpec := { name := "adyaGrades", fn := fun _ => fun
  | [d] => { results := [.lit (.bool false)], args := [d] }
  | _ => none }
def AdyaGradesWrongFalsely : Prop := adyaGradesRow.holds Tryz.pinned (OpenSpec.ofChange adyaGradesWrong)

/- THE SECOND FORM. 'bulk': how many values and letters a reading holds, each counted each time it is reached (what is shared counts as often as it is met; a slice's spare places count too). A statement '..UptoSaid' is the law's where the arguments, and the package variables that the reading takes, are together of bulk at most 1048576: NARROWER than '..Said'. Prove '..Said' where nothing that the law and all that it calls make is longer than what came in: it says more and counts as full. Else prove '..UptoSaid'. A law counts once. -/
mutual
def uptoBulk {H : Type} : DataW H → Nat
  | .lit (.string bytes) => bytes.length + 1
  | .lit _ => 1
  | .nil => 1
  | .ptr d => uptoBulk d + 1
  | .slice elems spare => uptoBulkAll elems + uptoBulkAll spare + 1
  | .agg parts => uptoBulkAll parts + 1
  | .iface _ d => uptoBulk d + 1
  | .map entries => uptoBulkEntries entries + 1
  | .held _ => 1
def uptoBulkAll {H : Type} : List (DataW H) → Nat
  | [] => 0
  | d :: r => uptoBulk d + uptoBulkAll r
def uptoBulkEntries {H : Type} : List (Lit × DataW H) → Nat
  | [] => 0
  | x :: r => uptoBulkEntry x + uptoBulkEntries r
def uptoBulkEntry {H : Type} : Lit × DataW H → Nat
  | (.string bytes, d) => bytes.length + uptoBulk d + 1
  | (_, d) => uptoBulk d + 1
 end
def uptoSmall : (H : Type) → List (DataW H) → Bool := fun _ ds => decide (uptoBulkAll ds ≤ 1048576)
def OpenSpec.upto (s : _root_.Go.ChangeSpec) : _root_.Go.OpenSpec := { _root_.Go.OpenSpec.ofChange s with cond := some uptoSmall }

/-- 'stratalaw14.AdyaLine', WHERE WHAT IT READS IS OF BULK AT MOST 1048576: true; the input reads as it did. -/
def adyaLineUptoRow : OpenClaim := { program := "ytooigfkjdemnlaagreatdoor", sum := "2512678c651529e58658583ae94b682a7606cd71272b75853771ed8c1b04a0f8", func := "strata/stratalaw14.AdyaLine", spec := "adyaLine", inPlace := ["maps.clone"], unfollowed := true, recurses := true, named := ["strata/adya.bans"], apart := false, laid := [("strata/adya.bans", laid_strata_adya_bans)], narrowed := true }
def AdyaLineUptoSaid : Prop := adyaLineUptoRow.holds Tryz.pinned (OpenSpec.upto adyaLineSpec)

/-- 'stratalaw14.AdyaGrades', WHERE WHAT IT READS IS OF BULK AT MOST 1048576: true; the input reads as it did. -/
def adyaGradesUptoRow : OpenClaim := { program := "ytooigfkjdemnlaagreatdoor", sum := "2512678c651529e58658583ae94b682a7606cd71272b75853771ed8c1b04a0f8", func := "strata/stratalaw14.AdyaGrades", spec := "adyaGrades", inPlace := ["maps.clone"], unfollowed := true, recurses := true, named := ["strata/adya.bans"], apart := false, laid := [("strata/adya.bans", laid_strata_adya_bans)], narrowed := true }
def AdyaGradesUptoSaid : Prop := adyaGradesUptoRow.holds Tryz.pinned (OpenSpec.upto adyaGradesSpec)

end Rows
end Go.Proofs.YtooigfkjdemnlaaGreatDoor
