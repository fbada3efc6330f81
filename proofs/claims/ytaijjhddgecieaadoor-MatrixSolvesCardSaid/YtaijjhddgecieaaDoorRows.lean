/-
  NARROWER THAN 'FOR EVERY INPUT', by the rows' own cells (each row's printed sentence says how): MatrixIdentity: laid · MatrixSolves: laid · MatrixInverts: laid · MatrixAssociates: laid · MatrixMatchesSpec: laid · MatrixRanks: laid · MatrixPicks: laid.
  DERIVED. THE GIVEN ROWS OF THIS SEAT. 7 by the template 'for every input the law returns true; each argument reads behind the call as it read before'; 0 by the template 'total and deterministic' (their statements: YtaijjhddgecieaaDoorTotals.lean).
  GIVEN WITH THE SEED: the statements are not yours to turn. If you find one false, say at which input.
  Laid BY PROGRAM, IN A SANDBOX (cutbox-rows.mjs): the forced cells as the released guide's own fill.sh prints them over the translation 0b2ae72eb8c608d5… (all of the seat's roots in one cut). By AI agents, Wed Nov 11 2026. No macro, syntax, notation, axiom, sorry.
-/
import Derived.Test.YtaijjhddgecieaaDoorChecked
import GoSem.Claim
import GoSem.ClaimJoined
import GoSem.ClaimMapViews
import Derived.JoinedTies
import Derived.KernelRfl
namespace Go.Proofs.YtaijjhddgecieaaDoor
/- THE CELL 'sum', in the pinned program and in every row, IS THE sha256 OF THE DUMP (.gsa) THAT YtaijjhddgecieaaDoorProg.lean LOADS. Nothing in Lean hashes anything: it is a label: what it is worth is what the hold of that sum in a sandbox is worth. -/
noncomputable def Tryd.pinned : Pinned := { name := "ytaijjhddgecieaadoor", sum := "0b2ae72eb8c608d5e2078cdc274b954234e4d90ef3daba2794bf7eb149212c22", checked := Tryd.checked }
namespace Rows
def none {H : Type} : Left H := { results := [], args := [] }

/- WHAT THE LISTED PACKAGE-LEVEL VARIABLES READ AS WHEN THE CALL BEGINS. Each datum BY PROGRAM (the guide's laid-datum.mjs) off the statement by which the dump's own 'gosem.cut.vars' lays the variable. In a bare row this is a premise. The card (YtaijjhddgecieaaDoorCards.lean) ties it to the program's text. -/
def laid_solvent_field_fields {H : Type} : DataW H := .agg [.agg [.lit (.int .i64 8), .lit (.int .i64 285)], .agg [.lit (.int .i64 16), .lit (.int .i64 69643)]]

/-- 'solventlaw06.MatrixIdentity': WHATEVER THE INPUT: true; the input reads as it did. -/
def matrixIdentitySpec : ChangeSpec := { name := "matrixIdentity", fn := fun _ => fun
  | [d1, d2, d3] => { results := [.lit (.bool true)], args := [d1, d2, d3] }
  | _ => none }
def matrixIdentityRow : OpenClaim := { program := "ytaijjhddgecieaadoor", sum := "0b2ae72eb8c608d5e2078cdc274b954234e4d90ef3daba2794bf7eb149212c22", func := "solvent/solventlaw06.MatrixIdentity", spec := "matrixIdentity", unfollowed := true, recurses := true, named := ["solvent/field.fields"], apart := false, laid := [("solvent/field.fields", laid_solvent_field_fields)] }
def MatrixIdentitySaid : Prop := matrixIdentityRow.holds Tryd.pinned (OpenSpec.ofChange matrixIdentitySpec)

/-- ITS FALSE NEIGHBOUR: 'it returns false'. Refute it at one input. -/
def matrixIdentityWrong : ChangeSpec := { name := "matrixIdentity", fn := fun _ => fun
  | [d1, d2, d3] => { results := [.lit (.bool false)], args := [d1, d2, d3] }
  | _ => none }
def MatrixIdentityWrongFalsely : Prop := matrixIdentityRow.holds Tryd.pinned (OpenSpec.ofChange matrixIdentityWrong)

/-- 'solventlaw06.MatrixSolves': WHATEVER THE INPUT: true; the input reads as it did. -/
def matrixSolvesSpec : ChangeSpec := { name := "matrixSolves", fn := fun _ => fun
  | [d1, d2] => { results := [.lit (.bool true)], args := [d1, d2] }
  | _ => none }
def matrixSolvesRow : OpenClaim := { program := "ytaijjhddgecieaadoor", sum := "0b2ae72eb8c608d5e2078cdc274b954234e4d90ef3daba2794bf7eb149212c22", func := "solvent/solventlaw06.MatrixSolves", spec := "matrixSolves", unfollowed := true, recurses := true, named := ["solvent/field.fields"], apart := false, laid := [("solvent/field.fields", laid_solvent_field_fields)] }
def MatrixSolvesSaid : Prop := matrixSolvesRow.holds Tryd.pinned (OpenSpec.ofChange matrixSolvesSpec)

/-- ITS FALSE NEIGHBOUR: 'it returns false'. Refute it at one input. -/
def matrixSolvesWrong : ChangeSpec := { name := "matrixSolves", fn := fun _ => fun
  | [d1, d2] => { results := [.lit (.bool false)], args := [d1, d2] }
  | _ => none }
def MatrixSolvesWrongFalsely : Prop := matrixSolvesRow.holds Tryd.pinned (OpenSpec.ofChange matrixSolvesWrong)

/-- 'solventlaw06.MatrixInverts': WHATEVER THE INPUT: true; the input reads as it did. -/
def matrixInvertsSpec : ChangeSpec := { name := "matrixInverts", fn := fun _ => fun
  | [d] => { results := [.lit (.bool true)], args := [d] }
  | _ => none }
def matrixInvertsRow : OpenClaim := { program := "ytaijjhddgecieaadoor", sum := "0b2ae72eb8c608d5e2078cdc274b954234e4d90ef3daba2794bf7eb149212c22", func := "solvent/solventlaw06.MatrixInverts", spec := "matrixInverts", unfollowed := true, recurses := true, named := ["solvent/field.fields"], apart := false, laid := [("solvent/field.fields", laid_solvent_field_fields)] }
def MatrixInvertsSaid : Prop := matrixInvertsRow.holds Tryd.pinned (OpenSpec.ofChange matrixInvertsSpec)

/-- ITS FALSE NEIGHBOUR: 'it returns false'. Refute it at one input. -/
def matrixInvertsWrong : ChangeSpec := { name := "matrixInverts", fn := fun _ => fun
  | [d] => { results := [.lit (.bool false)], args := [d] }
  | _ => none }
def MatrixInvertsWrongFalsely : Prop := matrixInvertsRow.holds Tryd.pinned (OpenSpec.ofChange matrixInvertsWrong)

/-- 'solventlaw06.MatrixAssociates': WHATEVER THE INPUT: true; the input reads as it did. -/
def matrixAssociatesSpec : ChangeSpec := { name := "matrixAssociates", fn := fun _ => fun
  | [d1, d2, d3] => { results := [.lit (.bool true)], args := [d1, d2, d3] }
  | _ => none }
def matrixAssociatesRow : OpenClaim := { program := "ytaijjhddgecieaadoor", sum := "0b2ae72eb8c608d5e2078cdc274b954234e4d90ef3daba2794bf7eb149212c22", func := "solvent/solventlaw06.MatrixAssociates", spec := "matrixAssociates", unfollowed := true, recurses := true, named := ["solvent/field.fields"], apart := false, laid := [("solvent/field.fields", laid_solvent_field_fields)] }
def MatrixAssociatesSaid : Prop := matrixAssociatesRow.holds Tryd.pinned (OpenSpec.ofChange matrixAssociatesSpec)

/-- ITS FALSE NEIGHBOUR: 'it returns false'. Refute it at one input. -/
def matrixAssociatesWrong : ChangeSpec := { name := "matrixAssociates", fn := fun _ => fun
  | [d1, d2, d3] => { results := [.lit (.bool false)], args := [d1, d2, d3] }
  | _ => none }
def MatrixAssociatesWrongFalsely : Prop := matrixAssociatesRow.holds Tryd.pinned (OpenSpec.ofChange matrixAssociatesWrong)

/-- 'solventlaw06.MatrixMatchesSpec': WHATEVER THE INPUT: true; the input reads as it did. -/
def matrixMatchesSpecSpec : ChangeSpec := { name := "matrixMatchesSpec", fn := fun _ => fun
  | [d1, d2, d3, d4, d5] => { results := [.lit (.bool true)], args := [d1, d2, d3, d4, d5] }
  | _ => none }
def matrixMatchesSpecRow : OpenClaim := { program := "ytaijjhddgecieaadoor", sum := "0b2ae72eb8c608d5e2078cdc274b954234e4d90ef3daba2794bf7eb149212c22", func := "solvent/solventlaw06.MatrixMatchesSpec", spec := "matrixMatchesSpec", unfollowed := true, recurses := true, named := ["solvent/field.fields"], apart := false, laid := [("solvent/field.fields", laid_solvent_field_fields)] }
def MatrixMatchesSpecSaid : Prop := matrixMatchesSpecRow.holds Tryd.pinned (OpenSpec.ofChange matrixMatchesSpecSpec)

/-- ITS FALSE NEIGHBOUR: 'it returns false'. Refute it at one input. -/
def matrixMatchesSpecWrong : ChangeSpec := { name := "matrixMatchesSpec", fn := fun _ => fun
  | [d1, d2, d3, d4, d5] => { results := [.lit (.bool false)], args := [d1, d2, d3, d4, d5] }
  | _ => none }
def MatrixMatchesSpecWrongFalsely : Prop := matrixMatchesSpecRow.holds Tryd.pinned (OpenSpec.ofChange matrixMatchesSpecWrong)

/-- 'solventlaw06.MatrixRanks': WHATEVER THE INPUT: true; the input reads as it did. -/
def matrixRanksSpec : ChangeSpec := { name := "matrixRanks", fn := fun _ => fun
  | [d1, d2] => { results := [.lit (.bool true)], args := [d1, d2] }
  | _ => none }
def matrixRanksRow : OpenClaim := { program := "ytaijjhddgecieaadoor", sum := "0b2ae72eb8c608d5e2078cdc274b954234e4d90ef3daba2794bf7eb149212c22", func := "solvent/solventlaw06.MatrixRanks", spec := "matrixRanks", unfollowed := true, recurses := true, named := ["solvent/field.fields"], apart := false, laid := [("solvent/field.fields", laid_solvent_field_fields)] }
def MatrixRanksSaid : Prop := matrixRanksRow.holds Tryd.pinned (OpenSpec.ofChange matrixRanksSpec)

/-- ITS FALSE NEIGHBOUR: 'it returns false'. Refute it at one input. -/
def matrixRanksWrong : ChangeSpec := { name := "matrixRanks", fn := fun _ => fun
  | [d1, d2] => { results := [.lit (.bool false)], args := [d1, d2] }
  | _ => none }
def MatrixRanksWrongFalsely : Prop := matrixRanksRow.holds Tryd.pinned (OpenSpec.ofChange matrixRanksWrong)

/-- 'solventlaw06.MatrixPicks': WHATEVER THE INPUT: true; the input reads as it did. -/
def matrixPicksSpec : ChangeSpec := { name := "matrixPicks", fn := fun _ => fun
  | [d1, d2, d3] => { results := [.lit (.bool true)], args := [d1, d2, d3] }
  | _ => none }
def matrixPicksRow : OpenClaim := { program := "ytaijjhddgecieaadoor", sum := "0b2ae72eb8c608d5e2078cdc274b954234e4d90ef3daba2794bf7eb149212c22", func := "solvent/solventlaw06.MatrixPicks", spec := "matrixPicks", unfollowed := true, recurses := true, named := ["solvent/field.fields"], apart := false, laid := [("solvent/field.fields", laid_solvent_field_fields)] }
def MatrixPicksSaid : Prop := matrixPicksRow.holds Tryd.pinned (OpenSpec.ofChange matrixPicksSpec)

/-- ITS FALSE NEIGHBOUR: 'it returns false'. Refute it at one input. -/
def matrixPicksWrong : ChangeSpec := { name := "matrixPicks", fn := fun _ => fun
  | [d1, d2, d3] => { results := [.lit (.bool false)], args := [d1, d2, d3] }
  | _ => none }
def MatrixPicksWrongFalsely : Prop := matrixPicksRow.holds Tryd.pinned (OpenSpec.ofChange matrixPicksWrong)

/- THE SECOND FORM. 'bulk': how many values and letters a reading holds, each counted each time it is reached (what is shared counts as often as it is met; a slice's spare places count too). A statement '..UptoSaid' is the law's where the arguments, and the package variables that the reading takes, are together of bulk at most 1048576: NARROWER than '..Said'. Prove '..Said' where nothing that the law and all that it calls make is longer than what came in: it says more and counts as full. Else prove '..UptoSaid'. A law counts once. -/
mutual
def uptoBulk {H : Type} : DataW H → Nat
  | .lit (.string bytes) => bytes.length + 1
  | .lit _ => 1
  | .nil => 1
  | .ptr d => uptoBulk d + 1
  | .slice elems spare => uptoBulkAll elems + uptoBulkAll spare + 1
  | .agg parts => uptoBulkAll parts + 1
  | .iface _ d => uptoBulk d + 1
  | .map entries => uptoBulkEntries entries + 1
  | .held _ => 1
def uptoBulkAll {H : Type} : List (DataW H) → Nat
  | [] => 0
  | d :: r => uptoBulk d + uptoBulkAll r
def uptoBulkEntries {H : Type} : List (Lit × DataW H) → Nat
  | [] => 0
  | x :: r => uptoBulkEntry x + uptoBulkEntries r
def uptoBulkEntry {H : Type} : Lit × DataW H → Nat
  | (.string bytes, d) => bytes.length + uptoBulk d + 1
  | (_, d) => uptoBulk d + 1
 end
def uptoSmall : (H : Type) → List (DataW H) → Bool := fun _ ds => decide (uptoBulkAll ds ≤ 1048576)
def OpenSpec.upto (s : _root_.Go.ChangeSpec) : _root_.Go.OpenSpec := { _root_.Go.OpenSpec.ofChange s with cond := some uptoSmall }

/-- 'solventlaw06.MatrixIdentity', WHERE WHAT IT READS IS OF BULK AT MOST 1048576: true; the input reads as it did. -/
def matrixIdentityUptoRow : OpenClaim := { program := "ytaijjhddgecieaadoor", sum := "0b2ae72eb8c608d5e2078cdc274b954234e4d90ef3daba2794bf7eb149212c22", func := "solvent/solventlaw06.MatrixIdentity", spec := "matrixIdentity", unfollowed := true, recurses := true, named := ["solvent/field.fields"], apart := false, laid := [("solvent/field.fields", laid_solvent_field_fields)], narrowed := true }
def MatrixIdentityUptoSaid : Prop := matrixIdentityUptoRow.holds Tryd.pinned (OpenSpec.upto matrixIdentitySpec)

/-- 'solventlaw06.MatrixSolves', WHERE WHAT IT READS IS OF BULK AT MOST 1048576: true; the input reads as it did. -/
def matrixSolvesUptoRow : OpenClaim := { program := "ytaijjhddgecieaadoor", sum := "0b2ae72eb8c608d5e2078cdc274b954234e4d90ef3daba2794bf7eb149212c22", func := "solvent/solventlaw06.MatrixSolves", spec := "matrixSolves", unfollowed := true, recurses := true, named := ["solvent/field.fields"], apart := false, laid := [("solvent/field.fields", laid_solvent_field_fields)], narrowed := true }
def MatrixSolvesUptoSaid : Prop := matrixSolvesUptoRow.holds Tryd.pinned (OpenSpec.upto matrixSolvesSpec)

/-- 'solventlaw06.MatrixInverts', WHERE WHAT IT READS IS OF BULK AT MOST 1048576: true; the input reads as it did. -/
def matrixInvertsUptoRow : OpenClaim := { program := "ytaijjhddgecieaadoor", sum := "0b2ae72eb8c608d5e2078cdc274b954234e4d90ef3daba2794bf7eb149212c22", func := "solvent/solventlaw06.MatrixInverts", spec := "matrixInverts", unfollowed := true, recurses := true, named := ["solvent/field.fields"], apart := false, laid := [("solvent/field.fields", laid_solvent_field_fields)], narrowed := true }
def MatrixInvertsUptoSaid : Prop := matrixInvertsUptoRow.holds Tryd.pinned (OpenSpec.upto matrixInvertsSpec)

/-- 'solventlaw06.MatrixAssociates', WHERE WHAT IT READS IS OF BULK AT MOST 1048576: true; the input reads as it did. -/
def matrixAssociatesUptoRow : OpenClaim := { program := "ytaijjhddgecieaadoor", sum := "0b2ae72eb8c608d5e2078cdc274b954234e4d90ef3daba2794bf7eb149212c22", func := "solvent/solventlaw06.MatrixAssociates", spec := "matrixAssociates", unfollowed := true, recurses := true, named := ["solvent/field.fields"], apart := false, laid := [("solvent/field.fields", laid_solvent_field_fields)], narrowed := true }
def MatrixAssociatesUptoSaid : Prop := matrixAssociatesUptoRow.holds Tryd.pinned (OpenSpec.upto matrixAssociatesSpec)

/-- 'solventlaw06.MatrixMatchesSpec', WHERE WHAT IT READS IS OF BULK AT MOST 1048576: true; the input reads as it did. -/
def matrixMatchesSpecUptoRow : OpenClaim := { program := "ytaijjhddgecieaadoor", sum := "0b2ae72eb8c608d5e2078cdc274b954234e4d90ef3daba2794bf7eb149212c22", func := "solvent/solventlaw06.MatrixMatchesSpec", spec := "matrixMatchesSpec", unfollowed := true, recurses := true, named := ["solvent/field.fields"], apart := false, laid := [("solvent/field.fields", laid_solvent_field_fields)], narrowed := true }
def MatrixMatchesSpecUptoSaid : Prop := matrixMatchesSpecUptoRow.holds Tryd.pinned (OpenSpec.upto matrixMatchesSpecSpec)

/-- 'solventlaw06.MatrixRanks', WHERE WHAT IT READS IS OF BULK AT MOST 1048576: true; the input reads as it did. -/
def matrixRanksUptoRow : OpenClaim := { program := "ytaijjhddgecieaadoor", sum := "0b2ae72eb8c608d5e2078cdc274b954234e4d90ef3daba2794bf7eb149212c22", func := "solvent/solventlaw06.MatrixRanks", spec := "matrixRanks", unfollowed := true, recurses := true, named := ["solvent/field.fields"], apart := false, laid := [("solvent/field.fields", laid_solvent_field_fields)], narrowed := true }
def MatrixRanksUptoSaid : Prop := matrixRanksUptoRow.holds Tryd.pinned (OpenSpec.upto matrixRanksSpec)

/-- 'solventlaw06.MatrixPicks', WHERE WHAT IT READS IS OF BULK AT MOST 1048576: true; the input reads as it did. -/
def matrixPicksUptoRow : OpenClaim := { program := "ytaijjhddgecieaadoor", sum := "0b2ae72eb8c608d5e2078cdc274b954234e4d90ef3daba2794bf7eb149212c22", func := "solvent/solventlaw06.MatrixPicks", spec := "matrixPicks", unfollowed := true, recurses := true, named := ["solvent/field.fields"], apart := false, laid := [("solvent/field.fields", laid_solvent_field_fields)], narrowed := true }
def MatrixPicksUptoSaid : Prop := matrixPicksUptoRow.holds Tryd.pinned (OpenSpec.upto matrixPicksSpec)

end Rows
end Go.Proofs.YtaijjhddgecieaaDoor
