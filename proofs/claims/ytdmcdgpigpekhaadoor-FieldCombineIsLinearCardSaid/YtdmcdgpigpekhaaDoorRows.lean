/-
  NARROWER THAN 'FOR EVERY INPUT', by the rows' own cells (each row's printed sentence says how): FieldUnitsMatchSpec: laid · FieldCombineIsLinear: laid · FieldAxioms: laid · FieldPowers: laid · FieldMatchesSpec: laid · FieldLogarithms: laid.
  DERIVED. THE GIVEN ROWS OF THIS SEAT. 6 by the template 'for every input the law returns true; each argument reads behind the call as it read before'; 0 by the template 'total and deterministic' (their statements: YtdmcdgpigpekhaaDoorTotals.lean).
  GIVEN WITH THE SEED: the statements are not yours to turn. If you find one false, say at which input.
  Laid BY PROGRAM, IN A SANDBOX (cutbox-rows.mjs): the forced cells as the released guide's own fill.sh prints them over the translation d2def3c87dd74989… (all of the seat's roots in one cut). By AI agents, Wed Nov 11 2026. No macro, syntax, notation, axiom, sorry.
-/
import Derived.Test.YtdmcdgpigpekhaaDoorChecked
import GoSem.Claim
import GoSem.ClaimJoined
import GoSem.ClaimMapViews
import Derived.JoinedTies
import Derived.KernelRfl
namespace Go.Proofs.YtdmcdgpigpekhaaDoor
/- THE CELL 'sum', in the pinned program and in every row, IS THE sha256 OF THE DUMP (.gsa) THAT YtdmcdgpigpekhaaDoorProg.lean LOADS. Nothing in Lean hashes anything: it is a label: what it is worth is what the hold of that sum in a sandbox is worth. -/
noncomputable def Tryd.pinned : Pinned := { name := "ytdmcdgpigpekhaadoor", sum := "d2def3c87dd749892e2dd654088b28de89e0a80714e80aeb14c9d4abd22a3fb5", checked := Tryd.checked }
namespace Rows
def none {H : Type} : Left H := { results := [], args := [] }

/- WHAT THE LISTED PACKAGE-LEVEL VARIABLES READ AS WHEN THE CALL BEGINS. Each datum BY PROGRAM (the guide's laid-datum.mjs) off the statement by which the dump's own 'gosem.cut.vars' lays the variable. In a bare row this is a premise. The card (YtdmcdgpigpekhaaDoorCards.lean) ties it to the program's text. -/
def laid_solvent_field_fields {H : Type} : DataW H := .agg [.agg [.lit (.int .i64 8), .lit (.int .i64 285)], .agg [.lit (.int .i64 16), .lit (.int .i64 69643)]]

/-- 'solventlaw05.FieldUnitsMatchSpec': WHATEVER THE INPUT: true; the input reads as it did. -/
def fieldUnitsMatchSpecSpec : ChangeSpec := { name := "fieldUnitsMatchSpec", fn := fun _ => fun
  | [d] => { results := [.lit (.bool true)], args := [d] }
  | _ => none }
def fieldUnitsMatchSpecRow : OpenClaim := { program := "ytdmcdgpigpekhaadoor", sum := "d2def3c87dd749892e2dd654088b28de89e0a80714e80aeb14c9d4abd22a3fb5", func := "solvent/solventlaw05.FieldUnitsMatchSpec", spec := "fieldUnitsMatchSpec", unfollowed := true, recurses := true, named := ["solvent/field.fields"], apart := false, laid := [("solvent/field.fields", laid_solvent_field_fields)] }
def FieldUnitsMatchSpecSaid : Prop := fieldUnitsMatchSpecRow.holds Tryd.pinned (OpenSpec.ofChange fieldUnitsMatchSpecSpec)

/-- ITS FALSE NEIGHBOUR: 'it returns false'. Refute it at one input. -/
def fieldUnitsMatchSpecWrong : ChangeSpec := { name := "fieldUnitsMatchSpec", fn := fun _ => fun
  | [d] => { results := [.lit (.bool false)], args := [d] }
  | _ => none }
def FieldUnitsMatchSpecWrongFalsely : Prop := fieldUnitsMatchSpecRow.holds Tryd.pinned (OpenSpec.ofChange fieldUnitsMatchSpecWrong)

/-- 'solventlaw05.FieldCombineIsLinear': WHATEVER THE INPUT: true; the input reads as it did. -/
def fieldCombineIsLinearSpec : ChangeSpec := { name := "fieldCombineIsLinear", fn := fun _ => fun
  | [d] => { results := [.lit (.bool true)], args := [d] }
  | _ => none }
def fieldCombineIsLinearRow : OpenClaim := { program := "ytdmcdgpigpekhaadoor", sum := "d2def3c87dd749892e2dd654088b28de89e0a80714e80aeb14c9d4abd22a3fb5", func := "solvent/solventlaw05.FieldCombineIsLinear", spec := "fieldCombineIsLinear", unfollowed := true, recurses := true, named := ["solvent/field.fields"], apart := false, laid := [("solvent/field.fields", laid_solvent_field_fields)] }
def FieldCombineIsLinearSaid : Prop := fieldCombineIsLinearRow.holds Tryd.pinned (OpenSpec.ofChange fieldCombineIsLinearSpec)

/-- ITS FALSE NEIGHBOUR: 'it returns false'. Refute it at one input. -/
def fieldCombineIsLinearWrong : ChangeSpec := { name := "fieldCombineIsLinear", fn := fun _ => fun
  | [d] => { results := [.lit (.bool false)], args := [d] }
  | _ => none }
def FieldCombineIsLinearWrongFalsely : Prop := fieldCombineIsLinearRow.holds Tryd.pinned (OpenSpec.ofChange fieldCombineIsLinearWrong)

/-- 'solventlaw05.FieldAxioms': WHATEVER THE INPUT: true; the input reads as it did. -/
def fieldAxiomsSpec : ChangeSpec := { name := "fieldAxioms", fn := fun _ => fun
  | [d1, d2, d3] => { results := [.lit (.bool true)], args := [d1, d2, d3] }
  | _ => none }
def fieldAxiomsRow : OpenClaim := { program := "ytdmcdgpigpekhaadoor", sum := "d2def3c87dd749892e2dd654088b28de89e0a80714e80aeb14c9d4abd22a3fb5", func := "solvent/solventlaw05.FieldAxioms", spec := "fieldAxioms", unfollowed := true, recurses := true, named := ["solvent/field.fields"], apart := false, laid := [("solvent/field.fields", laid_solvent_field_fields)] }
def FieldAxiomsSaid : Prop := fieldAxiomsRow.holds Tryd.pinned (OpenSpec.ofChange fieldAxiomsSpec)

/-- ITS FALSE NEIGHBOUR: 'it returns false'. Refute it at one input. -/
def fieldAxiomsWrong : ChangeSpec := { name := "fieldAxioms", fn := fun _ => fun
  | [d1, d2, d3] => { results := [.lit (.bool false)], args := [d1, d2, d3] }
  | _ => none }
def FieldAxiomsWrongFalsely : Prop := fieldAxiomsRow.holds Tryd.pinned (OpenSpec.ofChange fieldAxiomsWrong)

/-- 'solventlaw05.FieldPowers': WHATEVER THE INPUT: true; the input reads as it did. -/
def fieldPowersSpec : ChangeSpec := { name := "fieldPowers", fn := fun _ => fun
  | [d1, d2, d3] => { results := [.lit (.bool true)], args := [d1, d2, d3] }
  | _ => none }
def fieldPowersRow : OpenClaim := { program := "ytdmcdgpigpekhaadoor", sum := "d2def3c87dd749892e2dd654088b28de89e0a80714e80aeb14c9d4abd22a3fb5", func := "solvent/solventlaw05.FieldPowers", spec := "fieldPowers", unfollowed := true, recurses := true, named := ["solvent/field.fields"], apart := false, laid := [("solvent/field.fields", laid_solvent_field_fields)] }
def FieldPowersSaid : Prop := fieldPowersRow.holds Tryd.pinned (OpenSpec.ofChange fieldPowersSpec)

/-- ITS FALSE NEIGHBOUR: 'it returns false'. Refute it at one input. -/
def fieldPowersWrong : ChangeSpec := { name := "fieldPowers", fn := fun _ => fun
  | [d1, d2, d3] => { results := [.lit (.bool false)], args := [d1, d2, d3] }
  | _ => none }
def FieldPowersWrongFalsely : Prop := fieldPowersRow.holds Tryd.pinned (OpenSpec.ofChange fieldPowersWrong)

/-- 'solventlaw05.FieldMatchesSpec': WHATEVER THE INPUT: true; the input reads as it did. -/
def fieldMatchesSpecSpec : ChangeSpec := { name := "fieldMatchesSpec", fn := fun _ => fun
  | [d1, d2, d3] => { results := [.lit (.bool true)], args := [d1, d2, d3] }
  | _ => none }
def fieldMatchesSpecRow : OpenClaim := { program := "ytdmcdgpigpekhaadoor", sum := "d2def3c87dd749892e2dd654088b28de89e0a80714e80aeb14c9d4abd22a3fb5", func := "solvent/solventlaw05.FieldMatchesSpec", spec := "fieldMatchesSpec", unfollowed := true, recurses := true, named := ["solvent/field.fields"], apart := false, laid := [("solvent/field.fields", laid_solvent_field_fields)] }
def FieldMatchesSpecSaid : Prop := fieldMatchesSpecRow.holds Tryd.pinned (OpenSpec.ofChange fieldMatchesSpecSpec)

/-- ITS FALSE NEIGHBOUR: 'it returns false'. Refute it at one input. -/
def fieldMatchesSpecWrong : ChangeSpec := { name := "fieldMatchesSpec", fn := fun _ => fun
  | [d1, d2, d3] => { results := [.lit (.bool false)], args := [d1, d2, d3] }
  | _ => none }
def FieldMatchesSpecWrongFalsely : Prop := fieldMatchesSpecRow.holds Tryd.pinned (OpenSpec.ofChange fieldMatchesSpecWrong)

/-- 'solventlaw05.FieldLogarithms': WHATEVER THE INPUT: true; the input reads as it did. -/
def fieldLogarithmsSpec : ChangeSpec := { name := "fieldLogarithms", fn := fun _ => fun
  | [d1, d2] => { results := [.lit (.bool true)], args := [d1, d2] }
  | _ => none }
def fieldLogarithmsRow : OpenClaim := { program := "ytdmcdgpigpekhaadoor", sum := "d2def3c87dd749892e2dd654088b28de89e0a80714e80aeb14c9d4abd22a3fb5", func := "solvent/solventlaw05.FieldLogarithms", spec := "fieldLogarithms", unfollowed := true, recurses := true, named := ["solvent/field.fields"], apart := false, laid := [("solvent/field.fields", laid_solvent_field_fields)] }
def FieldLogarithmsSaid : Prop := fieldLogarithmsRow.holds Tryd.pinned (OpenSpec.ofChange fieldLogarithmsSpec)

/-- ITS FALSE NEIGHBOUR: 'it returns false'. Refute it at one input. -/
def fieldLogarithmsWrong : ChangeSpec := { name := "fieldLogarithms", fn := fun _ => fun
  | [d1, d2] => { results := [.lit (.bool false)], args := [d1, d2] }
  | _ => none }
def FieldLogarithmsWrongFalsely : Prop := fieldLogarithmsRow.holds Tryd.pinned (OpenSpec.ofChange fieldLogarithmsWrong)

/- THE SECOND FORM. 'bulk': how many values and letters a reading holds, each counted each time it is reached (what is shared counts as often as it is met; a slice's spare places count too). A statement '..UptoSaid' is the law's where the arguments, and the package variables that the reading takes, are together of bulk at most 1048576: NARROWER than '..Said'. Prove '..Said' where nothing that the law and all that it calls make is longer than what came in: it says more and counts as full. Else prove '..UptoSaid'. A law counts once. -/
mutual
def uptoBulk {H : Type} : DataW H → Nat
  | .lit (.string bytes) => bytes.length + 1
  | .lit _ => 1
  | .nil => 1
  | .ptr d => uptoBulk d + 1
  | .slice elems spare => uptoBulkAll elems + uptoBulkAll spare + 1
  | .agg parts => uptoBulkAll parts + 1
  | .iface _ d => uptoBulk d + 1
  | .map entries => uptoBulkEntries entries + 1
  | .held _ => 1
def uptoBulkAll {H : Type} : List (DataW H) → Nat
  | [] => 0
  | d :: r => uptoBulk d + uptoBulkAll r
def uptoBulkEntries {H : Type} : List (Lit × DataW H) → Nat
  | [] => 0
  | x :: r => uptoBulkEntry x + uptoBulkEntries r
def uptoBulkEntry {H : Type} : Lit × DataW H → Nat
  | (.string bytes, d) => bytes.length + uptoBulk d + 1
  | (_, d) => uptoBulk d + 1
 end
def uptoSmall : (H : Type) → List (DataW H) → Bool := fun _ ds => decide (uptoBulkAll ds ≤ 1048576)
def OpenSpec.upto (s : _root_.Go.ChangeSpec) : _root_.Go.OpenSpec := { _root_.Go.OpenSpec.ofChange s with cond := some uptoSmall }

/-- 'solventlaw05.FieldUnitsMatchSpec', WHERE WHAT IT READS IS OF BULK AT MOST 1048576: true; the input reads as it did. -/
def fieldUnitsMatchSpecUptoRow : OpenClaim := { program := "ytdmcdgpigpekhaadoor", sum := "d2def3c87dd749892e2dd654088b28de89e0a80714e80aeb14c9d4abd22a3fb5", func := "solvent/solventlaw05.FieldUnitsMatchSpec", spec := "fieldUnitsMatchSpec", unfollowed := true, recurses := true, named := ["solvent/field.fields"], apart := false, laid := [("solvent/field.fields", laid_solvent_field_fields)], narrowed := true }
def FieldUnitsMatchSpecUptoSaid : Prop := fieldUnitsMatchSpecUptoRow.holds Tryd.pinned (OpenSpec.upto fieldUnitsMatchSpecSpec)

/-- 'solventlaw05.FieldCombineIsLinear', WHERE WHAT IT READS IS OF BULK AT MOST 1048576: true; the input reads as it did. -/
def fieldCombineIsLinearUptoRow : OpenClaim := { program := "ytdmcdgpigpekhaadoor", sum := "d2def3c87dd749892e2dd654088b28de89e0a80714e80aeb14c9d4abd22a3fb5", func := "solvent/solventlaw05.FieldCombineIsLinear", spec := "fieldCombineIsLinear", unfollowed := true, recurses := true, named := ["solvent/field.fields"], apart := false, laid := [("solvent/field.fields", laid_solvent_field_fields)], narrowed := true }
def FieldCombineIsLinearUptoSaid : Prop := fieldCombineIsLinearUptoRow.holds Tryd.pinned (OpenSpec.upto fieldCombineIsLinearSpec)

/-- 'solventlaw05.FieldAxioms', WHERE WHAT IT READS IS OF BULK AT MOST 1048576: true; the input reads as it did. -/
def fieldAxiomsUptoRow : OpenClaim := { program := "ytdmcdgpigpekhaadoor", sum := "d2def3c87dd749892e2dd654088b28de89e0a80714e80aeb14c9d4abd22a3fb5", func := "solvent/solventlaw05.FieldAxioms", spec := "fieldAxioms", unfollowed := true, recurses := true, named := ["solvent/field.fields"], apart := false, laid := [("solvent/field.fields", laid_solvent_field_fields)], narrowed := true }
def FieldAxiomsUptoSaid : Prop := fieldAxiomsUptoRow.holds Tryd.pinned (OpenSpec.upto fieldAxiomsSpec)

/-- 'solventlaw05.FieldPowers', WHERE WHAT IT READS IS OF BULK AT MOST 1048576: true; the input reads as it did. -/
def fieldPowersUptoRow : OpenClaim := { program := "ytdmcdgpigpekhaadoor", sum := "d2def3c87dd749892e2dd654088b28de89e0a80714e80aeb14c9d4abd22a3fb5", func := "solvent/solventlaw05.FieldPowers", spec := "fieldPowers", unfollowed := true, recurses := true, named := ["solvent/field.fields"], apart := false, laid := [("solvent/field.fields", laid_solvent_field_fields)], narrowed := true }
def FieldPowersUptoSaid : Prop := fieldPowersUptoRow.holds Tryd.pinned (OpenSpec.upto fieldPowersSpec)

/-- 'solventlaw05.FieldMatchesSpec', WHERE WHAT IT READS IS OF BULK AT MOST 1048576: true; the input reads as it did. -/
def fieldMatchesSpecUptoRow : OpenClaim := { program := "ytdmcdgpigpekhaadoor", sum := "d2def3c87dd749892e2dd654088b28de89e0a80714e80aeb14c9d4abd22a3fb5", func := "solvent/solventlaw05.FieldMatchesSpec", spec := "fieldMatchesSpec", unfollowed := true, recurses := true, named := ["solvent/field.fields"], apart := false, laid := [("solvent/field.fields", laid_solvent_field_fields)], narrowed := true }
def FieldMatchesSpecUptoSaid : Prop := fieldMatchesSpecUptoRow.holds Tryd.pinned (OpenSpec.upto fieldMatchesSpecSpec)

/-- 'solventlaw05.FieldLogarithms', WHERE WHAT IT READS IS OF BULK AT MOST 1048576: true; the input reads as it did. -/
def fieldLogarithmsUptoRow : OpenClaim := { program := "ytdmcdgpigpekhaadoor", sum := "d2def3c87dd749892e2dd654088b28de89e0a80714e80aeb14c9d4abd22a3fb5", func := "solvent/solventlaw05.FieldLogarithms", spec := "fieldLogarithms", unfollowed := true, recurses := true, named := ["solvent/field.fields"], apart := false, laid := [("solvent/field.fields", laid_solvent_field_fields)], narrowed := true }
def FieldLogarithmsUptoSaid : Prop := fieldLogarithmsUptoRow.holds Tryd.pinned (OpenSpec.upto fieldLogarithmsSpec)

end Rows
end Go.Proofs.YtdmcdgpigpekhaaDoor
