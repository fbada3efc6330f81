/-
  DERIVED. GIVEN WITH THE SEED: THE CARDS: each row of YtdmcdgpigpekhaaDoorRows.lean that lists a variable, with what it lists TIED to the program's text (the seventh form; the later family's looks); each row that meets fmt, with fmt's text TOLD by the authors' own Lean function (tested against real Go, not proved from fmt's source: count such statements apart). THE CARD IS WHAT COUNTS. Prove the row's statement (the work); the ties are given (YtdmcdgpigpekhaaDoorTie.lean); close each card by the builder's one call (the guide's Derived/Test/ToyasCard.lean, 'card_holds'). Laid BY PROGRAM, IN A SANDBOX (cutbox-door.mjs). By AI agents, Wed Nov 11 2026. No macro, syntax, notation, axiom, sorry.
-/
import Derived.Test.YtdmcdgpigpekhaaDoorRows
import GoSem.ClaimSeven
namespace Go.Proofs.YtdmcdgpigpekhaaDoor
namespace Rows

/-- THE TIED CARD OF 'solventlaw05.FieldUnitsMatchSpec'. -/
def fieldUnitsMatchSpecCard : Claim7 := { stood := { row := fieldUnitsMatchSpecRow, standIns := [], harness := (true, "088ecdfdfc37d4fe985e6bd07d6f578940501ff863f223aff195e20a6b85c1a2"), looks := false }, kinds := [], alts := [], laidByText := true, laidKinds := [.data], laidTests := true, laidLooks := .later }
def FieldUnitsMatchSpecCardSaid : Prop := Claim7.holds Tryd.pinned (.plain (OpenSpec.ofChange fieldUnitsMatchSpecSpec)) fieldUnitsMatchSpecCard

/-- THE TIED CARD OF 'solventlaw05.FieldCombineIsLinear'. -/
def fieldCombineIsLinearCard : Claim7 := { stood := { row := fieldCombineIsLinearRow, standIns := [], harness := (true, "088ecdfdfc37d4fe985e6bd07d6f578940501ff863f223aff195e20a6b85c1a2"), looks := false }, kinds := [], alts := [], laidByText := true, laidKinds := [.data], laidTests := true, laidLooks := .later }
def FieldCombineIsLinearCardSaid : Prop := Claim7.holds Tryd.pinned (.plain (OpenSpec.ofChange fieldCombineIsLinearSpec)) fieldCombineIsLinearCard

/-- THE TIED CARD OF 'solventlaw05.FieldAxioms'. -/
def fieldAxiomsCard : Claim7 := { stood := { row := fieldAxiomsRow, standIns := [], harness := (true, "088ecdfdfc37d4fe985e6bd07d6f578940501ff863f223aff195e20a6b85c1a2"), looks := false }, kinds := [], alts := [], laidByText := true, laidKinds := [.data], laidTests := true, laidLooks := .later }
def FieldAxiomsCardSaid : Prop := Claim7.holds Tryd.pinned (.plain (OpenSpec.ofChange fieldAxiomsSpec)) fieldAxiomsCard

/-- THE TIED CARD OF 'solventlaw05.FieldPowers'. -/
def fieldPowersCard : Claim7 := { stood := { row := fieldPowersRow, standIns := [], harness := (true, "088ecdfdfc37d4fe985e6bd07d6f578940501ff863f223aff195e20a6b85c1a2"), looks := false }, kinds := [], alts := [], laidByText := true, laidKinds := [.data], laidTests := true, laidLooks := .later }
def FieldPowersCardSaid : Prop := Claim7.holds Tryd.pinned (.plain (OpenSpec.ofChange fieldPowersSpec)) fieldPowersCard

/-- THE TIED CARD OF 'solventlaw05.FieldMatchesSpec'. -/
def fieldMatchesSpecCard : Claim7 := { stood := { row := fieldMatchesSpecRow, standIns := [], harness := (true, "088ecdfdfc37d4fe985e6bd07d6f578940501ff863f223aff195e20a6b85c1a2"), looks := false }, kinds := [], alts := [], laidByText := true, laidKinds := [.data], laidTests := true, laidLooks := .later }
def FieldMatchesSpecCardSaid : Prop := Claim7.holds Tryd.pinned (.plain (OpenSpec.ofChange fieldMatchesSpecSpec)) fieldMatchesSpecCard

/-- THE TIED CARD OF 'solventlaw05.FieldLogarithms'. -/
def fieldLogarithmsCard : Claim7 := { stood := { row := fieldLogarithmsRow, standIns := [], harness := (true, "088ecdfdfc37d4fe985e6bd07d6f578940501ff863f223aff195e20a6b85c1a2"), looks := false }, kinds := [], alts := [], laidByText := true, laidKinds := [.data], laidTests := true, laidLooks := .later }
def FieldLogarithmsCardSaid : Prop := Claim7.holds Tryd.pinned (.plain (OpenSpec.ofChange fieldLogarithmsSpec)) fieldLogarithmsCard

/-- THE SECOND FORM's CARD OF 'solventlaw05.FieldUnitsMatchSpec'. -/
def fieldUnitsMatchSpecUptoCard : Claim7 := { stood := { row := fieldUnitsMatchSpecUptoRow, standIns := [], harness := (true, "088ecdfdfc37d4fe985e6bd07d6f578940501ff863f223aff195e20a6b85c1a2"), looks := false }, kinds := [], alts := [], laidByText := true, laidKinds := [.data], laidTests := true, laidLooks := .later }
def FieldUnitsMatchSpecUptoCardSaid : Prop := Claim7.holds Tryd.pinned (.plain (OpenSpec.upto fieldUnitsMatchSpecSpec)) fieldUnitsMatchSpecUptoCard

/-- THE SECOND FORM's CARD OF 'solventlaw05.FieldCombineIsLinear'. -/
def fieldCombineIsLinearUptoCard : Claim7 := { stood := { row := fieldCombineIsLinearUptoRow, standIns := [], harness := (true, "088ecdfdfc37d4fe985e6bd07d6f578940501ff863f223aff195e20a6b85c1a2"), looks := false }, kinds := [], alts := [], laidByText := true, laidKinds := [.data], laidTests := true, laidLooks := .later }
def FieldCombineIsLinearUptoCardSaid : Prop := Claim7.holds Tryd.pinned (.plain (OpenSpec.upto fieldCombineIsLinearSpec)) fieldCombineIsLinearUptoCard

/-- THE SECOND FORM's CARD OF 'solventlaw05.FieldAxioms'. -/
def fieldAxiomsUptoCard : Claim7 := { stood := { row := fieldAxiomsUptoRow, standIns := [], harness := (true, "088ecdfdfc37d4fe985e6bd07d6f578940501ff863f223aff195e20a6b85c1a2"), looks := false }, kinds := [], alts := [], laidByText := true, laidKinds := [.data], laidTests := true, laidLooks := .later }
def FieldAxiomsUptoCardSaid : Prop := Claim7.holds Tryd.pinned (.plain (OpenSpec.upto fieldAxiomsSpec)) fieldAxiomsUptoCard

/-- THE SECOND FORM's CARD OF 'solventlaw05.FieldPowers'. -/
def fieldPowersUptoCard : Claim7 := { stood := { row := fieldPowersUptoRow, standIns := [], harness := (true, "088ecdfdfc37d4fe985e6bd07d6f578940501ff863f223aff195e20a6b85c1a2"), looks := false }, kinds := [], alts := [], laidByText := true, laidKinds := [.data], laidTests := true, laidLooks := .later }
def FieldPowersUptoCardSaid : Prop := Claim7.holds Tryd.pinned (.plain (OpenSpec.upto fieldPowersSpec)) fieldPowersUptoCard

/-- THE SECOND FORM's CARD OF 'solventlaw05.FieldMatchesSpec'. -/
def fieldMatchesSpecUptoCard : Claim7 := { stood := { row := fieldMatchesSpecUptoRow, standIns := [], harness := (true, "088ecdfdfc37d4fe985e6bd07d6f578940501ff863f223aff195e20a6b85c1a2"), looks := false }, kinds := [], alts := [], laidByText := true, laidKinds := [.data], laidTests := true, laidLooks := .later }
def FieldMatchesSpecUptoCardSaid : Prop := Claim7.holds Tryd.pinned (.plain (OpenSpec.upto fieldMatchesSpecSpec)) fieldMatchesSpecUptoCard

/-- THE SECOND FORM's CARD OF 'solventlaw05.FieldLogarithms'. -/
def fieldLogarithmsUptoCard : Claim7 := { stood := { row := fieldLogarithmsUptoRow, standIns := [], harness := (true, "088ecdfdfc37d4fe985e6bd07d6f578940501ff863f223aff195e20a6b85c1a2"), looks := false }, kinds := [], alts := [], laidByText := true, laidKinds := [.data], laidTests := true, laidLooks := .later }
def FieldLogarithmsUptoCardSaid : Prop := Claim7.holds Tryd.pinned (.plain (OpenSpec.upto fieldLogarithmsSpec)) fieldLogarithmsUptoCard
end Rows
end Go.Proofs.YtdmcdgpigpekhaaDoor
