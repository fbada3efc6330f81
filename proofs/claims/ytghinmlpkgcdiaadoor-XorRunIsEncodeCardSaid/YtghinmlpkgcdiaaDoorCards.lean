/-
  DERIVED. GIVEN WITH THE SEED: THE CARDS: each row of YtghinmlpkgcdiaaDoorRows.lean that lists a variable, with what it lists TIED to the program's text (the seventh form; the later family's looks); each row that meets fmt, with fmt's text TOLD by the authors' own Lean function (tested against real Go, not proved from fmt's source: count such statements apart). THE CARD IS WHAT COUNTS. Prove the row's statement (the work); the ties are given (YtghinmlpkgcdiaaDoorTie.lean); close each card by the builder's one call (the guide's Derived/Test/ToyasCard.lean, 'card_holds'). Laid BY PROGRAM, IN A SANDBOX (cutbox-door.mjs). By AI agents, Wed Nov 11 2026. No macro, syntax, notation, axiom, sorry.
-/
import Derived.Test.YtghinmlpkgcdiaaDoorRows
import GoSem.ClaimSeven
namespace Go.Proofs.YtghinmlpkgcdiaaDoor
namespace Rows

/-- THE TIED CARD OF 'solventlaw11.XorCostOfPlainParity'. -/
def xorCostOfPlainParityCard : Claim7 := { stood := { row := xorCostOfPlainParityRow, standIns := [], harness := (true, "a9b8c48c88a54832cf821e696c51893a7d70af24d2371e97b1cda7062e120e58"), looks := false }, kinds := [], alts := [], laidByText := true, laidKinds := [.data], laidTests := true, laidLooks := .later }
def XorCostOfPlainParityCardSaid : Prop := Claim7.holds Tryd.pinned (.plain (OpenSpec.ofChange xorCostOfPlainParitySpec)) xorCostOfPlainParityCard

/-- THE TIED CARD OF 'solventlaw11.XorRunIsEncode'. -/
def xorRunIsEncodeCard : Claim7 := { stood := { row := xorRunIsEncodeRow, standIns := [], harness := (true, "a9b8c48c88a54832cf821e696c51893a7d70af24d2371e97b1cda7062e120e58"), looks := false }, kinds := [], alts := [], laidByText := true, laidKinds := [.data], laidTests := true, laidLooks := .later }
def XorRunIsEncodeCardSaid : Prop := Claim7.holds Tryd.pinned (.plain (OpenSpec.ofChange xorRunIsEncodeSpec)) xorRunIsEncodeCard

/-- THE TIED CARD OF 'solventlaw11.XorCompileMatchesSpec'. -/
def xorCompileMatchesSpecCard : Claim7 := { stood := { row := xorCompileMatchesSpecRow, standIns := [], harness := (true, "a9b8c48c88a54832cf821e696c51893a7d70af24d2371e97b1cda7062e120e58"), looks := false }, kinds := [], alts := [], laidByText := true, laidKinds := [.data], laidTests := true, laidLooks := .later }
def XorCompileMatchesSpecCardSaid : Prop := Claim7.holds Tryd.pinned (.plain (OpenSpec.ofChange xorCompileMatchesSpecSpec)) xorCompileMatchesSpecCard

/-- THE TIED CARD OF 'solventlaw11.XorRunMatchesSpec'. -/
def xorRunMatchesSpecCard : Claim7 := { stood := { row := xorRunMatchesSpecRow, standIns := [], harness := (true, "a9b8c48c88a54832cf821e696c51893a7d70af24d2371e97b1cda7062e120e58"), looks := false }, kinds := [], alts := [], laidByText := true, laidKinds := [.data], laidTests := true, laidLooks := .later }
def XorRunMatchesSpecCardSaid : Prop := Claim7.holds Tryd.pinned (.plain (OpenSpec.ofChange xorRunMatchesSpecSpec)) xorRunMatchesSpecCard

/-- THE TIED CARD OF 'solventlaw11.XorRunIsPointwise'. -/
def xorRunIsPointwiseCard : Claim7 := { stood := { row := xorRunIsPointwiseRow, standIns := [], harness := (true, "a9b8c48c88a54832cf821e696c51893a7d70af24d2371e97b1cda7062e120e58"), looks := false }, kinds := [], alts := [], laidByText := true, laidKinds := [.data], laidTests := true, laidLooks := .later }
def XorRunIsPointwiseCardSaid : Prop := Claim7.holds Tryd.pinned (.plain (OpenSpec.ofChange xorRunIsPointwiseSpec)) xorRunIsPointwiseCard

/-- THE TIED CARD OF 'solventlaw11.XorShortenMatchesSpec'. -/
def xorShortenMatchesSpecCard : Claim7 := { stood := { row := xorShortenMatchesSpecRow, standIns := [], harness := (true, "a9b8c48c88a54832cf821e696c51893a7d70af24d2371e97b1cda7062e120e58"), looks := false }, kinds := [], alts := [], laidByText := true, laidKinds := [.data], laidTests := true, laidLooks := .later }
def XorShortenMatchesSpecCardSaid : Prop := Claim7.holds Tryd.pinned (.plain (OpenSpec.ofChange xorShortenMatchesSpecSpec)) xorShortenMatchesSpecCard

/-- THE TIED CARD OF 'solventlaw11.XorShortenKeepsMeaning'. -/
def xorShortenKeepsMeaningCard : Claim7 := { stood := { row := xorShortenKeepsMeaningRow, standIns := [], harness := (true, "a9b8c48c88a54832cf821e696c51893a7d70af24d2371e97b1cda7062e120e58"), looks := false }, kinds := [], alts := [], laidByText := true, laidKinds := [.data], laidTests := true, laidLooks := .later }
def XorShortenKeepsMeaningCardSaid : Prop := Claim7.holds Tryd.pinned (.plain (OpenSpec.ofChange xorShortenKeepsMeaningSpec)) xorShortenKeepsMeaningCard

/-- THE SECOND FORM's CARD OF 'solventlaw11.XorCostOfPlainParity'. -/
def xorCostOfPlainParityUptoCard : Claim7 := { stood := { row := xorCostOfPlainParityUptoRow, standIns := [], harness := (true, "a9b8c48c88a54832cf821e696c51893a7d70af24d2371e97b1cda7062e120e58"), looks := false }, kinds := [], alts := [], laidByText := true, laidKinds := [.data], laidTests := true, laidLooks := .later }
def XorCostOfPlainParityUptoCardSaid : Prop := Claim7.holds Tryd.pinned (.plain (OpenSpec.upto xorCostOfPlainParitySpec)) xorCostOfPlainParityUptoCard

/-- THE SECOND FORM's CARD OF 'solventlaw11.XorRunIsEncode'. -/
def xorRunIsEncodeUptoCard : Claim7 := { stood := { row := xorRunIsEncodeUptoRow, standIns := [], harness := (true, "a9b8c48c88a54832cf821e696c51893a7d70af24d2371e97b1cda7062e120e58"), looks := false }, kinds := [], alts := [], laidByText := true, laidKinds := [.data], laidTests := true, laidLooks := .later }
def XorRunIsEncodeUptoCardSaid : Prop := Claim7.holds Tryd.pinned (.plain (OpenSpec.upto xorRunIsEncodeSpec)) xorRunIsEncodeUptoCard

/-- THE SECOND FORM's CARD OF 'solventlaw11.XorCompileMatchesSpec'. -/
def xorCompileMatchesSpecUptoCard : Claim7 := { stood := { row := xorCompileMatchesSpecUptoRow, standIns := [], harness := (true, "a9b8c48c88a54832cf821e696c51893a7d70af24d2371e97b1cda7062e120e58"), looks := false }, kinds := [], alts := [], laidByText := true, laidKinds := [.data], laidTests := true, laidLooks := .later }
def XorCompileMatchesSpecUptoCardSaid : Prop := Claim7.holds Tryd.pinned (.plain (OpenSpec.upto xorCompileMatchesSpecSpec)) xorCompileMatchesSpecUptoCard

/-- THE SECOND FORM's CARD OF 'solventlaw11.XorRunMatchesSpec'. -/
def xorRunMatchesSpecUptoCard : Claim7 := { stood := { row := xorRunMatchesSpecUptoRow, standIns := [], harness := (true, "a9b8c48c88a54832cf821e696c51893a7d70af24d2371e97b1cda7062e120e58"), looks := false }, kinds := [], alts := [], laidByText := true, laidKinds := [.data], laidTests := true, laidLooks := .later }
def XorRunMatchesSpecUptoCardSaid : Prop := Claim7.holds Tryd.pinned (.plain (OpenSpec.upto xorRunMatchesSpecSpec)) xorRunMatchesSpecUptoCard

/-- THE SECOND FORM's CARD OF 'solventlaw11.XorRunIsPointwise'. -/
def xorRunIsPointwiseUptoCard : Claim7 := { stood := { row := xorRunIsPointwiseUptoRow, standIns := [], harness := (true, "a9b8c48c88a54832cf821e696c51893a7d70af24d2371e97b1cda7062e120e58"), looks := false }, kinds := [], alts := [], laidByText := true, laidKinds := [.data], laidTests := true, laidLooks := .later }
def XorRunIsPointwiseUptoCardSaid : Prop := Claim7.holds Tryd.pinned (.plain (OpenSpec.upto xorRunIsPointwiseSpec)) xorRunIsPointwiseUptoCard

/-- THE SECOND FORM's CARD OF 'solventlaw11.XorShortenMatchesSpec'. -/
def xorShortenMatchesSpecUptoCard : Claim7 := { stood := { row := xorShortenMatchesSpecUptoRow, standIns := [], harness := (true, "a9b8c48c88a54832cf821e696c51893a7d70af24d2371e97b1cda7062e120e58"), looks := false }, kinds := [], alts := [], laidByText := true, laidKinds := [.data], laidTests := true, laidLooks := .later }
def XorShortenMatchesSpecUptoCardSaid : Prop := Claim7.holds Tryd.pinned (.plain (OpenSpec.upto xorShortenMatchesSpecSpec)) xorShortenMatchesSpecUptoCard

/-- THE SECOND FORM's CARD OF 'solventlaw11.XorShortenKeepsMeaning'. -/
def xorShortenKeepsMeaningUptoCard : Claim7 := { stood := { row := xorShortenKeepsMeaningUptoRow, standIns := [], harness := (true, "a9b8c48c88a54832cf821e696c51893a7d70af24d2371e97b1cda7062e120e58"), looks := false }, kinds := [], alts := [], laidByText := true, laidKinds := [.data], laidTests := true, laidLooks := .later }
def XorShortenKeepsMeaningUptoCardSaid : Prop := Claim7.holds Tryd.pinned (.plain (OpenSpec.upto xorShortenKeepsMeaningSpec)) xorShortenKeepsMeaningUptoCard
end Rows
end Go.Proofs.YtghinmlpkgcdiaaDoor
