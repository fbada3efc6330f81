/-
  DERIVED. GIVEN WITH THE SEED: THE CARDS: each row of YtgeiholilcgooaaDoorRows.lean that lists a variable, with what it lists TIED to the program's text (the seventh form; the later family's looks); each row that meets fmt, with fmt's text TOLD by the authors' own Lean function (tested against real Go, not proved from fmt's source: count such statements apart). THE CARD IS WHAT COUNTS. Prove the row's statement (the work); the ties are given (YtgeiholilcgooaaDoorTie.lean); close each card by the builder's one call (the guide's Derived/Test/ToyasCard.lean, 'card_holds'). Laid BY PROGRAM, IN A SANDBOX (cutbox-door.mjs). By AI agents, Wed Nov 11 2026. No macro, syntax, notation, axiom, sorry.
-/
import Derived.Test.YtgeiholilcgooaaDoorRows
import GoSem.ClaimSeven
namespace Go.Proofs.YtgeiholilcgooaaDoor
namespace Rows

/-- THE TIED CARD OF 'solventlaw04.PrintCollides'. -/
def printCollidesCard : Claim7 := { stood := { row := printCollidesRow, standIns := [], harness := (true, "ba01f12e6a72a0486c11f5689047de25e1d889404ea24381e5ce696f232665c6"), looks := false }, kinds := [], alts := [], laidByText := true, laidKinds := [.data], laidTests := true, laidLooks := .later }
def PrintCollidesCardSaid : Prop := Claim7.holds Tryd.pinned (.plain (OpenSpec.ofChange printCollidesSpec)) printCollidesCard

/-- THE TIED CARD OF 'solventlaw04.PrintInvolution'. -/
def printInvolutionCard : Claim7 := { stood := { row := printInvolutionRow, standIns := [], harness := (true, "ba01f12e6a72a0486c11f5689047de25e1d889404ea24381e5ce696f232665c6"), looks := false }, kinds := [], alts := [], laidByText := true, laidKinds := [.data], laidTests := true, laidLooks := .later }
def PrintInvolutionCardSaid : Prop := Claim7.holds Tryd.pinned (.plain (OpenSpec.ofChange printInvolutionSpec)) printInvolutionCard

/-- THE TIED CARD OF 'solventlaw04.PrintCommutes'. -/
def printCommutesCard : Claim7 := { stood := { row := printCommutesRow, standIns := [], harness := (true, "ba01f12e6a72a0486c11f5689047de25e1d889404ea24381e5ce696f232665c6"), looks := false }, kinds := [], alts := [], laidByText := true, laidKinds := [.data], laidTests := true, laidLooks := .later }
def PrintCommutesCardSaid : Prop := Claim7.holds Tryd.pinned (.plain (OpenSpec.ofChange printCommutesSpec)) printCommutesCard

/-- THE TIED CARD OF 'solventlaw04.PrintDetects'. -/
def printDetectsCard : Claim7 := { stood := { row := printDetectsRow, standIns := [], harness := (true, "ba01f12e6a72a0486c11f5689047de25e1d889404ea24381e5ce696f232665c6"), looks := false }, kinds := [], alts := [], laidByText := true, laidKinds := [.data], laidTests := true, laidLooks := .later }
def PrintDetectsCardSaid : Prop := Claim7.holds Tryd.pinned (.plain (OpenSpec.ofChange printDetectsSpec)) printDetectsCard

/-- THE TIED CARD OF 'solventlaw04.PrintYields'. -/
def printYieldsCard : Claim7 := { stood := { row := printYieldsRow, standIns := [], harness := (true, "ba01f12e6a72a0486c11f5689047de25e1d889404ea24381e5ce696f232665c6"), looks := false }, kinds := [], alts := [], laidByText := true, laidKinds := [.data], laidTests := true, laidLooks := .later }
def PrintYieldsCardSaid : Prop := Claim7.holds Tryd.pinned (.plain (OpenSpec.ofChange printYieldsSpec)) printYieldsCard

/-- THE SECOND FORM's CARD OF 'solventlaw04.PrintCollides'. -/
def printCollidesUptoCard : Claim7 := { stood := { row := printCollidesUptoRow, standIns := [], harness := (true, "ba01f12e6a72a0486c11f5689047de25e1d889404ea24381e5ce696f232665c6"), looks := false }, kinds := [], alts := [], laidByText := true, laidKinds := [.data], laidTests := true, laidLooks := .later }
def PrintCollidesUptoCardSaid : Prop := Claim7.holds Tryd.pinned (.plain (OpenSpec.upto printCollidesSpec)) printCollidesUptoCard

/-- THE SECOND FORM's CARD OF 'solventlaw04.PrintInvolution'. -/
def printInvolutionUptoCard : Claim7 := { stood := { row := printInvolutionUptoRow, standIns := [], harness := (true, "ba01f12e6a72a0486c11f5689047de25e1d889404ea24381e5ce696f232665c6"), looks := false }, kinds := [], alts := [], laidByText := true, laidKinds := [.data], laidTests := true, laidLooks := .later }
def PrintInvolutionUptoCardSaid : Prop := Claim7.holds Tryd.pinned (.plain (OpenSpec.upto printInvolutionSpec)) printInvolutionUptoCard

/-- THE SECOND FORM's CARD OF 'solventlaw04.PrintCommutes'. -/
def printCommutesUptoCard : Claim7 := { stood := { row := printCommutesUptoRow, standIns := [], harness := (true, "ba01f12e6a72a0486c11f5689047de25e1d889404ea24381e5ce696f232665c6"), looks := false }, kinds := [], alts := [], laidByText := true, laidKinds := [.data], laidTests := true, laidLooks := .later }
def PrintCommutesUptoCardSaid : Prop := Claim7.holds Tryd.pinned (.plain (OpenSpec.upto printCommutesSpec)) printCommutesUptoCard

/-- THE SECOND FORM's CARD OF 'solventlaw04.PrintDetects'. -/
def printDetectsUptoCard : Claim7 := { stood := { row := printDetectsUptoRow, standIns := [], harness := (true, "ba01f12e6a72a0486c11f5689047de25e1d889404ea24381e5ce696f232665c6"), looks := false }, kinds := [], alts := [], laidByText := true, laidKinds := [.data], laidTests := true, laidLooks := .later }
def PrintDetectsUptoCardSaid : Prop := Claim7.holds Tryd.pinned (.plain (OpenSpec.upto printDetectsSpec)) printDetectsUptoCard

/-- THE SECOND FORM's CARD OF 'solventlaw04.PrintYields'. -/
def printYieldsUptoCard : Claim7 := { stood := { row := printYieldsUptoRow, standIns := [], harness := (true, "ba01f12e6a72a0486c11f5689047de25e1d889404ea24381e5ce696f232665c6"), looks := false }, kinds := [], alts := [], laidByText := true, laidKinds := [.data], laidTests := true, laidLooks := .later }
def PrintYieldsUptoCardSaid : Prop := Claim7.holds Tryd.pinned (.plain (OpenSpec.upto printYieldsSpec)) printYieldsUptoCard
end Rows
end Go.Proofs.YtgeiholilcgooaaDoor
