/-
  DERIVED. GIVEN WITH THE SEED: THE CARDS: each row of YtaijjhddgecieaaDoorRows.lean that lists a variable, with what it lists TIED to the program's text (the seventh form; the later family's looks); each row that meets fmt, with fmt's text TOLD by the authors' own Lean function (tested against real Go, not proved from fmt's source: count such statements apart). THE CARD IS WHAT COUNTS. Prove the row's statement (the work); the ties are given (YtaijjhddgecieaaDoorTie.lean); close each card by the builder's one call (the guide's Derived/Test/ToyasCard.lean, 'card_holds'). Laid BY PROGRAM, IN A SANDBOX (cutbox-door.mjs). By AI agents, Wed Nov 11 2026. No macro, syntax, notation, axiom, sorry.
-/
import Derived.Test.YtaijjhddgecieaaDoorRows
import GoSem.ClaimSeven
namespace Go.Proofs.YtaijjhddgecieaaDoor
namespace Rows

/-- THE TIED CARD OF 'solventlaw06.MatrixIdentity'. -/
def matrixIdentityCard : Claim7 := { stood := { row := matrixIdentityRow, standIns := [], harness := (true, "1486fbd8b15a82cd16e93e51ea9cfa35ff01b582f48d9bc790506c16310cbaa3"), looks := false }, kinds := [], alts := [], laidByText := true, laidKinds := [.data], laidTests := true, laidLooks := .later }
def MatrixIdentityCardSaid : Prop := Claim7.holds Tryd.pinned (.plain (OpenSpec.ofChange matrixIdentitySpec)) matrixIdentityCard

/-- THE TIED CARD OF 'solventlaw06.MatrixSolves'. -/
def matrixSolvesCard : Claim7 := { stood := { row := matrixSolvesRow, standIns := [], harness := (true, "1486fbd8b15a82cd16e93e51ea9cfa35ff01b582f48d9bc790506c16310cbaa3"), looks := false }, kinds := [], alts := [], laidByText := true, laidKinds := [.data], laidTests := true, laidLooks := .later }
def MatrixSolvesCardSaid : Prop := Claim7.holds Tryd.pinned (.plain (OpenSpec.ofChange matrixSolvesSpec)) matrixSolvesCard

/-- THE TIED CARD OF 'solventlaw06.MatrixInverts'. -/
def matrixInvertsCard : Claim7 := { stood := { row := matrixInvertsRow, standIns := [], harness := (true, "1486fbd8b15a82cd16e93e51ea9cfa35ff01b582f48d9bc790506c16310cbaa3"), looks := false }, kinds := [], alts := [], laidByText := true, laidKinds := [.data], laidTests := true, laidLooks := .later }
def MatrixInvertsCardSaid : Prop := Claim7.holds Tryd.pinned (.plain (OpenSpec.ofChange matrixInvertsSpec)) matrixInvertsCard

/-- THE TIED CARD OF 'solventlaw06.MatrixAssociates'. -/
def matrixAssociatesCard : Claim7 := { stood := { row := matrixAssociatesRow, standIns := [], harness := (true, "1486fbd8b15a82cd16e93e51ea9cfa35ff01b582f48d9bc790506c16310cbaa3"), looks := false }, kinds := [], alts := [], laidByText := true, laidKinds := [.data], laidTests := true, laidLooks := .later }
def MatrixAssociatesCardSaid : Prop := Claim7.holds Tryd.pinned (.plain (OpenSpec.ofChange matrixAssociatesSpec)) matrixAssociatesCard

/-- THE TIED CARD OF 'solventlaw06.MatrixMatchesSpec'. -/
def matrixMatchesSpecCard : Claim7 := { stood := { row := matrixMatchesSpecRow, standIns := [], harness := (true, "1486fbd8b15a82cd16e93e51ea9cfa35ff01b582f48d9bc790506c16310cbaa3"), looks := false }, kinds := [], alts := [], laidByText := true, laidKinds := [.data], laidTests := true, laidLooks := .later }
def MatrixMatchesSpecCardSaid : Prop := Claim7.holds Tryd.pinned (.plain (OpenSpec.ofChange matrixMatchesSpecSpec)) matrixMatchesSpecCard

/-- THE TIED CARD OF 'solventlaw06.MatrixRanks'. -/
def matrixRanksCard : Claim7 := { stood := { row := matrixRanksRow, standIns := [], harness := (true, "1486fbd8b15a82cd16e93e51ea9cfa35ff01b582f48d9bc790506c16310cbaa3"), looks := false }, kinds := [], alts := [], laidByText := true, laidKinds := [.data], laidTests := true, laidLooks := .later }
def MatrixRanksCardSaid : Prop := Claim7.holds Tryd.pinned (.plain (OpenSpec.ofChange matrixRanksSpec)) matrixRanksCard

/-- THE TIED CARD OF 'solventlaw06.MatrixPicks'. -/
def matrixPicksCard : Claim7 := { stood := { row := matrixPicksRow, standIns := [], harness := (true, "1486fbd8b15a82cd16e93e51ea9cfa35ff01b582f48d9bc790506c16310cbaa3"), looks := false }, kinds := [], alts := [], laidByText := true, laidKinds := [.data], laidTests := true, laidLooks := .later }
def MatrixPicksCardSaid : Prop := Claim7.holds Tryd.pinned (.plain (OpenSpec.ofChange matrixPicksSpec)) matrixPicksCard

/-- THE SECOND FORM's CARD OF 'solventlaw06.MatrixIdentity'. -/
def matrixIdentityUptoCard : Claim7 := { stood := { row := matrixIdentityUptoRow, standIns := [], harness := (true, "1486fbd8b15a82cd16e93e51ea9cfa35ff01b582f48d9bc790506c16310cbaa3"), looks := false }, kinds := [], alts := [], laidByText := true, laidKinds := [.data], laidTests := true, laidLooks := .later }
def MatrixIdentityUptoCardSaid : Prop := Claim7.holds Tryd.pinned (.plain (OpenSpec.upto matrixIdentitySpec)) matrixIdentityUptoCard

/-- THE SECOND FORM's CARD OF 'solventlaw06.MatrixSolves'. -/
def matrixSolvesUptoCard : Claim7 := { stood := { row := matrixSolvesUptoRow, standIns := [], harness := (true, "1486fbd8b15a82cd16e93e51ea9cfa35ff01b582f48d9bc790506c16310cbaa3"), looks := false }, kinds := [], alts := [], laidByText := true, laidKinds := [.data], laidTests := true, laidLooks := .later }
def MatrixSolvesUptoCardSaid : Prop := Claim7.holds Tryd.pinned (.plain (OpenSpec.upto matrixSolvesSpec)) matrixSolvesUptoCard

/-- THE SECOND FORM's CARD OF 'solventlaw06.MatrixInverts'. -/
def matrixInvertsUptoCard : Claim7 := { stood := { row := matrixInvertsUptoRow, standIns := [], harness := (true, "1486fbd8b15a82cd16e93e51ea9cfa35ff01b582f48d9bc790506c16310cbaa3"), looks := false }, kinds := [], alts := [], laidByText := true, laidKinds := [.data], laidTests := true, laidLooks := .later }
def MatrixInvertsUptoCardSaid : Prop := Claim7.holds Tryd.pinned (.plain (OpenSpec.upto matrixInvertsSpec)) matrixInvertsUptoCard

/-- THE SECOND FORM's CARD OF 'solventlaw06.MatrixAssociates'. -/
def matrixAssociatesUptoCard : Claim7 := { stood := { row := matrixAssociatesUptoRow, standIns := [], harness := (true, "1486fbd8b15a82cd16e93e51ea9cfa35ff01b582f48d9bc790506c16310cbaa3"), looks := false }, kinds := [], alts := [], laidByText := true, laidKinds := [.data], laidTests := true, laidLooks := .later }
def MatrixAssociatesUptoCardSaid : Prop := Claim7.holds Tryd.pinned (.plain (OpenSpec.upto matrixAssociatesSpec)) matrixAssociatesUptoCard

/-- THE SECOND FORM's CARD OF 'solventlaw06.MatrixMatchesSpec'. -/
def matrixMatchesSpecUptoCard : Claim7 := { stood := { row := matrixMatchesSpecUptoRow, standIns := [], harness := (true, "1486fbd8b15a82cd16e93e51ea9cfa35ff01b582f48d9bc790506c16310cbaa3"), looks := false }, kinds := [], alts := [], laidByText := true, laidKinds := [.data], laidTests := true, laidLooks := .later }
def MatrixMatchesSpecUptoCardSaid : Prop := Claim7.holds Tryd.pinned (.plain (OpenSpec.upto matrixMatchesSpecSpec)) matrixMatchesSpecUptoCard

/-- THE SECOND FORM's CARD OF 'solventlaw06.MatrixRanks'. -/
def matrixRanksUptoCard : Claim7 := { stood := { row := matrixRanksUptoRow, standIns := [], harness := (true, "1486fbd8b15a82cd16e93e51ea9cfa35ff01b582f48d9bc790506c16310cbaa3"), looks := false }, kinds := [], alts := [], laidByText := true, laidKinds := [.data], laidTests := true, laidLooks := .later }
def MatrixRanksUptoCardSaid : Prop := Claim7.holds Tryd.pinned (.plain (OpenSpec.upto matrixRanksSpec)) matrixRanksUptoCard

/-- THE SECOND FORM's CARD OF 'solventlaw06.MatrixPicks'. -/
def matrixPicksUptoCard : Claim7 := { stood := { row := matrixPicksUptoRow, standIns := [], harness := (true, "1486fbd8b15a82cd16e93e51ea9cfa35ff01b582f48d9bc790506c16310cbaa3"), looks := false }, kinds := [], alts := [], laidByText := true, laidKinds := [.data], laidTests := true, laidLooks := .later }
def MatrixPicksUptoCardSaid : Prop := Claim7.holds Tryd.pinned (.plain (OpenSpec.upto matrixPicksSpec)) matrixPicksUptoCard
end Rows
end Go.Proofs.YtaijjhddgecieaaDoor
