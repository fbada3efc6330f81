/- Fingerprint: what a row's list of package variables gives, and a world for the witness. -/
import Derived.Test.YtgeiholilcgooaaDoorCards
import Derived.Test.YtgeiholilcgooaaDoorTie
import Derived.Test.YtgeiholilcgooaaDoorOpen
import Derived.Test.YtgeiholilcgooaaDoorF1
import Derived.Deep.DeepHandedRow
import Derived.Lib.LaidTab
namespace Go.Proofs.YtgeiholilcgooaaDoor
open Go.ChangeShapes Go.WideShapes Go.ChangeAt Go.RowKit

theorem gTab : Tryd.prog.globalNamed "solvent/fingerprint.exponents" = some 0 := by kernel_rfl
theorem gTabType : (Tryd.prog.globals[0]?).map (·.type) = some 36 := by kernel_rfl
theorem cellsTab : Tryd.prog.cellsOf 36 = 18 := by kernel_rfl
theorem cellsInt : Tryd.prog.cellsOf 3 = 1 := by kernel_rfl
theorem tab_of {W : World} (h : laidMetH Tryd.prog [("solvent/fingerprint.exponents", Rows.laid_solvent_fingerprint_exponents)] W) : Tab W := by
  have h1 : Lib.TabIs Tryd.prog W "solvent/fingerprint.exponents" .i64 [32, 28, 27, 26, 25, 23, 22, 20, 19, 18, 14, 13, 11, 10, 9, 8, 6, 0] :=
    Lib.tabIs_of_head (rest := []) gTab gTabType Tryd.underlying36 Tryd.underlying3 cellsInt cellsTab h
  unfold Lib.TabIs World.var? at h1
  rw [gTab] at h1
  simp only [Option.bind_some] at h1
  split at h1
  · rename_i cs t fr hg
    injection h1 with h1
    subst h1
    exact ⟨t, fr, hg⟩
  · cases h1
/-- a world for the witness: the settled one, the table holding what its initialiser lays -/
noncomputable def laidWorld (os : Os) : World :=
  { World.holding Tryd.prog os ⟨#[], #[], []⟩ with heap := (World.holding Tryd.prog os ⟨#[], #[], []⟩).heap.modify 0 fun
      | .cells _ t frozen => .cells expV t frozen
      | o => o }
end Go.Proofs.YtgeiholilcgooaaDoor
