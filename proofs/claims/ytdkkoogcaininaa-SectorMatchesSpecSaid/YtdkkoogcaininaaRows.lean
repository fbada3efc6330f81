/-
  No cell of these rows narrows 'for every input' (looked for: loops, veiled, ifaces, maps, wideKeys, modest, calm, conditions, laid).
  DERIVED. THE GIVEN ROWS OF THIS SEAT. 6 by the template 'for every input the law returns true; each argument reads behind the call as it read before'; 0 by the template 'total and deterministic' (their statements: YtdkkoogcaininaaTotals.lean).
  GIVEN WITH THE SEED: the statements are not yours to turn. If you find one false, say at which input.
  Laid BY PROGRAM, IN A SANDBOX (cutbox-rows.mjs): the forced cells as the released guide's own fill.sh prints them over the translation 46484be2bbaf7c11… (all of the seat's roots in one cut). By AI agents, Wed Nov 11 2026. No macro, syntax, notation, axiom, sorry.
-/
import Derived.Test.YtdkkoogcaininaaChecked
import GoSem.Claim
import GoSem.ClaimJoined
import GoSem.ClaimMapViews
import Derived.JoinedTies
import Derived.KernelRfl
namespace Go.Proofs.Ytdkkoogcaininaa
/- THE CELL 'sum', in the pinned program and in every row, IS THE sha256 OF THE DUMP (.gsa) THAT YtdkkoogcaininaaProg.lean LOADS. Nothing in Lean hashes anything: it is a label: what it is worth is what the hold of that sum in a sandbox is worth. -/
noncomputable def Try.pinned : Pinned := { name := "ytdkkoogcaininaa", sum := "46484be2bbaf7c1109ff355c4b24d7aba8f693470c13c675ce71b91cda4ad1ab", checked := Try.checked }
namespace Rows
def none {H : Type} : Left H := { results := [], args := [] }

/-- 'solventlaw15.SectorMatchesSpec': WHATEVER THE INPUT: true; the input reads as it did. -/
def sectorMatchesSpecSpec : ChangeSpec := { name := "sectorMatchesSpec", fn := fun _ => fun
  | [d1, d2, d3, d4, d5] => { results := [.lit (.bool true)], args := [d1, d2, d3, d4, d5] }
  | _ => none }
def sectorMatchesSpecRow : OpenClaim := { program := "ytdkkoogcaininaa", sum := "46484be2bbaf7c1109ff355c4b24d7aba8f693470c13c675ce71b91cda4ad1ab", func := "solvent/solventlaw15.SectorMatchesSpec", spec := "sectorMatchesSpec", apart := false }
def SectorMatchesSpecSaid : Prop := sectorMatchesSpecRow.holds Try.pinned (OpenSpec.ofChange sectorMatchesSpecSpec)

/-- ITS FALSE NEIGHBOUR: 'it returns false'. Refute it at one input. -/
def sectorMatchesSpecWrong : ChangeSpec := { name := "sectorMatchesSpec", fn := fun _ => fun
  | [d1, d2, d3, d4, d5] => { results := [.lit (.bool false)], args := [d1, d2, d3, d4, d5] }
  | _ => none }
def SectorMatchesSpecWrongFalsely : Prop := sectorMatchesSpecRow.holds Try.pinned (OpenSpec.ofChange sectorMatchesSpecWrong)

/-- 'solventlaw15.SectorOpens': WHATEVER THE INPUT: true; the input reads as it did. -/
def sectorOpensSpec : ChangeSpec := { name := "sectorOpens", fn := fun _ => fun
  | [d1, d2, d3, d4] => { results := [.lit (.bool true)], args := [d1, d2, d3, d4] }
  | _ => none }
def sectorOpensRow : OpenClaim := { program := "ytdkkoogcaininaa", sum := "46484be2bbaf7c1109ff355c4b24d7aba8f693470c13c675ce71b91cda4ad1ab", func := "solvent/solventlaw15.SectorOpens", spec := "sectorOpens", apart := false }
def SectorOpensSaid : Prop := sectorOpensRow.holds Try.pinned (OpenSpec.ofChange sectorOpensSpec)

/-- ITS FALSE NEIGHBOUR: 'it returns false'. Refute it at one input. -/
def sectorOpensWrong : ChangeSpec := { name := "sectorOpens", fn := fun _ => fun
  | [d1, d2, d3, d4] => { results := [.lit (.bool false)], args := [d1, d2, d3, d4] }
  | _ => none }
def SectorOpensWrongFalsely : Prop := sectorOpensRow.holds Try.pinned (OpenSpec.ofChange sectorOpensWrong)

/-- 'solventlaw15.SectorDamaged': WHATEVER THE INPUT: true; the input reads as it did. -/
def sectorDamagedSpec : ChangeSpec := { name := "sectorDamaged", fn := fun _ => fun
  | [d1, d2, d3, d4, d5] => { results := [.lit (.bool true)], args := [d1, d2, d3, d4, d5] }
  | _ => none }
def sectorDamagedRow : OpenClaim := { program := "ytdkkoogcaininaa", sum := "46484be2bbaf7c1109ff355c4b24d7aba8f693470c13c675ce71b91cda4ad1ab", func := "solvent/solventlaw15.SectorDamaged", spec := "sectorDamaged", apart := false }
def SectorDamagedSaid : Prop := sectorDamagedRow.holds Try.pinned (OpenSpec.ofChange sectorDamagedSpec)

/-- ITS FALSE NEIGHBOUR: 'it returns false'. Refute it at one input. -/
def sectorDamagedWrong : ChangeSpec := { name := "sectorDamaged", fn := fun _ => fun
  | [d1, d2, d3, d4, d5] => { results := [.lit (.bool false)], args := [d1, d2, d3, d4, d5] }
  | _ => none }
def SectorDamagedWrongFalsely : Prop := sectorDamagedRow.holds Try.pinned (OpenSpec.ofChange sectorDamagedWrong)

/-- 'solventlaw15.SectorDistinct': WHATEVER THE INPUT: true; the input reads as it did. -/
def sectorDistinctSpec : ChangeSpec := { name := "sectorDistinct", fn := fun _ => fun
  | [d1, d2, d3, d4, d5, d6] => { results := [.lit (.bool true)], args := [d1, d2, d3, d4, d5, d6] }
  | _ => none }
def sectorDistinctRow : OpenClaim := { program := "ytdkkoogcaininaa", sum := "46484be2bbaf7c1109ff355c4b24d7aba8f693470c13c675ce71b91cda4ad1ab", func := "solvent/solventlaw15.SectorDistinct", spec := "sectorDistinct", apart := false }
def SectorDistinctSaid : Prop := sectorDistinctRow.holds Try.pinned (OpenSpec.ofChange sectorDistinctSpec)

/-- ITS FALSE NEIGHBOUR: 'it returns false'. Refute it at one input. -/
def sectorDistinctWrong : ChangeSpec := { name := "sectorDistinct", fn := fun _ => fun
  | [d1, d2, d3, d4, d5, d6] => { results := [.lit (.bool false)], args := [d1, d2, d3, d4, d5, d6] }
  | _ => none }
def SectorDistinctWrongFalsely : Prop := sectorDistinctRow.holds Try.pinned (OpenSpec.ofChange sectorDistinctWrong)

/-- 'solventlaw15.SectorOrder': WHATEVER THE INPUT: true; the input reads as it did. -/
def sectorOrderSpec : ChangeSpec := { name := "sectorOrder", fn := fun _ => fun
  | [d1, d2, d3] => { results := [.lit (.bool true)], args := [d1, d2, d3] }
  | _ => none }
def sectorOrderRow : OpenClaim := { program := "ytdkkoogcaininaa", sum := "46484be2bbaf7c1109ff355c4b24d7aba8f693470c13c675ce71b91cda4ad1ab", func := "solvent/solventlaw15.SectorOrder", spec := "sectorOrder", apart := false }
def SectorOrderSaid : Prop := sectorOrderRow.holds Try.pinned (OpenSpec.ofChange sectorOrderSpec)

/-- ITS FALSE NEIGHBOUR: 'it returns false'. Refute it at one input. -/
def sectorOrderWrong : ChangeSpec := { name := "sectorOrder", fn := fun _ => fun
  | [d1, d2, d3] => { results := [.lit (.bool false)], args := [d1, d2, d3] }
  | _ => none }
def SectorOrderWrongFalsely : Prop := sectorOrderRow.holds Try.pinned (OpenSpec.ofChange sectorOrderWrong)

/-- 'solventlaw15.SectorTorn': WHATEVER THE INPUT: true; the input reads as it did. -/
def sectorTornSpec : ChangeSpec := { name := "sectorTorn", fn := fun _ => fun
  | [d1, d2, d3, d4, d5, d6, d7] => { results := [.lit (.bool true)], args := [d1, d2, d3, d4, d5, d6, d7] }
  | _ => none }
def sectorTornRow : OpenClaim := { program := "ytdkkoogcaininaa", sum := "46484be2bbaf7c1109ff355c4b24d7aba8f693470c13c675ce71b91cda4ad1ab", func := "solvent/solventlaw15.SectorTorn", spec := "sectorTorn", apart := false }
def SectorTornSaid : Prop := sectorTornRow.holds Try.pinned (OpenSpec.ofChange sectorTornSpec)

/-- ITS FALSE NEIGHBOUR: 'it returns false'. Refute it at one input. -/
def sectorTornWrong : ChangeSpec := { name := "sectorTorn", fn := fun _ => fun
  | [d1, d2, d3, d4, d5, d6, d7] => { results := [.lit (.bool false)], args := [d1, d2, d3, d4, d5, d6, d7] }
  | _ => none }
def SectorTornWrongFalsely : Prop := sectorTornRow.holds Try.pinned (OpenSpec.ofChange sectorTornWrong)

/- THE SECOND FORM. 'bulk': how many values and letters a reading holds, each counted each time it is reached (what is shared counts as often as it is met; a slice's spare places count too). A statement '..UptoSaid' is the law's where the arguments, and the package variables that the reading takes, are together of bulk at most 1048576: NARROWER than '..Said'. Prove '..Said' where nothing that the law and all that it calls make is longer than what came in: it says more and counts as full. Else prove '..UptoSaid'. A law counts once. -/
mutual
def uptoBulk {H : Type} : DataW H → Nat
  | .lit (.string bytes) => bytes.length + 1
  | .lit _ => 1
  | .nil => 1
  | .ptr d => uptoBulk d + 1
  | .slice elems spare => uptoBulkAll elems + uptoBulkAll spare + 1
  | .agg parts => uptoBulkAll parts + 1
  | .iface _ d => uptoBulk d + 1
  | .map entries => uptoBulkEntries entries + 1
  | .held _ => 1
def uptoBulkAll {H : Type} : List (DataW H) → Nat
  | [] => 0
  | d :: r => uptoBulk d + uptoBulkAll r
def uptoBulkEntries {H : Type} : List (Lit × DataW H) → Nat
  | [] => 0
  | x :: r => uptoBulkEntry x + uptoBulkEntries r
def uptoBulkEntry {H : Type} : Lit × DataW H → Nat
  | (.string bytes, d) => bytes.length + uptoBulk d + 1
  | (_, d) => uptoBulk d + 1
 end
def uptoSmall : (H : Type) → List (DataW H) → Bool := fun _ ds => decide (uptoBulkAll ds ≤ 1048576)
def OpenSpec.upto (s : _root_.Go.ChangeSpec) : _root_.Go.OpenSpec := { _root_.Go.OpenSpec.ofChange s with cond := some uptoSmall }

/-- 'solventlaw15.SectorMatchesSpec', WHERE WHAT IT READS IS OF BULK AT MOST 1048576: true; the input reads as it did. -/
def sectorMatchesSpecUptoRow : OpenClaim := { program := "ytdkkoogcaininaa", sum := "46484be2bbaf7c1109ff355c4b24d7aba8f693470c13c675ce71b91cda4ad1ab", func := "solvent/solventlaw15.SectorMatchesSpec", spec := "sectorMatchesSpec", apart := false, narrowed := true }
def SectorMatchesSpecUptoSaid : Prop := sectorMatchesSpecUptoRow.holds Try.pinned (OpenSpec.upto sectorMatchesSpecSpec)

/-- 'solventlaw15.SectorOpens', WHERE WHAT IT READS IS OF BULK AT MOST 1048576: true; the input reads as it did. -/
def sectorOpensUptoRow : OpenClaim := { program := "ytdkkoogcaininaa", sum := "46484be2bbaf7c1109ff355c4b24d7aba8f693470c13c675ce71b91cda4ad1ab", func := "solvent/solventlaw15.SectorOpens", spec := "sectorOpens", apart := false, narrowed := true }
def SectorOpensUptoSaid : Prop := sectorOpensUptoRow.holds Try.pinned (OpenSpec.upto sectorOpensSpec)

/-- 'solventlaw15.SectorDamaged', WHERE WHAT IT READS IS OF BULK AT MOST 1048576: true; the input reads as it did. -/
def sectorDamagedUptoRow : OpenClaim := { program := "ytdkkoogcaininaa", sum := "46484be2bbaf7c1109ff355c4b24d7aba8f693470c13c675ce71b91cda4ad1ab", func := "solvent/solventlaw15.SectorDamaged", spec := "sectorDamaged", apart := false, narrowed := true }
def SectorDamagedUptoSaid : Prop := sectorDamagedUptoRow.holds Try.pinned (OpenSpec.upto sectorDamagedSpec)

/-- 'solventlaw15.SectorDistinct', WHERE WHAT IT READS IS OF BULK AT MOST 1048576: true; the input reads as it did. -/
def sectorDistinctUptoRow : OpenClaim := { program := "ytdkkoogcaininaa", sum := "46484be2bbaf7c1109ff355c4b24d7aba8f693470c13c675ce71b91cda4ad1ab", func := "solvent/solventlaw15.SectorDistinct", spec := "sectorDistinct", apart := false, narrowed := true }
def SectorDistinctUptoSaid : Prop := sectorDistinctUptoRow.holds Try.pinned (OpenSpec.upto sectorDistinctSpec)

/-- 'solventlaw15.SectorOrder', WHERE WHAT IT READS IS OF BULK AT MOST 1048576: true; the input reads as it did. -/
def sectorOrderUptoRow : OpenClaim := { program := "ytdkkoogcaininaa", sum := "46484be2bbaf7c1109ff355c4b24d7aba8f693470c13c675ce71b91cda4ad1ab", func := "solvent/solventlaw15.SectorOrder", spec := "sectorOrder", apart := false, narrowed := true }
def SectorOrderUptoSaid : Prop := sectorOrderUptoRow.holds Try.pinned (OpenSpec.upto sectorOrderSpec)

/-- 'solventlaw15.SectorTorn', WHERE WHAT IT READS IS OF BULK AT MOST 1048576: true; the input reads as it did. -/
def sectorTornUptoRow : OpenClaim := { program := "ytdkkoogcaininaa", sum := "46484be2bbaf7c1109ff355c4b24d7aba8f693470c13c675ce71b91cda4ad1ab", func := "solvent/solventlaw15.SectorTorn", spec := "sectorTorn", apart := false, narrowed := true }
def SectorTornUptoSaid : Prop := sectorTornUptoRow.holds Try.pinned (OpenSpec.upto sectorTornSpec)

end Rows
end Go.Proofs.Ytdkkoogcaininaa
