/-
  No cell of these rows narrows 'for every input' (looked for: loops, veiled, ifaces, maps, wideKeys, modest, calm, conditions, laid).
  DERIVED. THE GIVEN ROWS OF THIS SEAT. 7 by the template 'for every input the law returns true; each argument reads behind the call as it read before'; 0 by the template 'total and deterministic' (their statements: YtgnafdpondmjfaaTotals.lean).
  GIVEN WITH THE SEED: the statements are not yours to turn. If you find one false, say at which input.
  Laid BY PROGRAM, IN A SANDBOX (cutbox-rows.mjs): the forced cells as the released guide's own fill.sh prints them over the translation a43106476176a4b8… (all of the seat's roots in one cut). By AI agents, Wed Nov 11 2026. No macro, syntax, notation, axiom, sorry.
-/
import Derived.Test.YtgnafdpondmjfaaChecked
import GoSem.Claim
import GoSem.ClaimJoined
import GoSem.ClaimMapViews
import Derived.JoinedTies
import Derived.KernelRfl
namespace Go.Proofs.Ytgnafdpondmjfaa
/- THE CELL 'sum', in the pinned program and in every row, IS THE sha256 OF THE DUMP (.gsa) THAT YtgnafdpondmjfaaProg.lean LOADS. Nothing in Lean hashes anything: it is a label: what it is worth is what the hold of that sum in a sandbox is worth. -/
noncomputable def Try.pinned : Pinned := { name := "ytgnafdpondmjfaa", sum := "a43106476176a4b8461f8a4f14ad4994fc1beb67f2ae89fe0ee394a7a99ba66c", checked := Try.checked }
namespace Rows
def none {H : Type} : Left H := { results := [], args := [] }

/-- 'solventlaw03.CrcMatchesSpec': WHATEVER THE INPUT: true; the input reads as it did. -/
def crcMatchesSpecSpec : ChangeSpec := { name := "crcMatchesSpec", fn := fun _ => fun
  | [d1, d2, d3, d4] => { results := [.lit (.bool true)], args := [d1, d2, d3, d4] }
  | _ => none }
def crcMatchesSpecRow : OpenClaim := { program := "ytgnafdpondmjfaa", sum := "a43106476176a4b8461f8a4f14ad4994fc1beb67f2ae89fe0ee394a7a99ba66c", func := "solvent/solventlaw03.CrcMatchesSpec", spec := "crcMatchesSpec", unfollowed := true, recurses := true, apart := false }
def CrcMatchesSpecSaid : Prop := crcMatchesSpecRow.holds Try.pinned (OpenSpec.ofChange crcMatchesSpecSpec)

/-- ITS FALSE NEIGHBOUR: 'it returns false'. Refute it at one input. -/
def crcMatchesSpecWrong : ChangeSpec := { name := "crcMatchesSpec", fn := fun _ => fun
  | [d1, d2, d3, d4] => { results := [.lit (.bool false)], args := [d1, d2, d3, d4] }
  | _ => none }
def CrcMatchesSpecWrongFalsely : Prop := crcMatchesSpecRow.holds Try.pinned (OpenSpec.ofChange crcMatchesSpecWrong)

/-- 'solventlaw03.CrcParts': WHATEVER THE INPUT: true; the input reads as it did. -/
def crcPartsSpec : ChangeSpec := { name := "crcParts", fn := fun _ => fun
  | [d] => { results := [.lit (.bool true)], args := [d] }
  | _ => none }
def crcPartsRow : OpenClaim := { program := "ytgnafdpondmjfaa", sum := "a43106476176a4b8461f8a4f14ad4994fc1beb67f2ae89fe0ee394a7a99ba66c", func := "solvent/solventlaw03.CrcParts", spec := "crcParts", unfollowed := true, recurses := true, apart := false }
def CrcPartsSaid : Prop := crcPartsRow.holds Try.pinned (OpenSpec.ofChange crcPartsSpec)

/-- ITS FALSE NEIGHBOUR: 'it returns false'. Refute it at one input. -/
def crcPartsWrong : ChangeSpec := { name := "crcParts", fn := fun _ => fun
  | [d] => { results := [.lit (.bool false)], args := [d] }
  | _ => none }
def CrcPartsWrongFalsely : Prop := crcPartsRow.holds Try.pinned (OpenSpec.ofChange crcPartsWrong)

/-- 'solventlaw03.CrcCombines': WHATEVER THE INPUT: true; the input reads as it did. -/
def crcCombinesSpec : ChangeSpec := { name := "crcCombines", fn := fun _ => fun
  | [d1, d2] => { results := [.lit (.bool true)], args := [d1, d2] }
  | _ => none }
def crcCombinesRow : OpenClaim := { program := "ytgnafdpondmjfaa", sum := "a43106476176a4b8461f8a4f14ad4994fc1beb67f2ae89fe0ee394a7a99ba66c", func := "solvent/solventlaw03.CrcCombines", spec := "crcCombines", unfollowed := true, recurses := true, apart := false }
def CrcCombinesSaid : Prop := crcCombinesRow.holds Try.pinned (OpenSpec.ofChange crcCombinesSpec)

/-- ITS FALSE NEIGHBOUR: 'it returns false'. Refute it at one input. -/
def crcCombinesWrong : ChangeSpec := { name := "crcCombines", fn := fun _ => fun
  | [d1, d2] => { results := [.lit (.bool false)], args := [d1, d2] }
  | _ => none }
def CrcCombinesWrongFalsely : Prop := crcCombinesRow.holds Try.pinned (OpenSpec.ofChange crcCombinesWrong)

/-- 'solventlaw03.CrcZeros': WHATEVER THE INPUT: true; the input reads as it did. -/
def crcZerosSpec : ChangeSpec := { name := "crcZeros", fn := fun _ => fun
  | [d1, d2, d3] => { results := [.lit (.bool true)], args := [d1, d2, d3] }
  | _ => none }
def crcZerosRow : OpenClaim := { program := "ytgnafdpondmjfaa", sum := "a43106476176a4b8461f8a4f14ad4994fc1beb67f2ae89fe0ee394a7a99ba66c", func := "solvent/solventlaw03.CrcZeros", spec := "crcZeros", unfollowed := true, recurses := true, apart := false }
def CrcZerosSaid : Prop := crcZerosRow.holds Try.pinned (OpenSpec.ofChange crcZerosSpec)

/-- ITS FALSE NEIGHBOUR: 'it returns false'. Refute it at one input. -/
def crcZerosWrong : ChangeSpec := { name := "crcZeros", fn := fun _ => fun
  | [d1, d2, d3] => { results := [.lit (.bool false)], args := [d1, d2, d3] }
  | _ => none }
def CrcZerosWrongFalsely : Prop := crcZerosRow.holds Try.pinned (OpenSpec.ofChange crcZerosWrong)

/-- 'solventlaw03.CrcBursts': WHATEVER THE INPUT: true; the input reads as it did. -/
def crcBurstsSpec : ChangeSpec := { name := "crcBursts", fn := fun _ => fun
  | [d1, d2, d3] => { results := [.lit (.bool true)], args := [d1, d2, d3] }
  | _ => none }
def crcBurstsRow : OpenClaim := { program := "ytgnafdpondmjfaa", sum := "a43106476176a4b8461f8a4f14ad4994fc1beb67f2ae89fe0ee394a7a99ba66c", func := "solvent/solventlaw03.CrcBursts", spec := "crcBursts", unfollowed := true, recurses := true, apart := false }
def CrcBurstsSaid : Prop := crcBurstsRow.holds Try.pinned (OpenSpec.ofChange crcBurstsSpec)

/-- ITS FALSE NEIGHBOUR: 'it returns false'. Refute it at one input. -/
def crcBurstsWrong : ChangeSpec := { name := "crcBursts", fn := fun _ => fun
  | [d1, d2, d3] => { results := [.lit (.bool false)], args := [d1, d2, d3] }
  | _ => none }
def CrcBurstsWrongFalsely : Prop := crcBurstsRow.holds Try.pinned (OpenSpec.ofChange crcBurstsWrong)

/-- 'solventlaw03.CrcBits': WHATEVER THE INPUT: true; the input reads as it did. -/
def crcBitsSpec : ChangeSpec := { name := "crcBits", fn := fun _ => fun
  | [d1, d2, d3, d4] => { results := [.lit (.bool true)], args := [d1, d2, d3, d4] }
  | _ => none }
def crcBitsRow : OpenClaim := { program := "ytgnafdpondmjfaa", sum := "a43106476176a4b8461f8a4f14ad4994fc1beb67f2ae89fe0ee394a7a99ba66c", func := "solvent/solventlaw03.CrcBits", spec := "crcBits", unfollowed := true, recurses := true, apart := false }
def CrcBitsSaid : Prop := crcBitsRow.holds Try.pinned (OpenSpec.ofChange crcBitsSpec)

/-- ITS FALSE NEIGHBOUR: 'it returns false'. Refute it at one input. -/
def crcBitsWrong : ChangeSpec := { name := "crcBits", fn := fun _ => fun
  | [d1, d2, d3, d4] => { results := [.lit (.bool false)], args := [d1, d2, d3, d4] }
  | _ => none }
def CrcBitsWrongFalsely : Prop := crcBitsRow.holds Try.pinned (OpenSpec.ofChange crcBitsWrong)

/-- 'solventlaw03.CrcAffine': WHATEVER THE INPUT: true; the input reads as it did. -/
def crcAffineSpec : ChangeSpec := { name := "crcAffine", fn := fun _ => fun
  | [d1, d2, d3] => { results := [.lit (.bool true)], args := [d1, d2, d3] }
  | _ => none }
def crcAffineRow : OpenClaim := { program := "ytgnafdpondmjfaa", sum := "a43106476176a4b8461f8a4f14ad4994fc1beb67f2ae89fe0ee394a7a99ba66c", func := "solvent/solventlaw03.CrcAffine", spec := "crcAffine", unfollowed := true, recurses := true, apart := false }
def CrcAffineSaid : Prop := crcAffineRow.holds Try.pinned (OpenSpec.ofChange crcAffineSpec)

/-- ITS FALSE NEIGHBOUR: 'it returns false'. Refute it at one input. -/
def crcAffineWrong : ChangeSpec := { name := "crcAffine", fn := fun _ => fun
  | [d1, d2, d3] => { results := [.lit (.bool false)], args := [d1, d2, d3] }
  | _ => none }
def CrcAffineWrongFalsely : Prop := crcAffineRow.holds Try.pinned (OpenSpec.ofChange crcAffineWrong)

/- THE SECOND FORM. 'bulk': how many values and letters a reading holds, each counted each time it is reached (what is shared counts as often as it is met; a slice's spare places count too). A statement '..UptoSaid' is the law's where the arguments, and the package variables that the reading takes, are together of bulk at most 1048576: NARROWER than '..Said'. Prove '..Said' where nothing that the law and all that it calls make is longer than what came in: it says more and counts as full. Else prove '..UptoSaid'. A law counts once. -/
mutual
def uptoBulk {H : Type} : DataW H → Nat
  | .lit (.string bytes) => bytes.length + 1
  | .lit _ => 1
  | .nil => 1
  | .ptr d => uptoBulk d + 1
  | .slice elems spare => uptoBulkAll elems + uptoBulkAll spare + 1
  | .agg parts => uptoBulkAll parts + 1
  | .iface _ d => uptoBulk d + 1
  | .map entries => uptoBulkEntries entries + 1
  | .held _ => 1
def uptoBulkAll {H : Type} : List (DataW H) → Nat
  | [] => 0
  | d :: r => uptoBulk d + uptoBulkAll r
def uptoBulkEntries {H : Type} : List (Lit × DataW H) → Nat
  | [] => 0
  | x :: r => uptoBulkEntry x + uptoBulkEntries r
def uptoBulkEntry {H : Type} : Lit × DataW H → Nat
  | (.string bytes, d) => bytes.length + uptoBulk d + 1
  | (_, d) => uptoBulk d + 1
 end
def uptoSmall : (H : Type) → List (DataW H) → Bool := fun _ ds => decide (uptoBulkAll ds ≤ 1048576)
def OpenSpec.upto (s : _root_.Go.ChangeSpec) : _root_.Go.OpenSpec := { _root_.Go.OpenSpec.ofChange s with cond := some uptoSmall }

/-- 'solventlaw03.CrcMatchesSpec', WHERE WHAT IT READS IS OF BULK AT MOST 1048576: true; the input reads as it did. -/
def crcMatchesSpecUptoRow : OpenClaim := { program := "ytgnafdpondmjfaa", sum := "a43106476176a4b8461f8a4f14ad4994fc1beb67f2ae89fe0ee394a7a99ba66c", func := "solvent/solventlaw03.CrcMatchesSpec", spec := "crcMatchesSpec", unfollowed := true, recurses := true, apart := false, narrowed := true }
def CrcMatchesSpecUptoSaid : Prop := crcMatchesSpecUptoRow.holds Try.pinned (OpenSpec.upto crcMatchesSpecSpec)

/-- 'solventlaw03.CrcParts', WHERE WHAT IT READS IS OF BULK AT MOST 1048576: true; the input reads as it did. -/
def crcPartsUptoRow : OpenClaim := { program := "ytgnafdpondmjfaa", sum := "a43106476176a4b8461f8a4f14ad4994fc1beb67f2ae89fe0ee394a7a99ba66c", func := "solvent/solventlaw03.CrcParts", spec := "crcParts", unfollowed := true, recurses := true, apart := false, narrowed := true }
def CrcPartsUptoSaid : Prop := crcPartsUptoRow.holds Try.pinned (OpenSpec.upto crcPartsSpec)

/-- 'solventlaw03.CrcCombines', WHERE WHAT IT READS IS OF BULK AT MOST 1048576: true; the input reads as it did. -/
def crcCombinesUptoRow : OpenClaim := { program := "ytgnafdpondmjfaa", sum := "a43106476176a4b8461f8a4f14ad4994fc1beb67f2ae89fe0ee394a7a99ba66c", func := "solvent/solventlaw03.CrcCombines", spec := "crcCombines", unfollowed := true, recurses := true, apart := false, narrowed := true }
def CrcCombinesUptoSaid : Prop := crcCombinesUptoRow.holds Try.pinned (OpenSpec.upto crcCombinesSpec)

/-- 'solventlaw03.CrcZeros', WHERE WHAT IT READS IS OF BULK AT MOST 1048576: true; the input reads as it did. -/
def crcZerosUptoRow : OpenClaim := { program := "ytgnafdpondmjfaa", sum := "a43106476176a4b8461f8a4f14ad4994fc1beb67f2ae89fe0ee394a7a99ba66c", func := "solvent/solventlaw03.CrcZeros", spec := "crcZeros", unfollowed := true, recurses := true, apart := false, narrowed := true }
def CrcZerosUptoSaid : Prop := crcZerosUptoRow.holds Try.pinned (OpenSpec.upto crcZerosSpec)

/-- 'solventlaw03.CrcBursts', WHERE WHAT IT READS IS OF BULK AT MOST 1048576: true; the input reads as it did. -/
def crcBurstsUptoRow : OpenClaim := { program := "ytgnafdpondmjfaa", sum := "a43106476176a4b8461f8a4f14ad4994fc1beb67f2ae89fe0ee394a7a99ba66c", func := "solvent/solventlaw03.CrcBursts", spec := "crcBursts", unfollowed := true, recurses := true, apart := false, narrowed := true }
def CrcBurstsUptoSaid : Prop := crcBurstsUptoRow.holds Try.pinned (OpenSpec.upto crcBurstsSpec)

/-- 'solventlaw03.CrcBits', WHERE WHAT IT READS IS OF BULK AT MOST 1048576: true; the input reads as it did. -/
def crcBitsUptoRow : OpenClaim := { program := "ytgnafdpondmjfaa", sum := "a43106476176a4b8461f8a4f14ad4994fc1beb67f2ae89fe0ee394a7a99ba66c", func := "solvent/solventlaw03.CrcBits", spec := "crcBits", unfollowed := true, recurses := true, apart := false, narrowed := true }
def CrcBitsUptoSaid : Prop := crcBitsUptoRow.holds Try.pinned (OpenSpec.upto crcBitsSpec)

/-- 'solventlaw03.CrcAffine', WHERE WHAT IT READS IS OF BULK AT MOST 1048576: true; the input reads as it did. -/
def crcAffineUptoRow : OpenClaim := { program := "ytgnafdpondmjfaa", sum := "a43106476176a4b8461f8a4f14ad4994fc1beb67f2ae89fe0ee394a7a99ba66c", func := "solvent/solventlaw03.CrcAffine", spec := "crcAffine", unfollowed := true, recurses := true, apart := false, narrowed := true }
def CrcAffineUptoSaid : Prop := crcAffineUptoRow.holds Try.pinned (OpenSpec.upto crcAffineSpec)

end Rows
end Go.Proofs.Ytgnafdpondmjfaa
