/-
  NARROWER THAN 'FOR EVERY INPUT', by the rows' own cells (each row's printed sentence says how): XorCostOfPlainParity: laid · XorRunIsEncode: laid · XorCompileMatchesSpec: laid · XorRunMatchesSpec: laid · XorRunIsPointwise: laid · XorShortenMatchesSpec: laid · XorShortenKeepsMeaning: laid.
  DERIVED. THE GIVEN ROWS OF THIS SEAT. 7 by the template 'for every input the law returns true; each argument reads behind the call as it read before'; 0 by the template 'total and deterministic' (their statements: YtghinmlpkgcdiaaDoorTotals.lean).
  GIVEN WITH THE SEED: the statements are not yours to turn. If you find one false, say at which input.
  Laid BY PROGRAM, IN A SANDBOX (cutbox-rows.mjs): the forced cells as the released guide's own fill.sh prints them over the translation 566055afd1f7e8f3… (all of the seat's roots in one cut). By AI agents, Wed Nov 11 2026. No macro, syntax, notation, axiom, sorry.
-/
import Derived.Test.YtghinmlpkgcdiaaDoorChecked
import GoSem.Claim
import GoSem.ClaimJoined
import GoSem.ClaimMapViews
import Derived.JoinedTies
import Derived.KernelRfl
namespace Go.Proofs.YtghinmlpkgcdiaaDoor
/- THE CELL 'sum', in the pinned program and in every row, IS THE sha256 OF THE DUMP (.gsa) THAT YtghinmlpkgcdiaaDoorProg.lean LOADS. Nothing in Lean hashes anything: it is a label: what it is worth is what the hold of that sum in a sandbox is worth. -/
noncomputable def Tryd.pinned : Pinned := { name := "ytghinmlpkgcdiaadoor", sum := "566055afd1f7e8f3eba48af1f78353a7d2691d15dc054cb67094bbe9652969df", checked := Tryd.checked }
namespace Rows
def none {H : Type} : Left H := { results := [], args := [] }

/- WHAT THE LISTED PACKAGE-LEVEL VARIABLES READ AS WHEN THE CALL BEGINS. Each datum BY PROGRAM (the guide's laid-datum.mjs) off the statement by which the dump's own 'gosem.cut.vars' lays the variable. In a bare row this is a premise. The card (YtghinmlpkgcdiaaDoorCards.lean) ties it to the program's text. -/
def laid_solvent_field_fields {H : Type} : DataW H := .agg [.agg [.lit (.int .i64 8), .lit (.int .i64 285)], .agg [.lit (.int .i64 16), .lit (.int .i64 69643)]]

/-- 'solventlaw11.XorCostOfPlainParity': WHATEVER THE INPUT: true; the input reads as it did. -/
def xorCostOfPlainParitySpec : ChangeSpec := { name := "xorCostOfPlainParity", fn := fun _ => fun
  | [d1, d2] => { results := [.lit (.bool true)], args := [d1, d2] }
  | _ => none }
def xorCostOfPlainParityRow : OpenClaim := { program := "ytghinmlpkgcdiaadoor", sum := "566055afd1f7e8f3eba48af1f78353a7d2691d15dc054cb67094bbe9652969df", func := "solvent/solventlaw11.XorCostOfPlainParity", spec := "xorCostOfPlainParity", unfollowed := true, recurses := true, named := ["solvent/field.fields"], plainKeys := false, apart := false, laid := [("solvent/field.fields", laid_solvent_field_fields)] }
def XorCostOfPlainParitySaid : Prop := xorCostOfPlainParityRow.holds Tryd.pinned (OpenSpec.ofChange xorCostOfPlainParitySpec)

/-- ITS FALSE NEIGHBOUR: 'it returns false'. Refute it at one input. -/
def xorCostOfPlainParityWrong : ChangeSpec := { name := "xorCostOfPlainParity", fn := fun _ => fun
  | [d1, d2] => { results := [.lit (.bool false)], args := [d1, d2] }
  | _ => none }
def XorCostOfPlainParityWrongFalsely : Prop := xorCostOfPlainParityRow.holds Tryd.pinned (OpenSpec.ofChange xorCostOfPlainParityWrong)

/-- 'solventlaw11.XorRunIsEncode': WHATEVER THE INPUT: true; the input reads as it did. -/
def xorRunIsEncodeSpec : ChangeSpec := { name := "xorRunIsEncode", fn := fun _ => fun
  | [d1, d2] => { results := [.lit (.bool true)], args := [d1, d2] }
  | _ => none }
def xorRunIsEncodeRow : OpenClaim := { program := "ytghinmlpkgcdiaadoor", sum := "566055afd1f7e8f3eba48af1f78353a7d2691d15dc054cb67094bbe9652969df", func := "solvent/solventlaw11.XorRunIsEncode", spec := "xorRunIsEncode", unfollowed := true, recurses := true, named := ["solvent/field.fields"], plainKeys := false, apart := false, laid := [("solvent/field.fields", laid_solvent_field_fields)] }
def XorRunIsEncodeSaid : Prop := xorRunIsEncodeRow.holds Tryd.pinned (OpenSpec.ofChange xorRunIsEncodeSpec)

/-- ITS FALSE NEIGHBOUR: 'it returns false'. Refute it at one input. -/
def xorRunIsEncodeWrong : ChangeSpec := { name := "xorRunIsEncode", fn := fun _ => fun
  | [d1, d2] => { results := [.lit (.bool false)], args := [d1, d2] }
  | _ => none }
def XorRunIsEncodeWrongFalsely : Prop := xorRunIsEncodeRow.holds Tryd.pinned (OpenSpec.ofChange xorRunIsEncodeWrong)

/-- 'solventlaw11.XorCompileMatchesSpec': WHATEVER THE INPUT: true; the input reads as it did. -/
def xorCompileMatchesSpecSpec : ChangeSpec := { name := "xorCompileMatchesSpec", fn := fun _ => fun
  | [d] => { results := [.lit (.bool true)], args := [d] }
  | _ => none }
def xorCompileMatchesSpecRow : OpenClaim := { program := "ytghinmlpkgcdiaadoor", sum := "566055afd1f7e8f3eba48af1f78353a7d2691d15dc054cb67094bbe9652969df", func := "solvent/solventlaw11.XorCompileMatchesSpec", spec := "xorCompileMatchesSpec", unfollowed := true, recurses := true, named := ["solvent/field.fields"], plainKeys := false, apart := false, laid := [("solvent/field.fields", laid_solvent_field_fields)] }
def XorCompileMatchesSpecSaid : Prop := xorCompileMatchesSpecRow.holds Tryd.pinned (OpenSpec.ofChange xorCompileMatchesSpecSpec)

/-- ITS FALSE NEIGHBOUR: 'it returns false'. Refute it at one input. -/
def xorCompileMatchesSpecWrong : ChangeSpec := { name := "xorCompileMatchesSpec", fn := fun _ => fun
  | [d] => { results := [.lit (.bool false)], args := [d] }
  | _ => none }
def XorCompileMatchesSpecWrongFalsely : Prop := xorCompileMatchesSpecRow.holds Tryd.pinned (OpenSpec.ofChange xorCompileMatchesSpecWrong)

/-- 'solventlaw11.XorRunMatchesSpec': WHATEVER THE INPUT: true; the input reads as it did. -/
def xorRunMatchesSpecSpec : ChangeSpec := { name := "xorRunMatchesSpec", fn := fun _ => fun
  | [d1, d2] => { results := [.lit (.bool true)], args := [d1, d2] }
  | _ => none }
def xorRunMatchesSpecRow : OpenClaim := { program := "ytghinmlpkgcdiaadoor", sum := "566055afd1f7e8f3eba48af1f78353a7d2691d15dc054cb67094bbe9652969df", func := "solvent/solventlaw11.XorRunMatchesSpec", spec := "xorRunMatchesSpec", unfollowed := true, recurses := true, named := ["solvent/field.fields"], plainKeys := false, apart := false, laid := [("solvent/field.fields", laid_solvent_field_fields)] }
def XorRunMatchesSpecSaid : Prop := xorRunMatchesSpecRow.holds Tryd.pinned (OpenSpec.ofChange xorRunMatchesSpecSpec)

/-- ITS FALSE NEIGHBOUR: 'it returns false'. Refute it at one input. -/
def xorRunMatchesSpecWrong : ChangeSpec := { name := "xorRunMatchesSpec", fn := fun _ => fun
  | [d1, d2] => { results := [.lit (.bool false)], args := [d1, d2] }
  | _ => none }
def XorRunMatchesSpecWrongFalsely : Prop := xorRunMatchesSpecRow.holds Tryd.pinned (OpenSpec.ofChange xorRunMatchesSpecWrong)

/-- 'solventlaw11.XorRunIsPointwise': WHATEVER THE INPUT: true; the input reads as it did. -/
def xorRunIsPointwiseSpec : ChangeSpec := { name := "xorRunIsPointwise", fn := fun _ => fun
  | [d] => { results := [.lit (.bool true)], args := [d] }
  | _ => none }
def xorRunIsPointwiseRow : OpenClaim := { program := "ytghinmlpkgcdiaadoor", sum := "566055afd1f7e8f3eba48af1f78353a7d2691d15dc054cb67094bbe9652969df", func := "solvent/solventlaw11.XorRunIsPointwise", spec := "xorRunIsPointwise", unfollowed := true, recurses := true, named := ["solvent/field.fields"], plainKeys := false, apart := false, laid := [("solvent/field.fields", laid_solvent_field_fields)] }
def XorRunIsPointwiseSaid : Prop := xorRunIsPointwiseRow.holds Tryd.pinned (OpenSpec.ofChange xorRunIsPointwiseSpec)

/-- ITS FALSE NEIGHBOUR: 'it returns false'. Refute it at one input. -/
def xorRunIsPointwiseWrong : ChangeSpec := { name := "xorRunIsPointwise", fn := fun _ => fun
  | [d] => { results := [.lit (.bool false)], args := [d] }
  | _ => none }
def XorRunIsPointwiseWrongFalsely : Prop := xorRunIsPointwiseRow.holds Tryd.pinned (OpenSpec.ofChange xorRunIsPointwiseWrong)

/-- 'solventlaw11.XorShortenMatchesSpec': WHATEVER THE INPUT: true; the input reads as it did. -/
def xorShortenMatchesSpecSpec : ChangeSpec := { name := "xorShortenMatchesSpec", fn := fun _ => fun
  | [d] => { results := [.lit (.bool true)], args := [d] }
  | _ => none }
def xorShortenMatchesSpecRow : OpenClaim := { program := "ytghinmlpkgcdiaadoor", sum := "566055afd1f7e8f3eba48af1f78353a7d2691d15dc054cb67094bbe9652969df", func := "solvent/solventlaw11.XorShortenMatchesSpec", spec := "xorShortenMatchesSpec", unfollowed := true, recurses := true, named := ["solvent/field.fields"], plainKeys := false, apart := false, laid := [("solvent/field.fields", laid_solvent_field_fields)] }
def XorShortenMatchesSpecSaid : Prop := xorShortenMatchesSpecRow.holds Tryd.pinned (OpenSpec.ofChange xorShortenMatchesSpecSpec)

/-- ITS FALSE NEIGHBOUR: 'it returns false'. Refute it at one input. -/
def xorShortenMatchesSpecWrong : ChangeSpec := { name := "xorShortenMatchesSpec", fn := fun _ => fun
  | [d] => { results := [.lit (.bool false)], args := [d] }
  | _ => none }
def XorShortenMatchesSpecWrongFalsely : Prop := xorShortenMatchesSpecRow.holds Tryd.pinned (OpenSpec.ofChange xorShortenMatchesSpecWrong)

/-- 'solventlaw11.XorShortenKeepsMeaning': WHATEVER THE INPUT: true; the input reads as it did. -/
def xorShortenKeepsMeaningSpec : ChangeSpec := { name := "xorShortenKeepsMeaning", fn := fun _ => fun
  | [d1, d2] => { results := [.lit (.bool true)], args := [d1, d2] }
  | _ => none }
def xorShortenKeepsMeaningRow : OpenClaim := { program := "ytghinmlpkgcdiaadoor", sum := "566055afd1f7e8f3eba48af1f78353a7d2691d15dc054cb67094bbe9652969df", func := "solvent/solventlaw11.XorShortenKeepsMeaning", spec := "xorShortenKeepsMeaning", unfollowed := true, recurses := true, named := ["solvent/field.fields"], plainKeys := false, apart := false, laid := [("solvent/field.fields", laid_solvent_field_fields)] }
def XorShortenKeepsMeaningSaid : Prop := xorShortenKeepsMeaningRow.holds Tryd.pinned (OpenSpec.ofChange xorShortenKeepsMeaningSpec)

/-- ITS FALSE NEIGHBOUR: 'it returns false'. Refute it at one input. -/
def xorShortenKeepsMeaningWrong : ChangeSpec := { name := "xorShortenKeepsMeaning", fn := fun _ => fun
  | [d1, d2] => { results := [.lit (.bool false)], args := [d1, d2] }
  | _ => none }
def XorShortenKeepsMeaningWrongFalsely : Prop := xorShortenKeepsMeaningRow.holds Tryd.pinned (OpenSpec.ofChange xorShortenKeepsMeaningWrong)

/- THE SECOND FORM. 'bulk': how many values and letters a reading holds, each counted each time it is reached (what is shared counts as often as it is met; a slice's spare places count too). A statement '..UptoSaid' is the law's where the arguments, and the package variables that the reading takes, are together of bulk at most 1048576: NARROWER than '..Said'. Prove '..Said' where nothing that the law and all that it calls make is longer than what came in: it says more and counts as full. Else prove '..UptoSaid'. A law counts once. -/
mutual
def uptoBulk {H : Type} : DataW H → Nat
  | .lit (.string bytes) => bytes.length + 1
  | .lit _ => 1
  | .nil => 1
  | .ptr d => uptoBulk d + 1
  | .slice elems spare => uptoBulkAll elems + uptoBulkAll spare + 1
  | .agg parts => uptoBulkAll parts + 1
  | .iface _ d => uptoBulk d + 1
  | .map entries => uptoBulkEntries entries + 1
  | .held _ => 1
def uptoBulkAll {H : Type} : List (DataW H) → Nat
  | [] => 0
  | d :: r => uptoBulk d + uptoBulkAll r
def uptoBulkEntries {H : Type} : List (Lit × DataW H) → Nat
  | [] => 0
  | x :: r => uptoBulkEntry x + uptoBulkEntries r
def uptoBulkEntry {H : Type} : Lit × DataW H → Nat
  | (.string bytes, d) => bytes.length + uptoBulk d + 1
  | (_, d) => uptoBulk d + 1
 end
def uptoSmall : (H : Type) → List (DataW H) → Bool := fun _ ds => decide (uptoBulkAll ds ≤ 1048576)
def OpenSpec.upto (s : _root_.Go.ChangeSpec) : _root_.Go.OpenSpec := { _root_.Go.OpenSpec.ofChange s with cond := some uptoSmall }

/-- 'solventlaw11.XorCostOfPlainParity', WHERE WHAT IT READS IS OF BULK AT MOST 1048576: true; the input reads as it did. -/
def xorCostOfPlainParityUptoRow : OpenClaim := { program := "ytghinmlpkgcdiaadoor", sum := "566055afd1f7e8f3eba48af1f78353a7d2691d15dc054cb67094bbe9652969df", func := "solvent/solventlaw11.XorCostOfPlainParity", spec := "xorCostOfPlainParity", unfollowed := true, recurses := true, named := ["solvent/field.fields"], plainKeys := false, apart := false, laid := [("solvent/field.fields", laid_solvent_field_fields)], narrowed := true }
def XorCostOfPlainParityUptoSaid : Prop := xorCostOfPlainParityUptoRow.holds Tryd.pinned (OpenSpec.upto xorCostOfPlainParitySpec)

/-- 'solventlaw11.XorRunIsEncode', WHERE WHAT IT READS IS OF BULK AT MOST 1048576: true; the input reads as it did. -/
def xorRunIsEncodeUptoRow : OpenClaim := { program := "ytghinmlpkgcdiaadoor", sum := "566055afd1f7e8f3eba48af1f78353a7d2691d15dc054cb67094bbe9652969df", func := "solvent/solventlaw11.XorRunIsEncode", spec := "xorRunIsEncode", unfollowed := true, recurses := true, named := ["solvent/field.fields"], plainKeys := false, apart := false, laid := [("solvent/field.fields", laid_solvent_field_fields)], narrowed := true }
def XorRunIsEncodeUptoSaid : Prop := xorRunIsEncodeUptoRow.holds Tryd.pinned (OpenSpec.upto xorRunIsEncodeSpec)

/-- 'solventlaw11.XorCompileMatchesSpec', WHERE WHAT IT READS IS OF BULK AT MOST 1048576: true; the input reads as it did. -/
def xorCompileMatchesSpecUptoRow : OpenClaim := { program := "ytghinmlpkgcdiaadoor", sum := "566055afd1f7e8f3eba48af1f78353a7d2691d15dc054cb67094bbe9652969df", func := "solvent/solventlaw11.XorCompileMatchesSpec", spec := "xorCompileMatchesSpec", unfollowed := true, recurses := true, named := ["solvent/field.fields"], plainKeys := false, apart := false, laid := [("solvent/field.fields", laid_solvent_field_fields)], narrowed := true }
def XorCompileMatchesSpecUptoSaid : Prop := xorCompileMatchesSpecUptoRow.holds Tryd.pinned (OpenSpec.upto xorCompileMatchesSpecSpec)

/-- 'solventlaw11.XorRunMatchesSpec', WHERE WHAT IT READS IS OF BULK AT MOST 1048576: true; the input reads as it did. -/
def xorRunMatchesSpecUptoRow : OpenClaim := { program := "ytghinmlpkgcdiaadoor", sum := "566055afd1f7e8f3eba48af1f78353a7d2691d15dc054cb67094bbe9652969df", func := "solvent/solventlaw11.XorRunMatchesSpec", spec := "xorRunMatchesSpec", unfollowed := true, recurses := true, named := ["solvent/field.fields"], plainKeys := false, apart := false, laid := [("solvent/field.fields", laid_solvent_field_fields)], narrowed := true }
def XorRunMatchesSpecUptoSaid : Prop := xorRunMatchesSpecUptoRow.holds Tryd.pinned (OpenSpec.upto xorRunMatchesSpecSpec)

/-- 'solventlaw11.XorRunIsPointwise', WHERE WHAT IT READS IS OF BULK AT MOST 1048576: true; the input reads as it did. -/
def xorRunIsPointwiseUptoRow : OpenClaim := { program := "ytghinmlpkgcdiaadoor", sum := "566055afd1f7e8f3eba48af1f78353a7d2691d15dc054cb67094bbe9652969df", func := "solvent/solventlaw11.XorRunIsPointwise", spec := "xorRunIsPointwise", unfollowed := true, recurses := true, named := ["solvent/field.fields"], plainKeys := false, apart := false, laid := [("solvent/field.fields", laid_solvent_field_fields)], narrowed := true }
def XorRunIsPointwiseUptoSaid : Prop := xorRunIsPointwiseUptoRow.holds Tryd.pinned (OpenSpec.upto xorRunIsPointwiseSpec)

/-- 'solventlaw11.XorShortenMatchesSpec', WHERE WHAT IT READS IS OF BULK AT MOST 1048576: true; the input reads as it did. -/
def xorShortenMatchesSpecUptoRow : OpenClaim := { program := "ytghinmlpkgcdiaadoor", sum := "566055afd1f7e8f3eba48af1f78353a7d2691d15dc054cb67094bbe9652969df", func := "solvent/solventlaw11.XorShortenMatchesSpec", spec := "xorShortenMatchesSpec", unfollowed := true, recurses := true, named := ["solvent/field.fields"], plainKeys := false, apart := false, laid := [("solvent/field.fields", laid_solvent_field_fields)], narrowed := true }
def XorShortenMatchesSpecUptoSaid : Prop := xorShortenMatchesSpecUptoRow.holds Tryd.pinned (OpenSpec.upto xorShortenMatchesSpecSpec)

/-- 'solventlaw11.XorShortenKeepsMeaning', WHERE WHAT IT READS IS OF BULK AT MOST 1048576: true; the input reads as it did. -/
def xorShortenKeepsMeaningUptoRow : OpenClaim := { program := "ytghinmlpkgcdiaadoor", sum := "566055afd1f7e8f3eba48af1f78353a7d2691d15dc054cb67094bbe9652969df", func := "solvent/solventlaw11.XorShortenKeepsMeaning", spec := "xorShortenKeepsMeaning", unfollowed := true, recurses := true, named := ["solvent/field.fields"], plainKeys := false, apart := false, laid := [("solvent/field.fields", laid_solvent_field_fields)], narrowed := true }
def XorShortenKeepsMeaningUptoSaid : Prop := xorShortenKeepsMeaningUptoRow.holds Tryd.pinned (OpenSpec.upto xorShortenKeepsMeaningSpec)

end Rows
end Go.Proofs.YtghinmlpkgcdiaaDoor
