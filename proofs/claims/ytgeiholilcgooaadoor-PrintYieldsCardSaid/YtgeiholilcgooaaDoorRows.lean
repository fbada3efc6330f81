/-
  NARROWER THAN 'FOR EVERY INPUT', by the rows' own cells (each row's printed sentence says how): PrintCollides: laid · PrintInvolution: laid · PrintCommutes: laid · PrintDetects: laid · PrintYields: laid.
  DERIVED. THE GIVEN ROWS OF THIS SEAT. 5 by the template 'for every input the law returns true; each argument reads behind the call as it read before'; 0 by the template 'total and deterministic' (their statements: YtgeiholilcgooaaDoorTotals.lean).
  GIVEN WITH THE SEED: the statements are not yours to turn. If you find one false, say at which input.
  Laid BY PROGRAM, IN A SANDBOX (cutbox-rows.mjs): the forced cells as the released guide's own fill.sh prints them over the translation 278eb63eb2e67dfc… (all of the seat's roots in one cut). By AI agents, Wed Nov 11 2026. No macro, syntax, notation, axiom, sorry.
-/
import Derived.Test.YtgeiholilcgooaaDoorChecked
import GoSem.Claim
import GoSem.ClaimJoined
import GoSem.ClaimMapViews
import Derived.JoinedTies
import Derived.KernelRfl
namespace Go.Proofs.YtgeiholilcgooaaDoor
/- THE CELL 'sum', in the pinned program and in every row, IS THE sha256 OF THE DUMP (.gsa) THAT YtgeiholilcgooaaDoorProg.lean LOADS. Nothing in Lean hashes anything: it is a label: what it is worth is what the hold of that sum in a sandbox is worth. -/
noncomputable def Tryd.pinned : Pinned := { name := "ytgeiholilcgooaadoor", sum := "278eb63eb2e67dfc93dc88c70814d65a3111d9790383f8235644086776b9f9ee", checked := Tryd.checked }
namespace Rows
def none {H : Type} : Left H := { results := [], args := [] }

/- WHAT THE LISTED PACKAGE-LEVEL VARIABLES READ AS WHEN THE CALL BEGINS. Each datum BY PROGRAM (the guide's laid-datum.mjs) off the statement by which the dump's own 'gosem.cut.vars' lays the variable. In a bare row this is a premise. The card (YtgeiholilcgooaaDoorCards.lean) ties it to the program's text. -/
def laid_solvent_fingerprint_exponents {H : Type} : DataW H := .agg [.lit (.int .i64 32), .lit (.int .i64 28), .lit (.int .i64 27), .lit (.int .i64 26), .lit (.int .i64 25), .lit (.int .i64 23), .lit (.int .i64 22), .lit (.int .i64 20), .lit (.int .i64 19), .lit (.int .i64 18), .lit (.int .i64 14), .lit (.int .i64 13), .lit (.int .i64 11), .lit (.int .i64 10), .lit (.int .i64 9), .lit (.int .i64 8), .lit (.int .i64 6), .lit (.int .i64 0)]

/-- 'solventlaw04.PrintCollides': WHATEVER THE INPUT: true; the input reads as it did. -/
def printCollidesSpec : ChangeSpec := { name := "printCollides", fn := fun _ => fun
  | [d1, d2] => { results := [.lit (.bool true)], args := [d1, d2] }
  | _ => none }
def printCollidesRow : OpenClaim := { program := "ytgeiholilcgooaadoor", sum := "278eb63eb2e67dfc93dc88c70814d65a3111d9790383f8235644086776b9f9ee", func := "solvent/solventlaw04.PrintCollides", spec := "printCollides", unfollowed := true, recurses := true, named := ["solvent/fingerprint.exponents"], apart := false, laid := [("solvent/fingerprint.exponents", laid_solvent_fingerprint_exponents)] }
def PrintCollidesSaid : Prop := printCollidesRow.holds Tryd.pinned (OpenSpec.ofChange printCollidesSpec)

/-- ITS FALSE NEIGHBOUR: 'it returns false'. Refute it at one input. -/
def printCollidesWrong : ChangeSpec := { name := "printCollides", fn := fun _ => fun
  | [d1, d2] => { results := [.lit (.bool false)], args := [d1, d2] }
  | _ => none }
def PrintCollidesWrongFalsely : Prop := printCollidesRow.holds Tryd.pinned (OpenSpec.ofChange printCollidesWrong)

/-- 'solventlaw04.PrintInvolution': WHATEVER THE INPUT: true; the input reads as it did. -/
def printInvolutionSpec : ChangeSpec := { name := "printInvolution", fn := fun _ => fun
  | [d1, d2, d3] => { results := [.lit (.bool true)], args := [d1, d2, d3] }
  | _ => none }
def printInvolutionRow : OpenClaim := { program := "ytgeiholilcgooaadoor", sum := "278eb63eb2e67dfc93dc88c70814d65a3111d9790383f8235644086776b9f9ee", func := "solvent/solventlaw04.PrintInvolution", spec := "printInvolution", unfollowed := true, recurses := true, named := ["solvent/fingerprint.exponents"], apart := false, laid := [("solvent/fingerprint.exponents", laid_solvent_fingerprint_exponents)] }
def PrintInvolutionSaid : Prop := printInvolutionRow.holds Tryd.pinned (OpenSpec.ofChange printInvolutionSpec)

/-- ITS FALSE NEIGHBOUR: 'it returns false'. Refute it at one input. -/
def printInvolutionWrong : ChangeSpec := { name := "printInvolution", fn := fun _ => fun
  | [d1, d2, d3] => { results := [.lit (.bool false)], args := [d1, d2, d3] }
  | _ => none }
def PrintInvolutionWrongFalsely : Prop := printInvolutionRow.holds Tryd.pinned (OpenSpec.ofChange printInvolutionWrong)

/-- 'solventlaw04.PrintCommutes': WHATEVER THE INPUT: true; the input reads as it did. -/
def printCommutesSpec : ChangeSpec := { name := "printCommutes", fn := fun _ => fun
  | [d1, d2, d3] => { results := [.lit (.bool true)], args := [d1, d2, d3] }
  | _ => none }
def printCommutesRow : OpenClaim := { program := "ytgeiholilcgooaadoor", sum := "278eb63eb2e67dfc93dc88c70814d65a3111d9790383f8235644086776b9f9ee", func := "solvent/solventlaw04.PrintCommutes", spec := "printCommutes", unfollowed := true, recurses := true, named := ["solvent/fingerprint.exponents"], apart := false, laid := [("solvent/fingerprint.exponents", laid_solvent_fingerprint_exponents)] }
def PrintCommutesSaid : Prop := printCommutesRow.holds Tryd.pinned (OpenSpec.ofChange printCommutesSpec)

/-- ITS FALSE NEIGHBOUR: 'it returns false'. Refute it at one input. -/
def printCommutesWrong : ChangeSpec := { name := "printCommutes", fn := fun _ => fun
  | [d1, d2, d3] => { results := [.lit (.bool false)], args := [d1, d2, d3] }
  | _ => none }
def PrintCommutesWrongFalsely : Prop := printCommutesRow.holds Tryd.pinned (OpenSpec.ofChange printCommutesWrong)

/-- 'solventlaw04.PrintDetects': WHATEVER THE INPUT: true; the input reads as it did. -/
def printDetectsSpec : ChangeSpec := { name := "printDetects", fn := fun _ => fun
  | [d1, d2, d3] => { results := [.lit (.bool true)], args := [d1, d2, d3] }
  | _ => none }
def printDetectsRow : OpenClaim := { program := "ytgeiholilcgooaadoor", sum := "278eb63eb2e67dfc93dc88c70814d65a3111d9790383f8235644086776b9f9ee", func := "solvent/solventlaw04.PrintDetects", spec := "printDetects", unfollowed := true, recurses := true, named := ["solvent/fingerprint.exponents"], apart := false, laid := [("solvent/fingerprint.exponents", laid_solvent_fingerprint_exponents)] }
def PrintDetectsSaid : Prop := printDetectsRow.holds Tryd.pinned (OpenSpec.ofChange printDetectsSpec)

/-- ITS FALSE NEIGHBOUR: 'it returns false'. Refute it at one input. -/
def printDetectsWrong : ChangeSpec := { name := "printDetects", fn := fun _ => fun
  | [d1, d2, d3] => { results := [.lit (.bool false)], args := [d1, d2, d3] }
  | _ => none }
def PrintDetectsWrongFalsely : Prop := printDetectsRow.holds Tryd.pinned (OpenSpec.ofChange printDetectsWrong)

/-- 'solventlaw04.PrintYields': WHATEVER THE INPUT: true; the input reads as it did. -/
def printYieldsSpec : ChangeSpec := { name := "printYields", fn := fun _ => fun
  | [d1, d2] => { results := [.lit (.bool true)], args := [d1, d2] }
  | _ => none }
def printYieldsRow : OpenClaim := { program := "ytgeiholilcgooaadoor", sum := "278eb63eb2e67dfc93dc88c70814d65a3111d9790383f8235644086776b9f9ee", func := "solvent/solventlaw04.PrintYields", spec := "printYields", unfollowed := true, recurses := true, named := ["solvent/fingerprint.exponents"], apart := false, laid := [("solvent/fingerprint.exponents", laid_solvent_fingerprint_exponents)] }
def PrintYieldsSaid : Prop := printYieldsRow.holds Tryd.pinned (OpenSpec.ofChange printYieldsSpec)

/-- ITS FALSE NEIGHBOUR: 'it returns false'. Refute it at one input. -/
def printYieldsWrong : ChangeSpec := { name := "printYields", fn := fun _ => fun
  | [d1, d2] => { results := [.lit (.bool false)], args := [d1, d2] }
  | _ => none }
def PrintYieldsWrongFalsely : Prop := printYieldsRow.holds Tryd.pinned (OpenSpec.ofChange printYieldsWrong)

/- THE SECOND FORM. 'bulk': how many values and letters a reading holds, each counted each time it is reached (what is shared counts as often as it is met; a slice's spare places count too). A statement '..UptoSaid' is the law's where the arguments, and the package variables that the reading takes, are together of bulk at most 1048576: NARROWER than '..Said'. Prove '..Said' where nothing that the law and all that it calls make is longer than what came in: it says more and counts as full. Else prove '..UptoSaid'. A law counts once. -/
mutual
def uptoBulk {H : Type} : DataW H → Nat
  | .lit (.string bytes) => bytes.length + 1
  | .lit _ => 1
  | .nil => 1
  | .ptr d => uptoBulk d + 1
  | .slice elems spare => uptoBulkAll elems + uptoBulkAll spare + 1
  | .agg parts => uptoBulkAll parts + 1
  | .iface _ d => uptoBulk d + 1
  | .map entries => uptoBulkEntries entries + 1
  | .held _ => 1
def uptoBulkAll {H : Type} : List (DataW H) → Nat
  | [] => 0
  | d :: r => uptoBulk d + uptoBulkAll r
def uptoBulkEntries {H : Type} : List (Lit × DataW H) → Nat
  | [] => 0
  | x :: r => uptoBulkEntry x + uptoBulkEntries r
def uptoBulkEntry {H : Type} : Lit × DataW H → Nat
  | (.string bytes, d) => bytes.length + uptoBulk d + 1
  | (_, d) => uptoBulk d + 1
 end
def uptoSmall : (H : Type) → List (DataW H) → Bool := fun _ ds => decide (uptoBulkAll ds ≤ 1048576)
def OpenSpec.upto (s : _root_.Go.ChangeSpec) : _root_.Go.OpenSpec := { _root_.Go.OpenSpec.ofChange s with cond := some uptoSmall }

/-- 'solventlaw04.PrintCollides', WHERE WHAT IT READS IS OF BULK AT MOST 1048576: true; the input reads as it did. -/
def printCollidesUptoRow : OpenClaim := { program := "ytgeiholilcgooaadoor", sum := "278eb63eb2e67dfc93dc88c70814d65a3111d9790383f8235644086776b9f9ee", func := "solvent/solventlaw04.PrintCollides", spec := "printCollides", unfollowed := true, recurses := true, named := ["solvent/fingerprint.exponents"], apart := false, laid := [("solvent/fingerprint.exponents", laid_solvent_fingerprint_exponents)], narrowed := true }
def PrintCollidesUptoSaid : Prop := printCollidesUptoRow.holds Tryd.pinned (OpenSpec.upto printCollidesSpec)

/-- 'solventlaw04.PrintInvolution', WHERE WHAT IT READS IS OF BULK AT MOST 1048576: true; the input reads as it did. -/
def printInvolutionUptoRow : OpenClaim := { program := "ytgeiholilcgooaadoor", sum := "278eb63eb2e67dfc93dc88c70814d65a3111d9790383f8235644086776b9f9ee", func := "solvent/solventlaw04.PrintInvolution", spec := "printInvolution", unfollowed := true, recurses := true, named := ["solvent/fingerprint.exponents"], apart := false, laid := [("solvent/fingerprint.exponents", laid_solvent_fingerprint_exponents)], narrowed := true }
def PrintInvolutionUptoSaid : Prop := printInvolutionUptoRow.holds Tryd.pinned (OpenSpec.upto printInvolutionSpec)

/-- 'solventlaw04.PrintCommutes', WHERE WHAT IT READS IS OF BULK AT MOST 1048576: true; the input reads as it did. -/
def printCommutesUptoRow : OpenClaim := { program := "ytgeiholilcgooaadoor", sum := "278eb63eb2e67dfc93dc88c70814d65a3111d9790383f8235644086776b9f9ee", func := "solvent/solventlaw04.PrintCommutes", spec := "printCommutes", unfollowed := true, recurses := true, named := ["solvent/fingerprint.exponents"], apart := false, laid := [("solvent/fingerprint.exponents", laid_solvent_fingerprint_exponents)], narrowed := true }
def PrintCommutesUptoSaid : Prop := printCommutesUptoRow.holds Tryd.pinned (OpenSpec.upto printCommutesSpec)

/-- 'solventlaw04.PrintDetects', WHERE WHAT IT READS IS OF BULK AT MOST 1048576: true; the input reads as it did. -/
def printDetectsUptoRow : OpenClaim := { program := "ytgeiholilcgooaadoor", sum := "278eb63eb2e67dfc93dc88c70814d65a3111d9790383f8235644086776b9f9ee", func := "solvent/solventlaw04.PrintDetects", spec := "printDetects", unfollowed := true, recurses := true, named := ["solvent/fingerprint.exponents"], apart := false, laid := [("solvent/fingerprint.exponents", laid_solvent_fingerprint_exponents)], narrowed := true }
def PrintDetectsUptoSaid : Prop := printDetectsUptoRow.holds Tryd.pinned (OpenSpec.upto printDetectsSpec)

/-- 'solventlaw04.PrintYields', WHERE WHAT IT READS IS OF BULK AT MOST 1048576: true; the input reads as it did. -/
def printYieldsUptoRow : OpenClaim := { program := "ytgeiholilcgooaadoor", sum := "278eb63eb2e67dfc93dc88c70814d65a3111d9790383f8235644086776b9f9ee", func := "solvent/solventlaw04.PrintYields", spec := "printYields", unfollowed := true, recurses := true, named := ["solvent/fingerprint.exponents"], apart := false, laid := [("solvent/fingerprint.exponents", laid_solvent_fingerprint_exponents)], narrowed := true }
def PrintYieldsUptoSaid : Prop := printYieldsUptoRow.holds Tryd.pinned (OpenSpec.upto printYieldsSpec)

end Rows
end Go.Proofs.YtgeiholilcgooaaDoor
