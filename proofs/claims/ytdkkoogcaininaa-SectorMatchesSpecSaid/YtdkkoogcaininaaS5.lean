/- Sector: generations. -/
import Derived.Test.YtdkkoogcaininaaS4
namespace Go.Proofs.Ytdkkoogcaininaa
set_option linter.unusedSimpArgs false
set_option linter.unusedVariables false
open Go.RowKit

def genB (e c : Int) : Bool := fitG e && fitG c && !(decide (e = 0) && decide (c = 0))
theorem right_any (e c : Int) (w : World) :
    Calls Try.prog 25 #[.agg #[.int .i64 e, .int .i64 c]] w fun x w' => x = .returned (.bool (genB e c)) ∧ Below w.heap.size w w' := by
  cases h1 : fitG e <;> cases h2 : fitG c
  all_goals
    have H1 := Lib.hid h1
    have H2 := Lib.hid h2
    clear h1 h2
    go_enter Try.func25, Try.ntmps25
    go_wp2_with (first | (go_at_call 36; ((with_reducible refine (rfits_any _ _).mono ?_)); rintro x w' ⟨rfl, rfl⟩; first | rw [H1.out] | rw [H2.out]))
    all_goals go_ret
    all_goals exact ⟨ret_bool (by rw [genB, H1.out, H2.out]; first | rfl | (simp; done) | (by_cases he : e = 0 <;> by_cases hc : c = 0 <;> simp_all)), (Below.refl _ _).alloc (Nat.le_refl _) _⟩
end Go.Proofs.Ytdkkoogcaininaa
