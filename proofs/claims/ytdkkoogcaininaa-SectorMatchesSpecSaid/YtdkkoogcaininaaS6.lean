/- Sector: validGen, and the reference's Newer. -/
import Derived.Test.YtdkkoogcaininaaS5
namespace Go.Proofs.Ytdkkoogcaininaa
set_option linter.unusedSimpArgs false
set_option linter.unusedVariables false
open Go.RowKit

theorem vgen_any (e c : Int) (w : World) :
    Calls Try.prog 21 #[.agg #[.int .i64 e, .int .i64 c]] w fun x w' => x = .returned (.bool (genB e c)) ∧ Below w.heap.size w w' := by
  go_enter Try.func21, Try.ntmps21
  go_wp2_with fail
  all_goals go_ret
  all_goals exact ⟨ret_bool (by simp only [genB, fitG]; first | (simp_all; done) | (by_cases he : e = 0 <;> by_cases hc : c = 0 <;> simp_all <;> omega) | (simp_all; omega)), (Below.refl _ _).alloc (Nat.le_refl _) _⟩
end Go.Proofs.Ytdkkoogcaininaa
