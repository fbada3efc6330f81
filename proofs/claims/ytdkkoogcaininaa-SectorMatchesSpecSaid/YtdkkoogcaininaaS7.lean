/- Sector: the order of generations: the reference's Newer, and cmp.Compare. -/
import Derived.Test.YtdkkoogcaininaaS6
namespace Go.Proofs.Ytdkkoogcaininaa
set_option linter.unusedSimpArgs false
set_option linter.unusedVariables false
open Go.RowKit

theorem rnewer_any (e1 c1 e2 c2 : Int) (w : World) :
    Calls Try.prog 19 #[.agg #[.int .i64 e1, .int .i64 c1], .agg #[.int .i64 e2, .int .i64 c2]] w fun x w' => x = .returned (.bool (newerB e1 c1 e2 c2)) ∧ Below w.heap.size w w' := by
  go_enter Try.func19, Try.ntmps19
  go_wp2_with fail
  all_goals go_ret
  all_goals exact ⟨ret_bool (by simp only [newerB]; first | (simp_all; done) | (by_cases h1 : e2 < e1 <;> by_cases h2 : e1 = e2 <;> by_cases h3 : c2 < c1 <;> simp_all <;> omega)), ((Below.refl _ _).alloc (Nat.le_refl _) _).alloc (by simp) _⟩
def cmpB (x y : Int) : Int := if x < y then -1 else if y < x then 1 else 0
theorem nan_any (x : Int) (w : World) : Calls Try.prog 39 #[.int .i64 x] w fun e w' => e = .returned (.bool false) ∧ w = w' := by
  go_enter Try.func39, Try.ntmps39
  go_wp2_with fail
  all_goals go_ret
  all_goals exact ⟨ret_bool (by simp), rfl⟩
theorem cmp_any (x y : Int) (w : World) : Calls Try.prog 32 #[.int .i64 x, .int .i64 y] w fun e w' => e = .returned (.int .i64 (cmpB x y)) ∧ w = w' := by
  rcases Int.lt_trichotomy x y with h | h | h
  · go_enter Try.func32, Try.ntmps32
    go_wp2_with (first | (go_at_call 39; ((with_reducible refine (nan_any _ _).mono ?_)); rintro e w' ⟨rfl, rfl⟩))
    all_goals go_ret
    all_goals exact ⟨ret_int (by unfold cmpB; rw [if_pos h]), rfl⟩
  · subst h
    go_enter Try.func32, Try.ntmps32
    go_wp2_with (first | (go_at_call 39; ((with_reducible refine (nan_any _ _).mono ?_)); rintro e w' ⟨rfl, rfl⟩))
    all_goals go_ret
    all_goals exact ⟨ret_int (by unfold cmpB; simp), rfl⟩
  · have h2 : ¬ x < y := by omega
    go_enter Try.func32, Try.ntmps32
    go_wp2_with (first | (go_at_call 39; ((with_reducible refine (nan_any _ _).mono ?_)); rintro e w' ⟨rfl, rfl⟩))
    all_goals go_ret
    all_goals exact ⟨ret_int (by unfold cmpB; rw [if_neg (by omega), if_pos h]), rfl⟩
end Go.Proofs.Ytdkkoogcaininaa
