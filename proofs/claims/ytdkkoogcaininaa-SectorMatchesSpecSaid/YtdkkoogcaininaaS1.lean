/- Sector: the small walks: places, generations, sizes, Newer of the reference. -/
import Derived.Test.YtdkkoogcaininaaOwn
namespace Go.Proofs.Ytdkkoogcaininaa
set_option linter.unusedSimpArgs false
set_option linter.unusedVariables false
open Go.RowKit

/-- a place: disk, area, index, each an int -/
def placeB (d a i : Int) : Bool := decide (0 ≤ d) && decide (d < 64) && decide (1 ≤ a) && decide (a ≤ 4) && decide (0 ≤ i) && decide (i ≤ 65535)
theorem placeB_iff {d a i : Int} : placeB d a i = true ↔ 0 ≤ d ∧ d < 64 ∧ 1 ≤ a ∧ a ≤ 4 ∧ 0 ≤ i ∧ i ≤ 65535 := by
  simp only [placeB, Bool.and_eq_true, decide_eq_true_eq, and_assoc]
theorem splace_any (d a i : Int) (w : World) :
    Calls Try.prog 16 #[.agg #[.int .i64 d, .int .i64 a, .int .i64 i]] w fun e w' => e = .returned (.bool (placeB d a i)) ∧ Below w.heap.size w w' := by
  go_enter Try.func16, Try.ntmps16
  go_wp2_with fail
  all_goals go_ret
  all_goals exact ⟨ret_bool (by first | (simp [placeB, *]; done) | (simp [placeB, *]; omega)), (Below.refl _ _).alloc (Nat.le_refl _) _⟩
theorem rplace_any (d a i : Int) (w : World) :
    Calls Try.prog 17 #[.agg #[.int .i64 d, .int .i64 a, .int .i64 i]] w fun e w' => e = .returned (.bool (placeB d a i)) ∧ Below w.heap.size w w' := by
  go_enter Try.func17, Try.ntmps17
  go_wp2_with fail
  all_goals go_ret
  all_goals exact ⟨ret_bool (by first | (simp [placeB, *]; done) | (simp [placeB, *]; omega)), (Below.refl _ _).alloc (Nat.le_refl _) _⟩
def fitG (n : Int) : Bool := decide (0 ≤ n) && decide (n < 4294967296)
theorem rfits_any (n : Int) (w : World) :
    Calls Try.prog 36 #[.int .i64 n] w fun e w' => e = .returned (.bool (fitG n)) ∧ w = w' := by
  by_cases h : 0 ≤ n
  · have hd : decide (0 ≤ n) = true := by simpa using h
    go_enter Try.func36, Try.ntmps36
    go_wp2_with fail
    go_ret
    exact ⟨ret_bool (by rw [fitG, hd]; rfl), rfl⟩
  · have hd : decide (0 ≤ n) = false := by simpa using h
    go_enter Try.func36, Try.ntmps36
    go_wp2_with fail
    go_ret
    exact ⟨ret_bool (by rw [fitG, hd]; rfl), rfl⟩
def newerB (e1 c1 e2 c2 : Int) : Bool := decide (e2 < e1) || (decide (e1 = e2) && decide (c2 < c1))
theorem size16_any (w : World) : Calls Try.prog 33 #[] w fun e w' => e = .returned (.int .i64 2) ∧ w = w' := by
  go_enter Try.func33, Try.ntmps33
  go_wp2_with fail
  go_loop [1, 2] (fun n x => ∃ k : Nat, k ≤ 2 ∧ n = .int .i64 k ∧ x = .int .u64 (if k = 0 then 65535 else if k = 1 then 255 else 0)) (fun n _ => 2 - (intOf n).toNat)
  case atStart => exact ⟨0, by omega, rfl, rfl⟩
  case round =>
    obtain ⟨k, hk, rfl, rfl⟩ := hrel
    rcases (show k = 0 ∨ k = 1 ∨ k = 2 by omega) with rfl | rfl | rfl
    · go_wp2_with fail
      go_round
      case rel => exact ⟨1, by omega, by go_num, rfl⟩
      case measure => simp [intOf]
    · go_wp2_with fail
      go_round
      case rel => exact ⟨2, by omega, by go_num, rfl⟩
      case measure => simp [intOf]
    · go_wp2_with fail
      go_ret
      exact ⟨rfl, rfl⟩
end Go.Proofs.Ytdkkoogcaininaa
