/- Sector: reading a number off a string. -/
import Derived.Test.YtdkkoogcaininaaS3
namespace Go.Proofs.Ytdkkoogcaininaa
set_option linter.unusedSimpArgs false
set_option linter.unusedVariables false
open Go.RowKit

theorem len_data (s : ByteArray) : s.data.toList.length = s.size := by rw [Array.length_toList]; rfl
theorem drop_all (s : ByteArray) : s.data.toList.drop s.size = [] := List.drop_of_length_le (by rw [len_data]; exact Nat.le_refl _)
theorem numOf_drop (s : ByteArray) (j : Nat) (h : j < s.size) : numOf (s.data.toList.drop j) = s[j].toNat + 256 * numOf (s.data.toList.drop (j + 1)) := by
  have hl := len_data s
  rw [List.drop_eq_getElem_cons (by omega), numOf]
  rfl
set_option maxRecDepth 100000 in
theorem read_any (s : ByteArray) (w : World) (hs : s.size ≤ 4) :
    Calls Try.prog 29 #[.string s] w fun e w' => e = .returned (.int .i64 (numOf s.data.toList)) ∧ w = w' := by
  go_enter Try.func29, Try.ntmps29
  go_wp2_with fail
  go_loop [3, 4] (fun nv iv => ∃ k : Nat, k ≤ s.size ∧ iv = .int .i64 ((k : Int) - 1) ∧ nv = .int .i64 (numOf (s.data.toList.drop k))) (fun _ iv => (intOf iv + 1).toNat)
  case atStart => exact ⟨s.size, Nat.le_refl _, rfl, by rw [drop_all s]; rfl⟩
  case round =>
    obtain ⟨k, hk, rfl, rfl⟩ := hrel
    by_cases h0 : 0 < k
    · obtain ⟨j, rfl⟩ : ∃ j, k = j + 1 := ⟨k - 1, by omega⟩
      have hj : j < s.size := by omega
      have HN := Lib.hid (numOf_drop s j hj)
      have hb := numOf_lt (s.data.toList.drop (j + 1))
      rw [List.length_drop, len_data] at hb
      have hp : 256 ^ (s.size - (j + 1)) ≤ 256 ^ 3 := Nat.pow_le_pow_right (by decide) (by omega)
      obtain ⟨D, hD⟩ : ∃ D, D = numOf (s.data.toList.drop (j + 1)) := ⟨_, rfl⟩
      rw [← hD] at HN hb ⊢
      have hDb : D < 16777216 := Nat.lt_of_lt_of_le hb hp
      have e1 : ((j + 1 : Nat) : Int) - 1 = (j : Int) := by omega
      rw [e1]
      have hx : s[j].toNat < 256 := s[j].toNat_lt
      clear hb hp hD e1
      go_wp2_with fail
      go_round
      case rel => exact ⟨j, by omega, by go_num, by rw [HN.out]; congr 1; omega⟩
      case measure => simp [intOf]
    · obtain rfl : k = 0 := by omega
      go_wp2_with fail
      go_ret
      exact ⟨rfl, rfl⟩
end Go.Proofs.Ytdkkoogcaininaa
