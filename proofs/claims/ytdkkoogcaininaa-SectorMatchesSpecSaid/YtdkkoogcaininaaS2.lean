/- Sector: numbers written byte by byte, and read. -/
import Derived.Test.YtdkkoogcaininaaS1
namespace Go.Proofs.Ytdkkoogcaininaa
set_option linter.unusedSimpArgs false
set_option linter.unusedVariables false
open Go.RowKit

theorem size32_any (w : World) : Calls Try.prog 34 #[] w fun e w' => e = .returned (.int .i64 4) ∧ w = w' := by
  go_enter Try.func34, Try.ntmps34
  go_wp2_with fail
  go_loop [1, 2] (fun n x => ∃ k : Nat, k ≤ 4 ∧ n = .int .i64 k ∧ x = .int .u64 (if k = 0 then 4294967295 else if k = 1 then 16777215 else if k = 2 then 65535 else if k = 3 then 255 else 0)) (fun n _ => 4 - (intOf n).toNat)
  case atStart => exact ⟨0, by omega, rfl, rfl⟩
  case round =>
    obtain ⟨k, hk, rfl, rfl⟩ := hrel
    rcases (show k = 0 ∨ k = 1 ∨ k = 2 ∨ k = 3 ∨ k = 4 by omega) with rfl | rfl | rfl | rfl | rfl
    · go_wp2_with fail
      go_round
      case rel => exact ⟨1, by omega, by go_num, rfl⟩
      case measure => simp [intOf]
    · go_wp2_with fail
      go_round
      case rel => exact ⟨2, by omega, by go_num, rfl⟩
      case measure => simp [intOf]
    · go_wp2_with fail
      go_round
      case rel => exact ⟨3, by omega, by go_num, rfl⟩
      case measure => simp [intOf]
    · go_wp2_with fail
      go_round
      case rel => exact ⟨4, by omega, by go_num, rfl⟩
      case measure => simp [intOf]
    · go_wp2_with fail
      go_ret
      exact ⟨rfl, rfl⟩
/-- the low bytes of a number, the lowest first -/
def bytesOf : Nat → Nat → List UInt8
  | 0, _ => []
  | k + 1, n => UInt8.ofNat (n % 256) :: bytesOf k (n / 256)
def numOf : List UInt8 → Nat
  | [] => 0
  | b :: r => b.toNat + 256 * numOf r
theorem bytesOf_len (k : Nat) : ∀ n, (bytesOf k n).length = k := by
  induction k with
  | zero => intro n; rfl
  | succ k ih => intro n; simp [bytesOf, ih]
theorem numOf_bytes (k : Nat) : ∀ n, n < 256 ^ k → numOf (bytesOf k n) = n := by
  induction k with
  | zero => intro n h; simp at h; subst h; rfl
  | succ k ih =>
    intro n h
    have h2 : n / 256 < 256 ^ k := by
      rw [Nat.pow_succ] at h
      exact Nat.div_lt_of_lt_mul (by rw [Nat.mul_comm]; exact h)
    simp only [bytesOf, numOf, ih _ h2, UInt8.toNat_ofNat']
    omega
theorem bytesOf_num (l : List UInt8) : bytesOf l.length (numOf l) = l := by
  induction l with
  | nil => rfl
  | cons b r ih =>
    have hb := b.toNat_lt
    have e1 : (b.toNat + 256 * numOf r) % 256 = b.toNat := by omega
    have e2 : (b.toNat + 256 * numOf r) / 256 = numOf r := by omega
    simp only [List.length_cons, numOf, bytesOf, e1, e2, ih]
    congr 1
    exact UInt8.ofNat_toNat
theorem numOf_lt (l : List UInt8) : numOf l < 256 ^ l.length := by
  induction l with
  | nil => simp [numOf]
  | cons b r ih =>
    have hb := b.toNat_lt
    simp only [numOf, List.length_cons, Nat.pow_succ]
    omega
end Go.Proofs.Ytdkkoogcaininaa
