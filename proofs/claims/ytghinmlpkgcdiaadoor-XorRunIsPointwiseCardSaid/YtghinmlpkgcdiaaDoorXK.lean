/- Schedules: a unit out of its bit planes, the plain words. -/
import Derived.Test.YtghinmlpkgcdiaaDoorXJ
set_option linter.unusedVariables false
namespace Go.Proofs.YtghinmlpkgcdiaaDoor
namespace Xp

/-- the first k bits of byte i of the unit with the planes R -/
def ubTo (m : Nat) (R : Nat → Nat) (i : Nat) : Nat → Nat
  | 0 => 0
  | k + 1 => ubTo m R i k ||| (R (high m i + k) / 2 ^ (i / (m / 8)) % 2) <<< k
theorem ubTo_lt (m : Nat) (R : Nat → Nat) (i : Nat) : ∀ k, ubTo m R i k < 2 ^ k
  | 0 => by simp [ubTo]
  | k + 1 => by
    have h := ubTo_lt m R i k
    have h2 : (R (high m i + k) / 2 ^ (i / (m / 8)) % 2) <<< k < 2 ^ (k + 1) := by
      have : R (high m i + k) / 2 ^ (i / (m / 8)) % 2 < 2 := Nat.mod_lt _ (by decide)
      generalize R (high m i + k) / 2 ^ (i / (m / 8)) % 2 = x at this ⊢
      rw [Nat.shiftLeft_eq, Nat.pow_succ]
      rcases (show x = 0 ∨ x = 1 by omega) with rfl | rfl
      · have := Nat.two_pow_pos k; omega
      · have := Nat.two_pow_pos k; omega
    have h3 : ubTo m R i k < 2 ^ (k + 1) := by rw [Nat.pow_succ]; omega
    exact Nat.or_lt_two_pow h3 h2
/-- the bytes when i of them are made, and k bits of the next -/
def ubAt (m : Nat) (R : Nat → Nat) (i k p : Nat) : Nat := if p < i then ubTo m R p 8 else if p = i then ubTo m R i k else 0
theorem ubAt_put (m : Nat) (R : Nat → Nat) (i k p : Nat) : (if p = i then ubTo m R i (k + 1) else ubAt m R i k p) = ubAt m R i (k + 1) p := by
  unfold ubAt
  by_cases e : p = i
  · subst e; rw [if_pos rfl, if_neg (Nat.lt_irrefl _), if_pos rfl]
  · rw [if_neg e]
    by_cases e2 : p < i
    · rw [if_pos e2, if_pos e2]
    · rw [if_neg e2, if_neg e2, if_neg e, if_neg e]
theorem ubAt_next (m : Nat) (R : Nat → Nat) (i p : Nat) : ubAt m R i 8 p = ubAt m R (i + 1) 0 p := by
  unfold ubAt
  by_cases e : p < i
  · rw [if_pos e, if_pos (by omega)]
  · rw [if_neg e]
    by_cases e2 : p = i
    · rw [if_pos e2, if_pos (by omega), e2]
    · rw [if_neg e2, if_neg (by omega)]
      split
      · rfl
      · rfl
def unitL (m : Nat) (R : Nat → Nat) (n : Nat) : List UInt8 := (List.range n).map fun i => UInt8.ofNat (ubTo m R i 8)
theorem unitL_length (m : Nat) (R : Nat → Nat) (n : Nat) : (unitL m R n).length = n := by simp [unitL]
end Xp
end Go.Proofs.YtghinmlpkgcdiaaDoor
