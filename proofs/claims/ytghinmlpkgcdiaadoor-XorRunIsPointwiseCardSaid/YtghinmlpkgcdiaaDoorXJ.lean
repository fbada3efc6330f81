/- Schedules: the bit planes of a unit, the plain words. -/
import Derived.Test.YtghinmlpkgcdiaaDoorXI
set_option linter.unusedVariables false
namespace Go.Proofs.YtghinmlpkgcdiaaDoor
namespace Xp

/-- where the bits of byte i stand in its symbol -/
def high (m i : Nat) : Nat := 8 * (m / 8 - 1 - i % (m / 8))
/-- plane K of the first i bytes -/
def plTo (m : Nat) (f : Nat → Nat) (K : Nat) : Nat → Nat
  | 0 => 0
  | i + 1 => if high m i ≤ K ∧ K < high m i + 8 then plTo m f K i ||| (f i / 2 ^ (K - high m i) % 2) <<< (i / (m / 8)) else plTo m f K i
/-- plane K of the first i bytes, and of k bits of the next -/
def plPart (m : Nat) (f : Nat → Nat) (i k K : Nat) : Nat := if high m i ≤ K ∧ K < high m i + k then plTo m f K i ||| (f i / 2 ^ (K - high m i) % 2) <<< (i / (m / 8)) else plTo m f K i
theorem plPart_zero (m : Nat) (f : Nat → Nat) (i K : Nat) : plPart m f i 0 K = plTo m f K i := by
  unfold plPart; rw [if_neg (by omega)]
theorem plPart_end (m : Nat) (f : Nat → Nat) (i K : Nat) : plPart m f i 8 K = plTo m f K (i + 1) := rfl
theorem plPart_far {m : Nat} {f : Nat → Nat} {i k K : Nat} (h : K ≠ high m i + k) : plPart m f i (k + 1) K = plPart m f i k K := by
  unfold plPart
  by_cases e : high m i ≤ K ∧ K < high m i + k
  · rw [if_pos e, if_pos (by omega)]
  · rw [if_neg e, if_neg (by omega)]
theorem plPart_at {m : Nat} {f : Nat → Nat} {i k : Nat} : plPart m f i k (high m i + k) = plTo m f (high m i + k) i := by
  unfold plPart; rw [if_neg (by omega)]
theorem plPart_put {m : Nat} {f : Nat → Nat} {i k : Nat} : plPart m f i (k + 1) (high m i + k) = plTo m f (high m i + k) i ||| (f i / 2 ^ k % 2) <<< (i / (m / 8)) := by
  unfold plPart; rw [if_pos (by omega), Nat.add_sub_cancel_left]
def plList (m : Nat) (f : Nat → Nat) (i k : Nat) : List Nat := (List.range m).map (plPart m f i k)
theorem plList_get {m : Nat} {f : Nat → Nat} {i k K : Nat} (h : K < m) : (plList m f i k)[K]? = some (plPart m f i k K) := by
  unfold plList; rw [List.getElem?_map, List.getElem?_range h]; rfl
theorem plList_set {m : Nat} {f : Nat → Nat} {i k v : Nat} (h : high m i + k < m) (hv : plPart m f i (k + 1) (high m i + k) = v) : (plList m f i k).set (high m i + k) v = plList m f i (k + 1) := by
  apply List.ext_getElem?
  intro K
  rw [List.getElem?_set]
  by_cases hK : K < m
  · rw [plList_get hK, plList_get hK]
    have hlen : (plList m f i k).length = m := by simp [plList]
    rw [hlen]
    by_cases e : high m i + k = K
    · subst e; rw [if_pos rfl, if_pos h, hv]
    · rw [if_neg e, plPart_far (fun e2 => e e2.symm)]
  · have h1 : (plList m f i k)[K]? = none := List.getElem?_eq_none (by simp [plList]; omega)
    have h2 : (plList m f i (k + 1))[K]? = none := List.getElem?_eq_none (by simp [plList]; omega)
    rw [h1, h2, if_neg (by omega)]
theorem plList_next (m : Nat) (f : Nat → Nat) (i : Nat) : plList m f i 8 = plList m f (i + 1) 0 := by
  unfold plList
  apply List.map_congr_left
  intro K _
  rw [plPart_end, plPart_zero]
theorem plList_zero (m : Nat) (f : Nat → Nat) : plList m f 0 0 = List.replicate m 0 := by
  unfold plList
  rw [List.eq_replicate_iff]
  refine ⟨by simp, fun b hb => ?_⟩
  obtain ⟨K, _, rfl⟩ := List.mem_map.1 hb
  rw [plPart_zero]; rfl
theorem high_lt {m i k : Nat} (hm : m = 8 ∨ m = 16) (hk : k < 8) : high m i + k < m := by
  unfold high
  rcases hm with rfl | rfl
  · omega
  · have := Nat.mod_lt i (show (16 / 8) > 0 by decide); omega
end Xp
end Go.Proofs.YtghinmlpkgcdiaaDoor
