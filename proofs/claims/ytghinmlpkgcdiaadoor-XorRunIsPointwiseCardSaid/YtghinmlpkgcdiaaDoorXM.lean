/- Schedules: running one is pointwise, the plain words. -/
import Derived.Test.YtghinmlpkgcdiaaDoorXL
set_option linter.unusedVariables false
namespace Go.Proofs.YtghinmlpkgcdiaaDoor
namespace Xp

theorem bit_one (N t y : Nat) : (N / 2 ^ t % 2).testBit y = (decide (y = 0) && N.testBit t) := by
  rw [Nat.testBit_eq_decide_div_mod_eq (x := N)]
  rcases Nat.mod_two_eq_zero_or_one (N / 2 ^ t) with h | h
  · rw [h]; simp
  · rw [h]
    cases y with
    | zero => simp
    | succ y => rw [Nat.testBit_succ]; simp
/-- where bit x of plane K stands in a unit -/
def byteAt (m K x : Nat) : Nat := x * (m / 8) + (m / 8 - 1 - K / 8)
theorem high_iff {m K i : Nat} (hm : m = 8 ∨ m = 16) (hK : K < m) : (high m i ≤ K ∧ K < high m i + 8) ↔ byteAt m K (i / (m / 8)) = i := by
  unfold high byteAt
  rcases hm with rfl | rfl <;> simp <;> omega
theorem high_sub {m K i : Nat} (hm : m = 8 ∨ m = 16) (h : high m i ≤ K ∧ K < high m i + 8) : K - high m i = K % 8 := by
  unfold high at *
  rcases hm with rfl | rfl <;> simp at * <;> omega
theorem byteAt_inj {m K x y : Nat} (hm : m = 8 ∨ m = 16) (h : byteAt m K x = byteAt m K y) : x = y := by
  unfold byteAt at h
  rcases hm with rfl | rfl <;> simp at h <;> omega
theorem byteAt_div {m K x i : Nat} (hm : m = 8 ∨ m = 16) (hK : K < m) (h : byteAt m K x = i) : x = i / (m / 8) := by
  unfold byteAt at h
  rcases hm with rfl | rfl <;> simp at h ⊢ <;> omega
theorem plTo_bit {m : Nat} (hm : m = 8 ∨ m = 16) (f : Nat → Nat) {K : Nat} (hK : K < m) (x : Nat) : ∀ i, (plTo m f K i).testBit x = (decide (byteAt m K x < i) && (f (byteAt m K x)).testBit (K % 8))
  | 0 => by simp [plTo]
  | i + 1 => by
    have ih := plTo_bit hm f hK x i
    unfold plTo
    by_cases h : high m i ≤ K ∧ K < high m i + 8
    · rw [if_pos h, Nat.testBit_or, ih, Nat.testBit_shiftLeft, bit_one, high_sub hm h]
      have hi := (high_iff hm hK).1 h
      by_cases e : byteAt m K x = i
      · have hx := byteAt_div hm hK e
        rw [e, hx]
        simp
      · have hx : x ≠ i / (m / 8) := fun hx => e (by rw [hx]; exact hi)
        by_cases e2 : byteAt m K x < i
        · have : byteAt m K x < i + 1 := by omega
          simp [e2, this]
          intro h1 h2; omega
        · have : ¬ byteAt m K x < i + 1 := by omega
          simp [e2, this]
          intro h1 h2; omega
    · rw [if_neg h, ih]
      have e : byteAt m K x ≠ i := fun e => h ((high_iff hm hK).2 (by rw [← byteAt_div hm hK e]; exact e))
      congr 1
      rw [decide_eq_decide]; omega
theorem ubTo_bit (m : Nat) (R : Nat → Nat) (i k : Nat) : ∀ t, (ubTo m R i t).testBit k = (decide (k < t) && (R (high m i + k)).testBit (i / (m / 8)))
  | 0 => by simp [ubTo]
  | t + 1 => by
    rw [ubTo, Nat.testBit_or, ubTo_bit m R i k t, Nat.testBit_shiftLeft, bit_one]
    by_cases e : k = t
    · subst e; simp
    · by_cases e2 : k < t
      · have : k < t + 1 := by omega
        simp [e2, this]; intro h1 h2; omega
      · have : ¬ k < t + 1 := by omega
        simp [e2, this]; intro h1 h2; omega
theorem ubTo_congr {m m' : Nat} {R R' : Nat → Nat} {i i' : Nat} (h : ∀ k, k < 8 → (R (high m i + k)).testBit (i / (m / 8)) = (R' (high m' i' + k)).testBit (i' / (m' / 8))) : ubTo m R i 8 = ubTo m' R' i' 8 := by
  apply Nat.eq_of_testBit_eq
  intro k
  rw [ubTo_bit, ubTo_bit]
  by_cases hk : k < 8
  · rw [h k hk]
  · simp [hk]
/-- the registers' bits -/
def regsB : List Bool → List (Nat × Nat) → List Bool
  | l, [] => l
  | l, o :: os => regsB (l ++ [(l[o.1]?.getD false) ^^ (l[o.2]?.getD false)]) os
theorem getD_bit (l : List Nat) (i x : Nat) : (l[i]?.getD 0).testBit x = (l.map fun n => n.testBit x)[i]?.getD false := by
  rw [List.getElem?_map]
  cases l[i]? <;> simp
theorem regs_bit (x : Nat) : ∀ (os : List (Nat × Nat)) (l : List Nat), (regs l os).map (fun n => n.testBit x) = regsB (l.map fun n => n.testBit x) os
  | [], l => rfl
  | o :: os, l => by
    show (regs (l ++ [_]) os).map _ = regsB (_ ++ [_]) os
    rw [regs_bit x os, List.map_append]
    simp only [List.map_cons, List.map_nil, Nat.testBit_xor, getD_bit]
theorem regsB_xor : ∀ (os : List (Nat × Nat)) (l l' : List Bool), l.length = l'.length → regsB (List.zipWith xor l l') os = List.zipWith xor (regsB l os) (regsB l' os)
  | [], l, l', _ => rfl
  | o :: os, l, l', h => by
    have e : ∀ i, (List.zipWith xor l l')[i]?.getD false = ((l[i]?.getD false) ^^ (l'[i]?.getD false)) := fun i => by
      rw [List.getElem?_zipWith]
      by_cases hi : i < l.length
      · rw [List.getElem?_eq_getElem hi, List.getElem?_eq_getElem (by omega)]; rfl
      · rw [List.getElem?_eq_none (by omega), List.getElem?_eq_none (by omega)]; rfl
    have ha : List.zipWith xor l l' ++ [((List.zipWith xor l l')[o.1]?.getD false) ^^ ((List.zipWith xor l l')[o.2]?.getD false)] = List.zipWith xor (l ++ [(l[o.1]?.getD false) ^^ (l[o.2]?.getD false)]) (l' ++ [(l'[o.1]?.getD false) ^^ (l'[o.2]?.getD false)]) := by
      rw [List.zipWith_append h, e, e]
      congr 1
      show [_] = [_]
      congr 1
      cases l[o.1]?.getD false <;> cases l[o.2]?.getD false <;> cases l'[o.1]?.getD false <;> cases l'[o.2]?.getD false <;> rfl
    show regsB (_ ++ [_]) os = List.zipWith xor (regsB (_ ++ [_]) os) (regsB (_ ++ [_]) os)
    rw [ha]
    exact regsB_xor os _ _ (by simp [h])
theorem outN_bit (R : List Nat) (r : Int) (x : Nat) : (outN R r).testBit x = (if r < 0 then false else (R.map fun n => n.testBit x)[r.toNat]?.getD false) := by
  unfold outN
  by_cases h : r < 0
  · rw [if_pos h, if_pos h]; simp
  · rw [if_neg h, if_neg h, getD_bit]
end Xp
end Go.Proofs.YtghinmlpkgcdiaaDoor
