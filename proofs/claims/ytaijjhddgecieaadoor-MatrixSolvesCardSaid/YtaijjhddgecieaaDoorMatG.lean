/- Matrices: products, sums and transposes. No program in sight. -/
import Derived.Test.YtaijjhddgecieaaDoorMatF
namespace Go.Proofs.YtaijjhddgecieaaDoor
set_option linter.unusedSimpArgs false
set_option linter.unusedVariables false
namespace Mat
open Fld

theorem sum_xor (f g : Nat → Nat) : ∀ n, sum (fun t => f t ^^^ g t) n = sum f n ^^^ sum g n
  | 0 => by simp [sum]
  | n + 1 => by rw [sum, sum, sum, sum_xor f g n, x4]
theorem sum_zero : ∀ n, sum (fun _ => 0) n = 0
  | 0 => rfl
  | n + 1 => by rw [sum, sum_zero n]; simp
theorem sum_swap (F : Nat → Nat → Nat) (k : Nat) : ∀ l, sum (fun t => sum (fun u => F t u) k) l = sum (fun u => sum (fun t => F t u) l) k
  | 0 => (sum_zero k).symm
  | l + 1 => by
    rw [sum, sum_swap F k l]
    exact (sum_xor (fun u => sum (fun t => F t u) l) (fun u => F l u) k).symm
theorem mul_sum_left (m b : Nat) (f : Nat → Nat) : ∀ n, mul m (sum f n) b = sum (fun t => mul m (f t) b) n
  | 0 => mul_zero_left _ _
  | n + 1 => by rw [sum, sum, mul_left, mul_sum_left m b f n]
theorem mul_sum_right (m a : Nat) (f : Nat → Nat) : ∀ n, mul m a (sum f n) = sum (fun t => mul m a (f t)) n
  | 0 => mul_zero_right _ _
  | n + 1 => by rw [sum, sum, mul_right, mul_sum_right m a f n]
theorem prod_assoc {m r k l n : Nat} (hm : IsM m) {A B C : Nat → Nat → Nat} (hA : Ok m r k A) (hB : Ok m k l B) (hC : Ok m l n C) : Eq r n (prod m l (prod m k A B) C) (prod m k A (prod m l B C)) := fun i j hi hj => by
  show sum (fun t => mul m (sum (fun u => mul m (A i u) (B u t)) k) (C t j)) l = sum (fun u => mul m (A i u) (sum (fun t => mul m (B u t) (C t j)) l)) k
  rw [sum_congr (g := fun t => sum (fun u => mul m (A i u) (mul m (B u t) (C t j))) k) l (fun t ht => by
    rw [mul_sum_left]
    exact sum_congr k fun u hu => mul_assoc hm (hA i u hi hu) (hB u t hu ht) (hC t j ht hj))]
  rw [sum_swap]
  exact sum_congr k fun u hu => (mul_sum_right _ _ _ _).symm
theorem tr_prod {m r k l : Nat} (hm : IsM m) {A B : Nat → Nat → Nat} (hA : Ok m r k A) (hB : Ok m k l B) : Eq l r (tr (prod m k A B)) (prod m k (tr B) (tr A)) := fun i j hi hj => by
  show sum (fun t => mul m (A j t) (B t i)) k = sum (fun t => mul m (B t i) (A j t)) k
  exact sum_congr k fun t ht => mul_comm hm (hA j t hj ht) (hB t i ht hi)
theorem sum_one {f : Nat → Nat} {i : Nat} : ∀ {n}, i < n → (∀ t, t < n → t ≠ i → f t = 0) → sum f n = f i
  | 0, h, _ => by omega
  | n + 1, h, h0 => by
    rw [sum]
    by_cases e : i = n
    · subst e
      rw [sum_congr (g := fun _ => 0) i (fun t ht => h0 t (by omega) (by omega)), sum_zero, Nat.zero_xor]
    · rw [sum_one (by omega) (fun t ht hne => h0 t (by omega) hne), h0 n (by omega) (fun h => e h.symm), Nat.xor_zero]
theorem one_prod {m r c : Nat} (hm : IsM m) {A : Nat → Nat → Nat} (hA : Ok m r c A) : Eq r c (prod m r one A) A := fun i j hi hj => by
  show sum (fun t => mul m (one i t) (A t j)) r = A i j
  rw [sum_one hi (fun t ht hne => by unfold one; rw [if_neg (fun h => hne h.symm), mul_zero_left])]
  unfold one
  rw [if_pos rfl, one_mul hm (hA i j hi hj)]
theorem prod_one {m r c : Nat} (hm : IsM m) {A : Nat → Nat → Nat} (_hA : Ok m r c A) : Eq r c (prod m c A one) A := fun i j hi hj => by
  show sum (fun t => mul m (A i t) (one t j)) c = A i j
  rw [sum_one hj (fun t ht hne => by unfold one; rw [if_neg hne, mul_zero_right])]
  unfold one
  rw [if_pos rfl, mul_one hm]
theorem prod_congr {m r k c : Nat} {A A' B B' : Nat → Nat → Nat} (hA : Eq r k A A') (hB : Eq k c B B') : Eq r c (prod m k A B) (prod m k A' B') := fun i j hi hj =>
  sum_congr k fun t ht => by rw [hA i t hi ht, hB t j ht hj]
theorem Eq.symm {r c : Nat} {A B : Nat → Nat → Nat} (h : Eq r c A B) : Eq r c B A := fun i j hi hj => (h i j hi hj).symm
theorem Eq.trans {r c : Nat} {A B C : Nat → Nat → Nat} (h : Eq r c A B) (k : Eq r c B C) : Eq r c A C := fun i j hi hj => (h i j hi hj).trans (k i j hi hj)
theorem Eq.refl (r c : Nat) (A : Nat → Nat → Nat) : Eq r c A A := fun _ _ _ _ => rfl
end Mat
end Go.Proofs.YtaijjhddgecieaaDoor
