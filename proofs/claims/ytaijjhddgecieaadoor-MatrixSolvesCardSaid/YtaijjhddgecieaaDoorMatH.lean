/- Matrices: what reduction leaves, and what the number of pivots says. No program in sight. -/
import Derived.Test.YtaijjhddgecieaaDoorMatG
namespace Go.Proofs.YtaijjhddgecieaaDoor
set_option linter.unusedSimpArgs false
set_option linter.unusedVariables false
namespace Mat
open Fld
set_option linter.unusedVariables false

theorem sum_two {f : Nat → Nat} {a b : Nat} (hne : a ≠ b) : ∀ {n}, a < n → b < n → (∀ t, t < n → t ≠ a → t ≠ b → f t = 0) → sum f n = f a ^^^ f b
  | 0, h, _, _ => by omega
  | n + 1, ha, hb, h0 => by
    rw [sum]
    by_cases e : a = n
    · subst e
      rw [sum_one (i := b) (by omega) (fun t ht hne => h0 t (by omega) (by omega) hne), Nat.xor_comm]
    · by_cases e2 : b = n
      · subst e2
        rw [sum_one (i := a) (by omega) (fun t ht hne => h0 t (by omega) hne (by omega))]
      · rw [sum_two hne (by omega) (by omega) (fun t ht h1 h2 => h0 t (by omega) h1 h2), h0 n (by omega) (fun h => e h.symm) (fun h => e2 h.symm), Nat.xor_zero]
theorem xor_self (a : Nat) : a ^^^ a = 0 := Nat.xor_self a
theorem xor_cancel (a b : Nat) : a ^^^ b ^^^ b = a := by rw [Nat.xor_assoc, Nat.xor_self, Nat.xor_zero]

/-- Z is A, multiplied from the left by a matrix that has an inverse -/
def RowEq (m R c : Nat) (A Z : Nat → Nat → Nat) : Prop := ∃ P Q : Nat → Nat → Nat, Ok m R R P ∧ Ok m R R Q ∧ Eq R R (prod m R P Q) one ∧ Eq R R (prod m R Q P) one ∧ Eq R c Z (prod m R P A) ∧ Eq R c A (prod m R Q Z)
theorem RowEq.refl {m R c : Nat} (hm : IsM m) {A : Nat → Nat → Nat} (hA : Ok m R c A) : RowEq m R c A A :=
  ⟨one, one, one_ok hm, one_ok hm, one_prod hm (one_ok hm), one_prod hm (one_ok hm), (one_prod hm hA).symm, (one_prod hm hA).symm⟩
theorem RowEq.trans {m R c : Nat} (hm : IsM m) {A Y Z : Nat → Nat → Nat} (hA : Ok m R c A) (hZ : Ok m R c Z) (h : RowEq m R c A Y) (k : RowEq m R c Y Z) : RowEq m R c A Z := by
  obtain ⟨P, Q, hP, hQ, h1, h2, h3, h4⟩ := h
  obtain ⟨S, T, hS, hT, k1, k2, k3, k4⟩ := k
  refine ⟨prod m R S P, prod m R Q T, prod_ok hm hS, prod_ok hm hQ, ?_, ?_, ?_, ?_⟩
  · -- (S P)(Q T) = S ((P Q) T) = S T
    refine (prod_assoc hm hS hP (prod_ok hm hQ)).trans ((prod_congr (Eq.refl _ _ _) ?_).trans k1)
    exact (prod_assoc hm hP hQ hT).symm.trans ((prod_congr h1 (Eq.refl _ _ _)).trans (one_prod hm hT))
  · refine (prod_assoc hm hQ hT (prod_ok hm hS)).trans ((prod_congr (Eq.refl _ _ _) ?_).trans h2)
    exact (prod_assoc hm hT hS hP).symm.trans ((prod_congr k2 (Eq.refl _ _ _)).trans (one_prod hm hP))
  · exact k3.trans ((prod_congr (Eq.refl _ _ _) h3).trans (prod_assoc hm hS hP hA).symm)
  · exact h4.trans ((prod_congr (Eq.refl _ _ _) k4).trans (prod_assoc hm hQ hT hZ).symm)
theorem swap_prod {m R c i k : Nat} (hm : IsM m) {A : Nat → Nat → Nat} (hA : Ok m R c A) (hi : i < R) (hk : k < R) : Eq R c (prod m R (swap one i k) A) (swap A i k) := fun p q hp hq => by
  show sum (fun t => mul m (swap one i k p t) (A t q)) R = swap A i k p q
  unfold swap
  by_cases e : p = i
  · rw [if_pos e, sum_one hk (fun t ht hne => by rw [if_pos e]; unfold one; rw [if_neg (fun h => hne h.symm), mul_zero_left]), if_pos e]
    unfold one; rw [if_pos rfl, one_mul hm (hA k q hk hq)]
  · rw [if_neg e]
    by_cases e2 : p = k
    · rw [if_pos e2, sum_one hi (fun t ht hne => by rw [if_neg e, if_pos e2]; unfold one; rw [if_neg (fun h => hne h.symm), mul_zero_left]), if_neg e, if_pos e2]
      unfold one; rw [if_pos rfl, one_mul hm (hA i q hi hq)]
    · rw [if_neg e2, sum_one hp (fun t ht hne => by rw [if_neg e, if_neg e2]; unfold one; rw [if_neg (fun h => hne h.symm), mul_zero_left]), if_neg e, if_neg e2]
      unfold one; rw [if_pos rfl, one_mul hm (hA p q hp hq)]
theorem swap_swap (A : Nat → Nat → Nat) (i k p q : Nat) : swap (swap A i k) i k p q = A p q := by
  unfold swap
  by_cases e : p = i
  · subst e
    rw [if_pos rfl]
    by_cases e2 : k = p
    · rw [if_pos e2, e2]
    · rw [if_neg e2, if_pos rfl]
  · rw [if_neg e]
    by_cases e2 : p = k
    · subst e2; rw [if_pos rfl, if_pos rfl]
    · rw [if_neg e2, if_neg e, if_neg e2]
theorem swap_rowEq {m R c i k : Nat} (hm : IsM m) {A : Nat → Nat → Nat} (hA : Ok m R c A) (hi : i < R) (hk : k < R) : RowEq m R c A (swap A i k) := by
  have ho : Ok m R R (swap one i k) := swap_ok (one_ok hm) hi hk
  have hone : Eq R R (prod m R (swap one i k) (swap one i k)) one := (swap_prod hm ho hi hk).trans (fun p q _ _ => swap_swap _ _ _ _ _)
  exact ⟨swap one i k, swap one i k, ho, ho, hone, hone, (swap_prod hm hA hi hk).symm, fun p q hp hq => ((swap_prod hm (swap_ok hA hi hk) hi hk) p q hp hq).trans (swap_swap A i k p q) |>.symm⟩
theorem scale_prod {m R c r f : Nat} (hm : IsM m) {A : Nat → Nat → Nat} (hA : Ok m R c A) (hr : r < R) (hf : f < 2 ^ m) : Eq R c (prod m R (scale m one r f) A) (scale m A r f) := fun p q hp hq => by
  show sum (fun t => mul m (scale m one r f p t) (A t q)) R = scale m A r f p q
  unfold scale
  by_cases e : p = r
  · rw [if_pos e, sum_one hr (fun t ht hne => by rw [if_pos e]; unfold one; rw [if_neg (fun h => hne h.symm), mul_zero_right, mul_zero_left]), if_pos e]
    unfold one; rw [if_pos rfl, mul_one hm]
  · rw [if_neg e, sum_one hp (fun t ht hne => by rw [if_neg e]; unfold one; rw [if_neg (fun h => hne h.symm), mul_zero_left]), if_neg e]
    unfold one; rw [if_pos rfl, one_mul hm (hA p q hp hq)]
theorem scale_scale {m R c r f g : Nat} (hm : IsM m) {A : Nat → Nat → Nat} (hA : Ok m R c A) (hf : f < 2 ^ m) (hg : g < 2 ^ m) (h : mul m f g = 1) : Eq R c (scale m (scale m A r g) r f) A := fun p q hp hq => by
  unfold scale
  by_cases e : p = r
  · rw [if_pos e, if_pos rfl, ← e, ← mul_assoc hm hf hg (hA p q hp hq), h, one_mul hm (hA p q hp hq)]
  · rw [if_neg e, if_neg e]
theorem scale_rowEq {m R c r f g : Nat} (hm : IsM m) {A : Nat → Nat → Nat} (hA : Ok m R c A) (hr : r < R) (hf : f < 2 ^ m) (hg : g < 2 ^ m) (h : mul m f g = 1) : RowEq m R c A (scale m A r f) := by
  have h' : mul m g f = 1 := by rw [mul_comm hm hg hf]; exact h
  have of_ : Ok m R R (scale m one r f) := scale_ok hm (one_ok hm) hf
  have og : Ok m R R (scale m one r g) := scale_ok hm (one_ok hm) hg
  exact ⟨scale m one r f, scale m one r g, of_, og, (scale_prod hm og hr hf).trans (scale_scale hm (one_ok hm) hf hg h), (scale_prod hm of_ hr hg).trans (scale_scale hm (one_ok hm) hg hf h'), (scale_prod hm hA hr hf).symm,
    ((scale_prod hm (scale_ok hm hA hf) hr hg).trans (scale_scale hm hA hg hf h')).symm⟩
/-- z p times row r added to each row p other than r -/
def addTimes (m : Nat) (z : Nat → Nat) (r : Nat) (A : Nat → Nat → Nat) (p q : Nat) : Nat := if p = r then A p q else A p q ^^^ mul m (z p) (A r q)
theorem addTimes_ok {m R c r : Nat} (hm : IsM m) {z : Nat → Nat} (hz : ∀ p, p < R → z p < 2 ^ m) {A : Nat → Nat → Nat} (hA : Ok m R c A) : Ok m R c (addTimes m z r A) := fun p q hp hq => by
  unfold addTimes
  split
  · exact hA p q hp hq
  · exact Nat.xor_lt_two_pow (hA p q hp hq) (mul_lt hm _ (hz p hp))
theorem addTimes_prod {m R c r : Nat} (hm : IsM m) {z : Nat → Nat} (hz : ∀ p, p < R → z p < 2 ^ m) {A : Nat → Nat → Nat} (hA : Ok m R c A) (hr : r < R) : Eq R c (prod m R (addTimes m z r one) A) (addTimes m z r A) := fun p q hp hq => by
  show sum (fun t => mul m (addTimes m z r one p t) (A t q)) R = addTimes m z r A p q
  unfold addTimes
  by_cases e : p = r
  · rw [if_pos e, sum_one hp (fun t ht hne => by rw [if_pos e]; unfold one; rw [if_neg (fun h => hne h.symm), mul_zero_left]), if_pos e]
    unfold one; rw [if_pos rfl, one_mul hm (hA p q hp hq)]
  · rw [if_neg e, sum_two (a := p) (b := r) e hp hr (fun t ht h1 h2 => by
      rw [if_neg e]; unfold one
      rw [if_neg (fun h => h1 h.symm), if_neg (fun h => h2 h.symm), mul_zero_right, Nat.xor_zero, mul_zero_left]), if_neg e]
    unfold one
    simp only [if_neg e, if_pos, if_neg (show ¬ r = p from fun h => e h.symm), mul_zero_right, Nat.xor_zero, one_mul hm (hA p q hp hq), Nat.zero_xor, mul_one hm]
theorem addTimes_twice (m r : Nat) (z : Nat → Nat) (A : Nat → Nat → Nat) (p q : Nat) : addTimes m z r (addTimes m z r A) p q = A p q := by
  unfold addTimes
  by_cases e : p = r
  · rw [if_pos e, if_pos e]
  · rw [if_neg e, if_neg e, if_pos rfl, xor_cancel]
theorem addTimes_rowEq {m R c r : Nat} (hm : IsM m) {z : Nat → Nat} (hz : ∀ p, p < R → z p < 2 ^ m) {A : Nat → Nat → Nat} (hA : Ok m R c A) (hr : r < R) : RowEq m R c A (addTimes m z r A) := by
  have ho : Ok m R R (addTimes m z r one) := addTimes_ok hm hz (one_ok hm)
  have hone : Eq R R (prod m R (addTimes m z r one) (addTimes m z r one)) one := (addTimes_prod hm hz ho hr).trans (fun p q _ _ => addTimes_twice _ _ _ _ _ _)
  exact ⟨_, _, ho, ho, hone, hone, (addTimes_prod hm hz hA hr).symm, ((addTimes_prod hm hz (addTimes_ok hm hz hA) hr).trans (fun p q _ _ => addTimes_twice _ _ _ _ _ _)).symm⟩
theorem clear_eq (m r j : Nat) (A : Nat → Nat → Nat) (p q : Nat) : clear m A r j p q = addTimes m (fun p => A p j) r A p q := rfl

/-- what stands after n columns: Z is A from the left times a matrix with an inverse, the columns pv are those of the identity, the rows below the last pivot are zero in these columns -/
structure Inv (m R c n : Nat) (A Z : Nat → Nat → Nat) (pv : List Nat) : Prop where
  ok : Ok m R c Z
  row : RowEq m R c A Z
  len : pv.length ≤ R
  lt : ∀ (i x : Nat), pv[i]? = some x → x < n
  inc : ∀ (i j x y : Nat), i < j → pv[i]? = some x → pv[j]? = some y → x < y
  piv : ∀ (i x p : Nat), pv[i]? = some x → p < R → Z p x = if p = i then 1 else 0
  low : ∀ p j, pv.length ≤ p → p < R → j < n → Z p j = 0
theorem red_inv {m R c : Nat} (hm : IsM m) {A : Nat → Nat → Nat} (hA : Ok m R c A) : ∀ n, n ≤ c → Inv m R c n A (red m R A n).1 (red m R A n).2
  | 0, _ => ⟨hA, RowEq.refl hm hA, Nat.zero_le _, fun i x h => by simp [red] at h, fun i j x y _ h => by simp [red] at h, fun i x p h => by simp [red] at h, fun p j _ _ h => absurd h (Nat.not_lt_zero _)⟩
  | n + 1, hn => by
    have I := red_inv hm hA n (by omega)
    unfold red
    generalize hs : red m R A n = s at I
    obtain ⟨Z, pv⟩ := s
    simp only at I
    cases hf : find Z R n pv.length (R - pv.length) with
    | none =>
      rw [col_none (s := (Z, pv)) hf]
      have h0 := find_none hf
      exact ⟨I.ok, I.row, I.len, fun i x h => Nat.lt_succ_of_lt (I.lt i x h), I.inc, I.piv, fun p j h1 h2 h3 => by
        by_cases e : j = n
        · rw [e]; exact h0 p h1 (by omega)
        · exact I.low p j h1 h2 (by omega)⟩
    | some i =>
      rw [col_some (s := (Z, pv)) hf]
      obtain ⟨f1, f2, f3, f4⟩ := find_some hf
      show Inv m R c (n + 1) A (pivot m Z pv.length i n) (pv ++ [n])
      have hi : i < R := by omega
      have hr : pv.length < R := by omega
      have hnc : n < c := by omega
      generalize hrr : pv.length = r at *
      have oS := swap_ok I.ok hi hr
      have eS : swap Z i r r n = Z i n := by
        unfold swap
        by_cases e : r = i
        · rw [if_pos e, e]
        · rw [if_neg e, if_pos rfl]
      have hx : swap Z i r r n < 2 ^ m := oS r n hr hnc
      have hx0 : swap Z i r r n ≠ 0 := by rw [eS]; exact f3
      have hinv := inv_lt hm hx
      have hmul : mul m (inv m (swap Z i r r n)) (swap Z i r r n) = 1 := by rw [mul_comm hm hinv hx]; exact mul_inv hm hx hx0
      have oT := scale_ok (r := R) (c := c) (k := r) hm oS hinv
      generalize hS : swap Z i r = S at *
      generalize hg : inv m (S r n) = g at *
      generalize hT : scale m S r g = T at *
      have hPv : pivot m Z r i n = clear m T r n := by unfold pivot; simp only; rw [hS, hg, hT]
      rw [hPv]
      have oC := clear_ok hm oT (k := r) hnc
      -- entries
      have hrow_r : ∀ q, T r q = mul m g (S r q) := fun q => by rw [← hT]; unfold scale; rw [if_pos rfl]
      have hrow_o : ∀ p q, p ≠ r → T p q = S p q := fun p q h => by rw [← hT]; unfold scale; rw [if_neg h]
      have hSz : ∀ p j, r ≤ p → p < R → j < n → S p j = 0 := fun p j h1 h2 h3 => by
        rw [← hS]; unfold swap
        split
        · exact I.low r j (by omega) hr h3
        · split
          · exact I.low i j (by omega) hi h3
          · exact I.low p j (by omega) h2 h3
      have hSp : ∀ (t x p : Nat), pv[t]? = some x → p < R → S p x = if p = t then 1 else 0 := fun t x p h hp => by
        have ht : t < r := by
          rw [← hrr]
          exact (List.getElem?_eq_some_iff.1 h).1
        rw [← hS]; unfold swap
        by_cases e : p = i
        · rw [if_pos e, I.piv t x r h hr, if_neg (by omega), if_neg (by omega)]
        · rw [if_neg e]
          by_cases e2 : p = r
          · rw [if_pos e2, I.piv t x i h hi, if_neg (by omega), if_neg (by omega)]
          · rw [if_neg e2, I.piv t x p h hp]
      have hTz : ∀ j, j < n → T r j = 0 := fun j h => by rw [hrow_r, hSz r j (Nat.le_refl _) hr h, mul_zero_right]
      have hTn : T r n = 1 := by rw [hrow_r]; exact hmul
      have hTx : ∀ (t x : Nat), pv[t]? = some x → T r x = 0 := fun t x h => hTz x (I.lt t x h)
      refine ⟨oC, ?_, by simp; omega, ?_, ?_, ?_, ?_⟩
      · refine RowEq.trans hm hA oC I.row (RowEq.trans hm I.ok oC (hS ▸ swap_rowEq hm I.ok hi hr) (RowEq.trans hm oS oC (hT ▸ scale_rowEq hm oS hr hinv hx hmul) ?_))
        exact addTimes_rowEq hm (fun p hp => oT p n hp hnc) oT hr
      · intro t x h
        rw [List.getElem?_append] at h
        split at h
        · exact Nat.lt_succ_of_lt (I.lt t x h)
        · rw [List.getElem?_singleton] at h
          split at h
          · injection h with h; omega
          · cases h
      · intro t u x y htu hx hy
        rw [List.getElem?_append] at hx hy
        rw [hrr] at hx hy
        by_cases e : u < r
        · rw [if_pos (by omega)] at hx
          rw [if_pos e] at hy
          exact I.inc t u x y htu hx hy
        · rw [if_neg e] at hy
          rw [List.getElem?_singleton] at hy
          split at hy
          · injection hy with hy
            by_cases e3 : t < r
            · rw [if_pos e3] at hx
              have := I.lt t x hx
              omega
            · omega
          · cases hy
      · intro t x p h hp
        rw [List.getElem?_append, hrr] at h
        by_cases e : t < r
        · rw [if_pos e] at h
          unfold clear
          by_cases e2 : p = r
          · rw [if_pos e2, e2, hTx t x h, if_neg (by omega)]
          · rw [if_neg e2, hTx t x h, mul_zero_right, Nat.xor_zero, hrow_o p x e2, hSp t x p h hp]
        · rw [if_neg e, List.getElem?_singleton] at h
          split at h
          · injection h with h
            subst h
            have ht : t = r := by omega
            unfold clear
            by_cases e2 : p = r
            · rw [if_pos e2, e2, hTn, if_pos ht.symm]
            · rw [if_neg e2, hTn, mul_one hm, xor_self, if_neg (by omega)]
          · cases h
      · intro p j h1 h2 h3
        rw [List.length_append] at h1
        simp only [List.length_singleton] at h1
        have hpr : p ≠ r := by omega
        unfold clear
        rw [if_neg hpr]
        by_cases e : j = n
        · rw [e, hTn, mul_one hm, xor_self]
        · rw [hTz j (by omega), mul_zero_right, Nat.xor_zero, hrow_o p j hpr]
          exact hSz p j (by omega) h2 (by omega)
end Mat
end Go.Proofs.YtaijjhddgecieaaDoor
