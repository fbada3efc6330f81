/- Matrices: the rank, by factors. No program in sight. -/
import Derived.Test.YtaijjhddgecieaaDoorMatH
namespace Go.Proofs.YtaijjhddgecieaaDoor
set_option linter.unusedSimpArgs false
set_option linter.unusedVariables false
namespace Mat
open Fld
set_option linter.unusedVariables false

/-- the number of pivots -/
def rk (m R C : Nat) (A : Nat → Nat → Nat) : Nat := (red m R A C).2.length
theorem not_all {r : Nat} {pv : List Nat} (hl : pv.length < r) (inc : ∀ (i j x y : Nat), i < j → pv[i]? = some x → pv[j]? = some y → x < y) : ∃ j, j < r ∧ ∀ i : Nat, pv[i]? ≠ some j := by
  have key : ∀ k, k ≤ pv.length → (∀ i, i < k → pv[i]? = some i) ∨ ∃ j, j < r ∧ ∀ i : Nat, pv[i]? ≠ some j := by
    intro k
    induction k with
    | zero => intro _; exact .inl (fun i h => by omega)
    | succ k ih =>
      intro hk
      rcases ih (by omega) with h | h
      · obtain ⟨x, hx⟩ : ∃ x, pv[k]? = some x := ⟨_, List.getElem?_eq_getElem (by omega)⟩
        have hxk : k ≤ x := by
          cases k with
          | zero => omega
          | succ k => have := inc k (k + 1) k x (by omega) (h k (by omega)) hx; omega
        by_cases e : x = k
        · left
          intro i hi
          by_cases e2 : i = k
          · rw [e2, hx, e]
          · exact h i (by omega)
        · right
          refine ⟨k, by omega, fun i hi => ?_⟩
          by_cases e1 : i < k
          · rw [h i e1] at hi; injection hi with hi; omega
          · by_cases e2 : i = k
            · rw [e2, hx] at hi; injection hi with hi; exact e hi
            · have := inc k i x k (by omega) hx hi; omega
      · exact .inr h
  rcases key pv.length (Nat.le_refl _) with h | h
  · refine ⟨pv.length, hl, fun i hi => ?_⟩
    have h1 : i < pv.length := (List.getElem?_eq_some_iff.1 hi).1
    rw [h i h1] at hi
    injection hi with hi
    omega
  · exact h
theorem sum_all_zero {f : Nat → Nat} {n : Nat} (h : ∀ t, t < n → f t = 0) : sum f n = 0 := by
  rw [sum_congr (g := fun _ => 0) n h, sum_zero]
theorem sum_trunc {f : Nat → Nat} {l : Nat} : ∀ {n}, l ≤ n → (∀ t, l ≤ t → t < n → f t = 0) → sum f n = sum f l
  | 0, h, _ => by obtain rfl : l = 0 := by omega
                  rfl
  | n + 1, h, h0 => by
    by_cases e : l = n + 1
    · rw [e]
    · rw [sum, sum_trunc (l := l) (by omega) (fun t h1 h2 => h0 t h1 (by omega)), h0 n (by omega) (by omega), Nat.xor_zero]
open Classical in
/-- fewer equations than unknowns: something that is not zero solves them -/
theorem ker {m s r : Nat} (hm : IsM m) {V : Nat → Nat → Nat} (hV : Ok m s r V) (hl : rk m s r V < r) :
    ∃ X : Nat → Nat → Nat, Ok m r 1 X ∧ (∃ j, j < r ∧ X j 0 ≠ 0) ∧ Eq s 1 (prod m r V X) (fun _ _ => 0) := by
  have I := red_inv hm hV r (Nat.le_refl r)
  unfold rk at hl
  generalize (red m s V r).1 = Z at I
  generalize (red m s V r).2 = pv at I hl
  obtain ⟨j, hj, hno⟩ := not_all hl I.inc
  let x : Nat → Nat := fun t => if h : ∃ i : Nat, pv[i]? = some t then Z (Classical.choose h) j else if t = j then 1 else 0
  have hxj : x j = 1 := by
    show (if h : ∃ i : Nat, pv[i]? = some j then Z (Classical.choose h) j else if j = j then 1 else 0) = 1
    rw [dif_neg (fun ⟨i, h⟩ => hno i h), if_pos rfl]
  have hxo : ∀ t, t ≠ j → (∀ i : Nat, pv[i]? ≠ some t) → x t = 0 := fun t h1 h2 => by
    show (if h : ∃ i : Nat, pv[i]? = some t then Z (Classical.choose h) j else if t = j then 1 else 0) = 0
    rw [dif_neg (fun ⟨i, h⟩ => h2 i h), if_neg h1]
  have hlen : ∀ (i t : Nat), pv[i]? = some t → i < pv.length := fun i t h => (List.getElem?_eq_some_iff.1 h).1
  have hinj : ∀ (i i' t : Nat), pv[i]? = some t → pv[i']? = some t → i = i' := fun i i' t h1 h2 => by
    rcases Nat.lt_trichotomy i i' with h | h | h
    · have := I.inc i i' t t h h1 h2; omega
    · exact h
    · have := I.inc i' i t t h h2 h1; omega
  have hxp : ∀ (i t : Nat), pv[i]? = some t → x t = Z i j := fun i t h => by
    have hex : ∃ i : Nat, pv[i]? = some t := ⟨i, h⟩
    show (if h : ∃ i : Nat, pv[i]? = some t then Z (Classical.choose h) j else if t = j then 1 else 0) = Z i j
    rw [dif_pos hex, hinj _ _ _ (Classical.choose_spec hex) h]
  have oX : Ok m r 1 (fun t _ => x t) := fun t _ ht _ => by
    show x t < 2 ^ m
    by_cases h : ∃ i : Nat, pv[i]? = some t
    · obtain ⟨i, h⟩ := h
      rw [hxp i t h]
      exact I.ok i j (by have := hlen i t h; have := I.len; omega) hj
    · by_cases e : t = j
      · rw [e, hxj]; exact one_lt hm
      · rw [hxo t e (fun i hi => h ⟨i, hi⟩)]; exact Nat.two_pow_pos m
  refine ⟨fun t _ => x t, oX, ⟨j, hj, by show x j ≠ 0; rw [hxj]; decide⟩, ?_⟩
  -- Z x = 0
  have hZ : Eq s 1 (prod m r Z (fun t _ => x t)) (fun _ _ => 0) := fun p q hp _ => by
    show sum (fun t => mul m (Z p t) (x t)) r = 0
    by_cases hpl : p < pv.length
    · obtain ⟨y, hy⟩ : ∃ y, pv[p]? = some y := ⟨_, List.getElem?_eq_getElem hpl⟩
      have hyr := I.lt p y hy
      have hyj : j ≠ y := fun e => hno p (by rw [hy, e])
      rw [sum_two (a := j) (b := y) hyj hj hyr (fun t ht h1 h2 => by
        by_cases h : ∃ i : Nat, pv[i]? = some t
        · obtain ⟨i, h⟩ := h
          rw [I.piv i t p h hp, if_neg (fun e => by
            rw [e] at hy
            rw [hy] at h
            injection h with h
            exact h2 h.symm), mul_zero_left]
        · rw [hxo t h1 (fun i hi => h ⟨i, hi⟩), mul_zero_right])]
      rw [hxj, mul_one hm, hxp p y hy, I.piv p y p hy hp, if_pos rfl, one_mul hm (I.ok p j hp hj), xor_self]
    · exact sum_all_zero fun t ht => by rw [I.low p t (by omega) hp ht, mul_zero_left]
  obtain ⟨P, Q, hP, hQ, h1, h2, h3, h4⟩ := I.row
  have hz : Eq s 1 (prod m s Q (fun _ _ => 0)) (fun _ _ => 0) := fun p q _ _ => sum_all_zero fun t _ => mul_zero_right _ _
  exact (prod_congr h4 (Eq.refl _ _ _)).trans ((prod_assoc hm hQ I.ok oX).trans ((prod_congr (Eq.refl _ _ _) hZ).trans hz))
theorem rk_le_rows {m R C : Nat} (hm : IsM m) {A : Nat → Nat → Nat} (hA : Ok m R C A) : rk m R C A ≤ R := (red_facts hm hA C (Nat.le_refl _)).2.1
/-- a product with s inside has at most s pivots -/
theorem rk_le {m R C s : Nat} (hm : IsM m) {A X Y : Nat → Nat → Nat} (hA : Ok m R C A) (hX : Ok m R s X) (hY : Ok m s C Y) (h : Eq R C A (prod m s X Y)) : rk m R C A ≤ s := by
  by_cases hle : rk m R C A ≤ s
  · exact hle
  exfalso
  have I := red_inv hm hA C (Nat.le_refl C)
  unfold rk at hle
  generalize (red m R A C).1 = Z at I
  generalize (red m R A C).2 = pv at I hle
  generalize hL : pv.length = L at *
  have hp : ∀ t, t < L → ∃ y, pv[t]? = some y ∧ y < C := fun t ht => ⟨_, List.getElem?_eq_getElem (by omega), I.lt t _ (List.getElem?_eq_getElem (by omega))⟩
  let V : Nat → Nat → Nat := fun i t => Y i (pv[t]?.getD 0)
  have hV : Ok m s L V := fun i t hi ht => by
    obtain ⟨y, hy, hyc⟩ := hp t ht
    show Y i (pv[t]?.getD 0) < 2 ^ m
    rw [hy]
    exact hY i y hi hyc
  obtain ⟨x, ox, ⟨j, hj, hxj⟩, hx⟩ := ker hm hV (by have := rk_le_rows hm hV; omega)
  obtain ⟨P, Q, hP, hQ, h1, h2, h3, h4⟩ := I.row
  have hLR : L ≤ R := hL ▸ I.len
  have oU : Ok m R s (prod m R P X) := prod_ok hm hP
  have oU' : Ok m L s (prod m R P X) := fun i t hi ht => oU i t (by omega) ht
  -- the pivots' columns of Z are (P X) V
  have hW : Eq L L (prod m s (prod m R P X) V) one := fun p t hp' ht => by
    obtain ⟨y, hy, hyc⟩ := hp t ht
    have e1 : prod m s (prod m R P X) V p t = prod m s (prod m R P X) Y p y := by
      show sum (fun u => mul m (prod m R P X p u) (Y u (pv[t]?.getD 0))) s = sum (fun u => mul m (prod m R P X p u) (Y u y)) s
      rw [hy]; rfl
    rw [e1, prod_assoc hm hP hX hY p y (by omega) hyc, ← (prod_congr (Eq.refl R R P) h) p y (by omega) hyc, ← h3 p y (by omega) hyc, I.piv t y p hy (by omega)]
    unfold one
    rfl
  have hfin := (one_prod hm ox).symm.trans ((prod_congr hW.symm (Eq.refl _ _ _)).trans ((prod_assoc hm oU' hV ox).trans (prod_congr (Eq.refl _ _ _) hx)))
  apply hxj
  rw [hfin j 0 hj (by omega)]
  exact sum_all_zero fun t _ => mul_zero_right _ _
/-- and every matrix is such a product -/
theorem rk_fac {m R C : Nat} (hm : IsM m) {A : Nat → Nat → Nat} (hA : Ok m R C A) : ∃ X Y, Ok m R (rk m R C A) X ∧ Ok m (rk m R C A) C Y ∧ Eq R C A (prod m (rk m R C A) X Y) := by
  have I := red_inv hm hA C (Nat.le_refl C)
  unfold rk
  generalize (red m R A C).1 = Z at I
  generalize (red m R A C).2 = pv at I
  obtain ⟨P, Q, hP, hQ, h1, h2, h3, h4⟩ := I.row
  refine ⟨Q, Z, fun i t hi ht => hQ i t hi (by have := I.len; omega), fun i t hi ht => I.ok i t (by have := I.len; omega) ht, h4.trans fun p q hp hq => ?_⟩
  exact sum_trunc I.len fun t h5 h6 => by rw [I.low t q h5 h6 hq, mul_zero_right]
theorem rk_congr {m R C : Nat} {A B : Nat → Nat → Nat} (h : Eq R C A B) : rk m R C A = rk m R C B := by
  unfold rk
  rw [(red_congr (m := m) h C (Nat.le_refl _)).2.1]
theorem rk_tr_le {m R C : Nat} (hm : IsM m) {A : Nat → Nat → Nat} (hA : Ok m R C A) : rk m C R (tr A) ≤ rk m R C A := by
  obtain ⟨X, Y, hX, hY, h⟩ := rk_fac hm hA
  refine rk_le hm (tr_ok hA) (tr_ok hY) (tr_ok hX) ?_
  have e : Eq C R (tr A) (tr (prod m (rk m R C A) X Y)) := fun p q hp hq => h q p hq hp
  exact e.trans (tr_prod hm hX hY)
theorem rk_tr {m R C : Nat} (hm : IsM m) {A : Nat → Nat → Nat} (hA : Ok m R C A) : rk m C R (tr A) = rk m R C A :=
  Nat.le_antisymm (rk_tr_le hm hA) (rk_tr_le hm (tr_ok hA))
theorem rk_prod_left {m R k C : Nat} (hm : IsM m) {A B : Nat → Nat → Nat} (hA : Ok m R k A) (hB : Ok m k C B) : rk m R C (prod m k A B) ≤ rk m R k A := by
  obtain ⟨X, Y, hX, hY, h⟩ := rk_fac hm hA
  exact rk_le hm (prod_ok hm hA) hX (prod_ok hm hY) ((prod_congr h (Eq.refl _ _ _)).trans (prod_assoc hm hX hY hB))
theorem rk_prod_right {m R k C : Nat} (hm : IsM m) {A B : Nat → Nat → Nat} (hA : Ok m R k A) (hB : Ok m k C B) : rk m R C (prod m k A B) ≤ rk m k C B := by
  obtain ⟨X, Y, hX, hY, h⟩ := rk_fac hm hB
  exact rk_le hm (prod_ok hm hA) (prod_ok hm hA) hY ((prod_congr (Eq.refl _ _ _) h).trans (prod_assoc hm hA hX hY).symm)
/-- the rows that are the pivots of the transposed matrix have its rank -/
theorem rk_rows {m R C : Nat} (hm : IsM m) {A : Nat → Nat → Nat} (hA : Ok m R C A) (p : Nat → Nat → Nat) (hp : ∀ t y q, (red m C (tr A) R).2[t]? = some y → p t q = A y q) :
    rk m (rk m R C A) C p = rk m R C A := by
  have hr := rk_tr hm hA
  have I := red_inv hm (tr_ok hA) R (Nat.le_refl R)
  unfold rk at hr
  generalize (red m C (tr A) R).1 = Z at I
  generalize (red m C (tr A) R).2 = pv at I hp hr
  have hL : rk m R C A = pv.length := hr.symm
  rw [hL]
  generalize hLL : pv.length = L at *
  have hpl : ∀ t, t < L → ∃ y, pv[t]? = some y ∧ y < R := fun t ht => ⟨_, List.getElem?_eq_getElem (by omega), I.lt t _ (List.getElem?_eq_getElem (by omega))⟩
  have op : Ok m L C p := fun t q ht hq => by
    obtain ⟨y, hy, hyr⟩ := hpl t ht
    rw [hp t y q hy]
    exact hA y q hyr hq
  apply Nat.le_antisymm (rk_le_rows hm op)
  obtain ⟨P, Q, hP, hQ, h1, h2, h3, h4⟩ := I.row
  have hLC : L ≤ C := hLL ▸ I.len
  -- tr A = (tr p) Z, the first L rows of Z
  have hQp : ∀ i t, i < C → t < L → Q i t = p t i := fun i t hi ht => by
    obtain ⟨y, hy, hyr⟩ := hpl t ht
    rw [hp t y i hy]
    have e := h4 i y hi hyr
    show Q i t = tr A i y
    rw [e]
    show Q i t = sum (fun u => mul m (Q i u) (Z u y)) C
    rw [sum_one (i := t) (by omega) (fun u hu hne => by rw [I.piv t y u hy hu, if_neg hne, mul_zero_right]), I.piv t y t hy (by omega), if_pos rfl, mul_one hm]
  have oZ : Ok m L R Z := fun i j hi hj => I.ok i j (by omega) hj
  have hA2 : Eq R C A (prod m L (tr Z) p) := fun i j hi hj => by
    have e := h4 j i hj hi
    show tr A j i = _
    rw [e]
    show sum (fun u => mul m (Q j u) (Z u i)) C = sum (fun u => mul m (Z u i) (p u j)) L
    rw [sum_trunc (l := L) hLC (fun u hu1 hu2 => by rw [I.low u i (by omega) hu2 hi, mul_zero_right])]
    exact sum_congr L fun u hu => by rw [hQp j u hj hu, mul_comm hm (op u j hu hj) (oZ u i hu hi)]
  have := rk_congr (m := m) hA2
  have h5 := rk_prod_right hm (tr_ok oZ) op
  omega
end Mat
end Go.Proofs.YtaijjhddgecieaaDoor
