/- Matrices: solving and inverting. No program in sight. -/
import Derived.Test.YtaijjhddgecieaaDoorMatI
import Derived.Test.YtaijjhddgecieaaDoorM17
namespace Go.Proofs.YtaijjhddgecieaaDoor
set_option linter.unusedSimpArgs false
set_option linter.unusedVariables false
namespace Mat
open Fld
set_option linter.unusedVariables false

theorem solTo_at {k n : Nat} {Z : Nat → Nat → Nat} {pv : List Nat} (inj : ∀ (i i' t : Nat), pv[i]? = some t → pv[i']? = some t → i = i') {i p : Nat} (h : pv[i]? = some p) (q : Nat) : ∀ n, i < n → solTo k Z pv n p q = Z i (k + q)
  | 0, h => by omega
  | n + 1, hn => by
    show (if pv[n]? = some p then Z n (k + q) else solTo k Z pv n p q) = _
    by_cases e : pv[n]? = some p
    · rw [if_pos e, inj _ _ _ e h]
    · rw [if_neg e]
      exact solTo_at (n := n) inj h q n (by
        have : i ≠ n := fun e2 => e (e2 ▸ h)
        omega)
theorem solTo_none {k : Nat} {Z : Nat → Nat → Nat} {pv : List Nat} {p : Nat} (h : ∀ i : Nat, pv[i]? ≠ some p) (q : Nat) : ∀ n, solTo k Z pv n p q = 0
  | 0 => rfl
  | n + 1 => by
    show (if pv[n]? = some p then Z n (k + q) else solTo k Z pv n p q) = _
    rw [if_neg (h n)]
    exact solTo_none h q n
theorem inv_inj {m R c n : Nat} {A Z : Nat → Nat → Nat} {pv : List Nat} (I : Inv m R c n A Z pv) : ∀ (i i' t : Nat), pv[i]? = some t → pv[i']? = some t → i = i' := fun i i' t h1 h2 => by
  rcases Nat.lt_trichotomy i i' with h | h | h
  · have := I.inc i i' t t h h1 h2; omega
  · exact h
  · have := I.inc i' i t t h h2 h1; omega
theorem noSol_zero {r k c n : Nat} {Z : Nat → Nat → Nat} (h : noSol r k c Z n = false) {i j : Nat} (hi : i < r) (hn : n ≤ i) (hj : j < c) : Z i (k + j) = 0 := by
  by_cases e : Z i (k + j) = 0
  · exact e
  · rw [noSol_true hi hn hj e] at h; cases h
theorem solTo_ok {m r k c : Nat} {A Z : Nat → Nat → Nat} {pv : List Nat} (I : Inv m r (k + c) k A Z pv) : Ok m k c (solTo k Z pv r) := fun p q hp hq => by
  by_cases h : ∃ i : Nat, pv[i]? = some p
  · obtain ⟨i, h⟩ := h
    have hi : i < pv.length := (List.getElem?_eq_some_iff.1 h).1
    have := I.len
    rw [solTo_at (n := r) (inv_inj I) h q r (by omega)]
    exact I.ok i (k + q) (by omega) (by omega)
  · rw [solTo_none (fun i hi => h ⟨i, hi⟩)]
    exact Nat.two_pow_pos m
/-- a solution, multiplied by the first matrix, is the second one -/
theorem solves {m r k c : Nat} (hm : IsM m) {A B : Nat → Nat → Nat} (hA : Ok m r k A) (hB : Ok m r c B) (h : noSol r k c (red m r (beside k A B) k).1 (red m r (beside k A B) k).2.length = false) :
    Eq r c (prod m k A (solTo k (red m r (beside k A B) k).1 (red m r (beside k A B) k).2 r)) B ∧ Ok m k c (solTo k (red m r (beside k A B) k).1 (red m r (beside k A B) k).2 r) := by
  have oAB := beside_ok hA hB
  have I := red_inv hm oAB k (by omega)
  generalize (red m r (beside k A B) k).1 = Z at I h
  generalize (red m r (beside k A B) k).2 = pv at I h
  have oX := solTo_ok I
  refine ⟨?_, oX⟩
  obtain ⟨P, Q, hP, hQ, h1, h2, h3, h4⟩ := I.row
  have oZk : Ok m r k Z := fun i j hi hj => I.ok i j hi (by omega)
  have eA : Eq r k A (prod m r Q Z) := fun i j hi hj => by
    have e := h4 i j hi (by omega)
    rw [← e]; unfold beside; rw [if_pos hj]
  have eB : Eq r c B (prod m r Q (fun i q => Z i (k + q))) := fun i q hi hq => by
    have e := h4 i (k + q) hi (by omega)
    show B i q = prod m r Q Z i (k + q)
    rw [← e]; unfold beside; rw [if_neg (by omega), show k + q - k = q by omega]
  have hZX : Eq r c (prod m k Z (solTo k Z pv r)) (fun i q => Z i (k + q)) := fun i q hi hq => by
    show sum (fun p => mul m (Z i p) (solTo k Z pv r p q)) k = Z i (k + q)
    by_cases hil : i < pv.length
    · obtain ⟨y, hy⟩ : ∃ y, pv[i]? = some y := ⟨_, List.getElem?_eq_getElem hil⟩
      have hyk := I.lt i y hy
      rw [sum_one hyk (fun t ht hne => by
        by_cases h5 : ∃ i' : Nat, pv[i']? = some t
        · obtain ⟨i', h5⟩ := h5
          rw [I.piv i' t i h5 hi, if_neg (fun e => by
            rw [e] at hy
            rw [hy] at h5
            injection h5 with h5
            exact hne h5.symm), mul_zero_left]
        · rw [solTo_none (fun i' hi' => h5 ⟨i', hi'⟩), mul_zero_right])]
      rw [I.piv i y i hy hi, if_pos rfl, solTo_at (n := r) (inv_inj I) hy q r (by have := I.len; omega), one_mul hm (I.ok i (k + q) hi (by omega))]
    · rw [sum_all_zero fun t ht => by rw [I.low i t (by omega) hi ht, mul_zero_left]]
      exact (noSol_zero h hi (by omega) hq).symm
  exact (prod_congr eA (Eq.refl _ _ _)).trans ((prod_assoc hm hQ oZk oX).trans ((prod_congr (Eq.refl _ _ _) hZX).trans eB.symm))
theorem beside_left (r k : Nat) (A B : Nat → Nat → Nat) : Eq r k (beside k A B) A := fun i j hi hj => by unfold beside; rw [if_pos hj]
/-- the pivots among the first columns are those of the first matrix -/
theorem beside_piv {m r k : Nat} (A B : Nat → Nat → Nat) : (red m r (beside k A B) k).2 = (red m r A k).2 := (red_congr (m := m) (beside_left r k A B) k (Nat.le_refl _)).2.1
theorem noSol_square {m n c : Nat} {A B : Nat → Nat → Nat} (h : n ≤ rk m n n A) : noSol n n c (red m n (beside n A B) n).1 (red m n (beside n A B) n).2.length = false :=
  noSol_false fun i j hi hn hj => by
    rw [beside_piv] at hn
    unfold rk at h
    omega
/-- of a square matrix of full rank: the solution of A X = 1 inverts from both sides, and has full rank -/
theorem inverts {m n : Nat} (hm : IsM m) {A : Nat → Nat → Nat} (hA : Ok m n n A) (h : n ≤ rk m n n A) :
    let X := solTo n (red m n (beside n A one) n).1 (red m n (beside n A one) n).2 n
    Ok m n n X ∧ Eq n n (prod m n A X) one ∧ Eq n n (prod m n X A) one ∧ n ≤ rk m n n X := by
  intro X
  obtain ⟨hAX, oX⟩ := solves hm hA (one_ok hm) (noSol_square (B := one) h)
  have hAX : Eq n n (prod m n A X) one := hAX
  have oX : Ok m n n X := oX
  -- P A = 1 for the P of the reduction of A
  have I := red_inv hm hA n (Nat.le_refl n)
  have hfull := h
  unfold rk at h
  generalize (red m n A n).1 = Z at I
  generalize (red m n A n).2 = pv at I h
  obtain ⟨P, Q, hP, hQ, h1, h2, h3, h4⟩ := I.row
  have hlen : pv.length = n := Nat.le_antisymm I.len h
  have hpv : ∀ i, i < n → pv[i]? = some i := by
    intro i
    induction i with
    | zero =>
      intro h0
      -- every column below n is some pivot's: the first is 0
      obtain ⟨y, hy⟩ : ∃ y, pv[0]? = some y := ⟨_, List.getElem?_eq_getElem (by omega)⟩
      have key : ∀ i, i < n → ∀ y', pv[i]? = some y' → y + i ≤ y' := by
        intro i
        induction i with
        | zero => intro _ y' h'; rw [hy] at h'; injection h' with h'; omega
        | succ i ih =>
          intro hi y' h'
          obtain ⟨z, hz⟩ : ∃ z, pv[i]? = some z := ⟨_, List.getElem?_eq_getElem (by omega)⟩
          have := ih (by omega) z hz
          have := I.inc i (i + 1) z y' (by omega) hz h'
          omega
      obtain ⟨z, hz⟩ : ∃ z, pv[n - 1]? = some z := ⟨_, List.getElem?_eq_getElem (by omega)⟩
      have h5 := key (n - 1) (by omega) z hz
      have h6 := I.lt (n - 1) z hz
      rw [hy]; congr 1; omega
    | succ i ih =>
      intro hi
      obtain ⟨y, hy⟩ : ∃ y, pv[i + 1]? = some y := ⟨_, List.getElem?_eq_getElem (by omega)⟩
      have h0 := I.inc i (i + 1) i y (by omega) (ih (by omega)) hy
      have key : ∀ d, i + 1 + d < n → ∀ y', pv[i + 1 + d]? = some y' → y + d ≤ y' := by
        intro d
        induction d with
        | zero => intro _ y' h'; rw [Nat.add_zero, hy] at h'; injection h' with h'; omega
        | succ d ihd =>
          intro hd y' h'
          obtain ⟨z, hz⟩ : ∃ z, pv[i + 1 + d]? = some z := ⟨_, List.getElem?_eq_getElem (by omega)⟩
          have := ihd (by omega) z hz
          have := I.inc (i + 1 + d) (i + 1 + (d + 1)) z y' (by omega) hz h'
          omega
      obtain ⟨z, hz⟩ : ∃ z, pv[i + 1 + (n - 1 - (i + 1))]? = some z := ⟨_, List.getElem?_eq_getElem (by omega)⟩
      have h5 := key (n - 1 - (i + 1)) (by omega) z hz
      have h6 := I.lt _ z hz
      rw [hy]; congr 1; omega
  have hZ : Eq n n Z one := fun p q hp hq => by
    rw [I.piv q q p (hpv q hq) hp]
    rfl
  have hPA : Eq n n (prod m n P A) one := h3.symm.trans hZ
  have hPX : Eq n n P X := (prod_one hm hP).symm.trans ((prod_congr (Eq.refl _ _ _) hAX.symm).trans ((prod_assoc hm hP hA oX).symm.trans ((prod_congr hPA (Eq.refl _ _ _)).trans (one_prod hm oX))))
  have hXA : Eq n n (prod m n X A) one := (prod_congr hPX.symm (Eq.refl _ _ _)).trans hPA
  refine ⟨oX, hAX, hXA, ?_⟩
  -- A = (A X) A, and X = U V
  obtain ⟨U, V, hU, hV, hf⟩ := rk_fac hm oX
  have e : Eq n n A (prod m (rk m n n X) (prod m n A U) (prod m n V A)) := by
    have e1 : Eq n n A (prod m n A (prod m n X A)) := ((prod_congr (Eq.refl _ _ _) hXA).trans (prod_one hm hA)).symm
    have e2 : Eq n n (prod m n X A) (prod m (rk m n n X) U (prod m n V A)) := (prod_congr hf (Eq.refl _ _ _)).trans (prod_assoc hm hU hV hA)
    exact e1.trans ((prod_congr (Eq.refl _ _ _) e2).trans (prod_assoc hm hA hU (prod_ok hm hV)).symm)
  have h7 := rk_le hm hA (prod_ok hm hA) (prod_ok hm hV) e
  omega
/-- where there is no solution, the columns of the second matrix increase the rank -/
theorem grows {m r k c : Nat} (hm : IsM m) {A B : Nat → Nat → Nat} (hA : Ok m r k A) (hB : Ok m r c B) (h : noSol r k c (red m r (beside k A B) k).1 (red m r (beside k A B) k).2.length = true) :
    rk m r k A < rk m r (k + c) (beside k A B) := by
  have key : ∀ d, d ≤ c → (red m r (beside k A B) k).2.length ≤ (red m r (beside k A B) (k + d)).2.length ∧
      ((red m r (beside k A B) (k + d)).2.length = (red m r (beside k A B) k).2.length → (red m r (beside k A B) (k + d)).1 = (red m r (beside k A B) k).1 ∧ ∀ i j, (red m r (beside k A B) k).2.length ≤ i → i < r → j < d → (red m r (beside k A B) k).1 i (k + j) = 0) := by
    intro d
    induction d with
    | zero => intro _; exact ⟨Nat.le_refl _, fun _ => ⟨rfl, fun i j _ _ h => absurd h (Nat.not_lt_zero _)⟩⟩
    | succ d ih =>
      intro hd
      obtain ⟨h1, h2⟩ := ih (by omega)
      show _ ≤ (col m r (red m r (beside k A B) (k + d)) (k + d)).2.length ∧ ((col m r (red m r (beside k A B) (k + d)) (k + d)).2.length = _ → (col m r (red m r (beside k A B) (k + d)) (k + d)).1 = _ ∧ _)
      generalize hs : red m r (beside k A B) (k + d) = s at h1 h2
      cases hf : find s.1 r (k + d) s.2.length (r - s.2.length) with
      | none =>
        rw [col_none hf]
        refine ⟨h1, fun he => ?_⟩
        obtain ⟨h3, h4⟩ := h2 he
        refine ⟨h3, fun i j h5 h6 h7 => ?_⟩
        by_cases e : j = d
        · have := find_none hf i (by omega) (by omega)
          rw [e, ← h3]; exact this
        · exact h4 i j h5 h6 (by omega)
      | some i =>
        rw [col_some hf]
        simp only [List.length_append, List.length_singleton]
        exact ⟨by omega, fun he => by omega⟩
  obtain ⟨h1, h2⟩ := key c (Nat.le_refl _)
  have hr : rk m r k A = (red m r (beside k A B) k).2.length := by unfold rk; rw [beside_piv]
  rw [hr]
  show _ < (red m r (beside k A B) (k + c)).2.length
  rcases Nat.lt_or_eq_of_le h1 with h3 | h3
  · exact h3
  · exfalso
    obtain ⟨_, h4⟩ := h2 h3.symm
    rw [noSol_false (fun i j hi hn hj => h4 i j hn hi hj)] at h
    cases h
end Mat
end Go.Proofs.YtaijjhddgecieaaDoor
