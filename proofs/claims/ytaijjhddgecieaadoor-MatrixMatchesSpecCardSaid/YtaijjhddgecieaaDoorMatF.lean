/- Matrices as functions of row and column: the product, reduction step by step. No program in sight. -/
import Derived.Test.YtaijjhddgecieaaDoorFld
namespace Go.Proofs.YtaijjhddgecieaaDoor
set_option linter.unusedSimpArgs false
set_option linter.unusedVariables false
namespace Mat
open Fld

/-- all entries of r rows and c columns are elements -/
def Ok (m r c : Nat) (A : Nat → Nat → Nat) : Prop := ∀ i j, i < r → j < c → A i j < 2 ^ m
/-- the same entries -/
def Eq (r c : Nat) (A B : Nat → Nat → Nat) : Prop := ∀ i j, i < r → j < c → A i j = B i j
/-- the sum of f 0 .. f (n - 1) -/
def sum (f : Nat → Nat) : Nat → Nat
  | 0 => 0
  | n + 1 => sum f n ^^^ f n
def prod (m k : Nat) (A B : Nat → Nat → Nat) (i j : Nat) : Nat := sum (fun t => mul m (A i t) (B t j)) k
def tr (A : Nat → Nat → Nat) (i j : Nat) : Nat := A j i
def one (i j : Nat) : Nat := if i = j then 1 else 0
/-- the first row from i on, below r, with something in column j -/
def find (A : Nat → Nat → Nat) (r j : Nat) : Nat → Nat → Option Nat
  | _, 0 => none
  | i, n + 1 => if A i j ≠ 0 then some i else find A r j (i + 1) n
def swap (A : Nat → Nat → Nat) (i k : Nat) (p q : Nat) : Nat := if p = i then A k q else if p = k then A i q else A p q
def scale (m : Nat) (A : Nat → Nat → Nat) (r f : Nat) (p q : Nat) : Nat := if p = r then mul m f (A r q) else A p q
def clear (m : Nat) (A : Nat → Nat → Nat) (r j : Nat) (p q : Nat) : Nat := if p = r then A p q else A p q ^^^ mul m (A p j) (A r q)
/-- one column: the rows that are left begin at r -/
def pivot (m : Nat) (A : Nat → Nat → Nat) (r i j : Nat) : Nat → Nat → Nat :=
  let S := swap A i r
  clear m (scale m S r (inv m (S r j))) r j
def col (m R : Nat) (s : (Nat → Nat → Nat) × List Nat) (j : Nat) : (Nat → Nat → Nat) × List Nat :=
  match find s.1 R j s.2.length (R - s.2.length) with
  | none => s
  | some i => (pivot m s.1 s.2.length i j, s.2 ++ [j])
def red (m R : Nat) (A : Nat → Nat → Nat) : Nat → (Nat → Nat → Nat) × List Nat
  | 0 => (A, [])
  | n + 1 => col m R (red m R A n) n

theorem find_some {A : Nat → Nat → Nat} {r j k : Nat} : ∀ {n i : Nat}, find A r j i n = some k → i ≤ k ∧ k < i + n ∧ A k j ≠ 0 ∧ ∀ t, i ≤ t → t < k → A t j = 0
  | 0, i, h => by cases h
  | n + 1, i, h => by
    unfold find at h
    by_cases h0 : A i j = 0
    · rw [if_neg (by simp [h0])] at h
      obtain ⟨h1, h2, h3, h4⟩ := find_some h
      refine ⟨by omega, by omega, h3, fun t ht1 ht2 => ?_⟩
      by_cases e : t = i
      · rw [e]; exact h0
      · exact h4 t (by omega) ht2
    · rw [if_pos h0] at h
      injection h with h
      subst h
      exact ⟨Nat.le_refl _, by omega, h0, fun t h1 h2 => by omega⟩
theorem find_none {A : Nat → Nat → Nat} {r j : Nat} : ∀ {n i : Nat}, find A r j i n = none → ∀ t, i ≤ t → t < i + n → A t j = 0
  | 0, i, h => fun t h1 h2 => by omega
  | n + 1, i, h => by
    unfold find at h
    by_cases h0 : A i j = 0
    · rw [if_neg (by simp [h0])] at h
      intro t h1 h2
      by_cases e : t = i
      · rw [e]; exact h0
      · exact find_none h t (by omega) (by omega)
    · rw [if_pos h0] at h; cases h
theorem find_eq_some {A : Nat → Nat → Nat} {r j k : Nat} : ∀ {n i : Nat}, i ≤ k → k < i + n → A k j ≠ 0 → (∀ t, i ≤ t → t < k → A t j = 0) → find A r j i n = some k
  | 0, i, h1, h2, _, _ => by omega
  | n + 1, i, h1, h2, h3, h4 => by
    unfold find
    by_cases e : i = k
    · subst e; rw [if_pos h3]
    · rw [if_neg (by simp [h4 i (Nat.le_refl _) (by omega)])]
      exact find_eq_some (by omega) (by omega) h3 (fun t h5 h6 => h4 t (by omega) h6)
theorem find_eq_none {A : Nat → Nat → Nat} {r j : Nat} : ∀ {n i : Nat}, (∀ t, i ≤ t → t < i + n → A t j = 0) → find A r j i n = none
  | 0, i, _ => rfl
  | n + 1, i, h => by
    unfold find
    rw [if_neg (by simp [h i (Nat.le_refl _) (by omega)])]
    exact find_eq_none (fun t h1 h2 => h t (by omega) (by omega))

section
variable {m r c : Nat}
theorem sum_lt (f : Nat → Nat) : ∀ n, (∀ t, t < n → f t < 2 ^ m) → sum f n < 2 ^ m
  | 0, _ => Nat.two_pow_pos m
  | n + 1, h => Nat.xor_lt_two_pow (sum_lt f n (fun t ht => h t (by omega))) (h n (by omega))
theorem sum_congr {f g : Nat → Nat} : ∀ n, (∀ t, t < n → f t = g t) → sum f n = sum g n
  | 0, _ => rfl
  | n + 1, h => by rw [sum, sum, sum_congr n (fun t ht => h t (by omega)), h n (by omega)]
theorem prod_ok (hm : IsM m) {k : Nat} {A B : Nat → Nat → Nat} (hA : Ok m r k A) : Ok m r c (prod m k A B) := fun i _ hi _ =>
  sum_lt _ _ fun t ht => mul_lt hm _ (hA i t hi ht)
theorem tr_ok {A : Nat → Nat → Nat} (h : Ok m r c A) : Ok m c r (tr A) := fun i j hi hj => h j i hj hi
theorem one_ok (hm : IsM m) : Ok m r c one := fun i j _ _ => by unfold one; split; exact one_lt hm; exact Nat.two_pow_pos m
theorem swap_ok {A : Nat → Nat → Nat} (h : Ok m r c A) {i k : Nat} (hi : i < r) (hk : k < r) : Ok m r c (swap A i k) := fun p q hp hq => by
  unfold swap
  split
  · exact h _ _ hk hq
  · split
    · exact h _ _ hi hq
    · exact h _ _ hp hq
theorem scale_ok (hm : IsM m) {A : Nat → Nat → Nat} (h : Ok m r c A) {k f : Nat} (hf : f < 2 ^ m) : Ok m r c (scale m A k f) := fun p q hp hq => by
  unfold scale
  split
  · exact mul_lt hm _ hf
  · exact h _ _ hp hq
theorem clear_ok (hm : IsM m) {A : Nat → Nat → Nat} (h : Ok m r c A) {k j : Nat} (hj : j < c) : Ok m r c (clear m A k j) := fun p q hp hq => by
  unfold clear
  split
  · exact h _ _ hp hq
  · exact Nat.xor_lt_two_pow (h _ _ hp hq) (mul_lt hm _ (h _ _ hp hj))
theorem pivot_ok (hm : IsM m) {A : Nat → Nat → Nat} (h : Ok m r c A) {k i j : Nat} (hk : k < r) (hi : i < r) (hj : j < c) : Ok m r c (pivot m A k i j) :=
  clear_ok hm (scale_ok hm (swap_ok h hi hk) (inv_lt hm (swap_ok h hi hk _ _ hk hj))) hj
end
theorem col_none {m R : Nat} {s : (Nat → Nat → Nat) × List Nat} {j : Nat} (h : find s.1 R j s.2.length (R - s.2.length) = none) : col m R s j = s := by
  unfold col; rw [h]
theorem col_some {m R : Nat} {s : (Nat → Nat → Nat) × List Nat} {j i : Nat} (h : find s.1 R j s.2.length (R - s.2.length) = some i) : col m R s j = (pivot m s.1 s.2.length i j, s.2 ++ [j]) := by
  unfold col; rw [h]
/-- what holds of the pivots -/
theorem red_facts {m R c : Nat} (hm : IsM m) {A : Nat → Nat → Nat} (h : Ok m R c A) : ∀ n, n ≤ c → Ok m R c (red m R A n).1 ∧ (red m R A n).2.length ≤ R ∧ (∀ x ∈ (red m R A n).2, x < n) ∧ (red m R A n).2.length ≤ n
  | 0, _ => ⟨h, Nat.zero_le _, by simp [red], Nat.zero_le _⟩
  | n + 1, hn => by
    obtain ⟨h1, h2, h3, h4⟩ := red_facts hm h n (by omega)
    unfold red
    cases hf : find (red m R A n).1 R n (red m R A n).2.length (R - (red m R A n).2.length) with
    | none => rw [col_none hf]; exact ⟨h1, h2, fun x hx => by have := h3 x hx; omega, by omega⟩
    | some i =>
      rw [col_some hf]
      obtain ⟨g1, g2, _⟩ := find_some hf
      refine ⟨pivot_ok hm h1 (by omega) (by omega) (by omega), by simp; omega, fun x hx => ?_, by simp; omega⟩
      rw [List.mem_append] at hx
      rcases hx with hx | hx
      · have := h3 x hx; omega
      · simp at hx; omega
/-- the same entries give the same reduction -/
theorem find_congr {R c j : Nat} {A B : Nat → Nat → Nat} (h : Eq R c A B) (hj : j < c) : ∀ n i, i + n ≤ R → find A R j i n = find B R j i n
  | 0, _, _ => rfl
  | n + 1, i, hi => by unfold find; rw [h i j (by omega) hj, find_congr h hj n (i + 1) (by omega)]
theorem pivot_congr {m R c k i j : Nat} {A B : Nat → Nat → Nat} (h : Eq R c A B) (hk : k < R) (hi : i < R) (hj : j < c) : Eq R c (pivot m A k i j) (pivot m B k i j) := by
  have hs : Eq R c (swap A i k) (swap B i k) := fun p q hp hq => by
    unfold swap; rw [h k q hk hq, h i q hi hq, h p q hp hq]
  intro p q hp hq
  unfold pivot clear scale
  rw [hs k j hk hj, hs k q hk hq, hs p q hp hq, hs p j hp hj]
theorem red_congr {m R c : Nat} {A B : Nat → Nat → Nat} (h : Eq R c A B) : ∀ n, n ≤ c → Eq R c (red m R A n).1 (red m R B n).1 ∧ (red m R A n).2 = (red m R B n).2 ∧ (red m R A n).2.length ≤ R
  | 0, _ => ⟨h, rfl, Nat.zero_le _⟩
  | n + 1, hn => by
    obtain ⟨h1, h2, h3⟩ := red_congr (m := m) h n (by omega)
    unfold red
    have hfe := find_congr h1 (j := n) (by omega) (R - (red m R A n).2.length) (red m R A n).2.length (by omega)
    cases hf : find (red m R A n).1 R n (red m R A n).2.length (R - (red m R A n).2.length) with
    | none =>
      rw [col_none hf, col_none (by rw [← h2, ← hfe]; exact hf)]
      exact ⟨h1, h2, h3⟩
    | some i =>
      obtain ⟨g1, g2, _⟩ := find_some hf
      rw [col_some hf, col_some (by rw [← h2, ← hfe]; exact hf), ← h2]
      exact ⟨pivot_congr h1 (by omega) (by omega) (by omega), rfl, by simp; omega⟩

/-- row after row -/
def flat (c : Nat) (A : Nat → Nat → Nat) (p : Nat) : Nat := A (p / c) (p % c)
theorem flat_at {c : Nat} (A : Nat → Nat → Nat) (i : Nat) {j : Nat} (hj : j < c) : flat c A (i * c + j) = A i j := by
  unfold flat
  rw [Nat.mul_comm, Nat.mul_add_div (by omega), Nat.div_eq_of_lt hj, Nat.mul_add_mod, Nat.mod_eq_of_lt hj, Nat.add_zero]
theorem at_lt {r c i j : Nat} (hi : i < r) (hj : j < c) : i * c + j < r * c := by
  have h1 : (i + 1) * c ≤ r * c := Nat.mul_le_mul_right _ hi
  rw [Nat.add_mul, Nat.one_mul] at h1
  omega
theorem flat_split {r c p : Nat} (h : p < r * c) : p / c < r ∧ p % c < c ∧ p = p / c * c + p % c := by
  have hc : 0 < c := by
    rcases Nat.eq_zero_or_pos c with rfl | h0
    · omega
    · exact h0
  refine ⟨(Nat.div_lt_iff_lt_mul hc).2 h, Nat.mod_lt _ hc, ?_⟩
  have := Nat.div_add_mod p c
  rw [Nat.mul_comm] at this
  omega
theorem flat_congr {r c : Nat} {A B : Nat → Nat → Nat} (h : Eq r c A B) : ∀ p, p < r * c → flat c A p = flat c B p := fun p hp => by
  obtain ⟨h1, h2, _⟩ := flat_split hp
  exact h _ _ h1 h2
theorem flat_of {r c : Nat} {f : Nat → Nat} {A : Nat → Nat → Nat} (h : ∀ i j, i < r → j < c → f (i * c + j) = A i j) : ∀ p, p < r * c → f p = flat c A p := fun p hp => by
  obtain ⟨h1, h2, h3⟩ := flat_split hp
  rw [show f p = f (p / c * c + p % c) by rw [← h3], h _ _ h1 h2]; rfl
end Mat
end Go.Proofs.YtaijjhddgecieaaDoor
