/- The plain mathematics of the fields with 2^8 and 2^16 elements: products, powers of 2, inverses. -/
import Init
namespace Go.Proofs.YtghinmlpkgcdiaaDoor.Fld
set_option linter.unusedSimpArgs false
set_option linter.unusedVariables false

def IsM (m : Nat) : Prop := m = 8 ∨ m = 16
def pol (m : Nat) : Nat := if m = 8 then 285 else 69643
/-- times 2 -/
def sh (m x : Nat) : Nat := if (2 * x).testBit m then (2 * x) ^^^ pol m else 2 * x
def shN (m : Nat) : Nat → Nat → Nat
  | 0, x => x
  | i + 1, x => shN m i (sh m x)
/-- the sum of the shifted a over the lowest n bits of b -/
def mulN (m : Nat) : Nat → Nat → Nat → Nat
  | 0, _, _ => 0
  | n + 1, a, b => (if b.testBit 0 then a else 0) ^^^ mulN m n (sh m a) (b / 2)
def mul (m a b : Nat) : Nat := mulN m m a b

theorem two_xor (a b : Nat) : 2 * (a ^^^ b) = 2 * a ^^^ 2 * b := by
  have e : ∀ x, 2 * x = x <<< 1 := fun x => by rw [Nat.shiftLeft_eq]; omega
  rw [e, e, e, Nat.shiftLeft_xor_distrib]
theorem half_xor (a b : Nat) : (a ^^^ b) / 2 = a / 2 ^^^ b / 2 := by
  apply Nat.eq_of_testBit_eq
  intro i
  rw [Nat.testBit_xor, Nat.testBit_div_two, Nat.testBit_div_two, Nat.testBit_div_two, Nat.testBit_xor]
theorem x4 (a b c d : Nat) : (a ^^^ b) ^^^ (c ^^^ d) = (a ^^^ c) ^^^ (b ^^^ d) := by
  rw [Nat.xor_assoc, Nat.xor_assoc, ← Nat.xor_assoc b c d, Nat.xor_comm b c, Nat.xor_assoc c b d]
theorem sh_xor (m a b : Nat) : sh m (a ^^^ b) = sh m a ^^^ sh m b := by
  unfold sh
  rw [two_xor, Nat.testBit_xor]
  cases (2 * a).testBit m <;> cases (2 * b).testBit m <;> simp
  · rw [Nat.xor_assoc]
  · rw [Nat.xor_assoc, Nat.xor_assoc, Nat.xor_comm (pol m) (2 * b)]
  · rw [x4]; simp
theorem sh_zero (m : Nat) : sh m 0 = 0 := by simp [sh]
theorem lt_of_bit {k y : Nat} (h : y < 2 ^ (k + 1)) (hb : y.testBit k = false) : y < 2 ^ k := by
  apply Nat.lt_pow_two_of_testBit
  intro i hi
  by_cases e : i = k
  · rw [e]; exact hb
  · exact Nat.testBit_lt_two_pow (Nat.lt_of_lt_of_le h (Nat.pow_le_pow_right (by decide) (by omega)))
theorem xor_top {k a b : Nat} (ha : a < 2 ^ (k + 1)) (hb : b < 2 ^ (k + 1)) (ba : a.testBit k = true) (bb : b.testBit k = true) : a ^^^ b < 2 ^ k :=
  lt_of_bit (Nat.xor_lt_two_pow ha hb) (by rw [Nat.testBit_xor, ba, bb]; rfl)
theorem pol_lt {m : Nat} (hm : IsM m) : pol m < 2 ^ (m + 1) := by rcases hm with rfl | rfl <;> decide
theorem pol_bit {m : Nat} (hm : IsM m) : (pol m).testBit m = true := by rcases hm with rfl | rfl <;> decide
theorem sh_lt {m x : Nat} (hm : IsM m) (h : x < 2 ^ m) : sh m x < 2 ^ m := by
  have h2 : 2 * x < 2 ^ (m + 1) := by rw [Nat.pow_succ]; omega
  unfold sh
  split
  · exact xor_top h2 (pol_lt hm) (by assumption) (pol_bit hm)
  · rename_i hb; exact lt_of_bit h2 (Bool.eq_false_iff.2 hb)
theorem shN_succ (m : Nat) : ∀ i x, shN m (i + 1) x = sh m (shN m i x) := by
  intro i
  induction i with
  | zero => intro x; rfl
  | succ i ih => intro x; show shN m (i + 1) (sh m x) = _; rw [ih]; rfl
theorem shN_add (m : Nat) : ∀ i j x, shN m (i + j) x = shN m i (shN m j x) := by
  intro i
  induction i with
  | zero => intro j x; rw [Nat.zero_add]; rfl
  | succ i ih => intro j x; rw [show i + 1 + j = (i + j) + 1 by omega, shN_succ, ih, shN_succ]
theorem shN_lt {m : Nat} (hm : IsM m) : ∀ i x, x < 2 ^ m → shN m i x < 2 ^ m := by
  intro i
  induction i with
  | zero => intro x h; exact h
  | succ i ih => intro x h; exact ih _ (sh_lt hm h)
theorem shN_zero (m : Nat) : ∀ i, shN m i 0 = 0 := by
  intro i
  induction i with
  | zero => rfl
  | succ i ih => rw [shN_succ, ih, sh_zero]
theorem shN_xor (m : Nat) : ∀ i a b, shN m i (a ^^^ b) = shN m i a ^^^ shN m i b := by
  intro i
  induction i with
  | zero => intro a b; rfl
  | succ i ih => intro a b; simp only [shN]; rw [sh_xor, ih]

theorem mulN_zero_right (m : Nat) : ∀ n a, mulN m n a 0 = 0 := by
  intro n
  induction n with
  | zero => intro a; rfl
  | succ n ih => intro a; simp [mulN, ih]
theorem mulN_zero_left (m : Nat) : ∀ n b, mulN m n 0 b = 0 := by
  intro n
  induction n with
  | zero => intro b; rfl
  | succ n ih => intro b; simp [mulN, ih, sh_zero]
theorem mulN_sh (m : Nat) : ∀ n a b, mulN m n (sh m a) b = sh m (mulN m n a b) := by
  intro n
  induction n with
  | zero => intro a b; simp [mulN, sh_zero]
  | succ n ih =>
    intro a b
    simp only [mulN]
    rw [sh_xor, ih]
    cases b.testBit 0 <;> simp [sh_zero]
theorem mulN_left (m : Nat) : ∀ n a a' b, mulN m n (a ^^^ a') b = mulN m n a b ^^^ mulN m n a' b := by
  intro n
  induction n with
  | zero => intro a a' b; simp [mulN]
  | succ n ih =>
    intro a a' b
    simp only [mulN]
    rw [sh_xor, ih, x4]
    cases b.testBit 0 <;> simp
theorem mulN_right (m : Nat) : ∀ n a b b', mulN m n a (b ^^^ b') = mulN m n a b ^^^ mulN m n a b' := by
  intro n
  induction n with
  | zero => intro a b b'; simp [mulN]
  | succ n ih =>
    intro a b b'
    simp only [mulN]
    rw [half_xor, ih, x4, Nat.testBit_xor]
    cases b.testBit 0 <;> cases b'.testBit 0 <;> simp
theorem mulN_lt {m : Nat} (hm : IsM m) : ∀ n a b, a < 2 ^ m → mulN m n a b < 2 ^ m := by
  intro n
  induction n with
  | zero => intro a b h; exact Nat.two_pow_pos m
  | succ n ih =>
    intro a b h
    simp only [mulN]
    refine Nat.xor_lt_two_pow ?_ (ih _ _ (sh_lt hm h))
    split
    · exact h
    · exact Nat.two_pow_pos m
theorem mul_lt {m a : Nat} (hm : IsM m) (b : Nat) (h : a < 2 ^ m) : mul m a b < 2 ^ m := mulN_lt hm _ _ _ h
/-- the highest bit first -/
theorem mulN_horner (m n a b : Nat) : mulN m (n + 1) a b = sh m (mulN m n a (b / 2)) ^^^ (if b.testBit 0 then a else 0) := by
  simp only [mulN]
  rw [mulN_sh, Nat.xor_comm]
/-- more places than b has bits add nothing -/
theorem mulN_more (m : Nat) : ∀ n a b k, b < 2 ^ n → mulN m (n + k) a b = mulN m n a b := by
  intro n
  induction n with
  | zero =>
    intro a b k h
    have : b = 0 := by simpa using h
    rw [this, mulN_zero_right, mulN_zero_right]
  | succ n ih =>
    intro a b k h
    rw [show n + 1 + k = (n + k) + 1 by omega]
    simp only [mulN]
    rw [ih _ _ k (by rw [Nat.pow_succ] at h; omega)]
theorem lin_ext {f g : Nat → Nat} (hf : ∀ x y, f (x ^^^ y) = f x ^^^ f y) (hg : ∀ x y, g (x ^^^ y) = g x ^^^ g y) :
    ∀ n, (∀ i, i < n → f (2 ^ i) = g (2 ^ i)) → ∀ x, x < 2 ^ n → f x = g x := by
  have f0 : f 0 = 0 := by have := hf 0 0; simpa using this
  have g0 : g 0 = 0 := by have := hg 0 0; simpa using this
  intro n
  induction n with
  | zero => intro _ x hx; have : x = 0 := by simpa using hx
            rw [this, f0, g0]
  | succ n ih =>
    intro h x hx
    have h' := ih (fun i hi => h i (by omega))
    cases hb : x.testBit n with
    | false => exact h' x (lt_of_bit hx hb)
    | true =>
      have hy : 2 ^ n ^^^ x < 2 ^ n := xor_top (Nat.pow_lt_pow_right (by decide) (by omega)) hx (Nat.testBit_two_pow_self) hb
      have e : x = 2 ^ n ^^^ (2 ^ n ^^^ x) := by rw [← Nat.xor_assoc]; simp
      rw [e, hf, hg, h n (by omega), h' _ hy]
theorem comm_basis {m : Nat} (hm : IsM m) : ∀ i, i < m → ∀ j, j < m → mul m (2 ^ i) (2 ^ j) = mul m (2 ^ j) (2 ^ i) := by
  rcases hm with rfl | rfl <;> decide +kernel
theorem mul_comm {m a b : Nat} (hm : IsM m) (ha : a < 2 ^ m) (hb : b < 2 ^ m) : mul m a b = mul m b a := by
  refine lin_ext (f := fun a => mul m a b) (g := fun a => mul m b a) (fun x y => mulN_left _ _ _ _ _) (fun x y => mulN_right _ _ _ _ _) m (fun i hi => ?_) a ha
  exact lin_ext (f := fun b => mul m (2 ^ i) b) (g := fun b => mul m b (2 ^ i)) (fun x y => mulN_right _ _ _ _ _) (fun x y => mulN_left _ _ _ _ _) m (fun j hj => comm_basis hm i hi j hj) b hb
theorem mul_sh (m a b : Nat) : mul m (sh m a) b = sh m (mul m a b) := mulN_sh _ _ _ _
theorem mul_shN (m b : Nat) : ∀ i a, mul m (shN m i a) b = shN m i (mul m a b) := by
  intro i
  induction i with
  | zero => intro a; rfl
  | succ i ih => intro a; simp only [shN]; rw [ih, mul_sh]
theorem mul_left (m a a' b : Nat) : mul m (a ^^^ a') b = mul m a b ^^^ mul m a' b := mulN_left _ _ _ _ _
theorem mul_right (m a b b' : Nat) : mul m a (b ^^^ b') = mul m a b ^^^ mul m a b' := mulN_right _ _ _ _ _
theorem mul_zero_left (m b : Nat) : mul m 0 b = 0 := mulN_zero_left _ _ _
theorem mul_zero_right (m a : Nat) : mul m a 0 = 0 := mulN_zero_right _ _ _
theorem mul_swap (m b : Nat) : ∀ n a c, mul m (mulN m n a c) b = mulN m n (mul m a b) c := by
  intro n
  induction n with
  | zero => intro a c; exact mul_zero_left m b
  | succ n ih =>
    intro a c
    simp only [mulN]
    rw [mul_left, ih, mul_sh]
    congr 1
    split
    · rfl
    · exact mul_zero_left m b
theorem mul_assoc {m a b c : Nat} (hm : IsM m) (ha : a < 2 ^ m) (hb : b < 2 ^ m) (_hc : c < 2 ^ m) : mul m (mul m a b) c = mul m a (mul m b c) := by
  rw [mul_comm hm ha (mul_lt hm _ hb), mul_comm hm ha hb]
  exact mul_swap m c m b a
theorem mul_one {m : Nat} (hm : IsM m) (a : Nat) : mul m a 1 = a := by
  rcases hm with rfl | rfl
  · show mulN 8 (7 + 1) a 1 = a
    simp only [mulN]
    simp [mulN_zero_right]
  · show mulN 16 (15 + 1) a 1 = a
    simp only [mulN]
    simp [mulN_zero_right]
theorem one_lt {m : Nat} (hm : IsM m) : 1 < 2 ^ m := by rcases hm with rfl | rfl <;> decide
theorem one_mul {m a : Nat} (hm : IsM m) (ha : a < 2 ^ m) : mul m 1 a = a := by rw [mul_comm hm (one_lt hm) ha, mul_one hm]

/-! ### the powers of 2 -/
def E (m i : Nat) : Nat := shN m i 1
def q (m : Nat) : Nat := 2 ^ m - 1
theorem E_lt {m : Nat} (hm : IsM m) (i : Nat) : E m i < 2 ^ m := shN_lt hm _ _ (one_lt hm)
theorem E_mul {m b : Nat} (hm : IsM m) (i : Nat) (hb : b < 2 ^ m) : mul m (E m i) b = shN m i b := by
  unfold E; rw [mul_shN, one_mul hm hb]
theorem E_add {m : Nat} (hm : IsM m) (i j : Nat) : mul m (E m i) (E m j) = E m (i + j) := by
  rw [E_mul hm i (E_lt hm j), E, E, shN_add]
theorem E_succ (m i : Nat) : E m (i + 1) = sh m (E m i) := shN_succ m i 1
/-- by squaring -/
def fe (m : Nat) : Nat → Nat → Nat
  | 0, _ => 1
  | k + 1, n => if n % 2 = 1 then sh m (mul m (fe m k (n / 2)) (fe m k (n / 2))) else mul m (fe m k (n / 2)) (fe m k (n / 2))
def fe2 (m : Nat) : Nat → Nat → Nat
  | 0, _ => 1
  | k + 1, n => (fun h => if n % 2 = 1 then sh m (mul m h h) else mul m h h) (fe2 m k (n / 2))
theorem fe_eq {m : Nat} (hm : IsM m) : ∀ k n, n < 2 ^ k → fe2 m k n = E m n := by
  intro k
  induction k with
  | zero => intro n h; have : n = 0 := by simpa using h
            rw [this]; rfl
  | succ k ih =>
    intro n h
    simp only [fe2]
    rw [ih (n / 2) (by rw [Nat.pow_succ] at h; omega), E_add hm]
    split
    · rw [← E_succ]; congr 1; omega
    · congr 1; omega
theorem fe_vals : fe2 8 16 255 = 1 ∧ fe2 8 16 85 ≠ 1 ∧ fe2 8 16 51 ≠ 1 ∧ fe2 8 16 15 ≠ 1 ∧ fe2 16 16 65535 = 1 ∧ fe2 16 16 21845 ≠ 1 ∧ fe2 16 16 13107 ≠ 1 ∧ fe2 16 16 3855 ≠ 1 ∧ fe2 16 16 255 ≠ 1 := by decide +kernel
theorem E_val {m : Nat} (hm : IsM m) (n : Nat) (h : n < 2 ^ 16) : E m n = fe2 m 16 n := (fe_eq hm 16 n h).symm
theorem E_q {m : Nat} (hm : IsM m) : E m (q m) = 1 := by
  rcases hm with rfl | rfl
  · rw [E_val (.inl rfl) _ (by decide)]; exact fe_vals.1
  · rw [E_val (.inr rfl) _ (by decide)]; exact fe_vals.2.2.2.2.1
theorem E_times {m d : Nat} (hm : IsM m) (h : E m d = 1) (k : Nat) : E m (d * k) = 1 := by
  induction k with
  | zero => rfl
  | succ k ih => rw [Nat.mul_succ, ← E_add hm, ih, h, mul_one hm]
theorem E_back {m a b : Nat} (hm : IsM m) (ha : E m a = 1) (h : E m (a + b) = 1) : E m b = 1 := by
  rw [← E_add hm, ha, one_mul hm (E_lt hm b)] at h; exact h
theorem E_mod {m a b : Nat} (hm : IsM m) (ha : E m a = 1) (hb : E m b = 1) : E m (b % a) = 1 := by
  refine E_back hm (E_times hm ha (b / a)) ?_
  rw [Nat.div_add_mod]; exact hb
theorem E_gcd {m : Nat} (hm : IsM m) (a b : Nat) : E m a = 1 → E m b = 1 → E m (Nat.gcd a b) = 1 := by
  induction a, b using Nat.gcd.induction with
  | H0 n => intro _ h; rw [Nat.gcd_zero_left]; exact h
  | H1 a b _ ih => intro h1 h2; rw [Nat.gcd_rec]; exact ih (E_mod hm h1 h2) h1
theorem divs8 : ∀ d, d < 255 → d ∣ 255 → d ∣ 85 ∨ d ∣ 51 ∨ d ∣ 15 := by decide +kernel
theorem divs16a : ∀ d, d < 256 → d ∣ 65535 → d ∣ 21845 ∨ d ∣ 13107 ∨ d ∣ 3855 ∨ d ∣ 255 := by decide +kernel
theorem divs16b : ∀ e, e < 256 → e ∣ 65535 → e = 1 ∨ 3 ∣ e ∨ 5 ∣ e ∨ 17 ∣ e ∨ 257 ∣ e := by decide +kernel
theorem divs16 (d : Nat) (hd : d < 65535) (h : d ∣ 65535) : d ∣ 21845 ∨ d ∣ 13107 ∨ d ∣ 3855 ∨ d ∣ 255 := by
  by_cases hs : d < 256
  · exact divs16a d hs h
  · obtain ⟨e, he⟩ := h
    have h256 : e < 256 := by
      by_cases h : e < 256
      · exact h
      · have : 256 * 256 ≤ d * e := Nat.mul_le_mul (by omega) (by omega)
        omega
    have hk : ∀ r s, r * s = 65535 → 0 < r → r ∣ e → d ∣ s := by
      rintro r s hrs hr ⟨f, rfl⟩
      refine ⟨f, ?_⟩
      apply Nat.eq_of_mul_eq_mul_left hr
      rw [hrs, he, Nat.mul_left_comm]
    rcases divs16b e h256 ⟨d, by rw [he, Nat.mul_comm]⟩ with rfl | h3 | h5 | h17 | h257
    · omega
    · exact .inl (hk 3 21845 (by decide) (by decide) h3)
    · exact .inr (.inl (hk 5 13107 (by decide) (by decide) h5))
    · exact .inr (.inr (.inl (hk 17 3855 (by decide) (by decide) h17)))
    · exact .inr (.inr (.inr (hk 257 255 (by decide) (by decide) h257)))
theorem E_one {m : Nat} (hm : IsM m) (j : Nat) (h : E m j = 1) : q m ∣ j := by
  have hg := E_gcd hm j (q m) h (E_q hm)
  have hd : Nat.gcd j (q m) ∣ q m := Nat.gcd_dvd_right _ _
  have hj : Nat.gcd j (q m) ∣ j := Nat.gcd_dvd_left _ _
  have hmul : ∀ s, Nat.gcd j (q m) ∣ s → E m s = 1 := by
    rintro s ⟨k, e⟩
    rw [e]; exact E_times hm hg k
  generalize Nat.gcd j (q m) = d at *
  have hle := Nat.le_of_dvd (by rcases hm with rfl | rfl <;> decide) hd
  by_cases he : d = q m
  · rw [← he]; exact hj
  · exfalso
    rcases hm with rfl | rfl
    · have hq : q 8 = 255 := by decide
      rw [hq] at hd he hle
      rcases divs8 d (by omega) hd with h | h | h
      · exact fe_vals.2.1 ((E_val (.inl rfl) _ (by decide)).symm.trans (hmul _ h))
      · exact fe_vals.2.2.1 ((E_val (.inl rfl) _ (by decide)).symm.trans (hmul _ h))
      · exact fe_vals.2.2.2.1 ((E_val (.inl rfl) _ (by decide)).symm.trans (hmul _ h))
    · have hq : q 16 = 65535 := by decide
      rw [hq] at hd he hle
      rcases divs16 d (by omega) hd with h | h | h | h
      · exact fe_vals.2.2.2.2.2.1 ((E_val (.inr rfl) _ (by decide)).symm.trans (hmul _ h))
      · exact fe_vals.2.2.2.2.2.2.1 ((E_val (.inr rfl) _ (by decide)).symm.trans (hmul _ h))
      · exact fe_vals.2.2.2.2.2.2.2.1 ((E_val (.inr rfl) _ (by decide)).symm.trans (hmul _ h))
      · exact fe_vals.2.2.2.2.2.2.2.2 ((E_val (.inr rfl) _ (by decide)).symm.trans (hmul _ h))
theorem q_pos {m : Nat} (hm : IsM m) : 0 < q m := by rcases hm with rfl | rfl <;> decide
theorem E_inv {m : Nat} (hm : IsM m) (i : Nat) : mul m (E m i) (E m (q m * i - i)) = 1 := by
  rw [E_add hm]
  have : i ≤ q m * i := Nat.le_mul_of_pos_left _ (q_pos hm)
  rw [show i + (q m * i - i) = q m * i by omega]
  exact E_times hm (E_q hm) i
theorem E_cancel {m i a b : Nat} (hm : IsM m) (ha : a < 2 ^ m) (hb : b < 2 ^ m) (h : mul m (E m i) a = mul m (E m i) b) : a = b := by
  have := congrArg (mul m (E m (q m * i - i))) h
  rwa [← mul_assoc hm (E_lt hm _) (E_lt hm _) ha, ← mul_assoc hm (E_lt hm _) (E_lt hm _) hb, mul_comm hm (E_lt hm _) (E_lt hm _), E_inv hm, one_mul hm ha, one_mul hm hb] at this
theorem E_inj {m i j : Nat} (hm : IsM m) (hij : i ≤ j) (h : E m i = E m j) : q m ∣ j - i := by
  apply E_one hm
  refine E_cancel (i := i) hm (E_lt hm _) (one_lt hm) ?_
  rw [E_add hm, mul_one hm, show i + (j - i) = j by omega, h]
theorem E_inj_lt {m i j : Nat} (hm : IsM m) (hi : i < q m) (hj : j < q m) (h : E m i = E m j) : i = j := by
  have aux : ∀ i j, i < q m → j < q m → i ≤ j → E m i = E m j → i = j := by
    intro i j hi hj hij h
    by_cases e : i = j
    · exact e
    · have := Nat.le_of_dvd (by omega) (E_inj hm hij h)
      omega
  rcases Nat.le_total i j with h1 | h1
  · exact aux i j hi hj h1 h
  · exact (aux j i hj hi h1 h.symm).symm
theorem E_period {m : Nat} (hm : IsM m) (i k : Nat) : E m (i + q m * k) = E m i := by
  rw [← E_add hm, E_times hm (E_q hm), mul_one hm]
theorem E_emod {m : Nat} (hm : IsM m) (i : Nat) : E m (i % q m) = E m i := by
  have := E_period hm (i % q m) (i / q m)
  rw [Nat.mod_add_div] at this
  exact this.symm
theorem E_eq_iff {m i j : Nat} (hm : IsM m) : E m i = E m j ↔ i % q m = j % q m := by
  refine ⟨fun h => ?_, fun h => by rw [← E_emod hm i, h, E_emod hm]⟩
  exact E_inj_lt hm (Nat.mod_lt _ (q_pos hm)) (Nat.mod_lt _ (q_pos hm)) (by rw [E_emod hm, E_emod hm, h])
theorem E_ne {m : Nat} (hm : IsM m) (i : Nat) : E m i ≠ 0 := by
  intro h
  have := E_inv hm i
  rw [h, mul_zero_left] at this
  cases this
/-- an injection of a finite set into itself is onto -/
theorem onto : ∀ (n : Nat) (f : Nat → Nat), (∀ i, i < n → f i < n) → (∀ i j, i < n → j < n → f i = f j → i = j) → ∀ y, y < n → ∃ i, i < n ∧ f i = y := by
  intro n
  induction n with
  | zero => intro f _ _ y hy; omega
  | succ n ih =>
    intro f hf hinj y hy
    -- move the value n out of the way
    have key : ∀ z, z < n → ∃ i, i < n ∧ (if f i = n then f n else f i) = z := by
      apply ih
      · intro i hi
        by_cases e : f i = n
        · rw [if_pos e]
          have h1 := hf n (by omega)
          have h2 : f n ≠ n := fun h => by have := hinj i n (by omega) (by omega) (e.trans h.symm); omega
          omega
        · rw [if_neg e]
          have := hf i (by omega); omega
      · intro i j hi hj h
        by_cases ei : f i = n
        · by_cases ej : f j = n
          · exact hinj i j (by omega) (by omega) (ei.trans ej.symm)
          · rw [if_pos ei, if_neg ej] at h
            have := hinj n j (by omega) (by omega) h; omega
        · by_cases ej : f j = n
          · rw [if_neg ei, if_pos ej] at h
            have := hinj i n (by omega) (by omega) h; omega
          · rw [if_neg ei, if_neg ej] at h
            exact hinj i j (by omega) (by omega) h
    by_cases hn : f n = n
    · by_cases e : y = n
      · exact ⟨n, by omega, by rw [hn, e]⟩
      · obtain ⟨i, hi, h⟩ := key y (by omega)
        by_cases ei : f i = n
        · have := hinj i n (by omega) (by omega) (ei.trans hn.symm); omega
        · rw [if_neg ei] at h; exact ⟨i, by omega, h⟩
    · by_cases e : y = n
      · obtain ⟨i, hi, h⟩ := key (f n) (by have := hf n (by omega); omega)
        by_cases ei : f i = n
        · exact ⟨i, by omega, by rw [ei, e]⟩
        · rw [if_neg ei] at h
          have := hinj i n (by omega) (by omega) h; omega
      · obtain ⟨i, hi, h⟩ := key y (by omega)
        by_cases ei : f i = n
        · rw [if_pos ei] at h; exact ⟨n, by omega, h⟩
        · rw [if_neg ei] at h; exact ⟨i, by omega, h⟩
/-- every element other than 0 is a power of 2 -/
theorem log {m x : Nat} (hm : IsM m) (hx : x < 2 ^ m) (h0 : x ≠ 0) : ∃ i, i < q m ∧ E m i = x := by
  have hp := Nat.two_pow_pos m
  obtain ⟨i, hi, h⟩ := onto (q m) (fun i => E m i - 1) (fun i hi => by
      have h1 := E_lt hm i; have h2 := E_ne hm i
      show E m i - 1 < q m
      unfold q; omega) (fun i j hi hj h => by
      have h1 := E_ne hm i; have h2 := E_ne hm j
      have h : E m i - 1 = E m j - 1 := h
      exact E_inj_lt hm hi hj (by omega)) (x - 1) (by unfold q; omega)
  have h : E m i - 1 = x - 1 := h
  have h2 := E_ne hm i
  exact ⟨i, hi, by omega⟩
theorem mul_ne {m a b : Nat} (hm : IsM m) (ha : a < 2 ^ m) (hb : b < 2 ^ m) (h1 : a ≠ 0) (h2 : b ≠ 0) : mul m a b ≠ 0 := by
  obtain ⟨i, _, rfl⟩ := log hm ha h1
  obtain ⟨j, _, rfl⟩ := log hm hb h2
  rw [E_add hm]; exact E_ne hm _
theorem mul_cancel {m a b c : Nat} (hm : IsM m) (ha : a < 2 ^ m) (hb : b < 2 ^ m) (hc : c < 2 ^ m) (h0 : a ≠ 0) (h : mul m a b = mul m a c) : b = c := by
  obtain ⟨i, _, rfl⟩ := log hm ha h0
  exact E_cancel hm hb hc h

/-! ### powers -/
def pw (m a : Nat) : Nat → Nat
  | 0 => 1
  | n + 1 => mul m (pw m a n) a
theorem pw_lt {m a : Nat} (hm : IsM m) (ha : a < 2 ^ m) : ∀ n, pw m a n < 2 ^ m
  | 0 => one_lt hm
  | n + 1 => mul_lt hm _ (pw_lt hm ha n)
theorem pw_E {m : Nat} (hm : IsM m) (i : Nat) : ∀ n, pw m (E m i) n = E m (i * n)
  | 0 => rfl
  | n + 1 => by rw [pw, pw_E hm i n, E_add hm, Nat.mul_succ]
theorem pw_add {m a : Nat} (hm : IsM m) (ha : a < 2 ^ m) (i : Nat) : ∀ j, pw m a (i + j) = mul m (pw m a i) (pw m a j)
  | 0 => by rw [pw, mul_one hm]; rfl
  | j + 1 => by
    show mul m (pw m a (i + j)) a = mul m (pw m a i) (mul m (pw m a j) a)
    rw [pw_add hm ha i j, mul_assoc hm (pw_lt hm ha i) (pw_lt hm ha j) ha]
theorem pw_sq {m a : Nat} (hm : IsM m) (ha : a < 2 ^ m) : ∀ n, pw m (mul m a a) n = pw m a (2 * n)
  | 0 => rfl
  | n + 1 => by
    show mul m (pw m (mul m a a) n) (mul m a a) = mul m (mul m (pw m a (2 * n)) a) a
    rw [pw_sq hm ha n, mul_assoc hm (pw_lt hm ha _) ha ha]
/-- the inverse -/
def inv (m a : Nat) : Nat := pw m a (q m - 1)
theorem inv_lt {m a : Nat} (hm : IsM m) (ha : a < 2 ^ m) : inv m a < 2 ^ m := pw_lt hm ha _
theorem mul_inv {m a : Nat} (hm : IsM m) (ha : a < 2 ^ m) (h0 : a ≠ 0) : mul m a (inv m a) = 1 := by
  obtain ⟨i, _, rfl⟩ := log hm ha h0
  rw [inv, pw_E hm, E_add hm]
  have hp := q_pos hm
  rw [show i + i * (q m - 1) = q m * i by rw [Nat.mul_sub_one, Nat.mul_comm (q m) i]; have := Nat.le_mul_of_pos_right i hp; omega]
  exact E_times hm (E_q hm) i
theorem inv_of {m a r : Nat} (hm : IsM m) (ha : a < 2 ^ m) (hr : r < 2 ^ m) (h : mul m a r = 1) : r = inv m a := by
  have h0 : a ≠ 0 := by intro e; rw [e, mul_zero_left] at h; cases h
  exact mul_cancel hm ha hr (inv_lt hm ha) h0 (h.trans (mul_inv hm ha h0).symm)

/-! ### reduction of polynomials with degree m at most, and Euclid's algorithm -/
def red (m x : Nat) : Nat := if x.testBit m then x ^^^ pol m else x
theorem red_xor (m a b : Nat) : red m (a ^^^ b) = red m a ^^^ red m b := by
  unfold red
  rw [Nat.testBit_xor]
  cases a.testBit m <;> cases b.testBit m <;> simp
  · rw [Nat.xor_assoc]
  · rw [Nat.xor_assoc, Nat.xor_assoc, Nat.xor_comm (pol m) b]
  · rw [x4]; simp
theorem red_lt {m x : Nat} (hm : IsM m) (h : x < 2 ^ (m + 1)) : red m x < 2 ^ m := by
  unfold red
  split
  · exact xor_top h (pol_lt hm) (by assumption) (pol_bit hm)
  · rename_i hb; exact lt_of_bit h (Bool.eq_false_iff.2 hb)
theorem red_id {m x : Nat} (h : x < 2 ^ m) : red m x = x := by
  unfold red; rw [Nat.testBit_lt_two_pow h]; rfl
theorem red_two (m x : Nat) : red m (2 * x) = sh m x := rfl
theorem red_pol {m : Nat} (hm : IsM m) : red m (pol m) = 0 := by unfold red; rw [pol_bit hm]; simp
theorem red_shift {m : Nat} (s x : Nat) (h : x <<< s < 2 ^ (m + 1)) : red m (x <<< s) = shN m s (red m x) := by
  induction s with
  | zero => rfl
  | succ s ih =>
    rw [Nat.shiftLeft_succ] at h ⊢
    have h' : x <<< s < 2 ^ m := by rw [Nat.pow_succ] at h; omega
    rw [red_two, shN_succ, ← ih (Nat.lt_of_lt_of_le h' (Nat.pow_le_pow_right (by decide) (by omega))), red_id h']
/-- z has degree d -/
def Deg (z d : Nat) : Prop := z.testBit d = true ∧ z < 2 ^ (d + 1)
theorem Deg.ge {z d : Nat} (h : Deg z d) : 2 ^ d ≤ z := Nat.ge_two_pow_of_testBit h.1
theorem deg_log {z : Nat} (h : z ≠ 0) : Deg z z.log2 := by
  refine ⟨?_, Nat.lt_log2_self⟩
  cases hb : z.testBit z.log2 with
  | true => rfl
  | false => have h1 := lt_of_bit Nat.lt_log2_self hb
             have h2 := Nat.log2_self_le h
             omega
theorem Deg.log {z d : Nat} (h : Deg z d) : z.log2 = d := by
  have h0 : z ≠ 0 := by have := h.ge; have := Nat.two_pow_pos d; omega
  have h1 := (Nat.log2_lt h0).2 h.2
  have h2 := (Nat.le_log2 h0).2 h.ge
  omega
theorem Deg.xor_lt {a b d : Nat} (h : Deg a d) (hb : b < 2 ^ d) : Deg (a ^^^ b) d :=
  ⟨by rw [Nat.testBit_xor, h.1, Nat.testBit_lt_two_pow hb]; rfl, Nat.xor_lt_two_pow h.2 (Nat.lt_of_lt_of_le hb (Nat.pow_le_pow_right (by decide) (by omega)))⟩
theorem Deg.xor_deg {a b d : Nat} (h : Deg a d) (hb : Deg b d) : a ^^^ b < 2 ^ d := xor_top h.2 hb.2 h.1 hb.1
theorem Deg.shl {z d : Nat} (h : Deg z d) (s : Nat) : Deg (z <<< s) (d + s) := by
  refine ⟨by rw [Nat.testBit_shiftLeft, Nat.add_sub_cancel, h.1]; simp, ?_⟩
  rw [Nat.shiftLeft_eq, show d + s + 1 = (d + 1) + s by omega, Nat.pow_add]
  exact Nat.mul_lt_mul_of_pos_right h.2 (Nat.two_pow_pos s)
theorem shl_lt {z k s : Nat} (h : z < 2 ^ k) : z <<< s < 2 ^ (k + s) := by
  rw [Nat.shiftLeft_eq, Nat.pow_add]
  exact Nat.mul_lt_mul_of_pos_right h (Nat.two_pow_pos s)

/-- what holds of Euclid's (u, v, x, y): the degrees, and what they stand for -/
structure Euc (m a u v x y du dv : Nat) : Prop where
  fu : Deg u du
  fv : Deg v dv
  hu : du ≤ m
  hv : dv ≤ m
  xy : (Deg x (m - dv) ∧ y < 2 ^ (m - du)) ∨ (Deg y (m - du) ∧ x < 2 ^ (m - dv))
  ux : mul m (red m x) a = red m u
  vy : mul m (red m y) a = red m v
theorem Euc.swap {m a u v x y du dv : Nat} (h : Euc m a u v x y du dv) : Euc m a v u y x dv du :=
  ⟨h.fv, h.fu, h.hv, h.hu, h.xy.elim .inr .inl, h.vy, h.ux⟩
theorem Euc.start {m a : Nat} (hm : IsM m) (ha : a < 2 ^ m) (h0 : a ≠ 0) : Euc m a a (pol m) 1 0 a.log2 m := by
  have hd := deg_log h0
  have hl : a.log2 < m := (Nat.log2_lt h0).2 ha
  refine ⟨hd, ⟨pol_bit hm, pol_lt hm⟩, by omega, Nat.le_refl _, .inl ⟨by rw [Nat.sub_self]; exact ⟨by decide, by decide⟩, Nat.two_pow_pos _⟩, ?_, ?_⟩
  · rw [red_id (one_lt hm), red_id ha, one_mul hm ha]
  · rw [red_pol hm, red_id (Nat.two_pow_pos m), mul_zero_left]
theorem Euc.x_lt {m a u v x y du dv : Nat} (h : Euc m a u v x y du dv) : x < 2 ^ (m + 1) ∧ y < 2 ^ (m + 1) ∧ u < 2 ^ (m + 1) ∧ v < 2 ^ (m + 1) := by
  have hp : ∀ {z k : Nat}, z < 2 ^ k → k ≤ m + 1 → z < 2 ^ (m + 1) := fun h hk => Nat.lt_of_lt_of_le h (Nat.pow_le_pow_right (by decide) hk)
  have h1 := h.hu; have h2 := h.hv
  rcases h.xy with ⟨hx, hy⟩ | ⟨hy, hx⟩
  · exact ⟨hp hx.2 (by omega), hp hy (by omega), hp h.fu.2 (by omega), hp h.fv.2 (by omega)⟩
  · exact ⟨hp hx (by omega), hp hy.2 (by omega), hp h.fu.2 (by omega), hp h.fv.2 (by omega)⟩
/-- one step, where u's degree is not the smaller one -/
theorem Euc.step {m a u v x y du dv : Nat} (hm : IsM m) (ha : a < 2 ^ m) (h0 : a ≠ 0) (h : Euc m a u v x y du dv) (hd : dv ≤ du) :
    u ^^^ v <<< (du - dv) < 2 ^ du ∧ Deg (x ^^^ y <<< (du - dv)) (m - dv) ∧
    mul m (red m (x ^^^ y <<< (du - dv))) a = red m (u ^^^ v <<< (du - dv)) ∧
    (u ^^^ v <<< (du - dv) ≠ 0 → Euc m a (u ^^^ v <<< (du - dv)) v (x ^^^ y <<< (du - dv)) y (u ^^^ v <<< (du - dv)).log2 dv) ∧
    (u ^^^ v <<< (du - dv) = 0 → x ^^^ y <<< (du - dv) = pol m ∧ v = 1) := by
  have hu := h.hu; have hv := h.hv
  have hvs : Deg (v <<< (du - dv)) du := by
    have := h.fv.shl (du - dv); rwa [show dv + (du - dv) = du by omega] at this
  have hu' : u ^^^ v <<< (du - dv) < 2 ^ du := h.fu.xor_deg hvs
  have hx' : Deg (x ^^^ y <<< (du - dv)) (m - dv) := by
    rcases h.xy with ⟨hx, hy⟩ | ⟨hy, hx⟩
    · refine hx.xor_lt ?_
      have := shl_lt (s := du - dv) hy
      rwa [show m - du + (du - dv) = m - dv by omega] at this
    · have := hy.shl (du - dv)
      rw [show m - du + (du - dv) = m - dv by omega] at this
      rw [Nat.xor_comm]
      exact this.xor_lt hx
  have hy' : y < 2 ^ (m - du + 1) := by
    rcases h.xy with ⟨hx, hy⟩ | ⟨hy, hx⟩
    · exact Nat.lt_of_lt_of_le hy (Nat.pow_le_pow_right (by decide) (by omega))
    · exact hy.2
  have hys : y <<< (du - dv) < 2 ^ (m + 1) := by
    have := shl_lt (s := du - dv) hy'
    exact Nat.lt_of_lt_of_le this (Nat.pow_le_pow_right (by decide) (by omega))
  have hvs2 : v <<< (du - dv) < 2 ^ (m + 1) := Nat.lt_of_lt_of_le hvs.2 (Nat.pow_le_pow_right (by decide) (by omega))
  have hf : mul m (red m (x ^^^ y <<< (du - dv))) a = red m (u ^^^ v <<< (du - dv)) := by
    rw [red_xor, red_xor, mul_left, h.ux, red_shift _ _ hys, red_shift _ _ hvs2, mul_shN, h.vy]
  refine ⟨hu', hx', hf, fun hne => ?_, fun he => ?_⟩
  · have hd' := deg_log hne
    have hl : (u ^^^ v <<< (du - dv)).log2 < du := (Nat.log2_lt hne).2 hu'
    exact ⟨hd', h.fv, by omega, hv, .inl ⟨hx', Nat.lt_of_lt_of_le hy' (Nat.pow_le_pow_right (by decide) (by omega))⟩, hf, h.vy⟩
  · rw [he, red_id (Nat.two_pow_pos m)] at hf
    have hlt : x ^^^ y <<< (du - dv) < 2 ^ (m + 1) := Nat.lt_of_lt_of_le hx'.2 (Nat.pow_le_pow_right (by decide) (by omega))
    have hr : red m (x ^^^ y <<< (du - dv)) = 0 := by
      apply Decidable.byContradiction
      intro hn
      exact mul_ne hm (red_lt hm hlt) ha hn h0 hf
    have hge := hx'.ge
    have hpos := Nat.two_pow_pos (m - dv)
    generalize x ^^^ y <<< (du - dv) = X at *
    unfold red at hr
    split at hr
    · rename_i hb
      have hX : X = pol m := by
        have := congrArg (· ^^^ pol m) hr
        simpa [Nat.xor_assoc] using this
      refine ⟨hX, ?_⟩
      have hdm : m - dv = m := by
        have h1 := hx'.log
        have h2 : Deg X m := ⟨hb, hlt⟩
        rw [← h1, h2.log]
      have hv0 : dv = 0 := by rcases hm with rfl | rfl <;> omega
      have h2 := h.fv
      rw [hv0] at h2
      have h3 := h2.2
      have h4 := h2.ge
      simp at h3 h4
      omega
    · omega
end Go.Proofs.YtghinmlpkgcdiaaDoor.Fld
