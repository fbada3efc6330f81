/- The plain mathematics of the fields: combinations are linear. -/
import Derived.Test.YtghinmlpkgcdiaaDoorFldS
namespace Go.Proofs.YtghinmlpkgcdiaaDoor.Fld
set_option linter.unusedSimpArgs false
set_option linter.unusedVariables false

theorem xorL_comm4 {a b c d : List UInt8} (h1 : a.length = b.length) (h2 : a.length = c.length) (h3 : a.length = d.length) : xorL (xorL a b) (xorL c d) = xorL (xorL a c) (xorL b d) := by
  have e1 : (xorL a b).length = a.length := xorL_length h1
  have e2 : (xorL c d).length = a.length := (xorL_length (by omega)).trans h2.symm
  have e3 : (xorL a c).length = a.length := xorL_length h2
  have e4 : (xorL b d).length = a.length := (xorL_length (by omega)).trans h1.symm
  have e5 : (xorL (xorL a b) (xorL c d)).length = a.length := (xorL_length (by omega)).trans e1
  have e6 : (xorL (xorL a c) (xorL b d)).length = a.length := (xorL_length (by omega)).trans e3
  refine list_ext_get (by omega) fun p hp => ?_
  rw [e5] at hp
  rw [xorL_get (a := xorL a b) (by omega) (by omega), xorL_get (a := xorL a c) (by omega) (by omega), xorL_get h1 hp, xorL_get (a := c) (by omega) (by omega), xorL_get h2 hp, xorL_get (a := b) (by omega) (by omega)]
  simp only [Option.getD_some]
  congr 1
  rw [UInt8.xor_assoc, ← UInt8.xor_assoc (b[p]?.getD 0), UInt8.xor_comm (b[p]?.getD 0), UInt8.xor_assoc, ← UInt8.xor_assoc]
theorem xorL_self (n : Nat) : xorL (List.replicate n 0) (List.replicate n 0) = List.replicate n 0 := by
  simp [xorL]
theorem byte_join (p q r s : UInt8) : 256 * (p ^^^ q).toNat + (r ^^^ s).toNat = (256 * p.toNat + r.toNat) ^^^ (256 * q.toNat + s.toNat) := by
  have h1 := p.toNat_lt; have h2 := q.toNat_lt; have h3 := r.toNat_lt; have h4 := s.toNat_lt
  rw [UInt8.toNat_xor, UInt8.toNat_xor]
  have e : ∀ a b : Nat, b < 256 → 256 * a + b = a <<< 8 ||| b := fun a b hb => by
    rw [Nat.shiftLeft_eq, Nat.mul_comm a, ← Nat.two_pow_add_eq_or_of_lt (i := 8) (by simpa using hb) a]
  rw [e _ _ (Nat.xor_lt_two_pow (n := 8) h3 h4), e _ _ h3, e _ _ h4]
  apply Nat.eq_of_testBit_eq
  intro i
  simp only [Nat.testBit_or, Nat.testBit_xor, Nat.testBit_shiftLeft]
  by_cases hi : 8 ≤ i
  · have z : ∀ x : Nat, x < 256 → x.testBit i = false := fun x hx => Nat.testBit_lt_two_pow (Nat.lt_of_lt_of_le hx (by rw [show 256 = 2 ^ 8 by rfl]; exact Nat.pow_le_pow_right (by decide) hi))
    simp [hi, z _ h3, z _ h4]
  · simp [hi]
theorem xorL_getD {a b : List UInt8} (h : a.length = b.length) (p : Nat) : (xorL a b)[p]?.getD 0 = (a[p]?.getD 0) ^^^ (b[p]?.getD 0) := by
  by_cases hp : p < a.length
  · rw [xorL_get h hp]; rfl
  · rw [List.getElem?_eq_none (by rw [xorL_length h]; omega), List.getElem?_eq_none (by omega), List.getElem?_eq_none (by omega)]; rfl
theorem symAt_xor {m : Nat} {a b : List UInt8} (h : a.length = b.length) (i : Nat) : symAt m (xorL a b) i = symAt m a i ^^^ symAt m b i := by
  unfold symAt
  rw [xorL_getD h, xorL_getD h]
  split
  · rw [UInt8.toNat_xor]
  · exact byte_join _ _ _ _
theorem ofNat_xor (x y : Nat) : UInt8.ofNat (x ^^^ y) = UInt8.ofNat x ^^^ UInt8.ofNat y := by
  apply UInt8.toNat_inj.1
  rw [UInt8.toNat_xor, UInt8.toNat_ofNat', UInt8.toNat_ofNat', UInt8.toNat_ofNat']
  rw [show (2 : Nat) ^ 8 = 2 ^ 8 by rfl, Nat.xor_mod_two_pow]
theorem xor_div (x y j : Nat) : (x ^^^ y) / 256 ^ j = (x / 256 ^ j) ^^^ (y / 256 ^ j) := by
  rw [show (256 : Nat) = 2 ^ 8 by rfl, ← Nat.pow_mul, ← Nat.shiftRight_eq_div_pow, ← Nat.shiftRight_eq_div_pow, ← Nat.shiftRight_eq_div_pow, Nat.shiftRight_xor_distrib]
/-- scaling a sum -/
theorem scl_xor (m c : Nat) {a b : List UInt8} (h : a.length = b.length) : scl m c (xorL a b) = xorL (scl m c a) (scl m c b) := by
  have h2 : (scl m c a).length = (scl m c b).length := by rw [scl_length, scl_length, h]
  refine list_ext_get (by rw [xorL_length h2, scl_length, scl_length, xorL_length h]) fun p hp => ?_
  rw [scl_length, xorL_length h] at hp
  rw [scl_get _ _ _ (by rw [xorL_length h]; exact hp), xorL_get h2 (by rw [scl_length]; exact hp), scl_get _ _ _ hp, scl_get _ _ _ (by omega)]
  unfold sclB
  rw [symAt_xor h, mul_right, xor_div, ofNat_xor]; rfl
theorem scl_zero (m c n : Nat) : scl m c (List.replicate n 0) = List.replicate n 0 := by
  refine list_ext_get (by rw [scl_length]) fun p hp => ?_
  rw [scl_length, List.length_replicate] at hp
  rw [scl_get _ _ _ (by simpa using hp)]
  have : ∀ i, symAt m (List.replicate n (0 : UInt8)) i = 0 := fun i => by
    unfold symAt
    have z : ∀ j : Nat, ((List.replicate n (0 : UInt8))[j]?.getD 0) = 0 := fun j => by
      rw [List.getElem?_replicate]; split <;> rfl
    rw [z, z]; split <;> rfl
  unfold sclB
  rw [this, mul_zero_right, Nat.zero_div, List.getElem?_replicate, if_pos hp]; rfl
/-- the symbols of a scaled string -/
theorem symAt_scl {m : Nat} (hm : IsM m) (c : Nat) (hc : c < 2 ^ m) (l : List UInt8) (k : Nat) (hk : k * size m + size m ≤ l.length) : symAt m (scl m c l) (k * size m) = mul m c (symAt m l (k * size m)) := by
  have hlt := mul_lt hm (symAt m l (k * size m)) hc
  rcases size_val hm with ⟨h1, rfl⟩ | ⟨h1, rfl⟩
  · rw [h1] at hk
    have e := sclB_at hm c l k 0 (by rw [h1]; decide)
    rw [h1] at e hlt ⊢
    have hk2 : k * 1 < l.length := by omega
    have : symAt 8 (scl 8 c l) (k * 1) = (sclB 8 c l (k * 1 + (1 - 1 - 0))).toNat := by
      conv => lhs; unfold symAt
      rw [if_pos rfl, scl_get _ _ _ hk2]; rfl
    rw [this, e, UInt8.toNat_ofNat', Nat.pow_zero, Nat.div_one, Nat.mod_eq_of_lt hlt]
  · rw [h1] at hk
    have e0 := sclB_at hm c l k 0 (by rw [h1]; decide)
    have e1 := sclB_at hm c l k 1 (by rw [h1]; decide)
    rw [h1] at e0 e1 hlt ⊢
    have : symAt 16 (scl 16 c l) (k * 2) = 256 * (sclB 16 c l (k * 2 + (2 - 1 - 1))).toNat + (sclB 16 c l (k * 2 + (2 - 1 - 0))).toNat := by
      conv => lhs; unfold symAt
      rw [if_neg (by decide), scl_get _ _ _ (by omega), scl_get _ _ _ (by omega)]; rfl
    rw [this, e0, e1, UInt8.toNat_ofNat', UInt8.toNat_ofNat']
    rw [show (2 : Nat) ^ 16 = 65536 by rfl] at hlt
    rw [show (2 : Nat) ^ 8 = 256 by rfl, Nat.pow_zero, Nat.div_one]
    omega
/-- scalings commute -/
theorem scl_scl {m : Nat} (hm : IsM m) (c d : Nat) (hc : c < 2 ^ m) (hd : d < 2 ^ m) (l : List UInt8) (hl : l.length % size m = 0) : scl m d (scl m c l) = scl m c (scl m d l) := by
  refine list_ext_get (by simp only [scl_length]) fun p hp => ?_
  rw [scl_length, scl_length] at hp
  rw [scl_get _ _ _ (by rw [scl_length]; exact hp), scl_get _ _ _ (by rw [scl_length]; exact hp)]
  have hk : p / size m * size m + size m ≤ l.length := by
    have hs := size_pos hm
    have h1 : p < l.length / size m * size m := by
      have := Nat.div_add_mod l.length (size m)
      rw [hl, Nat.mul_comm] at this; omega
    have h2 : p / size m < l.length / size m := by
      rw [Nat.div_lt_iff_lt_mul hs]; exact h1
    have h3 : (p / size m + 1) * size m ≤ l.length / size m * size m := Nat.mul_le_mul_right _ h2
    have h4 := Nat.div_mul_le_self l.length (size m)
    rw [Nat.add_mul, Nat.one_mul] at h3
    omega
  unfold sclB
  have hsl := symAt_lt hm l (p / size m * size m)
  rw [symAt_scl hm c hc l _ hk, symAt_scl hm d hd l _ hk, ← mul_assoc hm hd hc hsl, ← mul_assoc hm hc hd hsl, mul_comm hm hd hc]
/-- the first k pairs of coefficients and strings -/
def rowsOf (cf : Nat → Nat) (x : Nat → List UInt8) (k : Nat) : List (Nat × List UInt8) := (List.range k).map fun i => (cf i, x i)
theorem rowsOf_succ (cf : Nat → Nat) (x : Nat → List UInt8) (k : Nat) : rowsOf cf x (k + 1) = rowsOf cf x k ++ [(cf k, x k)] := by
  unfold rowsOf; rw [List.range_succ, List.map_append]; rfl
theorem rows_length {m n : Nat} {cf : Nat → Nat} {x : Nat → List UInt8} (k : Nat) (hx : ∀ i, i < k → (x i).length = n) : (combTo m n (rowsOf cf x k)).length = n := combTo_length m n _ fun p hp => by
  obtain ⟨i, hi, rfl⟩ := List.mem_map.1 hp
  exact hx i (List.mem_range.1 hi)
theorem comb_sum {m n : Nat} (cf : Nat → Nat) (x y : Nat → List UInt8) (k : Nat) (hx : ∀ i, i < k → (x i).length = n) (hy : ∀ i, i < k → (y i).length = n) :
    combTo m n (rowsOf cf (fun i => xorL (x i) (y i)) k) = xorL (combTo m n (rowsOf cf x k)) (combTo m n (rowsOf cf y k)) := by
  induction k with
  | zero => exact (xorL_self n).symm
  | succ k ih =>
    have h1 := hx k (by omega)
    have h2 := hy k (by omega)
    have hx' : ∀ i, i < k → (x i).length = n := fun i hi => hx i (by omega)
    have hy' : ∀ i, i < k → (y i).length = n := fun i hi => hy i (by omega)
    rw [rowsOf_succ, rowsOf_succ, rowsOf_succ, combTo_snoc, combTo_snoc, combTo_snoc, ih hx' hy', scl_xor m (cf k) (by omega : (x k).length = (y k).length)]
    have l1 := rows_length (m := m) (cf := cf) k hx'
    have l2 := rows_length (m := m) (cf := cf) k hy'
    exact xorL_comm4 (by omega) (by rw [scl_length]; omega) (by rw [scl_length]; omega)
theorem comb_scl {m n : Nat} (hm : IsM m) (hn : n % size m = 0) (c : Nat) (hc : c < 2 ^ m) (cf : Nat → Nat) (x : Nat → List UInt8) (k : Nat) (hcf : ∀ i, i < k → cf i < 2 ^ m) (hx : ∀ i, i < k → (x i).length = n) :
    combTo m n (rowsOf cf (fun i => scl m c (x i)) k) = scl m c (combTo m n (rowsOf cf x k)) := by
  induction k with
  | zero => exact (scl_zero m c n).symm
  | succ k ih =>
    have h1 := hx k (by omega)
    have hx' : ∀ i, i < k → (x i).length = n := fun i hi => hx i (by omega)
    rw [rowsOf_succ, rowsOf_succ, combTo_snoc, combTo_snoc, ih (fun i hi => hcf i (by omega)) hx', scl_xor m c (by rw [rows_length k hx', scl_length, h1])]
    rw [scl_scl hm c (cf k) hc (hcf k (by omega)) _ (by rw [h1]; exact hn)]
end Go.Proofs.YtghinmlpkgcdiaaDoor.Fld
