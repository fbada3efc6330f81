/- The plain mathematics of the fields, third part: powers with integer exponents. -/
import Derived.Test.YtdmcdgpigpekhaaDoorG8
namespace Go.Proofs.YtdmcdgpigpekhaaDoor

/-- the power with an integer exponent, as both texts reckon it -/
def powI (m x : Nat) (n : Int) : Nat := Fld.pw m x (expo (2 ^ m - 1) n).toNat
theorem q_int {m : Nat} (hm : Fld.IsM m) : ((2 : Int) ^ m - 1) = (Fld.q m : Int) ∧ 0 < Fld.q m := by rcases hm with rfl | rfl <;> decide
theorem expo_emod {q : Int} (hq : 0 < q) (n : Int) : expo q n = n % q := by
  obtain ⟨h1, h2, h3, h4⟩ := expo_facts hq n
  have h5 : 0 ≤ n.tmod q + q := by omega
  unfold expo
  rw [Int.tmod_eq_emod_of_nonneg h5, Int.add_emod_right]
  have h6 := Int.tmod_add_mul_tdiv n q
  conv => rhs; rw [← h6]
  rw [Int.add_mul_emod_self_left]
theorem powI_E {m : Nat} (hm : Fld.IsM m) (t : Nat) (n : Int) : powI m (Fld.E m t) n = Fld.E m (t * (n % (Fld.q m : Int)).toNat) := by
  obtain ⟨h1, h2⟩ := q_int hm
  unfold powI
  rw [h1, expo_emod (by omega), Fld.pw_E hm]
theorem E_cong {m : Nat} (hm : Fld.IsM m) (t : Nat) {i j : Nat} (h : i % Fld.q m = j % Fld.q m) : Fld.E m (t * i) = Fld.E m (t * j) := by
  rw [Fld.E_eq_iff hm, Nat.mul_mod, h, ← Nat.mul_mod]
theorem powI_add {m x : Nat} (hm : Fld.IsM m) (hx : x < 2 ^ m) (h0 : x ≠ 0) (i j : Int) : Fld.mul m (powI m x i) (powI m x j) = powI m x (i + j) := by
  obtain ⟨t, _, rfl⟩ := Fld.log hm hx h0
  obtain ⟨_, hq⟩ := q_int hm
  rw [powI_E hm, powI_E hm, powI_E hm, Fld.E_add hm, ← Nat.mul_add]
  apply E_cong hm
  have a1 := Int.emod_nonneg i (show (Fld.q m : Int) ≠ 0 by omega)
  have a2 := Int.emod_nonneg j (show (Fld.q m : Int) ≠ 0 by omega)
  have a3 := Int.emod_nonneg (i + j) (show (Fld.q m : Int) ≠ 0 by omega)
  have e1 : (((i % (Fld.q m : Int)).toNat + (j % (Fld.q m : Int)).toNat : Nat) : Int) = i % (Fld.q m : Int) + j % (Fld.q m : Int) := by omega
  have e2 : (((i + j) % (Fld.q m : Int)).toNat : Int) = (i + j) % (Fld.q m : Int) := by omega
  apply Int.ofNat_inj.1
  rw [Int.natCast_emod, Int.natCast_emod, e1, e2, Int.emod_emod_of_dvd _ (Int.dvd_refl _), ← Int.add_emod]
theorem powI_lt {m x : Nat} (hm : Fld.IsM m) (hx : x < 2 ^ m) (n : Int) : powI m x n < 2 ^ m := Fld.pw_lt hm hx _
theorem powI_zero {m x : Nat} (hm : Fld.IsM m) : powI m x 0 = 1 := by
  obtain ⟨h1, h2⟩ := q_int hm
  unfold powI
  rw [h1, expo_emod (by omega)]
  simp [Fld.pw]
theorem powI_q {m x : Nat} (hm : Fld.IsM m) : powI m x (2 ^ m - 1) = 1 := by
  obtain ⟨h1, h2⟩ := q_int hm
  unfold powI
  rw [h1, expo_emod (by omega), Int.emod_self]; rfl
theorem powI_neg {m x : Nat} (hm : Fld.IsM m) (hx : x < 2 ^ m) (h0 : x ≠ 0) (i : Int) : powI m x (-i) = Fld.inv m (powI m x i) := by
  apply Fld.inv_of hm (powI_lt hm hx _) (powI_lt hm hx _)
  rw [powI_add hm hx h0, show i + -i = 0 by omega, powI_zero hm]
theorem powI_ne {m x : Nat} (hm : Fld.IsM m) (hx : x < 2 ^ m) (h0 : x ≠ 0) (i : Int) : powI m x i ≠ 0 := by
  intro h
  have := powI_add hm hx h0 i (-i)
  rw [h, Fld.mul_zero_left, show i + -i = 0 by omega, powI_zero hm] at this
  cases this
theorem powI_two {m : Nat} (hm : Fld.IsM m) {t : Nat} (h : t < Fld.q m) : powI m 2 (t : Int) = Fld.E m t := by
  have e : (2 : Nat) = Fld.E m 1 := by rcases hm with rfl | rfl <;> decide
  rw [e, powI_E hm, Nat.one_mul]
  congr 1
  rw [← Int.natCast_emod, Int.toNat_natCast, Nat.mod_eq_of_lt h]
theorem powX_at {m x : Nat} (hm : Fld.IsM m) (hx : x < 2 ^ m) (h0 : x ≠ 0) (n : Int) : powX (m : Int) (x : Int) n = (powI m x n : Int) ∧ powE (m : Int) (x : Int) n = 0 := by
  have hb := allB_one hm hx
  unfold powX powE
  rw [if_pos hb, if_neg (by omega), if_pos hb, if_neg (by omega)]
  exact ⟨rfl, rfl⟩
end Go.Proofs.YtdmcdgpigpekhaaDoor
