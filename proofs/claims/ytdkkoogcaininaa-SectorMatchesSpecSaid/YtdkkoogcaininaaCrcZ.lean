/- The plain mathematics of CRC-32C, third part: a linear map by the images of the single bits; powers of the byte step. -/
import Derived.Test.YtdkkoogcaininaaCrcM
namespace Go.Proofs.Ytdkkoogcaininaa.Crc

theorem lsb (r : BitVec 32) : r &&& 1#32 = if r.getLsbD 0 then 1#32 else 0#32 := by
  apply BitVec.eq_of_toNat_eq
  rw [BitVec.toNat_and]
  show r.toNat &&& 1 = _
  have : r.getLsbD 0 = decide (r.toNat % 2 = 1) := by rw [BitVec.getLsbD]; simp [Nat.testBit_zero]
  rw [this, Nat.and_one_is_mod]
  by_cases h : r.toNat % 2 = 1
  · simp [h]
  · have : r.toNat % 2 = 0 := by omega
    simp [this]
/-- the sum of the images of the bits below k -/
def ap (M : Nat → BitVec 32) (r : BitVec 32) : Nat → BitVec 32
  | 0 => 0#32
  | k + 1 => ap M r k ^^^ (M k &&& -(r >>> k &&& 1#32))
def low (r : BitVec 32) : Nat → BitVec 32
  | 0 => 0#32
  | k + 1 => low r k ^^^ (if r.getLsbD k then 1#32 <<< k else 0#32)
theorem one_shl (k j : Nat) (hj : j < 32) : (1#32 <<< k).getLsbD j = decide (j = k) := by
  rw [BitVec.getLsbD_shiftLeft]
  by_cases h : j = k
  · subst h; simp [hj]
  · by_cases h2 : j < k
    · simp [h2, h, hj]
    · have e : j - k = (j - k - 1) + 1 := by omega
      have h3 : (1#32).getLsbD (j - k) = false := by
        rw [e, BitVec.getLsbD_ofNat, Nat.testBit_succ]; simp
      simp [h, h2, h3, hj]
theorem low_bit (r : BitVec 32) (k : Nat) : ∀ j, j < 32 → (low r k).getLsbD j = (decide (j < k) && r.getLsbD j) := by
  induction k with
  | zero => intro j _; simp [low]
  | succ k ih =>
    intro j hj
    rw [low, BitVec.getLsbD_xor, ih j hj]
    by_cases hjk : j = k
    · subst hjk
      cases h : r.getLsbD j
      · simp
      · rw [if_pos rfl, one_shl _ _ hj]; simp
    · have e : (if r.getLsbD k then 1#32 <<< k else 0#32).getLsbD j = false := by
        split
        · rw [one_shl _ _ hj]; simp [hjk]
        · simp
      rw [e]
      by_cases h : j < k
      · have h2 : j < k + 1 := by omega
        simp [h, h2]
      · have h2 : ¬ j < k + 1 := by omega
        simp [h, h2]
theorem low_all (r : BitVec 32) : low r 32 = r := by
  apply BitVec.eq_of_getLsbD_eq
  intro i hi
  rw [low_bit r 32 i hi]; simp [hi]
theorem mask_bit (m r : BitVec 32) (k : Nat) : m &&& -(r >>> k &&& 1#32) = if r.getLsbD k then m else 0#32 := by
  rw [lsb, BitVec.getLsbD_ushiftRight, Nat.add_zero]
  cases r.getLsbD k
  · simp
  · have : -(1#32) = BitVec.allOnes 32 := by decide
    rw [if_pos rfl, if_pos rfl, this, BitVec.and_allOnes]
theorem ap_lin {L : BitVec 32 → BitVec 32} (hL : Lin L) (M : Nat → BitVec 32) (hM : ∀ i, i < 32 → M i = L (1#32 <<< i)) (r : BitVec 32) :
    ∀ k, k ≤ 32 → ap M r k = L (low r k) := by
  intro k
  induction k with
  | zero => intro _; exact hL.zero.symm
  | succ k ih =>
    intro hk
    rw [ap, low, hL, ih (by omega), mask_bit, hM k (by omega)]
    congr 1
    split
    · rfl
    · exact hL.zero.symm
theorem ap_all {L : BitVec 32 → BitVec 32} (hL : Lin L) (M : Nat → BitVec 32) (hM : ∀ i, i < 32 → M i = L (1#32 <<< i)) (r : BitVec 32) :
    ap M r 32 = L r := by
  rw [ap_lin hL M hM r 32 (Nat.le_refl _), low_all]
/-- the images of the bits under 2^j byte steps -/
def mat (j : Nat) (i : Nat) : BitVec 32 := it s8 (2 ^ j) (1#32 <<< i)
theorem mat_ap (j : Nat) (r : BitVec 32) : ap (mat j) r 32 = it s8 (2 ^ j) r := ap_all (s8_lin.it _) _ (fun _ _ => rfl) r
theorem mat_next (j i : Nat) : ap (mat j) (mat j i) 32 = mat (j + 1) i := by
  rw [mat_ap]
  unfold mat
  rw [← it_add]
  congr 1
  rw [Nat.pow_succ]; omega
/-- doubling: what is still to be fed, and what one step feeds -/
theorem bit_step (n j : Nat) (r : BitVec 32) : it s8 (n * 2 ^ j) r = it s8 (n / 2 * 2 ^ (j + 1)) (if n % 2 = 1 then it s8 (2 ^ j) r else r) := by
  have e : n * 2 ^ j = (n % 2) * 2 ^ j + n / 2 * 2 ^ (j + 1) := by
    rw [Nat.pow_succ, ← Nat.mul_assoc, Nat.mul_comm (n / 2 * 2 ^ j) 2, ← Nat.mul_assoc, ← Nat.add_mul]
    congr 1; omega
  rw [e, it_add]
  congr 1
  rcases Nat.mod_two_eq_zero_or_one n with h | h
  · simp [h, it]
  · simp [h]
end Go.Proofs.Ytdkkoogcaininaa.Crc
