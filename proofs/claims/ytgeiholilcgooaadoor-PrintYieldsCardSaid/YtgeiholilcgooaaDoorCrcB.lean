/- The plain mathematics of CRC-32C, second part: one, two or three inverted bits of at most 64 bytes are seen. -/
import Derived.Test.YtgeiholilcgooaaDoorCrcM
namespace Go.Proofs.YtgeiholilcgooaaDoor.Crc

/-- bit p of a byte -/
def bitOf (p : Nat) : UInt8 := UInt8.ofNat (2 ^ p)
/-- inverting bit p of a string -/
def flip : Nat → List UInt8 → List UInt8
  | p, x :: l => if p < 8 then (x ^^^ bitOf p) :: l else x :: flip (p - 8) l
  | _, [] => []
theorem flip_length (l : List UInt8) : ∀ p, (flip p l).length = l.length := by
  induction l with
  | nil => intro p; rfl
  | cons x l ih =>
    intro p
    unfold flip
    split
    · rfl
    · simp [ih]
theorem flip_set (l : List UInt8) : ∀ p, p < 8 * l.length → flip p l = l.set (p / 8) (l[p / 8]?.getD 0 ^^^ bitOf (p % 8)) := by
  induction l with
  | nil => intro p h; simp at h
  | cons x l ih =>
    intro p h
    unfold flip
    by_cases hp : p < 8
    · have e1 : p / 8 = 0 := by omega
      have e2 : p % 8 = p := by omega
      simp [hp, e1, e2]
    · have e1 : p / 8 = (p - 8) / 8 + 1 := by omega
      have e2 : p % 8 = (p - 8) % 8 := by omega
      have hl : p - 8 < 8 * l.length := by simp at h; omega
      rw [if_neg hp, ih _ hl, e1, e2]
      simp
/-- the trace of bit p of a string of n bytes -/
def E (n p : Nat) : BitVec 32 := it s1 (8 * n - p) 1#32
theorem up_bit (p : Nat) (h : p < 8) : it s1 p (up (bitOf p)) = 1#32 := by
  have : ∀ j : Fin 8, it s1 j.val (up (bitOf j.val)) = 1#32 := by decide +kernel
  exact this ⟨p, h⟩
theorem flip_feed (l : List UInt8) : ∀ (p : Nat) (r : BitVec 32), p < 8 * l.length → feed r (flip p l) = feed r l ^^^ E l.length p := by
  induction l with
  | nil => intro p r h; simp at h
  | cons x l ih =>
    intro p r h
    unfold flip
    by_cases hp : p < 8
    · rw [if_pos hp]
      simp only [feed]
      rw [up_xor, ← BitVec.xor_assoc, s8_lin, feed_xor]
      congr 1
      unfold E
      have e : it s8 l.length (s8 (up (bitOf p))) = it s8 (l.length + 1) (up (bitOf p)) := rfl
      rw [e]
      have e2 : it s8 (l.length + 1) (up (bitOf p)) = it s1 (8 * (l.length + 1)) (up (bitOf p)) := by rw [it_mul]; rfl
      rw [e2]
      have e3 : 8 * (l.length + 1) = p + (8 * (l.length + 1) - p) := by omega
      rw [e3, it_add, up_bit p hp]
      simp only [List.length_cons]
    · rw [if_neg hp]
      simp only [feed, List.length_cons]
      rw [ih _ _ (by simp at h; omega)]
      congr 1
      unfold E
      congr 1
      omega
theorem flip_crc (l : List UInt8) (p : Nat) (h : p < 8 * l.length) : crc (flip p l) = crc l ^^^ E l.length p := by
  unfold crc ext
  rw [flip_feed _ _ _ h]
  apply BitVec.eq_of_getLsbD_eq
  intro i hi
  simp only [BitVec.getLsbD_xor, BitVec.getLsbD_not, hi, decide_true, Bool.true_and]
  cases (feed (~~~0#32) l).getLsbD i <;> cases (E l.length p).getLsbD i <;> rfl

/-- parity of the first n bits -/
def par : Nat → BitVec 32 → Bool
  | 0, _ => false
  | n + 1, r => par n r ^^ r.getLsbD n
theorem par_xor (n : Nat) (a b : BitVec 32) : par n (a ^^^ b) = (par n a ^^ par n b) := by
  induction n with
  | zero => rfl
  | succ n ih =>
    simp only [par]
    rw [ih, BitVec.getLsbD_xor]
    cases par n a <;> cases par n b <;> cases a.getLsbD n <;> cases b.getLsbD n <;> rfl
theorem par_shift (n : Nat) (r : BitVec 32) : (par n (r >>> 1) ^^ r.getLsbD 0) = par (n + 1) r := by
  induction n with
  | zero => simp [par]
  | succ n ih =>
    have e : par (n + 1 + 1) r = (par (n + 1) r ^^ r.getLsbD (n + 1)) := rfl
    rw [e, ← ih, par]
    rw [BitVec.getLsbD_ushiftRight, Nat.add_comm 1 n]
    cases par n (r >>> 1) <;> cases r.getLsbD 0 <;> cases r.getLsbD (n + 1) <;> rfl
theorem par_s1 (r : BitVec 32) : par 32 (s1 r) = par 32 r := by
  have h := par_shift 32 r
  have h32 : par 33 r = par 32 r := by
    rw [par, BitVec.getLsbD_of_ge _ _ (by omega)]; simp
  rw [h32] at h
  have hP : par 32 P = true := by decide +kernel
  unfold s1
  cases h0 : r.getLsbD 0 with
  | true => rw [if_pos rfl, par_xor, hP, ← h, h0]
  | false => rw [if_neg (by simp), ← h, h0]; simp
theorem par_it (n : Nat) : ∀ r, par 32 (it s1 n r) = par 32 r := by
  induction n with
  | zero => intro r; rfl
  | succ n ih => intro r; simp only [it]; rw [ih, par_s1]
theorem par_E (n p : Nat) : par 32 (E n p) = true := by
  unfold E
  rw [par_it]; decide +kernel

def away : Nat → BitVec 32 → Bool
  | 0, _ => true
  | n + 1, r => r != 1#32 && away n (s1 r)
theorem away_it (n : Nat) : ∀ r, away n r = true → ∀ k, k < n → it s1 k r ≠ 1#32 := by
  induction n with
  | zero => intro r _ k hk; omega
  | succ n ih =>
    intro r h k hk
    simp only [away, Bool.and_eq_true, bne_iff_ne] at h
    rcases k with _ | k
    · exact h.1
    · exact ih _ h.2 k (by omega)
theorem order (k : Nat) (h0 : 0 < k) (h : k ≤ 512) : it s1 k 1#32 ≠ 1#32 := by
  have hc : away 512 (s1 1#32) = true := by decide +kernel
  obtain ⟨j, rfl⟩ : ∃ j, k = j + 1 := ⟨k - 1, by omega⟩
  exact away_it 512 _ hc j (by omega)
theorem it_inj {a b : BitVec 32} (n : Nat) (h : it s1 n a = it s1 n b) : a = b :=
  (s1_lin.it n).inj (it_zero (fun _ => s1_zero) n) h
theorem E_ne_lt (n p q : Nat) (hn : n ≤ 64) (hp : p < 8 * n) (hpq : p < q) (hq : q < 8 * n) : E n p ≠ E n q := by
  unfold E
  intro h
  have e : 8 * n - p = (q - p) + (8 * n - q) := by omega
  rw [e, it_add] at h
  exact order (q - p) (by omega) (by omega) (it_inj _ h)
theorem E_ne (n p q : Nat) (hn : n ≤ 64) (hp : p < 8 * n) (hq : q < 8 * n) (h : p ≠ q) : E n p ≠ E n q := by
  rcases Nat.lt_or_gt_of_ne h with h | h
  · exact E_ne_lt n p q hn hp h hq
  · exact (E_ne_lt n q p hn hq h hp).symm
theorem par_zero : par 32 0#32 = false := by decide +kernel
theorem xor_cancel {c d : BitVec 32} (h : c ^^^ d = c) : d = 0#32 := by
  have : c ^^^ (c ^^^ d) = c ^^^ c := by rw [h]
  rw [← BitVec.xor_assoc] at this
  simpa using this

theorem bits1 (l : List UInt8) (x : Nat) (hx : x < 8 * l.length) : crc (flip x l) ≠ crc l := by
  rw [flip_crc _ _ hx]
  intro h
  have h1 := xor_cancel h
  have := par_E l.length x
  rw [h1, par_zero] at this
  cases this
theorem bits2 (l : List UInt8) (x y : Nat) (hn : l.length ≤ 64) (hx : x < 8 * l.length) (hy : y < 8 * l.length) (h : y ≠ x) : crc (flip y (flip x l)) ≠ crc l := by
  rw [flip_crc _ _ (by rw [flip_length]; exact hy), flip_length, flip_crc _ _ hx, BitVec.xor_assoc]
  intro h1
  exact E_ne _ _ _ hn hx hy (Ne.symm h) (xor_eq_zero (xor_cancel h1))
theorem bits3 (l : List UInt8) (x y z : Nat) (hx : x < 8 * l.length) (hy : y < 8 * l.length) (hz : z < 8 * l.length) :
    crc (flip z (flip y (flip x l))) ≠ crc l := by
  rw [flip_crc _ _ (by rw [flip_length, flip_length]; exact hz), flip_length, flip_length, flip_crc _ _ (by rw [flip_length]; exact hy), flip_length, flip_crc _ _ hx,
    BitVec.xor_assoc, BitVec.xor_assoc]
  intro h1
  have h2 := congrArg (par 32) (xor_cancel h1)
  rw [par_xor, par_xor, par_E, par_E, par_E, par_zero] at h2
  cases h2
end Go.Proofs.YtgeiholilcgooaaDoor.Crc
