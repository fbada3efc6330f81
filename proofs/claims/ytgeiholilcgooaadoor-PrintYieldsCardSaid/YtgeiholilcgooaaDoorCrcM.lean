/- The plain mathematics of CRC-32C: the register step is linear and injective; tables, zero bytes, bursts and single bits. No program is named here. -/
namespace Go.Proofs.YtgeiholilcgooaaDoor.Crc

def it {α : Type} (f : α → α) : Nat → α → α
  | 0, x => x
  | n + 1, x => it f n (f x)
theorem it_add {α : Type} (f : α → α) (m n : Nat) : ∀ x, it f (m + n) x = it f n (it f m x) := by
  induction m with
  | zero => intro x; simp [it]
  | succ m ih => intro x; rw [Nat.succ_add]; simp only [it]; exact ih _
theorem it_succ {α : Type} (f : α → α) (n : Nat) (x : α) : it f (n + 1) x = f (it f n x) := by
  rw [it_add f n 1]; rfl
theorem it_mul {α : Type} (f : α → α) (m n : Nat) : ∀ x, it f (m * n) x = it (it f m) n x := by
  induction n with
  | zero => intro x; rfl
  | succ n ih => intro x; rw [Nat.mul_succ, Nat.add_comm, it_add, ih]; rfl

def P : BitVec 32 := 2197175160#32
def s1 (r : BitVec 32) : BitVec 32 := if r.getLsbD 0 then (r >>> 1) ^^^ P else r >>> 1
def s8 (r : BitVec 32) : BitVec 32 := it s1 8 r

def Lin (f : BitVec 32 → BitVec 32) : Prop := ∀ a b, f (a ^^^ b) = f a ^^^ f b
theorem Lin.zero {f : BitVec 32 → BitVec 32} (h : Lin f) : f 0#32 = 0#32 := by
  have := h 0#32 0#32
  simpa using this
theorem Lin.it {f : BitVec 32 → BitVec 32} (h : Lin f) (n : Nat) : Lin (it f n) := by
  induction n with
  | zero => intro a b; rfl
  | succ n ih => intro a b; simp only [Crc.it]; rw [h, ih]
theorem shr_xor (a b : BitVec 32) (n : Nat) : (a ^^^ b) >>> n = (a >>> n) ^^^ (b >>> n) := BitVec.ushiftRight_xor_distrib a b n
theorem s1_lin : Lin s1 := by
  intro a b
  unfold s1
  rw [BitVec.getLsbD_xor, shr_xor]
  generalize a >>> 1 = x
  generalize b >>> 1 = y
  cases a.getLsbD 0 <;> cases b.getLsbD 0 <;> simp only [Bool.xor_false, Bool.xor_true, Bool.not_false, Bool.not_true, if_true, if_false, Bool.false_eq_true] <;>
    (apply BitVec.eq_of_getLsbD_eq; intro i hi; simp only [BitVec.getLsbD_xor]; cases x.getLsbD i <;> cases y.getLsbD i <;> cases P.getLsbD i <;> rfl)
theorem s8_lin : Lin s8 := s1_lin.it 8

theorem s1_zero {r : BitVec 32} (h : s1 r = 0#32) : r = 0#32 := by
  unfold s1 at h
  have key : ∀ i, i < 31 → (r >>> 1).getLsbD i = r.getLsbD (i + 1) := by
    intro i _
    rw [BitVec.getLsbD_ushiftRight, Nat.add_comm]
  cases h0 : r.getLsbD 0 with
  | true =>
    rw [h0, if_pos rfl] at h
    have := congrArg (fun v => BitVec.getLsbD v 31) h
    simp at this
    exact absurd this (by decide)
  | false =>
    rw [h0, if_neg (by simp)] at h
    apply BitVec.eq_of_getLsbD_eq
    intro i hi
    rcases i with _ | i
    · simpa using h0
    · rw [← key i (by omega), h]; simp
theorem xor_eq_zero {a b : BitVec 32} (h : a ^^^ b = 0#32) : a = b := by
  have : (a ^^^ b) ^^^ b = 0#32 ^^^ b := by rw [h]
  simpa [BitVec.xor_assoc] using this
theorem Lin.inj {f : BitVec 32 → BitVec 32} (h : Lin f) (hz : ∀ r, f r = 0#32 → r = 0#32) {a b : BitVec 32} (e : f a = f b) : a = b := by
  apply xor_eq_zero
  apply hz
  rw [h, e]; simp
theorem it_zero {f : BitVec 32 → BitVec 32} (hz : ∀ r, f r = 0#32 → r = 0#32) (n : Nat) : ∀ r, it f n r = 0#32 → r = 0#32 := by
  induction n with
  | zero => intro r h; exact h
  | succ n ih => intro r h; exact hz _ (ih _ h)
theorem s8_zero (r : BitVec 32) (h : s8 r = 0#32) : r = 0#32 := it_zero (fun _ => s1_zero) 8 r h

theorem s1_even {r : BitVec 32} (h : r.getLsbD 0 = false) : s1 r = r >>> 1 := by
  unfold s1; rw [h]; simp
theorem it_even (n : Nat) : ∀ r : BitVec 32, (∀ i, i < n → r.getLsbD i = false) → it s1 n r = r >>> n := by
  induction n with
  | zero => intro r _; simp [it]
  | succ n ih =>
    intro r h
    simp only [it]
    rw [s1_even (h 0 (by omega)), ih]
    · rw [← BitVec.shiftRight_add, Nat.add_comm]
    · intro i hi
      rw [BitVec.getLsbD_ushiftRight, Nat.add_comm]; exact h _ (by omega)

theorem split8 (r : BitVec 32) : r = (r &&& ~~~255#32) ^^^ (r &&& 255#32) := by
  apply BitVec.eq_of_getLsbD_eq
  intro i hi
  simp only [BitVec.getLsbD_xor, BitVec.getLsbD_and, BitVec.getLsbD_not]
  cases r.getLsbD i <;> cases (255#32).getLsbD i <;> simp [hi]
theorem low255 (i : Nat) (h : i < 8) : (255#32).getLsbD i = true := by
  rcases i with _ | _ | _ | _ | _ | _ | _ | _ | i <;> first | rfl | omega
theorem high255 (i : Nat) (h : 8 ≤ i) : (255#32).getLsbD i = false := by
  by_cases hi : i < 32
  · have : ∀ j : Fin 32, 8 ≤ j.val → (255#32).getLsbD j.val = false := by decide
    exact this ⟨i, hi⟩ h
  · exact BitVec.getLsbD_of_ge _ _ (by omega)
/-- one byte by the table of the 256 low bytes -/
theorem s8_table (r : BitVec 32) : s8 r = (r >>> 8) ^^^ s8 (r &&& 255#32) := by
  have h := s8_lin (r &&& ~~~255#32) (r &&& 255#32)
  rw [← split8] at h
  rw [h]
  congr 1
  unfold s8
  rw [it_even 8]
  · apply BitVec.eq_of_getLsbD_eq
    intro i hi
    simp only [BitVec.getLsbD_ushiftRight, BitVec.getLsbD_and, BitVec.getLsbD_not]
    rw [high255 _ (by omega)]
    by_cases h32 : 8 + i < 32
    · simp [h32]
    · rw [BitVec.getLsbD_of_ge _ _ (by omega)]; simp
  · intro i hi
    simp only [BitVec.getLsbD_and, BitVec.getLsbD_not]
    rw [low255 i hi]; simp

def up (x : UInt8) : BitVec 32 := BitVec.ofNat 32 x.toNat
def feed : BitVec 32 → List UInt8 → BitVec 32
  | r, [] => r
  | r, x :: l => feed (s8 (r ^^^ up x)) l
def ext (c : BitVec 32) (l : List UInt8) : BitVec 32 := ~~~(feed (~~~c) l)
def crc (l : List UInt8) : BitVec 32 := ext 0#32 l
def zeros (c : BitVec 32) (n : Nat) : BitVec 32 := ~~~(it s8 n (~~~c))
def comb (a b : BitVec 32) (n : Nat) : BitVec 32 := b ^^^ zeros a n ^^^ zeros 0#32 n

theorem feed_append (l m : List UInt8) : ∀ r, feed r (l ++ m) = feed (feed r l) m := by
  induction l with
  | nil => intro r; rfl
  | cons x l ih => intro r; simp only [List.cons_append, feed]; exact ih _
theorem ext_append (c : BitVec 32) (l m : List UInt8) : ext (ext c l) m = ext c (l ++ m) := by
  unfold ext; rw [BitVec.not_not, feed_append]
theorem feed_zeros (n : Nat) : ∀ r, feed r (List.replicate n 0) = it s8 n r := by
  induction n with
  | zero => intro r; rfl
  | succ n ih =>
    intro r
    simp only [List.replicate_succ, feed, it]
    rw [ih]
    simp [up]
theorem zeros_eq (c : BitVec 32) (n : Nat) : zeros c n = ext c (List.replicate n 0) := by
  unfold zeros ext; rw [feed_zeros]
theorem zeros_add (c : BitVec 32) (m n : Nat) : zeros (zeros c m) n = zeros c (m + n) := by
  unfold zeros; rw [BitVec.not_not, it_add]
theorem zeros_none (c : BitVec 32) : zeros c 0 = c := by simp [zeros, it]
/-- the register is affine in its first value -/
theorem feed_xor (l : List UInt8) : ∀ r s, feed (r ^^^ s) l = feed r l ^^^ it s8 l.length s := by
  induction l with
  | nil => intro r s; rfl
  | cons x l ih =>
    intro r s
    simp only [feed, List.length_cons, it]
    rw [← ih, ← s8_lin]
    congr 2
    rw [BitVec.xor_assoc, BitVec.xor_comm s, ← BitVec.xor_assoc]
theorem comb_eq (a b : List UInt8) : comb (crc a) (crc b) b.length = crc (a ++ b) := by
  unfold crc
  rw [← ext_append]
  generalize ext 0#32 a = c
  unfold comb zeros ext
  have h := feed_xor b (~~~0#32) (c)
  have e1 : (~~~0#32) ^^^ c = ~~~c := by
    apply BitVec.eq_of_getLsbD_eq; intro i hi
    simp only [BitVec.getLsbD_xor, BitVec.getLsbD_not, BitVec.getLsbD_zero, hi, decide_true, Bool.true_and]
    cases c.getLsbD i <;> rfl
  rw [e1] at h
  have h2 := (s8_lin.it b.length) (~~~0#32) c
  rw [e1] at h2
  rw [h, h2]
  apply BitVec.eq_of_getLsbD_eq
  intro i hi
  simp only [BitVec.getLsbD_xor, BitVec.getLsbD_not, hi, decide_true, Bool.true_and]
  generalize (feed (~~~0#32) b).getLsbD i = x
  generalize (it s8 b.length (~~~0#32)).getLsbD i = y
  generalize (it s8 b.length c).getLsbD i = z
  cases x <;> cases y <;> cases z <;> rfl

/-- three strings of one length -/
def xor3 : List UInt8 → List UInt8 → List UInt8 → List UInt8
  | a :: l, b :: m, c :: n => (a ^^^ b ^^^ c) :: xor3 l m n
  | _, _, _ => []
theorem up_xor (a b : UInt8) : up (a ^^^ b) = up a ^^^ up b := by
  unfold up
  rw [UInt8.toNat_xor, BitVec.ofNat_xor]
theorem feed3 (l : List UInt8) : ∀ (m n : List UInt8) (r s t : BitVec 32), l.length = m.length → l.length = n.length →
    feed r l ^^^ feed s m ^^^ feed t n = feed (r ^^^ s ^^^ t) (xor3 l m n) := by
  induction l with
  | nil =>
    intro m n r s t h1 h2
    obtain rfl := List.eq_nil_of_length_eq_zero h1.symm
    obtain rfl := List.eq_nil_of_length_eq_zero h2.symm
    rfl
  | cons x l ih =>
    intro m n r s t h1 h2
    match m, n, h1, h2 with
    | y :: m, z :: n, h1, h2 =>
      simp only [feed, xor3]
      rw [ih m n _ _ _ (by simpa using h1) (by simpa using h2), ← s8_lin, ← s8_lin, up_xor, up_xor]
      congr 2
      apply BitVec.eq_of_getLsbD_eq
      intro i hi
      simp only [BitVec.getLsbD_xor]
      generalize r.getLsbD i = a1
      generalize s.getLsbD i = a2
      generalize t.getLsbD i = a3
      generalize (up x).getLsbD i = a4
      generalize (up y).getLsbD i = a5
      generalize (up z).getLsbD i = a6
      cases a1 <;> cases a2 <;> cases a3 <;> cases a4 <;> cases a5 <;> cases a6 <;> rfl
theorem affine (l m n : List UInt8) (h1 : l.length = m.length) (h2 : l.length = n.length) : crc l ^^^ crc m ^^^ crc n = crc (xor3 l m n) := by
  unfold crc ext
  have h := feed3 l m n (~~~0#32) (~~~0#32) (~~~0#32) h1 h2
  have e : (~~~0#32 ^^^ ~~~0#32 ^^^ ~~~0#32 : BitVec 32) = ~~~0#32 := by decide
  rw [e] at h
  rw [← h]
  apply BitVec.eq_of_getLsbD_eq
  intro i hi
  simp only [BitVec.getLsbD_xor, BitVec.getLsbD_not, hi, decide_true, Bool.true_and]
  generalize (feed (~~~0#32) l).getLsbD i = a1
  generalize (feed (~~~0#32) m).getLsbD i = a2
  generalize (feed (~~~0#32) n).getLsbD i = a3
  cases a1 <;> cases a2 <;> cases a3 <;> rfl

/-! ### differences -/
/-- the difference of two strings of one length, as it stands in the register behind them -/
def diff : BitVec 32 → List UInt8 → List UInt8 → BitVec 32
  | d, x :: l, y :: m => diff (s8 (d ^^^ up x ^^^ up y)) l m
  | d, _, _ => d
theorem feed_diff (l : List UInt8) : ∀ (m : List UInt8) (r s : BitVec 32), l.length = m.length → feed r l ^^^ feed s m = diff (r ^^^ s) l m := by
  induction l with
  | nil => intro m r s h; obtain rfl := List.eq_nil_of_length_eq_zero h.symm; rfl
  | cons x l ih =>
    intro m r s h
    match m, h with
    | y :: m, h =>
      simp only [feed, diff]
      rw [ih m _ _ (by simpa using h), ← s8_lin]
      congr 2
      apply BitVec.eq_of_getLsbD_eq
      intro i hi
      simp only [BitVec.getLsbD_xor]
      generalize r.getLsbD i = a1
      generalize s.getLsbD i = a2
      generalize (up x).getLsbD i = a4
      generalize (up y).getLsbD i = a5
      cases a1 <;> cases a2 <;> cases a4 <;> cases a5 <;> rfl
theorem diff_same (l : List UInt8) : ∀ d, diff d l l = it s8 l.length d := by
  induction l with
  | nil => intro d; rfl
  | cons x l ih =>
    intro d
    simp only [diff, List.length_cons, it]
    rw [ih, BitVec.xor_assoc]; simp
theorem crc_eq_iff (l m : List UInt8) (h : l.length = m.length) : crc l = crc m ↔ diff 0#32 l m = 0#32 := by
  have hd := feed_diff l m (~~~0#32) (~~~0#32) h
  have e : (~~~0#32 ^^^ ~~~0#32 : BitVec 32) = 0#32 := by decide
  rw [e] at hd
  rw [← hd]
  unfold crc ext
  constructor
  · intro hh
    have : feed (~~~0#32) l = feed (~~~0#32) m := by
      have := congrArg (fun v => ~~~v) hh
      simpa using this
    rw [this]; simp
  · intro hh
    rw [xor_eq_zero hh]
theorem diff_append (l l' : List UInt8) : ∀ (m m' : List UInt8) (d : BitVec 32), l.length = m.length → diff d (l ++ l') (m ++ m') = diff (diff d l m) l' m' := by
  induction l with
  | nil => intro m m' d h; obtain rfl := List.eq_nil_of_length_eq_zero h.symm; rfl
  | cons x l ih =>
    intro m m' d h
    match m, h with
    | y :: m, h =>
      simp only [List.cons_append, diff]
      exact ih m m' _ (by simpa using h)

/-- a byte at its place comes down by zero steps -/
theorem down (k : Nat) (x : UInt8) (hk : k ≤ 3) : it s8 k (up x <<< (8 * k)) = up x := by
  have h : it s8 k (up x <<< (8 * k)) = it s1 (8 * k) (up x <<< (8 * k)) := by
    rw [it_mul]; rfl
  rw [h, it_even]
  · apply BitVec.eq_of_getLsbD_eq
    intro i hi
    rw [BitVec.getLsbD_ushiftRight, BitVec.getLsbD_shiftLeft]
    by_cases h8 : i < 8
    · have : 8 * k + i < 32 := by omega
      simp [this]
    · have hu : (up x).getLsbD i = false := by
        unfold up
        rw [BitVec.getLsbD_ofNat]
        have : x.toNat.testBit i = false := Nat.testBit_lt_two_pow (Nat.lt_of_lt_of_le x.toNat_lt (Nat.pow_le_pow_right (by decide) (by omega)))
        simp [this]
      by_cases hh : 8 * k + i < 32
      · simp [hh]
      · rw [hu]
        simp
        intro hh2
        omega
  · intro i hi
    rw [BitVec.getLsbD_shiftLeft]
    have : ¬ 8 * k ≤ i := by omega
    simp [hi]
/-- the word of four bytes -/
def word (a b c d : UInt8) : BitVec 32 := up a ^^^ (up b <<< 8) ^^^ (up c <<< 16) ^^^ (up d <<< 24)
theorem word_feed (a b c d : UInt8) : s8 (s8 (s8 (s8 (up a) ^^^ up b) ^^^ up c) ^^^ up d) = it s8 4 (word a b c d) := by
  unfold word
  rw [s8_lin.it 4, s8_lin.it 4, s8_lin.it 4]
  have hb : it s8 4 (up b <<< 8) = it s8 3 (up b) := by
    rw [show (4 : Nat) = 1 + 3 from rfl, it_add]; exact congrArg (it s8 3) (down 1 b (by omega))
  have hc : it s8 4 (up c <<< 16) = it s8 2 (up c) := by
    rw [show (4 : Nat) = 2 + 2 from rfl, it_add]; exact congrArg (it s8 2) (down 2 c (by omega))
  have hd : it s8 4 (up d <<< 24) = it s8 1 (up d) := by
    rw [show (4 : Nat) = 3 + 1 from rfl, it_add]; exact congrArg (it s8 1) (down 3 d (by omega))
  rw [hb, hc, hd]
  simp only [it, s8_lin _ _]
theorem up_zero {x : UInt8} (h : ∀ i, i < 8 → (up x).getLsbD i = false) : x = 0 := by
  apply UInt8.toNat_inj.1
  apply Nat.eq_of_testBit_eq
  intro i
  by_cases hi : i < 8
  · have := h i hi
    unfold up at this
    rw [BitVec.getLsbD_ofNat] at this
    have hi2 : i < 32 := by omega
    simpa [hi2] using this
  · have : x.toNat.testBit i = false := Nat.testBit_lt_two_pow (Nat.lt_of_lt_of_le x.toNat_lt (Nat.pow_le_pow_right (by decide) (by omega)))
    rw [this]; simp
theorem up_high (x : UInt8) (i : Nat) (h : 8 ≤ i) : (up x).getLsbD i = false := by
  unfold up
  rw [BitVec.getLsbD_ofNat]
  have : x.toNat.testBit i = false := Nat.testBit_lt_two_pow (Nat.lt_of_lt_of_le x.toNat_lt (Nat.pow_le_pow_right (by decide) h))
  simp [this]
theorem word_zero {a b c d : UInt8} (h : word a b c d = 0#32) : a = 0 ∧ b = 0 ∧ c = 0 ∧ d = 0 := by
  have hb : ∀ i, i < 32 → ((up a).getLsbD i ^^ (decide (8 ≤ i) && (up b).getLsbD (i - 8)) ^^ (decide (16 ≤ i) && (up c).getLsbD (i - 16)) ^^ (decide (24 ≤ i) && (up d).getLsbD (i - 24))) = false := by
    intro i hi
    have := congrArg (fun v => BitVec.getLsbD v i) h
    simp only [word, BitVec.getLsbD_xor, BitVec.getLsbD_shiftLeft, BitVec.getLsbD_zero, hi, decide_true, Bool.true_and] at this
    rw [← this]
    congr 1
    · congr 1
      · congr 1
        by_cases h8 : i < 8 <;> simp [h8, Nat.not_le.2, Nat.le_of_not_lt] <;> omega
      · by_cases h8 : i < 16 <;> simp [h8, Nat.not_le.2, Nat.le_of_not_lt] <;> omega
    · by_cases h8 : i < 24 <;> simp [h8, Nat.not_le.2, Nat.le_of_not_lt] <;> omega
  have ha : a = 0 := up_zero fun i hi => by
    have := hb i (by omega)
    have e1 : ¬ 8 ≤ i := by omega
    have e2 : ¬ 16 ≤ i := by omega
    have e3 : ¬ 24 ≤ i := by omega
    simpa [e1, e2, e3] using this
  have hb' : b = 0 := up_zero fun i hi => by
    have := hb (i + 8) (by omega)
    have e1 : 8 ≤ i + 8 := by omega
    have e2 : ¬ 16 ≤ i + 8 := by omega
    have e3 : ¬ 24 ≤ i + 8 := by omega
    rw [up_high a _ (by omega)] at this
    simpa [e1, e2, e3] using this
  have hc' : c = 0 := up_zero fun i hi => by
    have := hb (i + 16) (by omega)
    have e1 : 8 ≤ i + 16 := by omega
    have e2 : 16 ≤ i + 16 := by omega
    have e3 : ¬ 24 ≤ i + 16 := by omega
    rw [up_high a _ (by omega), up_high b _ (by omega)] at this
    simpa [e1, e2, e3] using this
  have hd' : d = 0 := up_zero fun i hi => by
    have := hb (i + 24) (by omega)
    have e1 : 8 ≤ i + 24 := by omega
    have e2 : 16 ≤ i + 24 := by omega
    have e3 : 24 ≤ i + 24 := by omega
    rw [up_high a _ (by omega), up_high b _ (by omega), up_high c _ (by omega)] at this
    simpa [e1, e2, e3] using this
  exact ⟨ha, hb', hc', hd'⟩
theorem xor_swap (d : BitVec 32) (x : UInt8) (c : UInt8) : d ^^^ up x ^^^ up (x ^^^ c) = d ^^^ up c := by
  rw [up_xor, ← BitVec.xor_assoc, BitVec.xor_assoc d, BitVec.xor_self, BitVec.xor_zero]
/-- a burst within four adjacent bytes is seen -/
theorem burst (l m : List UInt8) (x0 x1 x2 x3 c0 c1 c2 c3 : UInt8) (h : ¬ (c0 = 0 ∧ c1 = 0 ∧ c2 = 0 ∧ c3 = 0)) :
    crc (l ++ x0 :: x1 :: x2 :: x3 :: m) ≠ crc (l ++ (x0 ^^^ c0) :: (x1 ^^^ c1) :: (x2 ^^^ c2) :: (x3 ^^^ c3) :: m) := by
  rw [Ne, crc_eq_iff _ _ (by simp)]
  intro h0
  rw [diff_append _ _ _ _ _ rfl, diff_same, (s8_lin.it _).zero] at h0
  simp only [diff, xor_swap] at h0
  rw [diff_same] at h0
  have h1 := it_zero s8_zero _ _ h0
  rw [BitVec.zero_xor] at h1
  rw [word_feed] at h1
  exact h (word_zero (it_zero s8_zero _ _ h1))
end Go.Proofs.YtgeiholilcgooaaDoor.Crc
