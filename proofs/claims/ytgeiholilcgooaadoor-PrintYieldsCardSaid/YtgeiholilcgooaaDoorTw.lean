/- The plain mathematics of twins: the k-th twin inverts the bits of the polynomial, shifted; it keeps the checksum. -/
import Derived.Test.YtgeiholilcgooaaDoorCrcB
namespace Go.Proofs.YtgeiholilcgooaaDoor.Crc

/-- bit q of a string -/
def bitAt (l : List UInt8) (q : Nat) : Bool := (l[q / 8]?.getD 0).toNat.testBit (q % 8)
theorem bitOf_toNat (p : Nat) (h : p < 8) : (bitOf p).toNat = 2 ^ p := by
  have : ∀ j : Fin 8, (bitOf j.val).toNat = 2 ^ j.val := by decide
  exact this ⟨p, h⟩
theorem bitAt_flip (l : List UInt8) (p q : Nat) (hp : p < 8 * l.length) : bitAt (flip p l) q = (bitAt l q ^^ decide (p = q)) := by
  rw [flip_set l p hp]
  unfold bitAt
  have hlt : p / 8 < l.length := by omega
  by_cases e : p / 8 = q / 8
  · rw [← e, List.getElem?_set_self hlt]
    simp only [Option.getD_some]
    rw [UInt8.toNat_xor, Nat.testBit_xor, bitOf_toNat _ (Nat.mod_lt _ (by decide)), Nat.testBit_two_pow]
    congr 1
    by_cases e2 : p % 8 = q % 8
    · rw [decide_eq_true e2, decide_eq_true (by omega)]
    · rw [decide_eq_false e2, decide_eq_false (by omega)]
  · rw [List.getElem?_set_ne e, decide_eq_false (by intro h; exact e (by rw [h]))]
    simp
theorem byte_ext {x y : UInt8} (h : ∀ i, i < 8 → x.toNat.testBit i = y.toNat.testBit i) : x = y := by
  apply UInt8.toNat_inj.1
  apply Nat.eq_of_testBit_eq
  intro i
  by_cases hi : i < 8
  · exact h i hi
  · have hb : 2 ^ 8 ≤ 2 ^ i := Nat.pow_le_pow_right (by decide) (by omega)
    rw [Nat.testBit_lt_two_pow (Nat.lt_of_lt_of_le x.toNat_lt hb), Nat.testBit_lt_two_pow (Nat.lt_of_lt_of_le y.toNat_lt hb)]
theorem bits_ext {l m : List UInt8} (hl : l.length = m.length) (h : ∀ q, bitAt l q = bitAt m q) : l = m := by
  apply List.ext_getElem hl
  intro i h1 h2
  apply byte_ext
  intro j hj
  have := h (8 * i + j)
  unfold bitAt at this
  rw [show (8 * i + j) / 8 = i by omega, show (8 * i + j) % 8 = j by omega, List.getElem?_eq_getElem h1, List.getElem?_eq_getElem h2] at this
  exact this

def exps : List Nat := [32, 28, 27, 26, 25, 23, 22, 20, 19, 18, 14, 13, 11, 10, 9, 8, 6, 0]
/-- the bits k + 32 - g, inverted one after the other -/
def flips (k : Nat) (gs : List Nat) (l : List UInt8) : List UInt8 := gs.foldl (fun b g => flip (k + 32 - g) b) l
def twin (k : Nat) (l : List UInt8) : List UInt8 := flips k exps l
theorem flips_length (k : Nat) (gs : List Nat) : ∀ l, (flips k gs l).length = l.length := by
  induction gs with
  | nil => intro l; rfl
  | cons g gs ih => intro l; show (flips k gs (flip (k + 32 - g) l)).length = _; rw [ih, flip_length]
theorem twin_length (k : Nat) (l : List UInt8) : (twin k l).length = l.length := flips_length _ _ _
/-- how often bit q is inverted, modulo 2 -/
def hit (k q : Nat) (gs : List Nat) : Bool := gs.foldr (fun g b => decide (k + 32 - g = q) ^^ b) false
theorem bitAt_flips (k q : Nat) (gs : List Nat) : ∀ l : List UInt8, k + 32 < 8 * l.length → bitAt (flips k gs l) q = (bitAt l q ^^ hit k q gs) := by
  induction gs with
  | nil => intro l _; simp [flips, hit]
  | cons g gs ih =>
    intro l hl
    show bitAt (flips k gs (flip (k + 32 - g) l)) q = _
    rw [ih _ (by rw [flip_length]; exact hl), bitAt_flip _ _ _ (by omega)]
    show _ = (bitAt l q ^^ (decide (k + 32 - g = q) ^^ hit k q gs))
    rw [Bool.xor_assoc]
theorem hit_none (k q : Nat) (gs : List Nat) (h : ∀ g ∈ gs, k + 32 - g ≠ q) : hit k q gs = false := by
  induction gs with
  | nil => rfl
  | cons g gs ih =>
    show (decide (k + 32 - g = q) ^^ hit k q gs) = false
    rw [ih (fun g' hg => h g' (List.mem_cons_of_mem _ hg)), decide_eq_false (h g (by simp))]; rfl
theorem exps_le : ∀ g ∈ exps, g ≤ 32 := by decide
theorem hit_self (k : Nat) : hit k k exps = true := by
  show (decide (k + 32 - 32 = k) ^^ hit k k [28, 27, 26, 25, 23, 22, 20, 19, 18, 14, 13, 11, 10, 9, 8, 6, 0]) = true
  rw [hit_none, decide_eq_true (by omega)]
  · rfl
  · intro g hg
    have : g ≤ 28 := by
      have h2 : ∀ g ∈ [28, 27, 26, 25, 23, 22, 20, 19, 18, 14, 13, 11, 10, 9, 8, 6, 0], g ≤ 28 := by decide
      exact h2 g hg
    omega
theorem hit_far (k j : Nat) (h : j < k) : hit k j exps = false := hit_none _ _ _ fun g hg => by have := exps_le g hg; omega
theorem twin_twice (k : Nat) (l : List UInt8) (h : k + 32 < 8 * l.length) : twin k (twin k l) = l := by
  refine bits_ext (by rw [twin_length, twin_length]) fun q => ?_
  unfold twin
  rw [bitAt_flips _ _ _ _ (by rw [flips_length]; exact h), bitAt_flips _ _ _ _ h, Bool.xor_assoc, Bool.xor_self, Bool.xor_false]
theorem twin_comm (k j : Nat) (l : List UInt8) (hk : k + 32 < 8 * l.length) (hj : j + 32 < 8 * l.length) : twin j (twin k l) = twin k (twin j l) := by
  refine bits_ext (by rw [twin_length, twin_length, twin_length, twin_length]) fun q => ?_
  unfold twin
  rw [bitAt_flips _ _ _ _ (by rw [flips_length]; exact hj), bitAt_flips _ _ _ _ hk, bitAt_flips _ _ _ _ (by rw [flips_length]; exact hk), bitAt_flips _ _ _ _ hj, Bool.xor_assoc, Bool.xor_assoc, Bool.xor_comm (hit k q exps)]
theorem twin_ne (k : Nat) (l : List UInt8) (h : k + 32 < 8 * l.length) : twin k l ≠ l := by
  intro e
  have := bitAt_flips k k exps l h
  rw [show flips k exps l = l from e, hit_self] at this
  cases hb : bitAt l k <;> rw [hb] at this <;> cases this
theorem twin_apart_lt (k j : Nat) (l : List UInt8) (hj : j + 32 < 8 * l.length) (hlt : k < j) : twin k l ≠ twin j l := by
  intro e
  have h1 := bitAt_flips k k exps l (by omega)
  have h2 := bitAt_flips j k exps l hj
  rw [show flips k exps l = flips j exps l from e, h2, hit_self, hit_far j k hlt] at h1
  cases hb : bitAt l k <;> rw [hb] at h1 <;> cases h1
theorem twin_apart (k j : Nat) (l : List UInt8) (hk : k + 32 < 8 * l.length) (hj : j + 32 < 8 * l.length) : twin k l = twin j l ↔ k = j := by
  refine ⟨fun e => ?_, fun e => by rw [e]⟩
  rcases Nat.lt_trichotomy k j with h | h | h
  · exact absurd e (twin_apart_lt k j l hj h)
  · exact h
  · exact absurd e.symm (twin_apart_lt j k l hk h)

theorem flips_crc (k m : Nat) (gs : List Nat) (hg : ∀ g ∈ gs, g ≤ 32) : ∀ l : List UInt8, k + 32 + m = 8 * l.length → 0 < m →
    crc (flips k gs l) = crc l ^^^ it s1 m (gs.foldr (fun g acc => it s1 g 1#32 ^^^ acc) 0#32) := by
  induction gs with
  | nil => intro l _ _; show crc l = crc l ^^^ it s1 m 0#32; rw [(s1_lin.it m).zero]; simp
  | cons g gs ih =>
    intro l hl hm
    have hg1 : g ≤ 32 := hg g (by simp)
    show crc (flips k gs (flip (k + 32 - g) l)) = crc l ^^^ it s1 m (it s1 g 1#32 ^^^ gs.foldr (fun g acc => it s1 g 1#32 ^^^ acc) 0#32)
    rw [ih (fun g' h => hg g' (List.mem_cons_of_mem _ h)) _ (by rw [flip_length]; exact hl) hm, flip_crc _ _ (by omega), (s1_lin.it m), E, show 8 * l.length - (k + 32 - g) = g + m by omega, it_add, BitVec.xor_assoc]
theorem twin_crc (k : Nat) (l : List UInt8) (h : k + 32 < 8 * l.length) : crc (twin k l) = crc l := by
  unfold twin
  rw [flips_crc k (8 * l.length - 32 - k) exps exps_le l (by omega) (by omega), show exps.foldr (fun g acc => it s1 g 1#32 ^^^ acc) 0#32 = 0#32 by decide +kernel, (s1_lin.it _).zero]
  simp

end Go.Proofs.YtgeiholilcgooaaDoor.Crc
