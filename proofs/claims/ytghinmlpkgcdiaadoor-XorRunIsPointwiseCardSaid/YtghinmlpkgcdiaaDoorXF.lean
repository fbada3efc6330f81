/- Schedules of exclusive ors: the plain words. -/
namespace Go.Proofs.YtghinmlpkgcdiaaDoor
namespace Xp

/-- an operation's registers are smaller than its own, and different -/
def opOk (r : Int) (o : Int × Int) : Bool := decide (0 ≤ o.1) && decide (0 ≤ o.2) && decide (o.1 < r) && decide (o.2 < r) && decide (o.1 ≠ o.2)
/-- all operations fit, the first of them making register r -/
def opsOk : Int → List (Int × Int) → Bool
  | _, [] => true
  | r, o :: os => opOk r o && opsOk (r + 1) os
def outOk (r : Int) (x : Int) : Bool := decide (-1 ≤ x) && decide (x < r)
/-- is the schedule's head valid? -/
def headOk (f d p : Int) (no nx : Nat) : Bool := (decide (f = 8) || decide (f = 16)) && decide (1 ≤ d) && decide (0 ≤ p) && decide (d ≤ 32) && decide (p ≤ 32 - d) && decide (no ≤ 131072) && decide ((nx : Int) = p * f)
def okS (f d p : Int) (ops : List (Int × Int)) (out : List Int) : Bool := headOk f d p ops.length out.length && opsOk (d * f) ops && out.all (outOk (d * f + ops.length))

theorem opsOk_snoc (o : Int × Int) : ∀ (os : List (Int × Int)) (r : Int), opsOk r (os ++ [o]) = (opsOk r os && opOk (r + os.length) o)
  | [], r => by simp [opsOk]
  | x :: os, r => by
    show (opOk r x && opsOk (r + 1) (os ++ [o])) = (opOk r x && opsOk (r + 1) os && _)
    rw [opsOk_snoc o os (r + 1), Bool.and_assoc]
    congr 3
    simp only [List.length_cons]
    omega
theorem opsOk_take {os : List (Int × Int)} {r : Int} {k : Nat} {o : Int × Int} (h : os[k]? = some o) : opsOk r (os.take (k + 1)) = (opsOk r (os.take k) && opOk (r + k) o) := by
  obtain ⟨hk, e⟩ := List.getElem?_eq_some_iff.1 h
  rw [List.take_succ_eq_append_getElem hk, e, opsOk_snoc]
  have : (os.take k).length = k := by rw [List.length_take]; omega
  rw [this]
theorem opsOk_bad {o : Int × Int} : ∀ {os : List (Int × Int)} {r : Int} {k : Nat}, os[k]? = some o → opOk (r + k) o = false → opsOk r os = false
  | [], _, _, h, _ => by simp at h
  | x :: os, r, 0, h, hb => by
    simp only [List.getElem?_cons_zero, Option.some.injEq] at h
    subst h
    show (opOk r x && _) = false
    rw [show r + ((0 : Nat) : Int) = r by omega] at hb
    rw [hb, Bool.false_and]
  | x :: os, r, k + 1, h, hb => by
    show (opOk r x && opsOk (r + 1) os) = false
    rw [List.getElem?_cons_succ] at h
    rw [opsOk_bad (r := r + 1) h (by rw [show r + 1 + (k : Int) = r + ((k + 1 : Nat) : Int) by omega]; exact hb), Bool.and_false]
theorem opsOk_get {os : List (Int × Int)} {r : Int} (h : opsOk r os = true) {k : Nat} {o : Int × Int} (hk : os[k]? = some o) : opOk (r + k) o = true := by
  cases e : opOk (r + k) o with
  | true => rfl
  | false => rw [opsOk_bad hk e] at h; cases h
theorem opOk_iff {r : Int} {o : Int × Int} : opOk r o = true ↔ 0 ≤ o.1 ∧ 0 ≤ o.2 ∧ o.1 < r ∧ o.2 < r ∧ o.1 ≠ o.2 := by
  unfold opOk
  simp only [Bool.and_eq_true, decide_eq_true_eq]
  constructor
  · rintro ⟨⟨⟨⟨a, b⟩, c⟩, d⟩, e⟩; exact ⟨a, b, c, d, e⟩
  · rintro ⟨a, b, c, d, e⟩; exact ⟨⟨⟨⟨a, b⟩, c⟩, d⟩, e⟩

/-- the registers' contents, behind the operations -/
def regs : List Nat → List (Nat × Nat) → List Nat
  | l, [] => l
  | l, o :: os => regs (l ++ [(l[o.1]?.getD 0) ^^^ (l[o.2]?.getD 0)]) os
theorem regs_snoc (o : Nat × Nat) : ∀ (os : List (Nat × Nat)) (l : List Nat), regs l (os ++ [o]) = regs l os ++ [((regs l os)[o.1]?.getD 0) ^^^ ((regs l os)[o.2]?.getD 0)]
  | [], l => rfl
  | x :: os, l => by
    show regs _ (os ++ [o]) = regs _ os ++ _
    exact regs_snoc o os _
theorem regs_length : ∀ (os : List (Nat × Nat)) (l : List Nat), (regs l os).length = l.length + os.length
  | [], l => rfl
  | x :: os, l => by
    show (regs _ os).length = _
    rw [regs_length os, List.length_append]
    simp only [List.length_cons, List.length_nil]
    omega
/-- word i of a list of bits -/
def word (N i : Nat) : Nat := (N >>> (64 * i)) % 2 ^ 64
theorem word_xor (a b i : Nat) : word (a ^^^ b) i = word a i ^^^ word b i := by
  unfold word
  apply Nat.eq_of_testBit_eq
  intro j
  rw [Nat.testBit_xor, Nat.testBit_mod_two_pow, Nat.testBit_mod_two_pow, Nat.testBit_mod_two_pow, Nat.testBit_shiftRight, Nat.testBit_shiftRight, Nat.testBit_shiftRight, Nat.testBit_xor]
  by_cases h : j < 64 <;> simp [h]
theorem word_bit (N i : Nat) : (word N (i / 64)).testBit (i % 64) = N.testBit i := by
  unfold word
  rw [Nat.testBit_mod_two_pow, Nat.testBit_shiftRight, Nat.div_add_mod]
  have : i % 64 < 64 := Nat.mod_lt _ (by decide)
  simp [this]
theorem word_lt (N i : Nat) : word N i < 2 ^ 64 := Nat.mod_lt _ (Nat.two_pow_pos _)
theorem word_or (N i b k : Nat) (hb : b < 2) : word (N ||| b <<< i) k = if k = i / 64 then word N k ||| b <<< (i % 64) else word N k := by
  unfold word
  have hm := Nat.div_add_mod i 64
  have hl : i % 64 < 64 := Nat.mod_lt _ (by decide)
  have hb2 : ∀ j, b.testBit j = (decide (j = 0) && decide (b = 1)) := fun j => by
    rcases (show b = 0 ∨ b = 1 by omega) with rfl | rfl
    · simp
    · cases j with
      | zero => rfl
      | succ j => rw [show (1 : Nat) = 2 ^ 0 from rfl, Nat.testBit_two_pow]; simp
  apply Nat.eq_of_testBit_eq
  intro j
  by_cases hk : k = i / 64
  · rw [if_pos hk, Nat.testBit_or, Nat.testBit_mod_two_pow, Nat.testBit_mod_two_pow, Nat.testBit_shiftRight, Nat.testBit_shiftRight, Nat.testBit_or, Nat.testBit_shiftLeft, Nat.testBit_shiftLeft, hb2, hb2]
    by_cases h : j < 64
    · have e1 : decide (64 * k + j ≥ i) = decide (j ≥ i % 64) := by rw [Bool.eq_iff_iff]; simp; omega
      have e2 : decide (64 * k + j - i = 0) = decide (j ≤ i % 64) := by rw [Bool.eq_iff_iff]; simp; omega
      have e3 : decide (j - i % 64 = 0) = decide (j ≤ i % 64) := by rw [Bool.eq_iff_iff]; simp; omega
      rw [e1, e2, e3]; simp [h]
    · have e3 : (decide (j ≥ i % 64) && (decide (j - i % 64 = 0) && decide (b = 1))) = false := by
        rw [show decide (j - i % 64 = 0) = false from decide_eq_false (by omega)]; simp
      rw [e3]; simp [h]
  · rw [if_neg hk, Nat.testBit_mod_two_pow, Nat.testBit_mod_two_pow, Nat.testBit_shiftRight, Nat.testBit_shiftRight, Nat.testBit_or, Nat.testBit_shiftLeft, hb2]
    by_cases h : j < 64
    · have : (decide (64 * k + j ≥ i) && (decide (64 * k + j - i = 0) && decide (b = 1))) = false := by
        by_cases h2 : 64 * k + j ≥ i
        · rw [show decide (64 * k + j - i = 0) = false from decide_eq_false (by
            intro h3
            apply hk
            omega)]
          simp
        · rw [show decide (64 * k + j ≥ i) = false from decide_eq_false h2]; rfl
      rw [this]; simp
    · simp [h]
end Xp
end Go.Proofs.YtghinmlpkgcdiaaDoor
