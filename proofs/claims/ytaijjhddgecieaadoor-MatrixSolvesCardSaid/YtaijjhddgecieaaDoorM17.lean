/- Matrices: solving, the words of it. -/
import Derived.Test.YtaijjhddgecieaaDoorM16
namespace Go.Proofs.YtaijjhddgecieaaDoor
set_option linter.unusedSimpArgs false
set_option linter.unusedVariables false
open Go.RowKit Go.Lib

set_option maxRecDepth 100000 in
theorem row6_zero (m : Int) (r i g : Nat) (hr : r ≤ 64) (hi : i < r) (w : World) :
    Calls Tryd.prog 36 #[.agg #[.int .i64 m, .int .i64 r, .int .i64 0, .slice (some ⟨g, 0, none⟩) 0 0], .int .i64 (i : Int)] w fun e w' => e = .returned (.slice (some ⟨g, 0, none⟩) 0 0) ∧ Below w.heap.size w w' := by
  go_enter Tryd.func36, Tryd.ntmps36
  go_wp2_with fail
  go_ret
  exact ⟨rfl, (Below.refl _ w).alloc (Nat.le_refl _) _⟩
/-- a row of a matrix that fills its own block -/
theorem row6_own (m : Int) (r c N i o kc g : Nat) (hr : r ≤ 32) (hc : c ≤ 64) (hN : r * c = N) (hi : i < r) (ho : i * c = o) (hkc : N - o = kc) (w : World) :
    Calls Tryd.prog 36 #[.agg #[.int .i64 m, .int .i64 r, .int .i64 c, .slice (some ⟨g, 0, none⟩) N N], .int .i64 (i : Int)] w fun e w' => e = .returned (.slice (some ⟨g, o, none⟩) c kc) ∧ Below w.heap.size w w' := by
  subst hN; subst ho; subst hkc
  rcases Nat.eq_zero_or_pos c with rfl | hpos
  · exact row6_zero m r i g (by omega) hi w
  · have hle : r * c ≤ 32 * 64 := Nat.mul_le_mul hr hc
    have := row6_pos m r c i (by omega) hc hi hpos g 0 (r * c) (Nat.le_refl _) (by unfold maxLen; omega) w
    rwa [Nat.zero_add] at this
/-- what stands in memory while a matrix is filled: all that stood at w0, the new matrix's box, and its cells -/
structure Mk (w0 wr : World) (g gc N : Nat) (box : Array Value) (f : Nat → Nat) : Prop where
  below : Below w0.heap.size w0 wr
  rc : Row wr gc 24 box
  cells : Cells wr g N f
section
variable {w0 wr w' : World} {g gc N : Nat} {box : Array Value} {f : Nat → Nat}
theorem Mk.next (h : Mk w0 wr g gc N box f) (hb : Below wr.heap.size wr w') : Mk w0 w' g gc N box f := ⟨below_call h.below hb, h.rc.below hb h.rc.lt, h.cells.below hb h.cells.lt⟩
theorem Mk.drew (h : Mk w0 wr g gc N box f) : Mk w0 wr.drew g gc N box f := ⟨h.below.drew, h.rc, h.cells⟩
theorem Mk.wrote (h : Mk w0 wr g gc N box f) {f' : Nat → Nat} (hc : Cells w' g N f') (ho : Only (fun k => k = g) wr w') (h1 : w0.heap.size ≤ g) (h2 : gc ≠ g) : Mk w0 w' g gc N box f' :=
  ⟨h.below.trans (ho.below h.below.size (fun k hk => by subst hk; exact h1)), ho.row h.rc h2, hc⟩
theorem Mk.congr (h : Mk w0 wr g gc N box f) {f' : Nat → Nat} (e : ∀ p, p < N → f p = f' p) : Mk w0 wr g gc N box f' := ⟨h.below, h.rc, h.cells.congr e⟩
end
theorem copyTo_flat {r C i o n : Nat} (F : Nat → Nat → Nat) (x : Nat → Nat) (hi : i < r) (hn : o + n ≤ C) : ∀ p, p < r * C → copyTo (i * C + o) n (Mat.flat C F) x p = Mat.flat C (fun p q => if p = i ∧ o ≤ q ∧ q < o + n then x (q - o) else F p q) p := fun p hp => by
  obtain ⟨h1, h2, h3⟩ := Mat.flat_split hp
  generalize p / C = a at h1 h3
  generalize p % C = b at h2 h3
  subst h3
  rw [Mat.flat_at _ _ h2]
  unfold copyTo
  by_cases e : a = i
  · subst e
    by_cases e2 : o ≤ b ∧ b < o + n
    · rw [if_pos (by omega), if_pos ⟨rfl, e2⟩, show a * C + b - (a * C + o) = b - o by omega]
    · rw [if_neg (by omega), if_neg (fun h => e2 h.2), Mat.flat_at _ _ h2]
  · rw [if_neg, if_neg (fun h => e h.1), Mat.flat_at _ _ h2]
    rintro ⟨h4, h5⟩
    apply e
    have h6 : a * C < (i + 1) * C := by rw [Nat.add_mul, Nat.one_mul]; omega
    have h7 : i * C < (a + 1) * C := by rw [Nat.add_mul, Nat.one_mul]; omega
    have := Nat.lt_of_mul_lt_mul_right h6
    have := Nat.lt_of_mul_lt_mul_right h7
    omega
/-- two matrices side by side -/
def beside (k : Nat) (A B : Nat → Nat → Nat) (i j : Nat) : Nat := if j < k then A i j else B i (j - k)
theorem beside_ok {m r k c : Nat} {A B : Nat → Nat → Nat} (hA : Mat.Ok m r k A) (hB : Mat.Ok m r c B) : Mat.Ok m r (k + c) (beside k A B) := fun i j hi hj => by
  unfold beside
  split
  · exact hA i j hi (by omega)
  · exact hB i _ hi (by omega)
/-- the rows before i of both, and the first q of row i -/
def bsTo (k : Nat) (A B : Nat → Nat → Nat) (i t p q : Nat) : Nat := if p < i ∨ (p = i ∧ q < t) then beside k A B p q else 0
theorem bsTo_left {r k c i : Nat} (A B : Nat → Nat → Nat) (hi : i < r) : ∀ p, p < r * (k + c) → copyTo (i * (k + c)) k (Mat.flat (k + c) (bsTo k A B i 0)) (A i) p = Mat.flat (k + c) (bsTo k A B i k) p := fun p hp => by
  have := copyTo_flat (bsTo k A B i 0) (A i) (o := 0) (n := k) (C := k + c) hi (by omega) p hp
  rw [Nat.add_zero] at this
  rw [this]
  refine Mat.flat_congr (fun p q h1 h2 => ?_) p hp
  unfold bsTo
  by_cases e : p = i ∧ q < k
  · rw [if_pos ⟨e.1, Nat.zero_le _, by omega⟩, if_pos (.inr e)]
    unfold beside; rw [if_pos e.2, e.1]; rfl
  · rw [if_neg (by omega)]
    by_cases e2 : p < i
    · rw [if_pos (.inl e2), if_pos (.inl e2)]
    · rw [if_neg (by omega), if_neg (by omega)]
theorem bsTo_right {r k c i : Nat} (A B : Nat → Nat → Nat) (hi : i < r) : ∀ p, p < r * (k + c) → copyTo (i * (k + c) + k) c (Mat.flat (k + c) (bsTo k A B i k)) (B i) p = Mat.flat (k + c) (bsTo k A B (i + 1) 0) p := fun p hp => by
  rw [copyTo_flat (bsTo k A B i k) (B i) (o := k) (n := c) (C := k + c) hi (Nat.le_refl _) p hp]
  refine Mat.flat_congr (fun p q h1 h2 => ?_) p hp
  unfold bsTo
  by_cases e : p = i ∧ k ≤ q ∧ q < k + c
  · rw [if_pos e, if_pos (.inl (by omega))]
    unfold beside; rw [if_neg (by omega), e.1]
  · rw [if_neg e]
    by_cases e2 : p < i ∨ (p = i ∧ q < k)
    · rw [if_pos e2, if_pos (.inl (by omega))]
    · rw [if_neg e2, if_neg (by omega)]
/-- the solution after i rows: pivot i's row is the right side's row i -/
def solTo (k : Nat) (Z : Nat → Nat → Nat) (pv : List Nat) : Nat → Nat → Nat → Nat
  | 0, _, _ => 0
  | i + 1, p, q => if pv[i]? = some p then Z i (k + q) else solTo k Z pv i p q
theorem solTo_step {k c i P : Nat} {Z : Nat → Nat → Nat} {pv : List Nat} (hP : pv[i]? = some P) (hk : P < k) : ∀ p, p < k * c → copyTo (P * c) c (Mat.flat c (solTo k Z pv i)) (fun q => Z i (k + q)) p = Mat.flat c (solTo k Z pv (i + 1)) p := fun p hp => by
  have := copyTo_flat (solTo k Z pv i) (fun q => Z i (k + q)) (o := 0) (n := c) (C := c) hk (by omega) p hp
  rw [Nat.add_zero] at this
  rw [this]
  refine Mat.flat_congr (fun p q h1 h2 => ?_) p hp
  show _ = if pv[i]? = some p then Z i (k + q) else solTo k Z pv i p q
  by_cases e : p = P
  · subst e
    rw [if_pos ⟨rfl, Nat.zero_le _, by omega⟩, if_pos hP]; rfl
  · rw [if_neg (fun h => e h.1), if_neg (fun h => by rw [hP] at h; injection h with h; exact e h.symm)]
theorem solTo_skip {k i : Nat} {Z : Nat → Nat → Nat} {pv : List Nat} (h : pv.length ≤ i) (p q : Nat) : solTo k Z pv (i + 1) p q = solTo k Z pv i p q := by
  show (if pv[i]? = some p then Z i (k + q) else solTo k Z pv i p q) = _
  rw [if_neg (by rw [List.getElem?_eq_none h]; exact fun h => by cases h)]
/-- is there a row without a pivot whose right side is not zero? -/
def noSol (r k c : Nat) (Z : Nat → Nat → Nat) (n : Nat) : Bool := (List.range r).any fun i => decide (n ≤ i) && (List.range c).any fun j => Z i (k + j) != 0
theorem noSol_true {r k c n i j : Nat} {Z : Nat → Nat → Nat} (hi : i < r) (hn : n ≤ i) (hj : j < c) (h : Z i (k + j) ≠ 0) : noSol r k c Z n = true := by
  unfold noSol
  rw [List.any_eq_true]
  refine ⟨i, List.mem_range.2 hi, ?_⟩
  rw [Bool.and_eq_true, decide_eq_true_eq, List.any_eq_true]
  exact ⟨hn, j, List.mem_range.2 hj, by simpa using h⟩
theorem noSol_false {r k c n : Nat} {Z : Nat → Nat → Nat} (h : ∀ i j, i < r → n ≤ i → j < c → Z i (k + j) = 0) : noSol r k c Z n = false := by
  unfold noSol
  rw [List.any_eq_false]
  intro i hi
  rw [Bool.and_eq_true, decide_eq_true_eq, List.any_eq_true, List.mem_range] at *
  rintro ⟨hn, j, hj, hz⟩
  rw [List.mem_range] at hj
  simp [h i j hi hn hj] at hz
end Go.Proofs.YtaijjhddgecieaaDoor
