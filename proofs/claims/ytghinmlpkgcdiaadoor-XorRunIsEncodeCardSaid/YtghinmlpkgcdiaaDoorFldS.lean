/- The plain mathematics of the fields, second part: strings of symbols. -/
import Derived.Test.YtghinmlpkgcdiaaDoorFld
namespace Go.Proofs.YtghinmlpkgcdiaaDoor.Fld
set_option linter.unusedSimpArgs false
set_option linter.unusedVariables false

/-- the bytes of a symbol -/
def size (m : Nat) : Nat := m / 8
/-- the symbol at byte i -/
def symAt (m : Nat) (l : List UInt8) (i : Nat) : Nat := if m = 8 then (l[i]?.getD 0).toNat else 256 * (l[i]?.getD 0).toNat + (l[i + 1]?.getD 0).toNat
theorem symAt_lt {m : Nat} (hm : IsM m) (l : List UInt8) (i : Nat) : symAt m l i < 2 ^ m := by
  unfold symAt
  have h1 := (l[i]?.getD 0).toNat_lt
  have h2 := (l[i + 1]?.getD 0).toNat_lt
  rcases hm with rfl | rfl
  · rw [if_pos rfl, show 2 ^ 8 = 256 by decide]; omega
  · rw [if_neg (by decide), show 2 ^ 16 = 65536 by decide]; omega
/-- byte p of the scaled string -/
def sclB (m c : Nat) (l : List UInt8) (p : Nat) : UInt8 :=
  UInt8.ofNat (mul m c (symAt m l (p / size m * size m)) / 256 ^ (size m - 1 - p % size m))
/-- all symbols multiplied by c -/
def scl (m c : Nat) (l : List UInt8) : List UInt8 := (List.range l.length).map (sclB m c l)
theorem scl_length (m c : Nat) (l : List UInt8) : (scl m c l).length = l.length := by simp [scl]
theorem scl_get (m c : Nat) (l : List UInt8) {p : Nat} (h : p < l.length) : (scl m c l)[p]? = some (sclB m c l p) := by
  simp [scl, h]
/-- the exclusive or of two strings -/
def xorL (a b : List UInt8) : List UInt8 := List.zipWith (· ^^^ ·) a b
theorem xorL_length {a b : List UInt8} (h : a.length = b.length) : (xorL a b).length = a.length := by simp [xorL, h]
theorem xorL_get {a b : List UInt8} (h : a.length = b.length) {p : Nat} (hp : p < a.length) : (xorL a b)[p]? = some ((a[p]?.getD 0) ^^^ (b[p]?.getD 0)) := by
  have hb : p < b.length := by omega
  unfold xorL
  rw [List.getElem?_zipWith, List.getElem?_eq_getElem hp, List.getElem?_eq_getElem hb]
  rfl
theorem xorL_take {a b : List UInt8} (k : Nat) : (xorL a b).take k = xorL (a.take k) (b.take k) := by simp [xorL, List.take_zipWith]
/-- T where f says so, S elsewhere -/
def mixL (f : Nat → Bool) (S T : List UInt8) : List UInt8 := (List.range S.length).map fun p => if f p then T[p]?.getD 0 else S[p]?.getD 0
theorem mixL_length (f : Nat → Bool) (S T : List UInt8) : (mixL f S T).length = S.length := by simp [mixL]
theorem mixL_get (f : Nat → Bool) (S T : List UInt8) {p : Nat} (h : p < S.length) : (mixL f S T)[p]? = some (if f p then T[p]?.getD 0 else S[p]?.getD 0) := by simp [mixL, h]
theorem list_ext_get {a b : List UInt8} (hl : a.length = b.length) (h : ∀ p, p < a.length → a[p]? = b[p]?) : a = b := by
  apply List.ext_getElem?
  intro p
  by_cases hp : p < a.length
  · exact h p hp
  · rw [List.getElem?_eq_none (by omega), List.getElem?_eq_none (by omega)]
theorem getD_get {a : List UInt8} {p : Nat} (h : p < a.length) : a[p]? = some (a[p]?.getD 0) := by rw [List.getElem?_eq_getElem h]; rfl
theorem mixL_none {f : Nat → Bool} {S T : List UInt8} (h : ∀ p, p < S.length → f p = false) : mixL f S T = S := by
  refine list_ext_get (mixL_length _ _ _) fun p hp => ?_
  rw [mixL_length] at hp
  rw [mixL_get _ _ _ hp, h p hp, getD_get hp]; rfl
theorem mixL_all {f : Nat → Bool} {S T : List UInt8} (hl : S.length = T.length) (h : ∀ p, p < S.length → f p = true) : mixL f S T = T := by
  refine list_ext_get ((mixL_length _ _ _).trans hl) fun p hp => ?_
  rw [mixL_length] at hp
  rw [mixL_get _ _ _ hp, h p hp, getD_get (a := T) (by omega)]; rfl
theorem mixL_cong {f g : Nat → Bool} {S T : List UInt8} (h : ∀ p, p < S.length → f p = g p) : mixL f S T = mixL g S T := by
  refine list_ext_get (by rw [mixL_length, mixL_length]) fun p hp => ?_
  rw [mixL_length] at hp
  rw [mixL_get _ _ _ hp, mixL_get _ _ _ hp, h p hp]
theorem mixL_set (f : Nat → Bool) (S T : List UInt8) {q : Nat} (_hq : q < S.length) (u : UInt8) (hu : u = T[q]?.getD 0) : (mixL f S T).set q u = mixL (fun p => f p || decide (p = q)) S T := by
  refine list_ext_get (by rw [List.length_set, mixL_length, mixL_length]) fun p hp => ?_
  rw [List.length_set, mixL_length] at hp
  rw [mixL_get _ _ _ hp]
  by_cases e : p = q
  · subst e
    rw [List.getElem?_set_self (by rw [mixL_length]; exact hp), hu]; simp
  · rw [List.getElem?_set_ne (fun h => e h.symm), mixL_get _ _ _ hp]; simp [e]

/-! ### the symbols of a string -/
def syms (m : Nat) (l : List UInt8) : List (Nat × Nat) := (List.range (l.length / size m)).map fun k => (k * size m, symAt m l (k * size m))
theorem syms_length (m : Nat) (l : List UInt8) : (syms m l).length = l.length / size m := by simp [syms]
theorem syms_get (m : Nat) (l : List UInt8) {k : Nat} (h : k < l.length / size m) : (syms m l)[k]? = some (k * size m, symAt m l (k * size m)) := by simp [syms, h]
theorem syms_take (m : Nat) (l : List UInt8) {k : Nat} (h : k < l.length / size m) : (syms m l).take (k + 1) = (syms m l).take k ++ [(k * size m, symAt m l (k * size m))] := by
  rw [List.take_add_one, syms_get m l h]; rfl
theorem syms_at {m : Nat} {l : List UInt8} {pre : List (Nat × Nat)} {x : Nat × Nat} (h : pre ++ [x] <+: syms m l) : x = (pre.length * size m, symAt m l (pre.length * size m)) ∧ pre.length < l.length / size m := by
  have hl := h.length_le
  rw [syms_length, List.length_append, List.length_singleton] at hl
  refine ⟨?_, by omega⟩
  have h1 := List.IsPrefix.getElem h (i := pre.length) (by simp)
  simp [syms] at h1
  exact h1
theorem size_pos {m : Nat} (hm : IsM m) : 0 < size m := by rcases hm with rfl | rfl <;> decide
theorem size_val {m : Nat} (hm : IsM m) : size m = 1 ∧ m = 8 ∨ size m = 2 ∧ m = 16 := by rcases hm with rfl | rfl; exact .inl ⟨rfl, rfl⟩; exact .inr ⟨rfl, rfl⟩
/-- a byte of symbol k -/
theorem sclB_at {m : Nat} (hm : IsM m) (c : Nat) (l : List UInt8) (k j : Nat) (hj : j < size m) :
    sclB m c l (k * size m + (size m - 1 - j)) = UInt8.ofNat (mul m c (symAt m l (k * size m)) / 256 ^ j) := by
  unfold sclB
  have h1 : (k * size m + (size m - 1 - j)) / size m = k := by
    rw [Nat.mul_comm, Nat.mul_add_div (size_pos hm), Nat.div_eq_of_lt (by omega)]; rfl
  have h2 : (k * size m + (size m - 1 - j)) % size m = size m - 1 - j := by
    rw [Nat.mul_comm, Nat.mul_add_mod, Nat.mod_eq_of_lt (by omega)]
  rw [h1, h2, show size m - 1 - (size m - 1 - j) = j by omega]

/-! ### linear combinations -/
/-- the sum after the first pairs -/
def combTo (m : Nat) (n : Nat) (ps : List (Nat × List UInt8)) : List UInt8 := ps.foldl (fun acc p => xorL acc (scl m p.1 p.2)) (List.replicate n 0)
theorem combTo_snoc (m n : Nat) (ps : List (Nat × List UInt8)) (p : Nat × List UInt8) : combTo m n (ps ++ [p]) = xorL (combTo m n ps) (scl m p.1 p.2) := by
  unfold combTo; rw [List.foldl_append]; rfl
theorem fold_length (m n : Nat) (ps : List (Nat × List UInt8)) : ∀ acc : List UInt8, acc.length = n → (∀ p ∈ ps, p.2.length = n) → (ps.foldl (fun acc p => xorL acc (scl m p.1 p.2)) acc).length = n := by
  induction ps with
  | nil => intro acc h _; exact h
  | cons p ps ih =>
    intro acc h hp
    have h2 := hp p (by simp)
    exact ih _ (by rw [xorL_length (by rw [scl_length, h, h2]), h]) fun q hq => hp q (by simp [hq])
theorem combTo_length (m n : Nat) (ps : List (Nat × List UInt8)) (h : ∀ p ∈ ps, p.2.length = n) : (combTo m n ps).length = n := fold_length m n ps _ (by simp) h
end Go.Proofs.YtghinmlpkgcdiaaDoor.Fld
