/- Claims: the plain words, and the walks of the reference's fits, Valid, excess, Over, Need. -/
import Derived.Test.YtaoinpijicenhaaOwn
namespace Go.Proofs.Ytaoinpijicenhaa
set_option linter.unusedSimpArgs false
set_option linter.unusedVariables false
open Go.RowKit

/-- a claim's six numbers -/
structure Cl where
  g : Int
  s : Int
  b : Int
  r : Int
  v : Int
  n : Int
@[reducible] def cv (c : Cl) : Value := .agg #[.int .i64 c.g, .int .i64 c.s, .int .i64 c.b, .int .i64 c.r, .int .i64 c.v, .int .i64 c.n]
def fitB (n : Int) : Bool := decide (0 ≤ n) && decide (n ≤ 1099511627776)
theorem fitB_iff {n : Int} : fitB n = true ↔ 0 ≤ n ∧ n ≤ 1099511627776 := by simp [fitB]
theorem fitB_no {n : Int} (h : fitB n = false) : n < 0 ∨ (0 ≤ n ∧ 1099511627776 < n) := by
  have : ¬ (0 ≤ n ∧ n ≤ 1099511627776) := by rw [← fitB_iff, h]; simp
  omega
def okB (c : Cl) : Bool := fitB c.g && fitB c.s && fitB c.b && fitB c.v && fitB c.n && decide (0 ≤ c.r) && decide (c.r ≤ 9)
/-- each number is an int -/
def Cl.in64 (c : Cl) : Prop := (-9223372036854775808 ≤ c.g ∧ c.g ≤ 9223372036854775807) ∧ (-9223372036854775808 ≤ c.s ∧ c.s ≤ 9223372036854775807) ∧ (-9223372036854775808 ≤ c.b ∧ c.b ≤ 9223372036854775807) ∧
  (-9223372036854775808 ≤ c.r ∧ c.r ≤ 9223372036854775807) ∧ (-9223372036854775808 ≤ c.v ∧ c.v ≤ 9223372036854775807) ∧ (-9223372036854775808 ≤ c.n ∧ c.n ≤ 9223372036854775807)
theorem okB_iff {c : Cl} : okB c = true ↔ (0 ≤ c.g ∧ c.g ≤ 1099511627776) ∧ (0 ≤ c.s ∧ c.s ≤ 1099511627776) ∧ (0 ≤ c.b ∧ c.b ≤ 1099511627776) ∧ (0 ≤ c.v ∧ c.v ≤ 1099511627776) ∧ (0 ≤ c.n ∧ c.n ≤ 1099511627776) ∧ 0 ≤ c.r ∧ c.r ≤ 9 := by
  simp only [okB, Bool.and_eq_true, fitB_iff, decide_eq_true_eq, and_assoc]

theorem fits_any (n : Int) (w : World) :
    Calls Try.prog 26 #[.int .i64 n] w fun e w' => e = .returned (.bool (fitB n)) ∧ w = w' := by
  cases h : fitB n with
  | true =>
    obtain ⟨h1, h2⟩ := fitB_iff.1 h
    clear h
    go_enter Try.func26, Try.ntmps26
    go_wp2_with fail
    go_ret
    exact ⟨ret_bool (by first | (simp; done) | (simp; omega)), rfl⟩
  | false =>
    rcases fitB_no h with h1 | ⟨h1, h2⟩
    all_goals
      clear h
      go_enter Try.func26, Try.ntmps26
      go_wp2_with fail
      go_ret
      exact ⟨ret_bool (by first | (simp; done) | (simp; omega)), rfl⟩

theorem rvalid_any (c : Cl) (w : World) :
    Calls Try.prog 14 #[cv c] w fun e w' => e = .returned (.bool (okB c)) ∧ Below w.heap.size w w' := by
  obtain ⟨g, s, b, r, v, n⟩ := c
  simp only [cv]
  go_enter Try.func14, Try.ntmps14
  go_wp2_with (first | (go_at_call 26; ((with_reducible refine (fits_any _ _).mono ?_)); rintro e w' ⟨rfl, rfl⟩))
  all_goals go_ret
  all_goals exact ⟨ret_bool (by first | (simp [okB, *]; done) | (simp [okB, *]; omega)), (Below.refl _ _).alloc (Nat.le_refl _) _⟩

/-- what a claim uses beyond its guarantees -/
def exc (c : Cl) : Int := max 0 (c.v - c.g) + max 0 (c.n - c.s)
/-- numbers that add up without a wrap -/
def Cl.mid (c : Cl) : Prop := (-1125899906842624 ≤ c.g ∧ c.g ≤ 1125899906842624) ∧ (-1125899906842624 ≤ c.s ∧ c.s ≤ 1125899906842624) ∧ (-1125899906842624 ≤ c.v ∧ c.v ≤ 1125899906842624) ∧ (-1125899906842624 ≤ c.n ∧ c.n ≤ 1125899906842624)
theorem okB_mid {c : Cl} (h : okB c = true) : c.mid := by
  have := okB_iff.1 h
  unfold Cl.mid; omega
theorem rexcess_any (c : Cl) (w : World) (hm : c.mid) :
    Calls Try.prog 27 #[cv c] w fun e w' => e = .returned (.int .i64 (exc c)) ∧ Below w.heap.size w w' := by
  obtain ⟨g, s, b, r, v, n⟩ := c
  obtain ⟨h1, h2, h3, h4⟩ := hm
  simp only at h1 h2 h3 h4
  simp only [cv]
  go_enter Try.func27, Try.ntmps27
  go_wp2_with fail
  all_goals go_ret
  all_goals exact ⟨ret_int (by simp only [exc]; omega), (Below.refl _ _).alloc (Nat.le_refl _) _⟩

def overV (c : Cl) : Int := if okB c then exc c else 0
def needV (c : Cl) : Int := if okB c then max c.g c.v + max c.s c.n else 0
theorem rover_any (c : Cl) (w : World) :
    Calls Try.prog 16 #[cv c] w fun e w' => e = .returned (.int .i64 (overV c)) ∧ Below w.heap.size w w' := by
  cases h : okB c with
  | true =>
    have hm := okB_mid h
    have HM := Lib.hid hm
    have HO := Lib.hid h
    clear hm h
    obtain ⟨g, s, b, r, v, n⟩ := c
    simp only [cv]
    go_enter Try.func16, Try.ntmps16
    go_wp2_with fail
    refine (rvalid_any ⟨g, s, b, r, v, n⟩ _).mono ?_
    rintro e w1 ⟨rfl, hb⟩
    rw [HO.out]
    have hc := fun o (_ : o < 6) => hb.cell (p := ⟨w.heap.size, o, none⟩) (by simp)
    have HB := Lib.hid (below_call ((Below.refl w.heap.size w).alloc (Nat.le_refl _) _) hb)
    have c0 := hc 0 (by decide); have c1 := hc 1 (by decide); have c2 := hc 2 (by decide); have c3 := hc 3 (by decide); have c4 := hc 4 (by decide); have c5 := hc 5 (by decide)
    simp [go_sem] at c0 c1 c2 c3 c4 c5
    clear hc hb
    go_wp2_with fail
    refine (rexcess_any ⟨g, s, b, r, v, n⟩ _ HM.out).mono ?_
    rintro e w2 ⟨rfl, hb⟩
    have HB2 := Lib.hid (below_call HB.out hb)
    clear hb
    go_wp2_with fail
    go_ret
    exact ⟨ret_int (by rw [overV, HO.out]; rfl), HB2.out⟩
  | false =>
    have HO := Lib.hid h
    clear h
    obtain ⟨g, s, b, r, v, n⟩ := c
    simp only [cv]
    go_enter Try.func16, Try.ntmps16
    go_wp2_with fail
    refine (rvalid_any ⟨g, s, b, r, v, n⟩ _).mono ?_
    rintro e w1 ⟨rfl, hb⟩
    rw [HO.out]
    have HB := Lib.hid (below_call ((Below.refl w.heap.size w).alloc (Nat.le_refl _) _) hb)
    clear hb
    go_wp2_with fail
    go_ret
    exact ⟨ret_int (by rw [overV, HO.out]; rfl), HB.out⟩
end Go.Proofs.Ytaoinpijicenhaa
