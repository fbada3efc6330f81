/- The plain law of Decide: the need grows by the burst blocks; a grant in two parts. Opening the three numbers beside a claim. -/
import Derived.Test.YtaoinpijicenhaaOpenQ
namespace Go.Proofs.Ytaoinpijicenhaa
set_option linter.unusedSimpArgs false
set_option linter.unusedVariables false
open Go.ChangeShapes Go.WideShapes Go.ChangeAt Go.RowKit Go.Deep

/-- the claim after a write -/
def Cl.more (c : Cl) (x y : Int) : Cl := { c with v := c.v + x, n := c.n + y }
theorem dec_eq (c : Cl) (x y a : Int) : dec c x y a = if (okB c && fitB x && fitB y && fitB a) = false then (0, 0, 1)
    else if 0 < exc (c.more x y) - exc c ∧ (c.b < exc (c.more x y) ∨ a < exc (c.more x y) - exc c) then (0, 0, 16)
    else (x + y - (exc (c.more x y) - exc c), exc (c.more x y) - exc c, 0) := rfl
theorem dec_ok {c : Cl} {x y a : Int} (h : (dec c x y a).2.2 = 0) :
    okB c = true ∧ (0 ≤ x ∧ x ≤ 1099511627776) ∧ (0 ≤ y ∧ y ≤ 1099511627776) ∧ (0 ≤ a ∧ a ≤ 1099511627776) ∧
      ¬ (0 < exc (c.more x y) - exc c ∧ (c.b < exc (c.more x y) ∨ a < exc (c.more x y) - exc c)) ∧
      dec c x y a = (x + y - (exc (c.more x y) - exc c), exc (c.more x y) - exc c, 0) := by
  rw [dec_eq] at h ⊢
  by_cases h1 : (okB c && fitB x && fitB y && fitB a) = false
  · rw [if_pos h1] at h; cases h
  · rw [if_neg h1] at h ⊢
    by_cases h2 : 0 < exc (c.more x y) - exc c ∧ (c.b < exc (c.more x y) ∨ a < exc (c.more x y) - exc c)
    · rw [if_pos h2] at h; cases h
    · rw [if_neg h2]
      have h1 : (okB c && fitB x && fitB y && fitB a) = true := by
        cases hq : (okB c && fitB x && fitB y && fitB a) with
        | true => rfl
        | false => exact absurd hq h1
      simp only [Bool.and_eq_true, fitB_iff] at h1
      exact ⟨h1.1.1.1, h1.1.1.2, h1.1.2, h1.2, h2, rfl⟩
theorem dec_no {c : Cl} {x y a : Int} (h : (dec c x y a).2.2 ≠ 0) : (dec c x y a).1 = 0 ∧ (dec c x y a).2.1 = 0 := by
  rw [dec_eq] at h ⊢
  by_cases h1 : (okB c && fitB x && fitB y && fitB a) = false
  · rw [if_pos h1]; exact ⟨rfl, rfl⟩
  · rw [if_neg h1] at h ⊢
    by_cases h2 : 0 < exc (c.more x y) - exc c ∧ (c.b < exc (c.more x y) ∨ a < exc (c.more x y) - exc c)
    · rw [if_pos h2]; exact ⟨rfl, rfl⟩
    · rw [if_neg h2] at h; exact absurd rfl h
theorem dec_bd (c : Cl) (x y a : Int) : 0 ≤ (dec c x y a).2.2 ∧ (dec c x y a).2.2 ≤ 16 := by
  rw [dec_eq]
  split
  · simp
  · split <;> simp
/-- QuotaNeedGrowsByBurst -/
theorem grows {c : Cl} {x y a : Int} (h : (dec c x y a).2.2 = 0) (hd : okB (c.more x y) = true) :
    0 ≤ (dec c x y a).2.1 ∧ 0 ≤ (dec c x y a).1 ∧ (dec c x y a).2.1 + (dec c x y a).1 = x + y ∧ (dec c x y a).2.1 ≤ a ∧
      needV (c.more x y) = needV c + (dec c x y a).2.1 ∧ overV (c.more x y) = overV c + (dec c x y a).2.1 ∧ ((dec c x y a).2.1 = 0 ∨ overV (c.more x y) ≤ c.b) := by
  obtain ⟨h1, h2, h3, h4, h5, h6⟩ := dec_ok h
  have hc := okB_iff.1 h1
  rw [h6]
  have e1 : needV (c.more x y) = max c.g (c.v + x) + max c.s (c.n + y) := by rw [needV, if_pos hd]; rfl
  have e2 : needV c = max c.g c.v + max c.s c.n := by rw [needV, if_pos h1]
  have e3 : overV (c.more x y) = max 0 (c.v + x - c.g) + max 0 (c.n + y - c.s) := by rw [overV, if_pos hd]; rfl
  have e4 : overV c = max 0 (c.v - c.g) + max 0 (c.n - c.s) := by rw [overV, if_pos h1]; rfl
  have e5 : exc (c.more x y) = max 0 (c.v + x - c.g) + max 0 (c.n + y - c.s) := rfl
  have e6 : exc c = max 0 (c.v - c.g) + max 0 (c.n - c.s) := rfl
  rw [e1, e2, e3, e4]
  rw [e5, e6] at h5 ⊢
  simp only
  omega
theorem dec_val {c : Cl} {x y a : Int} (h1 : okB c = true) (h2 : 0 ≤ x ∧ x ≤ 1099511627776) (h3 : 0 ≤ y ∧ y ≤ 1099511627776) (h4 : 0 ≤ a ∧ a ≤ 1099511627776)
    (h5 : ¬ (0 < exc (c.more x y) - exc c ∧ (c.b < exc (c.more x y) ∨ a < exc (c.more x y) - exc c))) :
    dec c x y a = (x + y - (exc (c.more x y) - exc c), exc (c.more x y) - exc c, 0) := by
  rw [dec_eq]
  rw [if_neg, if_neg h5]
  · rw [h1, fitB_iff.2 h2, fitB_iff.2 h3, fitB_iff.2 h4]; simp
/-- QuotaInParts -/
theorem parts {c : Cl} {x y a v s : Int} (h : (dec c x y a).2.2 = 0) (hv : 0 ≤ v ∧ v ≤ x) (hs : 0 ≤ s ∧ s ≤ y) :
    (dec c v s a).2.2 = 0 ∧ (okB (c.more v s) = true → (dec (c.more v s) (x - v) (y - s) (a - (dec c v s a).2.1)).2.2 = 0 ∧
      (dec c v s a).2.1 + (dec (c.more v s) (x - v) (y - s) (a - (dec c v s a).2.1)).2.1 = (dec c x y a).2.1 ∧
      (dec c v s a).1 + (dec (c.more v s) (x - v) (y - s) (a - (dec c v s a).2.1)).1 = (dec c x y a).1) := by
  obtain ⟨h1, h2, h3, h4, h5, h6⟩ := dec_ok h
  have e5 : exc (c.more x y) = max 0 (c.v + x - c.g) + max 0 (c.n + y - c.s) := rfl
  have e6 : exc c = max 0 (c.v - c.g) + max 0 (c.n - c.s) := rfl
  have e7 : exc (c.more v s) = max 0 (c.v + v - c.g) + max 0 (c.n + s - c.s) := rfl
  have e8 : exc ((c.more v s).more (x - v) (y - s)) = max 0 (c.v + v + (x - v) - c.g) + max 0 (c.n + s + (y - s) - c.s) := rfl
  have hA := dec_val (c := c) (x := v) (y := s) (a := a) h1 (by omega) (by omega) h4 (by rw [e5, e6] at h5; rw [e6, e7]; omega)
  rw [hA]
  refine ⟨rfl, fun hd => ?_⟩
  have eb : (c.more v s).b = c.b := rfl
  have hB := dec_val (c := c.more v s) (x := x - v) (y := y - s) (a := a - (exc (c.more v s) - exc c)) hd (by omega) (by omega) (by rw [e5, e6] at h5; rw [e6, e7]; omega)
    (by rw [e5, e6] at h5; rw [eb, e6, e7, e8]; omega)
  simp only
  rw [hB, h6]
  rw [e5, e6, e7, e8]
  simp only
  refine ⟨trivial, by omega, by omega⟩

/-! ### opening -/
theorem info_claim : Try.prog.cellsOf 25 = 9 := by kernel_rfl
theorem in_fields : ∃ fs : Array Field, Try.prog.underlying 25 = some (.struct fs) ∧ fs.size = 4 ∧
    (∀ f, fs[0]? = some f → f.type = 23 ∧ f.offset = 0) ∧
    ∀ i f, fs[i]? = some f → 0 < i → Try.prog.underlying f.type = some (.int .i64) ∧ Try.prog.cellsOf f.type = 1 ∧ f.offset = i + 5 := by
  refine ⟨_, Try.underlying25, rfl, ?_, ?_⟩
  · intro f h
    injection h with h; subst h; exact ⟨rfl, rfl⟩
  · intro i f h hi
    match i, h with
    | 0, _ => omega
    | 1, h => injection h with h; subst h; exact ⟨Try.underlying3, by kernel_rfl, rfl⟩
    | 2, h => injection h with h; subst h; exact ⟨Try.underlying3, by kernel_rfl, rfl⟩
    | 3, h => injection h with h; subst h; exact ⟨Try.underlying3, by kernel_rfl, rfl⟩
    | n + 4, h => cases h
section
variable {H : Type} {enc : TypeId × Value → H} {w : World}
theorem open_in {fuel : Nat} {cs : List Value} {x : DataW H × List MemPlace} (h : DataW.trod enc Try.prog w 0 (fun _ => true) true fuel 25 cs = some x) :
    ∃ (c : Cl) (x y a : Int), cs = cells6 c ++ [.int .i64 x, .int .i64 y, .int .i64 a] ∧ (in64 c.g ∧ in64 c.s ∧ in64 c.b ∧ in64 c.r ∧ in64 c.v ∧ in64 c.n) ∧ in64 x ∧ in64 y ∧ in64 a := by
  obtain ⟨fs, h1, h2, h3, h4⟩ := in_fields
  obtain ⟨xs, n, _, _, hl, hlen, hx⟩ := DataW.trod_struct h1 h
  rw [info_claim] at hl
  have hf : ∀ i, i < 4 → ∃ f, fs[i]? = some f := fun i hi => ⟨_, Array.getElem?_eq_getElem (by omega)⟩
  obtain ⟨f0, g0⟩ := hf 0 (by omega)
  obtain ⟨f1, g1⟩ := hf 1 (by omega)
  obtain ⟨f2, g2⟩ := hf 2 (by omega)
  obtain ⟨f3, g3⟩ := hf 3 (by omega)
  have k0 := hx 0 f0 g0
  have k1 := hx 1 f1 g1
  have k2 := hx 2 f2 g2
  have k3 := hx 3 f3 g3
  obtain ⟨a1, a2⟩ := h3 f0 g0
  obtain ⟨b1, b2, b3⟩ := h4 1 f1 g1 (by omega)
  obtain ⟨c1, c2, c3⟩ := h4 2 f2 g2 (by omega)
  obtain ⟨d1, d2, d3⟩ := h4 3 f3 g3 (by omega)
  rw [a1, a2, claim_cells] at k0
  rw [b2, b3] at k1
  rw [c2, c3] at k2
  rw [d2, d3] at k3
  match cs, hl with
  | [z0, z1, z2, z3, z4, z5, z6, z7, z8], _ =>
    simp only [List.drop_succ_cons, List.drop_zero, List.take_succ_cons, List.take_zero, List.take_nil] at k0 k1 k2 k3
    have g0' := Array.getElem?_eq_some_iff.1 g0
    have x0 : xs[0]? = some xs[0] := List.getElem?_eq_getElem (by omega)
    have x1 : xs[1]? = some xs[1] := List.getElem?_eq_getElem (by omega)
    have x2 : xs[2]? = some xs[2] := List.getElem?_eq_getElem (by omega)
    have x3 : xs[3]? = some xs[3] := List.getElem?_eq_getElem (by omega)
    rw [x0] at k0
    rw [x1] at k1
    rw [x2] at k2
    rw [x3] at k3
    obtain ⟨c, hc, hin⟩ := open_claim k0
    obtain ⟨m1, e1, _, w1⟩ := DataW.trod_int b1 k1
    obtain ⟨m2, e2, _, w2⟩ := DataW.trod_int c1 k2
    obtain ⟨m3, e3, _, w3⟩ := DataW.trod_int d1 k3
    injection e1 with e1 _
    injection e2 with e2 _
    injection e3 with e3 _
    subst e1; subst e2; subst e3
    refine ⟨c, m1, m2, m3, ?_, hin, wf_i64 w1, wf_i64 w2, wf_i64 w3⟩
    rw [← hc]; rfl
end
end Go.Proofs.Ytaoinpijicenhaa
