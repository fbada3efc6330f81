/- The plain law of the allowance's fairness. -/
import Derived.Test.YtaoinpijicenhaaQ13
namespace Go.Proofs.Ytaoinpijicenhaa
set_option linter.unusedSimpArgs false
set_option linter.unusedVariables false

theorem cnt_grow (p : Int) (l : List Cl) (L : Int) : ∀ i k : Nat, i ≤ k → cntR p (l.take i) L ≤ cntR p (l.take k) L := by
  induction l with
  | nil => intro i k _; simp
  | cons c cs ih =>
    intro i k hik
    cases i with
    | zero => rw [List.take_zero]; exact cnt_nn p _ L
    | succ i =>
      cases k with
      | zero => omega
      | succ k =>
        simp only [List.take_succ_cons, cntR]
        have := ih i k (by omega)
        omega
theorem totS_mono (l : List Cl) {i k : Nat} (h : i ≤ k) : totS l i ≤ totS l k := by
  induction k with
  | zero => rw [show i = 0 by omega]; exact Int.le_refl _
  | succ k ih =>
    by_cases e : i = k + 1
    · rw [e]; exact Int.le_refl _
    · have := ih (by omega)
      have := tot_nn k l
      simp only [totS]; omega
/-- a claim's share: its own rank's level and rest -/
theorem allow_val (l : List Cl) (F : Int) (h : 0 ≤ F) (i : Nat) (c : Cl) (hc : l[i]? = some c) (hok : l.all okB = true) :
    (allow l F)[i]? = some (av l c.r (lev c.r l (st l F c.r.toNat).2) ((st l F c.r.toNat).2 - costR c.r l (lev c.r l (st l F c.r.toNat).2)) i (wish c)) := by
  have hcr := okB_iff.1 ((List.all_eq_true.1 hok) c (List.mem_of_getElem? hc))
  obtain ⟨hi, _⟩ := List.getElem?_eq_some_iff.1 hc
  obtain ⟨x, hx⟩ : ∃ x, (List.replicate l.length (0 : Int))[i]? = some x := ⟨_, List.getElem?_eq_getElem (by simpa using hi)⟩
  rw [show allow l F = (st l F 10).1 from rfl, st_same l F i c hc (by omega) 10 (by omega) _ x hx, av_val c.r l _ _ i c x hc hx rfl]
theorem av_free (l : List Cl) (p : Int) (hw : ∀ c ∈ l, wish c ≤ 1099511627776) (i : Nat) (c : Cl) (hc : l[i]? = some c) (hp : c.r = p) :
    av l p (lev p l 0) (0 - costR p l (lev p l 0)) i (wish c) = 0 := by
  obtain ⟨hi, _⟩ := List.getElem?_eq_some_iff.1 hc
  obtain ⟨x, hx⟩ : ∃ x, (List.replicate l.length (0 : Int))[i]? = some x := ⟨_, List.getElem?_eq_getElem (by simpa using hi)⟩
  have e1 := av_val p l _ 0 i c x hc hx hp
  have hz := cost_zero p l
  have e2 : sh p l (List.replicate l.length 0) 0 = giveR p l (List.replicate l.length 0) 0 (0 - costR p l 0) :=
    sh_lv p l _ (Int.le_refl 0) hw ⟨by omega, .inl (by have := cost_mono p l (show (0 : Int) ≤ 0 + 1 by omega); omega)⟩
  rw [e2, hz, give_get p l _ _ _ i c x hc hx, if_pos hp] at e1
  injection e1 with e1
  rw [← e1]
  unfold av
  have := wish_nn c
  have := cnt_nn p (l.take i) 0
  split
  · rw [if_neg (by omega)]
  · omega
theorem fair (l : List Cl) (F : Int) (h : 0 ≤ F) (hok : l.all okB = true) (i : Nat) (c : Cl) (hc : l[i]? = some c) :
    ∃ y, (allow l F)[i]? = some y ∧ 0 ≤ y ∧ y ≤ wish c ∧ (y < wish c → ∀ (k : Nat) (d : Cl) (z : Int), l[k]? = some d → (allow l F)[k]? = some z →
      (c.r < d.r → z ≤ 0) ∧ (d.r = c.r → z ≤ y + 1) ∧ (d.r = c.r → i < k → z ≤ y)) := by
  have hA := fun c (hc : c ∈ l) => (List.all_eq_true.1 hok) c hc
  have hw := fun c (hc : c ∈ l) => wish_le c (hA c hc)
  have hf := st_nn l F h c.r.toNat
  have hl := lev_spec c.r l _ hf
  have hcr := okB_iff.1 (hA c (List.mem_of_getElem? hc))
  have hwc := hw c (List.mem_of_getElem? hc)
  have hw0 := wish_nn c
  have hv := allow_val l F h i c hc hok
  refine ⟨_, hv, ?_, ?_, ?_⟩
  · unfold av; split
    · split <;> omega
    · omega
  · unfold av; split
    · split <;> omega
    · omega
  · intro hlt k d z hd hz
    have hvd := allow_val l F h k d hd hok
    rw [hvd] at hz
    injection hz with hz
    have hL : lev c.r l (st l F c.r.toNat).2 < wish c := by
      by_cases hL : lev c.r l (st l F c.r.toNat).2 < wish c
      · exact hL
      · unfold av at hlt; rw [if_neg hL] at hlt; omega
    refine ⟨fun hr => ?_, fun hr => ?_, fun hr hik => ?_⟩
    · have hdr := okB_iff.1 (hA d (List.mem_of_getElem? hd))
      have e : (st l F d.r.toNat).2 = 0 := by
        rw [st_free l F h]
        have e1 := st_free l F h c.r.toNat
        have e2 : totS l (c.r.toNat + 1) = totS l c.r.toNat + totR c.r l := by
          simp only [totS]; rw [show ((c.r.toNat : Nat) : Int) = c.r by omega]
        have e3 := totS_mono l (show c.r.toNat + 1 ≤ d.r.toNat by omega)
        have e4 : (st l F c.r.toNat).2 ≤ totR c.r l := by
          have := cost_tot c.r l (lev c.r l (st l F c.r.toNat).2 + 1)
          rcases hl.2.2.2 with hh | hh <;> omega
        omega
      rw [e, av_free l d.r hw k d hd rfl] at hz
      omega
    · rw [hr] at hz
      rw [← hz]
      unfold av at hlt ⊢
      rw [if_pos hL] at hlt ⊢
      split <;> (try split) <;> (try split) <;> omega
    · rw [hr] at hz
      rw [← hz]
      have hg := cnt_grow c.r l (lev c.r l (st l F c.r.toNat).2) i k (by omega)
      unfold av at hlt ⊢
      rw [if_pos hL] at hlt ⊢
      split <;> (try split) <;> (try split) <;> omega
def sumW : List Cl → Int
  | [] => 0
  | c :: cs => wish c + sumW cs
theorem sumW_app (xs ys : List Cl) : sumW (xs ++ ys) = sumW xs + sumW ys := by
  induction xs with
  | nil => simp [sumW]
  | cons x xs ih => simp only [List.cons_append, sumW, ih]; omega
theorem totS_cons (c : Cl) (cs : List Cl) (h : 0 ≤ c.r) (k : Nat) : totS (c :: cs) k = (if c.r < k then wish c else 0) + totS cs k := by
  induction k with
  | zero => simp only [totS]; rw [if_neg (by omega)]; rfl
  | succ k ih =>
    simp only [totS, totR, ih]
    by_cases h1 : c.r < k
    · rw [if_pos h1, if_neg (by omega), if_pos (by omega)]; omega
    · by_cases h2 : c.r = k
      · rw [if_neg h1, if_pos h2, if_pos (by omega)]; omega
      · rw [if_neg h1, if_neg h2, if_neg (by omega)]; omega
theorem totS_sum (l : List Cl) (hok : l.all okB = true) : totS l 10 = sumW l := by
  induction l with
  | nil => decide
  | cons c cs ih =>
    simp only [List.all_cons, Bool.and_eq_true] at hok
    have hcr := okB_iff.1 hok.1
    rw [totS_cons c cs (by omega), if_pos (by omega), ih hok.2]; rfl
theorem sumW_bd (l : List Cl) (hok : l.all okB = true) : 0 ≤ sumW l ∧ sumW l ≤ 1099511627776 * l.length := by
  induction l with
  | nil => simp [sumW]
  | cons c cs ih =>
    simp only [List.all_cons, Bool.and_eq_true] at hok
    have h1 := wish_nn c
    have h2 := wish_le c hok.1
    have h3 := ih hok.2
    simp only [sumW, List.length_cons]; omega
end Go.Proofs.Ytaoinpijicenhaa
