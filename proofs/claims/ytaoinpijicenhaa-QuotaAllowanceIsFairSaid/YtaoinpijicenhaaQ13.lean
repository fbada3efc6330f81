/- More free blocks: the plain law. -/
import Derived.Test.YtaoinpijicenhaaQ9
namespace Go.Proofs.Ytaoinpijicenhaa
set_option linter.unusedSimpArgs false
set_option linter.unusedVariables false

theorem av_val (p : Int) (l : List Cl) (o : List Int) (F : Int) (i : Nat) (c : Cl) (x : Int) (hc : l[i]? = some c) (hx : o[i]? = some x) (hp : c.r = p) :
    (sh p l o F)[i]? = some (av l p (lev p l F) (F - costR p l (lev p l F)) i (wish c)) := by
  rw [sh, give_get p l o _ _ i c x hc hx, if_pos hp]
theorem sh_more (p : Int) (l : List Cl) (o : List Int) (F : Int) (h : 0 ≤ F) (hw : ∀ c ∈ l, wish c ≤ 1099511627776) (i : Nat) (c : Cl) (x : Int) (hc : l[i]? = some c) (hx : o[i]? = some x) (hp : c.r = p) :
    ∃ y z, (sh p l o F)[i]? = some y ∧ (sh p l o (F + 1))[i]? = some z ∧ y ≤ z ∧ z ≤ y + 1 := by
  have hl := lev_spec p l F h
  obtain ⟨L, hL⟩ : ∃ L, L = lev p l F := ⟨_, rfl⟩
  have hv := av_val p l o F i c x hc hx hp
  rw [← hL] at hl hv
  have e : sh p l o (F + 1) = giveR p l o L (F + 1 - costR p l L) := sh_lv p l o (by omega) hw ⟨by omega, by
    rcases hl.2.2.2 with h | h
    · right; rw [h]; exact fun d hd _ => hw d hd
    · left; omega⟩
  refine ⟨_, _, hv, by rw [e, give_get p l o _ _ i c x hc hx, if_pos hp], ?_⟩
  unfold av
  by_cases h1 : L < wish c
  · rw [if_pos h1, if_pos h1]
    by_cases h2 : cntR p (l.take i) L < F - costR p l L
    · rw [if_pos h2, if_pos (by omega)]; omega
    · rw [if_neg h2]; split <;> omega
  · rw [if_neg h1, if_neg h1]; omega
def totS (l : List Cl) : Nat → Int
  | 0 => 0
  | k + 1 => totS l k + totR k l
theorem totS_nn (l : List Cl) (k : Nat) : 0 ≤ totS l k := by
  induction k with
  | zero => exact Int.le_refl _
  | succ k ih => have := tot_nn k l; simp only [totS]; omega
theorem st_free (l : List Cl) (F : Int) (h : 0 ≤ F) (k : Nat) : (st l F k).2 = max 0 (F - totS l k) := by
  induction k with
  | zero => simp only [st, totS]; omega
  | succ k ih => have := tot_nn k l; have := totS_nn l k; simp only [st, totS, ih]; omega
theorem st_same (l : List Cl) (F : Int) (i : Nat) (c : Cl) (hc : l[i]? = some c) (hn : 0 ≤ c.r) : ∀ k : Nat, c.r < k → ∀ o : List Int, ∀ x, o[i]? = some x → (st l F k).1[i]? = (sh c.r l o (st l F c.r.toNat).2)[i]? := by
  intro k
  induction k with
  | zero => intro h; omega
  | succ k ih =>
    intro h o x hx
    have hlen := st_len l F k
    obtain ⟨hi, _⟩ := List.getElem?_eq_some_iff.1 hc
    obtain ⟨y, hy⟩ : ∃ y, (st l F k).1[i]? = some y := ⟨_, List.getElem?_eq_getElem (by omega)⟩
    by_cases he : c.r = k
    · have e : c.r.toNat = k := by omega
      rw [e]
      simp only [st]
      rw [av_val k l _ _ i c y hc hy he, ← he, av_val c.r l o _ i c x hc hx rfl]
    · simp only [st, sh]
      rw [give_get k l _ _ _ i c y hc hy, if_neg he, ← hy]
      exact ih (by omega) o x hx
theorem allow_more (l : List Cl) (F : Int) (h : 0 ≤ F) (hok : l.all okB = true) (i : Nat) (hi : i < l.length) : ∃ y z, (allow l F)[i]? = some y ∧ (allow l (F + 1))[i]? = some z ∧ y ≤ z ∧ z ≤ y + 1 := by
  obtain ⟨c, hc⟩ : ∃ c, l[i]? = some c := ⟨_, List.getElem?_eq_getElem hi⟩
  have hA := fun c (hc : c ∈ l) => (List.all_eq_true.1 hok) c hc
  have hw := fun c (hc : c ∈ l) => wish_le c (hA c hc)
  have hcr := okB_iff.1 (hA c (List.mem_of_getElem? hc))
  obtain ⟨x, hx⟩ : ∃ x, (List.replicate l.length (0 : Int))[i]? = some x := ⟨_, List.getElem?_eq_getElem (by simpa using hi)⟩
  have e1 := st_same l F i c hc (by omega) 10 (by omega) _ x hx
  have e2 := st_same l (F + 1) i c hc (by omega) 10 (by omega) _ x hx
  have f1 := st_free l F h c.r.toNat
  have f2 := st_free l (F + 1) (by omega) c.r.toNat
  obtain ⟨f, hf⟩ : ∃ f, f = (st l F c.r.toNat).2 := ⟨_, rfl⟩
  rw [← hf] at e1 f1
  have hor : (st l (F + 1) c.r.toNat).2 = f ∨ (st l (F + 1) c.r.toNat).2 = f + 1 := by omega
  rw [show allow l F = (st l F 10).1 from rfl, show allow l (F + 1) = (st l (F + 1) 10).1 from rfl, e1, e2]
  rcases hor with hq | hq
  · rw [hq, av_val c.r l _ f i c x hc hx rfl]
    exact ⟨_, _, rfl, rfl, by omega, by omega⟩
  · rw [hq]
    exact sh_more c.r l _ f (by omega) hw i c x hc hx rfl
theorem sum_giveR (p : Int) (l : List Cl) : ∀ (o : List Int) (L r : Int), o.length = l.length → (∀ (i : Nat) (c : Cl), l[i]? = some c → c.r = p → o[i]? = some 0) → sumL (giveR p l o L r) = sumL o + sumL (giveL (wsR p l) L r) := by
  induction l with
  | nil => intro o L r h _; cases o <;> simp_all [giveR, sumL, wsR, giveL]
  | cons c cs ih =>
    intro o L r h hz
    cases o with
    | nil => simp at h
    | cons x xs =>
      have hs : ∀ (i : Nat) (d : Cl), cs[i]? = some d → d.r = p → xs[i]? = some 0 := fun i d hd hp => by have := hz (i + 1) d (by simpa using hd) hp; simpa using this
      by_cases hp : c.r = p
      · have h0 := hz 0 c rfl hp
        simp only [List.getElem?_cons_zero, Option.some.injEq] at h0
        simp only [giveR, wsR, hp, if_true, true_and, sumL, giveL]
        rw [ih xs L _ (by simpa using h) hs]
        omega
      · simp only [giveR, wsR, hp, if_false, false_and, sumL]
        rw [ih xs L _ (by simpa using h) hs]
        omega
theorem st_sum (l : List Cl) (F : Int) (h : 0 ≤ F) (hok : l.all okB = true) (k : Nat) : sumL (st l F k).1 = F - (st l F k).2 := by
  have hA := fun c (hc : c ∈ l) => (List.all_eq_true.1 hok) c hc
  induction k with
  | zero =>
    simp only [st]
    have : ∀ n : Nat, sumL (List.replicate n 0) = 0 := by
      intro n
      induction n with
      | zero => rfl
      | succ n ih => rw [List.replicate_succ]; simp only [sumL, ih]; rfl
    rw [this]; omega
  | succ k ih =>
    have h1 := sum_giveR k l (st l F k).1 (lev k l (st l F k).2) ((st l F k).2 - costR k l (lev k l (st l F k).2)) (st_len l F k) (fun i c hc hp => st_zero l F k i c hc (by omega))
    have h2 := sum_sh (wsR k l) (st l F k).2 (ws_bd k l hA) (st_nn l F h k)
    rw [sum_ws] at h2
    unfold shL at h2
    rw [lev_ws, cost_ws] at h2
    rw [h2] at h1
    simp only [st, sh]
    rw [h1, ih]; omega
theorem allow_sum (l : List Cl) (F : Int) (h : 0 ≤ F) (hok : l.all okB = true) : sumL (allow l F) = min F (totS l 10) := by
  have := st_sum l F h hok 10
  have h2 := st_free l F h 10
  have := totS_nn l 10
  rw [show allow l F = (st l F 10).1 from rfl]
  omega
end Go.Proofs.Ytaoinpijicenhaa
