/- Sharing out free blocks: the plain law. -/
import Derived.Test.YtaoinpijicenhaaQ4
namespace Go.Proofs.Ytaoinpijicenhaa
set_option linter.unusedSimpArgs false
set_option linter.unusedVariables false

theorem wish_nn (c : Cl) : 0 ≤ wish c := by unfold wish; omega
theorem wish_le (c : Cl) (h : okB c = true) : wish c ≤ 1099511627776 := by
  have := okB_iff.1 h; have := exc_bd c h; unfold wish; omega

/-- level L given to each claim of the rank, and one block more to the first r that wish more -/
def giveR (p : Int) : List Cl → List Int → Int → Int → List Int
  | c :: cs, o :: os, L, r => (if c.r = p then (if L < wish c ∧ 0 < r then L + 1 else min (wish c) L) else o) :: giveR p cs os L (if c.r = p ∧ L < wish c ∧ 0 < r then r - 1 else r)
  | _, _, _, _ => []
def costR (p : Int) : List Cl → Int → Int
  | [], _ => 0
  | c :: cs, L => (if c.r = p then min (wish c) L else 0) + costR p cs L
def cntR (p : Int) : List Cl → Int → Int
  | [], _ => 0
  | c :: cs, L => (if c.r = p ∧ L < wish c then 1 else 0) + cntR p cs L
def totR (p : Int) : List Cl → Int
  | [] => 0
  | c :: cs => (if c.r = p then wish c else 0) + totR p cs

theorem cnt_nn (p : Int) (l : List Cl) (L : Int) : 0 ≤ cntR p l L := by
  induction l with
  | nil => exact Int.le_refl _
  | cons c cs ih => simp only [cntR]; split <;> omega
theorem cost_succ (p : Int) (l : List Cl) (L : Int) : costR p l (L + 1) = costR p l L + cntR p l L := by
  induction l with
  | nil => rfl
  | cons c cs ih =>
    simp only [costR, cntR, ih]
    by_cases h : c.r = p
    · by_cases h2 : L < wish c
      · simp only [h, h2, if_true, true_and]; omega
      · simp only [h, h2, if_true, true_and, if_false]; omega
    · simp only [h, if_false, false_and]; omega
theorem cost_mono (p : Int) (l : List Cl) {L K : Int} (h : L ≤ K) : costR p l L ≤ costR p l K := by
  induction l with
  | nil => exact Int.le_refl _
  | cons c cs ih =>
    simp only [costR]
    split <;> omega
theorem cost_zero (p : Int) (l : List Cl) : costR p l 0 = 0 := by
  induction l with
  | nil => rfl
  | cons c cs ih =>
    simp only [costR, ih]
    have := wish_nn c
    split <;> omega
theorem cost_tot (p : Int) (l : List Cl) (L : Int) : costR p l L ≤ totR p l := by
  induction l with
  | nil => exact Int.le_refl _
  | cons c cs ih =>
    simp only [costR, totR]
    split <;> omega
theorem cost_all (p : Int) (l : List Cl) (L : Int) (h : ∀ c ∈ l, c.r = p → wish c ≤ L) : costR p l L = totR p l := by
  induction l with
  | nil => rfl
  | cons c cs ih =>
    have h1 := h c (List.mem_cons_self ..)
    simp only [costR, totR, ih fun d hd => h d (List.mem_cons_of_mem _ hd)]
    split <;> omega
theorem tot_nn (p : Int) (l : List Cl) : 0 ≤ totR p l := by
  induction l with
  | nil => exact Int.le_refl _
  | cons c cs ih =>
    have := wish_nn c
    simp only [totR]; split <;> omega
theorem give_len (p : Int) (l : List Cl) : ∀ (o : List Int) (L r : Int), o.length = l.length → (giveR p l o L r).length = l.length := by
  induction l with
  | nil => intro o L r h; cases o <;> simp_all [giveR]
  | cons c cs ih =>
    intro o L r h
    cases o with
    | nil => simp at h
    | cons x xs => simp only [giveR, List.length_cons]; rw [ih]; simpa using h
/-- enough for all that wish more: the next level -/
theorem give_full (p : Int) (l : List Cl) : ∀ (o : List Int) (L r : Int), cntR p l L ≤ r → giveR p l o L r = giveR p l o (L + 1) 0 := by
  induction l with
  | nil => intro o L r _; simp [giveR]
  | cons c cs ih =>
    intro o L r h
    cases o with
    | nil => simp [giveR]
    | cons x xs =>
      have hn := cnt_nn p cs L
      simp only [giveR, cntR] at h ⊢
      by_cases h1 : c.r = p
      · by_cases h2 : L < wish c
        · simp only [h1, h2, true_and, if_true] at h ⊢
          have h3 : 0 < r := by omega
          simp only [h3, if_true, Int.lt_irrefl, and_false, if_false]
          rw [ih xs L (r - 1) (by omega)]
          congr 1; omega
        · simp only [h1, h2, true_and, if_true, false_and, if_false, Int.lt_irrefl, and_false] at h ⊢
          rw [ih xs L r (by omega)]
          congr 1; omega
      · simp only [h1, false_and, if_false] at h ⊢
        rw [ih xs L r (by omega)]
/-- two levels of the same cost -/
theorem give_same (p : Int) (l : List Cl) : ∀ (o : List Int) (L K : Int), L ≤ K → costR p l L = costR p l K → giveR p l o L 0 = giveR p l o K 0 := by
  induction l with
  | nil => intro o L K _ _; simp [giveR]
  | cons c cs ih =>
    intro o L K hLK h
    cases o with
    | nil => simp [giveR]
    | cons x xs =>
      have hm := cost_mono p cs hLK
      simp only [giveR, costR] at h ⊢
      simp only [Int.lt_irrefl, and_false, if_false]
      by_cases h1 : c.r = p
      · simp only [h1, if_true] at h ⊢
        rw [ih xs L K hLK (by omega)]
        congr 1; omega
      · simp only [h1, if_false] at h ⊢
        rw [ih xs L K hLK (by omega)]
/-- all wishes met -/
theorem give_all (p : Int) (l : List Cl) : ∀ (o : List Int) (L K r s : Int), (∀ c ∈ l, c.r = p → wish c ≤ L) → L ≤ K → giveR p l o L r = giveR p l o K s := by
  induction l with
  | nil => intro o L K r s _ _; simp [giveR]
  | cons c cs ih =>
    intro o L K r s h hLK
    cases o with
    | nil => simp [giveR]
    | cons x xs =>
      have h1 := h c (List.mem_cons_self ..)
      by_cases hp : c.r = p
      · have h2 : ¬ L < wish c := by have := h1 hp; omega
        have h3 : ¬ K < wish c := by have := h1 hp; omega
        simp only [giveR, hp, if_true, h2, h3, false_and, and_false, if_false]
        rw [ih xs L K r s (fun d hd => h d (List.mem_cons_of_mem _ hd)) hLK]
        congr 1; omega
      · simp only [giveR, hp, false_and, if_false]
        rw [ih xs L K r s (fun d hd => h d (List.mem_cons_of_mem _ hd)) hLK]
/-- a level that F reaches -/
def Lv (p : Int) (l : List Cl) (F L : Int) : Prop := costR p l L ≤ F ∧ (F ≤ costR p l (L + 1) ∨ ∀ c ∈ l, c.r = p → wish c ≤ L)
theorem give_eq_le (p : Int) (l : List Cl) (o : List Int) {F L K : Int} (h1 : Lv p l F L) (h2 : Lv p l F K) (hLK : L < K) : giveR p l o L (F - costR p l L) = giveR p l o K (F - costR p l K) := by
  rcases h1.2 with h | h
  · have hm := cost_mono p l (show L + 1 ≤ K by omega)
    have h3 := h2.1
    have e : F - costR p l K = 0 := by omega
    have hs := cost_succ p l L
    rw [e, give_full p l o L _ (by omega)]
    exact give_same p l o _ _ (by omega) (by omega)
  · exact give_all p l o _ _ _ _ h (by omega)
theorem give_eq (p : Int) (l : List Cl) (o : List Int) {F L K : Int} (h1 : Lv p l F L) (h2 : Lv p l F K) : giveR p l o L (F - costR p l L) = giveR p l o K (F - costR p l K) := by
  rcases Int.lt_trichotomy L K with h | h | h
  · exact give_eq_le p l o h1 h2 h
  · rw [h]
  · exact (give_eq_le p l o h2 h1 h).symm

def levN (f : Int → Int) (F : Int) : Nat → Nat
  | 0 => 0
  | n + 1 => if f ((n : Int) + 1) ≤ F then n + 1 else levN f F n
theorem levN_spec (f : Int → Int) (F : Int) (h0 : f 0 ≤ F) (n : Nat) : f (levN f F n) ≤ F ∧ levN f F n ≤ n ∧ (levN f F n = n ∨ F < f ((levN f F n : Int) + 1)) := by
  induction n with
  | zero => exact ⟨h0, Nat.le_refl _, .inl rfl⟩
  | succ n ih =>
    simp only [levN]
    split
    · rename_i h; exact ⟨by simpa using h, Nat.le_refl _, .inl rfl⟩
    · rename_i h
      refine ⟨ih.1, by omega, ?_⟩
      rcases ih.2.2 with h2 | h2
      · right; rw [h2]; omega
      · exact .inr h2
/-- the level of a rank -/
def lev (p : Int) (l : List Cl) (F : Int) : Int := levN (costR p l) F (1099511627776 : Int).toNat
theorem lev_spec (p : Int) (l : List Cl) (F : Int) (h : 0 ≤ F) : 0 ≤ lev p l F ∧ lev p l F ≤ 1099511627776 ∧ costR p l (lev p l F) ≤ F ∧ (lev p l F = 1099511627776 ∨ F < costR p l (lev p l F + 1)) := by
  unfold lev
  have hk : ∃ k : Nat, k = (1099511627776 : Int).toNat ∧ (k : Int) = 1099511627776 := ⟨_, rfl, by omega⟩
  obtain ⟨k, hk, hk2⟩ := hk
  rw [← hk]
  have := levN_spec (costR p l) F (by rw [cost_zero]; exact h) k
  omega
theorem lev_lv (p : Int) (l : List Cl) (F : Int) (h : 0 ≤ F) (hw : ∀ c ∈ l, wish c ≤ 1099511627776) : Lv p l F (lev p l F) := by
  have := lev_spec p l F h
  refine ⟨this.2.2.1, ?_⟩
  rcases this.2.2.2 with h | h
  · right; rw [h]; exact fun c hc _ => hw c hc
  · left; omega
/-- what a rank is given of F blocks -/
def sh (p : Int) (l : List Cl) (o : List Int) (F : Int) : List Int := giveR p l o (lev p l F) (F - costR p l (lev p l F))
theorem sh_lv (p : Int) (l : List Cl) (o : List Int) {F L : Int} (h : 0 ≤ F) (hw : ∀ c ∈ l, wish c ≤ 1099511627776) (hL : Lv p l F L) : sh p l o F = giveR p l o L (F - costR p l L) := give_eq p l o (lev_lv p l F h hw) hL
theorem cnt_zero (p : Int) (l : List Cl) (L : Int) (h : cntR p l L = 0) : ∀ c ∈ l, c.r = p → wish c ≤ L := by
  induction l with
  | nil => intro c hc; cases hc
  | cons d ds ih =>
    intro c hc hp
    have hn := cnt_nn p ds L
    simp only [cntR] at h
    rcases List.mem_cons.1 hc with rfl | hc
    · by_cases h2 : L < wish c
      · rw [if_pos ⟨hp, h2⟩] at h; omega
      · omega
    · refine ih ?_ c hc hp
      split at h <;> omega
theorem give_none (p : Int) (l : List Cl) : ∀ (o : List Int), o.length = l.length → (∀ (i : Nat) (c : Cl), l[i]? = some c → c.r = p → o[i]? = some 0) → giveR p l o 0 0 = o := by
  induction l with
  | nil => intro o h _; cases o <;> simp_all [giveR]
  | cons c cs ih =>
    intro o h hz
    cases o with
    | nil => simp at h
    | cons x xs =>
      have hw := wish_nn c
      simp only [giveR, Int.lt_irrefl, and_false, if_false]
      rw [ih xs (by simpa using h) fun i d hd hp => by have := hz (i + 1) d (by simpa using hd) hp; simpa using this]
      congr 1
      by_cases hp : c.r = p
      · have := hz 0 c rfl hp
        simp only [List.getElem?_cons_zero, Option.some.injEq] at this
        rw [if_pos hp]; omega
      · rw [if_neg hp]
theorem sh_len (p : Int) (l : List Cl) (o : List Int) (F : Int) (h : o.length = l.length) : (sh p l o F).length = l.length := give_len p l o _ _ h

/-- the blocks given and the blocks left, after k ranks -/
def st (l : List Cl) (F : Int) : Nat → List Int × Int
  | 0 => (List.replicate l.length 0, F)
  | k + 1 => (sh k l (st l F k).1 (st l F k).2, (st l F k).2 - min (st l F k).2 (totR k l))
def allow (l : List Cl) (F : Int) : List Int := (st l F 10).1
theorem st_nn (l : List Cl) (F : Int) (h : 0 ≤ F) (k : Nat) : 0 ≤ (st l F k).2 := by
  induction k with
  | zero => exact h
  | succ k ih => simp only [st]; omega
theorem st_le (l : List Cl) (F : Int) (h : 0 ≤ F) (k : Nat) : (st l F k).2 ≤ F := by
  induction k with
  | zero => exact Int.le_refl _
  | succ k ih => simp only [st]; have := tot_nn k l; have := st_nn l F h k; omega
theorem st_len (l : List Cl) (F : Int) (k : Nat) : (st l F k).1.length = l.length := by
  induction k with
  | zero => simp [st]
  | succ k ih => simp only [st]; exact sh_len _ _ _ _ ih
theorem allow_len (l : List Cl) (F : Int) : (allow l F).length = l.length := st_len l F 10

/-! ### place by place -/
def av (l : List Cl) (p L r : Int) (i : Nat) (w : Int) : Int := if L < w then (if cntR p (l.take i) L < r then L + 1 else L) else w
theorem give_get (p : Int) (l : List Cl) : ∀ (o : List Int) (L r : Int) (i : Nat) (c : Cl) (x : Int), l[i]? = some c → o[i]? = some x → (giveR p l o L r)[i]? = some (if c.r = p then av l p L r i (wish c) else x) := by
  induction l with
  | nil => intro o L r i c x h; simp at h
  | cons d ds ih =>
    intro o L r i c x hc hx
    cases o with
    | nil => simp at hx
    | cons y ys =>
      cases i with
      | zero =>
        simp only [List.getElem?_cons_zero, Option.some.injEq] at hc hx
        subst hc; subst hx
        simp only [giveR, List.getElem?_cons_zero, av, List.take_zero, cntR]
        congr 1
        by_cases h1 : d.r = p
        · simp only [h1, if_true]
          by_cases h2 : L < wish d
          · by_cases h3 : 0 < r
            · simp [h2, h3]
            · simp [h2, h3]; omega
          · simp [h2]; omega
        · simp [h1]
      | succ i =>
        have hc2 : ds[i]? = some c := by simpa using hc
        have hx2 : ys[i]? = some x := by simpa using hx
        simp only [giveR, List.getElem?_cons_succ]
        rw [ih ys L _ i c x hc2 hx2]
        congr 1
        by_cases h1 : c.r = p
        · simp only [h1, if_true, av, List.take_succ_cons, cntR]
          have hn := cnt_nn p (ds.take i) L
          by_cases h0 : d.r = p ∧ L < wish d
          · by_cases h3 : 0 < r
            · have e : (cntR p (ds.take i) L < r - 1) = (1 + cntR p (ds.take i) L < r) := by apply propext; omega
              simp only [h0.1, h0.2, h3, true_and, if_true, and_self, e]
            · have e1 : ¬ (cntR p (ds.take i) L < r) := by omega
              have e2 : ¬ (1 + cntR p (ds.take i) L < r) := by omega
              simp only [h0.1, h0.2, h3, true_and, if_true, and_false, if_false, e1, e2]
          · have e : ¬ (d.r = p ∧ L < wish d ∧ 0 < r) := fun h => h0 ⟨h.1, h.2.1⟩
            simp only [h0, e, if_false, Int.zero_add]
        · simp only [h1, if_false]
theorem st_zero (l : List Cl) (F : Int) (k : Nat) : ∀ (i : Nat) (c : Cl), l[i]? = some c → (k : Int) ≤ c.r → (st l F k).1[i]? = some 0 := by
  induction k with
  | zero =>
    intro i c hc _
    obtain ⟨hi, _⟩ := List.getElem?_eq_some_iff.1 hc
    simp only [st]
    rw [List.getElem?_replicate, if_pos hi]
  | succ k ih =>
    intro i c hc h
    have h0 := ih i c hc (by omega)
    simp only [st, sh]
    rw [give_get _ l _ _ _ i c 0 hc h0, if_neg (by omega)]
end Go.Proofs.Ytaoinpijicenhaa
