/- Schedules: rows of rows of numbers, each of one's own and apart from the others. -/
import Derived.Test.YtghinmlpkgcdiaaDoorX5
namespace Go.Proofs.YtghinmlpkgcdiaaDoor
set_option linter.unusedSimpArgs false
set_option linter.unusedVariables false
open Go.RowKit Go.Lib

def nts (l : List Nat) : List Value := l.map fun (x : Nat) => Value.int .i64 (x : Int)
theorem nts_length (l : List Nat) : (nts l).length = l.length := by simp [nts]
theorem nts_snoc (l : List Nat) (x : Nat) : nts (l ++ [x]) = nts l ++ [.int .i64 (x : Int)] := by simp [nts]
theorem nts_append (l l2 : List Nat) : nts (l ++ l2) = nts l ++ nts l2 := by simp [nts]
theorem nts_get {l : List Nat} {i x : Nat} (h : l[i]? = some x) : (nts l)[i]? = some (.int .i64 (x : Int)) := by simp [nts, h]
theorem nts_one (l : List Nat) : ∀ u ∈ nts l, u.oneCell' = true := by
  intro u hu; obtain ⟨x, _, rfl⟩ := List.mem_map.1 hu; rfl
theorem Own.keeps {w w' : World} {B : Nat} {e : TypeId} {a : Option Addr} {n c : Nat} {xs : List Value} (h : Own w B e a n c xs) (hk : Keeps e w w') : Own w' B e a n c xs :=
  h.kept fun g hg => by
    obtain ⟨cs, hr, _⟩ := h.row hg
    exact (hk g cs hr).trans hr.symm
theorem Own.keeps_grown {w w' : World} {B B2 : Nat} {e e2 : TypeId} {a a2 : Option Addr} {n c n2 c2 : Nat} {xs ys : List Value} (h : Own w B e a n c xs) (hg : w.grownBy w' (Value.slice a2 n2 c2).ownBlock) (ho : Own w B2 e2 a2 n2 c2 ys) (hne : e ≠ e2) : Own w' B e a n c xs :=
  h.keeps ((Keeps.refl e w).grown ho hg hne)

/-- the values are rows of numbers, of the call's own, each in a block of its own -/
structure Fam (w : World) (B : Nat) (vs : List Value) (ls : List (List Nat)) : Prop where
  len : vs.length = ls.length
  own : ∀ (i : Nat) (l : List Nat), ls[i]? = some l → ∃ q k, vs[i]? = some (.slice q l.length k) ∧ Own w B 3 q l.length k (nts l)
  apart : ∀ (i j : Nat) (q q' : Option Addr) (n n' k k' : Nat), i ≠ j → vs[i]? = some (.slice q n k) → vs[j]? = some (.slice q' n' k') → Apart q q'
section
variable {w w' : World} {B : Nat} {vs : List Value} {ls : List (List Nat)}
theorem Fam.keeps (h : Fam w B vs ls) (hk : Keeps 3 w w') : Fam w' B vs ls :=
  ⟨h.len, fun i l hl => by obtain ⟨q, k, h1, h2⟩ := h.own i l hl; exact ⟨q, k, h1, h2.keeps hk⟩, h.apart⟩
theorem Fam.one (h : Fam w B vs ls) : ∀ u ∈ vs, u.oneCell' = true := fun u hu => by
  obtain ⟨i, hi, rfl⟩ := List.getElem_of_mem hu
  obtain ⟨q, k, e, _⟩ := h.own i _ (List.getElem?_eq_getElem (by rw [← h.len]; exact hi))
  rw [List.getElem?_eq_getElem hi] at e
  injection e with e
  rw [e]; rfl
theorem Fam.mono (h : Fam w B vs ls) {B' : Nat} (hB : B' ≤ B) : Fam w B' vs ls :=
  ⟨h.len, fun i l hl => by obtain ⟨q, k, h1, h2⟩ := h.own i l hl; exact ⟨q, k, h1, h2.mono hB⟩, h.apart⟩
theorem Fam.nil (w : World) (B : Nat) : Fam w B [] [] := ⟨rfl, fun i l h => by simp at h, fun i j q q' n n' k k' _ h => by simp at h⟩
theorem Fam.empty (w : World) (B n : Nat) : Fam w B (List.replicate n (.slice none 0 0)) (List.replicate n []) := by
  refine ⟨by simp, fun i l h => ?_, fun i j q q' n1 n' k k' _ h _ => ?_⟩
  · rw [List.getElem?_replicate] at h ⊢
    split at h
    · injection h with h
      subst h
      rename_i hi
      exact ⟨none, 0, by rw [if_pos hi]; rfl, Own.nil _ _ _⟩
    · cases h
  · rw [List.getElem?_replicate] at h
    split at h
    · injection h with h
      injection h with h1
      rw [← h1]
      exact Apart.none_left _
    · cases h
/-- a row is replaced by another, which lies where the old one lay or in a new block -/
theorem Fam.set (h : Fam w B vs ls) {i : Nat} {l l' : List Nat} {q q' : Option Addr} {k k' : Nat} (hl : ls[i]? = some l) (hv : vs[i]? = some (.slice q l.length k)) (hg : w.grownBy w' (Value.slice q l.length k).ownBlock) (ho : Own w' B 3 q' l'.length k' (nts l'))
    (hn : q' = q ∨ ∃ g, q' = some ⟨g, 0, none⟩ ∧ w.heap.size ≤ g) : Fam w' B (vs.set i (.slice q' l'.length k')) (ls.set i l') := by
  obtain ⟨hi, _⟩ := List.getElem?_eq_some_iff.1 hl
  obtain ⟨q0, k0, e0, ho0⟩ := h.own i l hl
  rw [hv] at e0
  injection e0 with e0
  injection e0 with e1 _ e2
  subst e1; subst e2
  have hAp : ∀ (j : Nat) (q2 : Option Addr) (n2 k2 : Nat), i ≠ j → vs[j]? = some (.slice q2 n2 k2) → Apart q' q2 := fun j q2 n2 k2 hij hj => by
    rcases hn with rfl | ⟨g, rfl, hgb⟩
    · exact h.apart i j _ _ _ _ _ _ hij hv hj
    · have hjl : j < ls.length := by
        obtain ⟨h1, _⟩ := List.getElem?_eq_some_iff.1 hj
        rw [← h.len]; exact h1
      obtain ⟨q3, k3, e3, ho3⟩ := h.own j _ (List.getElem?_eq_getElem hjl)
      rw [hj] at e3
      injection e3 with e3
      injection e3 with e4 e5 e6
      subst e4
      intro g2 hg2 hq2
      injection hg2 with hg2
      injection hg2 with hg2
      subst hg2
      have := (ho3.lt hq2).2
      omega
  refine ⟨by simp [h.len], fun j m hm => ?_, fun j1 j2 q1 q2 n1 n2 k1 k2 hij h1 h2 => ?_⟩
  · rw [List.getElem?_set] at hm ⊢
    by_cases e : i = j
    · subst e
      rw [if_pos rfl] at hm ⊢
      rw [if_pos hi] at hm
      injection hm with hm
      subst hm
      exact ⟨q', k', by rw [if_pos (by rw [h.len]; exact hi)], ho⟩
    · rw [if_neg e] at hm ⊢
      obtain ⟨q2, k2, e2, ho2⟩ := h.own j m hm
      exact ⟨q2, k2, e2, ho2.apart hg ((h.apart i j _ _ _ _ _ _ e hv e2).symm) ho0⟩
  · rw [List.getElem?_set] at h1 h2
    by_cases e : i = j1
    · subst e
      rw [if_pos rfl] at h1
      rw [if_neg hij] at h2
      split at h1
      · injection h1 with h1
        injection h1 with h1
        subst h1
        exact hAp _ _ _ _ hij h2
      · cases h1
    · rw [if_neg e] at h1
      by_cases e2 : i = j2
      · subst e2
        rw [if_pos rfl] at h2
        split at h2
        · injection h2 with h2
          injection h2 with h2
          subst h2
          exact (hAp _ _ _ _ (Ne.symm hij) h1).symm
        · cases h2
      · rw [if_neg e2] at h2
        exact h.apart _ _ _ _ _ _ _ _ hij h1 h2
/-- one more row, new -/
theorem Fam.snoc (h : Fam w B vs ls) {l : List Nat} {q : Option Addr} {k : Nat} (ho : Own w B 3 q l.length k (nts l)) (hn : ∀ (j : Nat) (q2 : Option Addr) (n2 k2 : Nat), vs[j]? = some (.slice q2 n2 k2) → Apart q2 q) : Fam w B (vs ++ [.slice q l.length k]) (ls ++ [l]) := by
  refine ⟨by simp [h.len], fun j m hm => ?_, fun j1 j2 q1 q2 n1 n2 k1 k2 hij h1 h2 => ?_⟩
  · by_cases hj : j < ls.length
    · rw [List.getElem?_append_left hj] at hm
      obtain ⟨q2, k2, e2, ho2⟩ := h.own j m hm
      exact ⟨q2, k2, by rw [List.getElem?_append_left (by rw [h.len]; exact hj)]; exact e2, ho2⟩
    · rw [List.getElem?_append_right (by omega)] at hm
      by_cases e : j - ls.length = 0
      · rw [e] at hm
        simp only [List.getElem?_cons_zero, Option.some.injEq] at hm
        subst hm
        exact ⟨q, k, by rw [List.getElem?_append_right (by rw [h.len]; omega), h.len, e]; rfl, ho⟩
      · rw [List.getElem?_eq_none (by simp; omega)] at hm; cases hm
  · have hx : ∀ (j : Nat) (v : Value), (vs ++ [.slice q l.length k])[j]? = some v → vs[j]? = some v ∨ (j = vs.length ∧ v = .slice q l.length k) := fun j v hv => by
      by_cases hj : j < vs.length
      · rw [List.getElem?_append_left hj] at hv; exact .inl hv
      · rw [List.getElem?_append_right (by omega)] at hv
        by_cases e : j - vs.length = 0
        · rw [e] at hv
          simp only [List.getElem?_cons_zero, Option.some.injEq] at hv
          exact .inr ⟨by omega, hv.symm⟩
        · rw [List.getElem?_eq_none (by simp; omega)] at hv; cases hv
    rcases hx _ _ h1 with h3 | ⟨e1, h3⟩ <;> rcases hx _ _ h2 with h4 | ⟨e2, h4⟩
    · exact h.apart _ _ _ _ _ _ _ _ hij h3 h4
    · injection h4 with h4; subst h4; exact hn _ _ _ _ h3
    · injection h3 with h3; subst h3; exact (hn _ _ _ _ h4).symm
    · omega
theorem Fam.rd (h : Fam w B vs ls) {i : Nat} {l : List Nat} (hl : ls[i]? = some l) : ∃ q k, vs[i]? = some (.slice q l.length k) ∧ Rd w w.heap.size q (nts l) ∧ l.length ≤ k := by
  obtain ⟨q, k, e, ho⟩ := h.own i l hl
  exact ⟨q, k, e, ho.rd, ho.cap⟩
end
end Go.Proofs.YtghinmlpkgcdiaaDoor
