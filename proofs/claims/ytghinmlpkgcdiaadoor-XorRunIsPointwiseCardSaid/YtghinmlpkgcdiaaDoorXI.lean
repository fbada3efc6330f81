/- Schedules: the sets of a code, the plain words. -/
import Derived.Test.YtghinmlpkgcdiaaDoorXH
import Derived.Test.YtghinmlpkgcdiaaDoorFld
set_option linter.unusedVariables false
namespace Go.Proofs.YtghinmlpkgcdiaaDoor
namespace Xp

/-- of the first T inputs, those in whose product with their coefficient bit k is set -/
def plane (m : Nat) (row : List Nat) (k T : Nat) : List Nat := (List.range T).filter fun t => (Fld.mul m (row[t / m]?.getD 0) (1 <<< (t % m))).testBit k
def planesTo (m : Nat) (row : List Nat) (T : Nat) : List (List Nat) := (List.range m).map fun k => plane m row k T
def planesAt (m : Nat) (row : List Nat) (T i : Nat) : List (List Nat) := (List.range m).map fun k => plane m row k (if k < i then T + 1 else T)
def planes (m : Nat) (row : List Nat) : List (List Nat) := planesTo m row (row.length * m)
/-- the sets that a code's parity units are made of -/
def csets (m : Nat) (rows : List (List Nat)) : List (List Nat) := rows.flatMap (planes m)
theorem planesTo_zero (m : Nat) (row : List Nat) : planesTo m row 0 = List.replicate m [] := by
  unfold planesTo plane
  simp [List.map_const']
theorem planesAt_zero (m : Nat) (row : List Nat) (T : Nat) : planesAt m row T 0 = planesTo m row T := by
  unfold planesAt planesTo; simp
theorem planesAt_end (m : Nat) (row : List Nat) (T : Nat) : planesAt m row T m = planesTo m row (T + 1) := by
  unfold planesAt planesTo
  apply List.map_congr_left
  intro k hk
  rw [if_pos (List.mem_range.1 hk)]
theorem plane_succ (m : Nat) (row : List Nat) (k T : Nat) : plane m row k (T + 1) = if (Fld.mul m (row[T / m]?.getD 0) (1 <<< (T % m))).testBit k then plane m row k T ++ [T] else plane m row k T := by
  unfold plane
  rw [List.range_succ, List.filter_append]
  by_cases h : (Fld.mul m (row[T / m]?.getD 0) (1 <<< (T % m))).testBit k
  · rw [if_pos h, List.filter_cons, if_pos h]; rfl
  · rw [if_neg h, List.filter_cons, if_neg h]; simp
theorem plane_length (m : Nat) (row : List Nat) (k T : Nat) : (plane m row k T).length ≤ T := by
  unfold plane; have := List.length_filter_le (fun t => (Fld.mul m (row[t / m]?.getD 0) (1 <<< (t % m))).testBit k) (List.range T); simpa using this
theorem planesAt_get {m : Nat} {row : List Nat} {T i : Nat} (h : i < m) : (planesAt m row T i)[i]? = some (plane m row i T) := by
  unfold planesAt
  rw [List.getElem?_map, List.getElem?_range h]
  simp
theorem planesAt_length (m : Nat) (row : List Nat) (T i : Nat) : (planesAt m row T i).length = m := by simp [planesAt]
theorem planes_length (m : Nat) (row : List Nat) : (planes m row).length = m := by simp [planes, planesTo]
theorem planesAt_keep {m : Nat} {row : List Nat} {T i : Nat} (h : (Fld.mul m (row[T / m]?.getD 0) (1 <<< (T % m))).testBit i = false) : planesAt m row T i = planesAt m row T (i + 1) := by
  unfold planesAt
  apply List.map_congr_left
  intro k hk
  by_cases e : k = i
  · subst e
    rw [if_neg (Nat.lt_irrefl _), if_pos (Nat.lt_succ_self _), plane_succ, h]; rfl
  · by_cases e2 : k < i
    · rw [if_pos e2, if_pos (by omega)]
    · rw [if_neg e2, if_neg (by omega)]
theorem planesAt_put {m : Nat} {row : List Nat} {T i : Nat} (hi : i < m) (h : (Fld.mul m (row[T / m]?.getD 0) (1 <<< (T % m))).testBit i = true) : (planesAt m row T i).set i (plane m row i T ++ [T]) = planesAt m row T (i + 1) := by
  apply List.ext_getElem?
  intro k
  rw [List.getElem?_set, planesAt_length]
  by_cases e : i = k
  · subst e
    rw [if_pos rfl, if_pos hi]
    unfold planesAt
    rw [List.getElem?_map, List.getElem?_range hi]
    simp only [Option.map_some]
    rw [if_pos (Nat.lt_succ_self _), plane_succ, if_pos h]
  · rw [if_neg e]
    unfold planesAt
    rw [List.getElem?_map, List.getElem?_map]
    by_cases hk : k < m
    · rw [List.getElem?_range hk]
      simp only [Option.map_some]
      by_cases e2 : k < i
      · rw [if_pos e2, if_pos (by omega)]
      · rw [if_neg e2, if_neg (by omega)]
    · rw [List.getElem?_eq_none (by simp; omega)]; rfl
theorem csets_take {m : Nat} {rows : List (List Nat)} {i : Nat} {r : List Nat} (h : rows[i]? = some r) : csets m (rows.take (i + 1)) = csets m (rows.take i) ++ planes m r := by
  unfold csets
  rw [List.take_add_one, h, List.flatMap_append]
  simp
theorem csets_length (m : Nat) (rows : List (List Nat)) : (csets m rows).length = rows.length * m := by
  unfold csets
  induction rows with
  | nil => simp
  | cons r rs ih => rw [List.flatMap_cons, List.length_append, ih, planes_length, List.length_cons, Nat.add_mul]; omega
theorem total_append (a b : List (List Nat)) : total (a ++ b) = total a + total b := by
  induction a with
  | nil => simp [total]
  | cons x a ih => show x.length + total (a ++ b) = x.length + total a + total b; omega
theorem total_le (ls : List (List Nat)) (b : Nat) (h : ∀ l ∈ ls, l.length ≤ b) : total ls ≤ ls.length * b := by
  induction ls with
  | nil => simp [total]
  | cons x a ih =>
    have h1 := h x (by simp)
    have h2 := ih (fun l hl => h l (by simp [hl]))
    show x.length + total a ≤ (a.length + 1) * b
    rw [Nat.add_mul]; omega
theorem csets_total (m D : Nat) (rows : List (List Nat)) (h : ∀ r ∈ rows, r.length = D) : total (csets m rows) ≤ rows.length * m * (D * m) := by
  have := total_le (csets m rows) (D * m) (fun l hl => by
    unfold csets at hl
    obtain ⟨r, hr, hl⟩ := List.mem_flatMap.1 hl
    unfold planes planesTo at hl
    obtain ⟨k, _, rfl⟩ := List.mem_map.1 hl
    rw [← h r hr]
    exact plane_length _ _ _ _)
  rwa [csets_length] at this
end Xp
end Go.Proofs.YtghinmlpkgcdiaaDoor
