/- Schedules: a finished schedule is valid, and means its sets: the plain law. -/
import Derived.Test.YtghinmlpkgcdiaaDoorXQ
namespace Go.Proofs.YtghinmlpkgcdiaaDoor
set_option linter.unusedSimpArgs false
set_option linter.unusedVariables false
namespace Xp

/-- rising -/
def Rising (l : List Nat) : Prop := l.Pairwise (· < ·)
theorem Rising.lt {l : List Nat} (h : Rising l) {i j x y : Nat} (hij : i < j) (hx : l[i]? = some x) (hy : l[j]? = some y) : x < y := by
  obtain ⟨hi, rfl⟩ := List.getElem?_eq_some_iff.1 hx
  obtain ⟨hj, rfl⟩ := List.getElem?_eq_some_iff.1 hy
  exact (List.pairwise_iff_getElem.1 h) i j hi hj hij
theorem rising_filter (n : Nat) (p : Nat → Bool) : Rising ((List.range n).filter p) := (List.pairwise_lt_range (n := n)).filter p
/-- the exclusive or of registers -/
def xorAll (R : List Nat) (l : List Nat) : Nat := l.foldl (fun a x => a ^^^ (R[x]?.getD 0)) 0
theorem xorAll_snoc (R : List Nat) (l : List Nat) (x : Nat) : xorAll R (l ++ [x]) = xorAll R l ^^^ (R[x]?.getD 0) := by
  unfold xorAll; rw [List.foldl_append]; rfl
theorem xorAll_congr {R R' : List Nat} : ∀ {k : Nat} {l : List Nat}, l.length = k → (∀ x ∈ l, R[x]?.getD 0 = R'[x]?.getD 0) → xorAll R l = xorAll R' l := by
  intro k
  induction k with
  | zero =>
    intro l hl _
    have : l = [] := List.length_eq_zero_iff.1 hl
    subst this; rfl
  | succ k ih =>
    intro l hl h
    have hne : l ≠ [] := by intro e; subst e; simp at hl
    have e := List.dropLast_concat_getLast hne
    rw [← e, xorAll_snoc, xorAll_snoc]
    rw [ih (by rw [List.length_dropLast, hl]; rfl) (fun x hx => h x (List.dropLast_subset _ hx)), h _ (List.getLast_mem hne)]
theorem regs_append : ∀ (a b : List (Nat × Nat)) (l : List Nat), regs l (a ++ b) = regs (regs l a) b
  | [], _, _ => rfl
  | x :: a, b, l => by
    show regs _ (a ++ b) = regs (regs _ a) b
    exact regs_append a b _
theorem regs_old : ∀ (os : List (Nat × Nat)) (l : List Nat) (x : Nat), x < l.length → (regs l os)[x]? = l[x]?
  | [], _, _, _ => rfl
  | o :: os, l, x, h => by
    show (regs _ os)[x]? = _
    rw [regs_old os _ x (by rw [List.length_append]; omega), List.getElem?_append_left h]
theorem natO_append (a b : List (Int × Int)) : natO (a ++ b) = natO a ++ natO b := by unfold natO; rw [List.map_append]
/-- what the registers hold behind one operation more -/
theorem regs_op (L : List Nat) (O : List (Int × Int)) (r : Int) (x : Nat) :
    regs L (natO (O ++ [(r, (x : Int))])) = regs L (natO O) ++ [((regs L (natO O))[r.toNat]?.getD 0) ^^^ ((regs L (natO O))[x]?.getD 0)] := by
  rw [natO_append]
  show regs L (natO O ++ [(r.toNat, ((x : Int)).toNat)]) = _
  rw [regs_snoc, Int.toNat_natCast]
theorem opsOk_mono {n : Int} {ops E : List (Int × Int)} : opsOk n (ops ++ E) = true → opsOk n ops = true := by
  induction ops generalizing n with
  | nil => intro _; rfl
  | cons o os ih =>
    intro h
    show (opOk n o && opsOk (n + 1) os) = true
    have h' : (opOk n o && opsOk (n + 1) (os ++ E)) = true := h
    rw [Bool.and_eq_true] at h' ⊢
    exact ⟨h'.1, ih h'.2⟩
/-- one set's operations: valid, and what they leave -/
theorem chain_says {n : Nat} {L : List Nat} (hL : L.length = n) {ops : List (Int × Int)} {l : List Nat} (hops : opsOk n ops = true) (hl : Rising l) (hb : ∀ x ∈ l, x < n + ops.length) : ∀ k, k ≤ l.length →
    ∃ (E : List (Int × Int)) (r : Int), chain n ops (l.take k) = (ops ++ E, r) ∧ E.length = k - 1 ∧ opsOk n (ops ++ E) = true ∧ (k = 0 → r = -1) ∧ (k = 1 → ∃ x : Nat, l[0]? = some x ∧ r = (x : Int)) ∧ (2 ≤ k → r = ((n + ops.length + (k - 2) : Nat) : Int)) ∧
      (1 ≤ k → (regs L (natO (ops ++ E)))[r.toNat]?.getD 0 = xorAll (regs L (natO ops)) (l.take k)) := by
  intro k
  induction k with
  | zero => intro _; exact ⟨[], -1, by simp [chain], rfl, by rw [List.append_nil]; exact hops, fun _ => rfl, fun h => by omega, fun h => by omega, fun h => by omega⟩
  | succ k ih =>
    intro hk
    obtain ⟨E, r, h1, h2, h3, h4, h5, h6, h7⟩ := ih (by omega)
    obtain ⟨x, hx⟩ : ∃ x, l[k]? = some x := ⟨_, List.getElem?_eq_getElem (by omega)⟩
    have hxb := hb x (List.mem_of_getElem? hx)
    have hlen : (regs L (natO (ops ++ E))).length = n + ops.length + E.length := by rw [regs_length, natO_length, List.length_append, hL]; omega
    have hR : (regs L (natO (ops ++ E)))[x]?.getD 0 = (regs L (natO ops))[x]?.getD 0 := by
      rw [natO_append, regs_append, regs_old _ _ _ (by rw [regs_length, natO_length, hL]; exact hxb)]
    have htk : l.take (k + 1) = l.take k ++ [x] := by rw [List.take_add_one, hx]; rfl
    rw [chain_take hx, h1, htk, xorAll_snoc]
    unfold chStep
    by_cases hk0 : k = 0
    · subst hk0
      rw [h4 rfl]
      rw [if_neg (show ¬ (0 : Int) ≤ -1 by decide)]
      have hE : E = [] := List.length_eq_zero_iff.1 (by omega)
      subst hE
      refine ⟨[], (x : Int), rfl, rfl, h3, fun h => by omega, fun _ => ⟨x, hx, rfl⟩, fun h => by omega, fun _ => ?_⟩
      rw [Int.toNat_natCast, List.append_nil, List.take_zero]
      show _ = 0 ^^^ _
      rw [Nat.zero_xor]
    · have hr : 0 ≤ r ∧ r < ((n + ops.length + E.length : Nat) : Int) ∧ r ≠ (x : Int) := by
        by_cases hk1 : k = 1
        · obtain ⟨x0, hx0, rfl⟩ := h5 hk1
          have hlt := hl.lt (show 0 < k by omega) hx0 hx
          have := hb x0 (List.mem_of_getElem? hx0)
          omega
        · rw [h6 (by omega)]
          omega
      rw [if_pos hr.1]
      refine ⟨E ++ [(r, (x : Int))], ((n + ops.length + E.length : Nat) : Int), ?_, ?_, ?_, fun h => by omega, fun h => by omega, fun _ => ?_, fun _ => ?_⟩
      · rw [← List.append_assoc]
        congr 1
        rw [List.length_append]; omega
      · clear h5; rw [List.length_append, h2]; simp; omega
      · rw [← List.append_assoc, opsOk_snoc, h3, Bool.true_and, opOk_iff]
        refine ⟨hr.1, by simp, ?_, ?_, hr.2.2⟩
        · have := hr.2.1; rw [List.length_append]; omega
        · show (x : Int) < _; rw [List.length_append]; omega
      · have : k + 1 - 2 = E.length := by clear h5; omega
        rw [this]
      · rw [← List.append_assoc, regs_op, Int.toNat_natCast, List.getElem?_append_right (by omega), hlen, Nat.sub_self, List.getElem?_cons_zero, Option.getD_some, h7 (by omega), hR]
/-- how many operations the sets cost -/
def cost (ls : List (List Nat)) : Nat := (ls.map fun l => l.length - 1).sum
theorem cost_snoc (ls : List (List Nat)) (l : List Nat) : cost (ls ++ [l]) = cost ls + (l.length - 1) := by
  unfold cost; rw [List.map_append, List.sum_append]; simp
/-- the finished schedule: valid, and each output is the exclusive or of its set's registers -/
theorem fin_says {n : Nat} {L : List Nat} (hL : L.length = n) {ops : List (Int × Int)} {ls : List (List Nat)} (hops : opsOk n ops = true) (hls : ∀ l ∈ ls, Rising l ∧ ∀ x ∈ l, x < n + ops.length) : ∀ k, k ≤ ls.length →
    ∃ (E : List (Int × Int)) (U : List Int), fin n ops (ls.take k) = (ops ++ E, U) ∧ E.length = cost (ls.take k) ∧ U.length = k ∧ opsOk n (ops ++ E) = true ∧
      ∀ (i : Nat) (r : Int) (l : List Nat), U[i]? = some r → ls[i]? = some l → -1 ≤ r ∧ r < ((n + (ops ++ E).length : Nat) : Int) ∧ outN (regs L (natO (ops ++ E))) r = xorAll (regs L (natO ops)) l := by
  intro k
  induction k with
  | zero => intro _; exact ⟨[], [], by simp [fin], rfl, rfl, by rw [List.append_nil]; exact hops, fun i r l h => by simp at h⟩
  | succ k ih =>
    intro hk
    obtain ⟨E, U, h1, h2, h3, h4, h5⟩ := ih (by omega)
    obtain ⟨l, hl⟩ : ∃ l, ls[k]? = some l := ⟨_, List.getElem?_eq_getElem (by omega)⟩
    obtain ⟨hri, hbd⟩ := hls l (List.mem_of_getElem? hl)
    obtain ⟨E2, r, g1, g2, g3, g4, g5, g6, g7⟩ := chain_says hL h4 hri (fun x hx => by have := hbd x hx; rw [List.length_append]; omega) l.length (Nat.le_refl _)
    rw [List.take_length] at g1 g7
    have htk : ls.take (k + 1) = ls.take k ++ [l] := by rw [List.take_add_one, hl]; rfl
    have hR : xorAll (regs L (natO (ops ++ E))) l = xorAll (regs L (natO ops)) l := xorAll_congr rfl fun x hx => by
      rw [natO_append, regs_append, regs_old _ _ _ (by rw [regs_length, natO_length, hL]; exact hbd x hx)]
    refine ⟨E ++ E2, U ++ [r], ?_, ?_, by simp [h3], by rw [← List.append_assoc]; exact g3, fun i r2 l2 hr hl2 => ?_⟩
    · rw [fin_take hl, h1]
      unfold fiStep
      rw [g1, List.append_assoc]
    · rw [htk, cost_snoc, List.length_append, h2, g2]
    · by_cases hi : i < U.length
      · rw [List.getElem?_append_left hi] at hr
        obtain ⟨a1, a2, a3⟩ := h5 i r2 l2 hr hl2
        refine ⟨a1, by rw [List.length_append] at a2 ⊢; rw [List.length_append]; omega, ?_⟩
        rw [← a3, ← List.append_assoc]
        unfold outN
        by_cases hneg : r2 < 0
        · rw [if_pos hneg, if_pos hneg]
        · rw [if_neg hneg, if_neg hneg, natO_append (ops ++ E), regs_append, regs_old _ _ _ (by rw [regs_length, natO_length, hL]; omega)]
      · have hik : i = k := by
          have := (List.getElem?_eq_some_iff.1 hr).1
          simp at this
          omega
        subst hik
        rw [List.getElem?_append_right (by omega), h3, Nat.sub_self, List.getElem?_cons_zero] at hr
        injection hr with hr
        subst hr
        rw [hl] at hl2
        injection hl2 with hl2
        subst hl2
        rw [← List.append_assoc]
        by_cases h0 : l.length = 0
        · have hr1 := g4 h0
          subst hr1
          have : l = [] := List.length_eq_zero_iff.1 h0
          subst this
          exact ⟨Int.le_refl _, by omega, rfl⟩
        · have hrr : 0 ≤ r ∧ r < ((n + ((ops ++ E) ++ E2).length : Nat) : Int) := by
            by_cases h1' : l.length = 1
            · obtain ⟨x, hx, rfl⟩ := g5 h1'
              have := hbd x (List.mem_of_getElem? hx)
              simp only [List.length_append]
              omega
            · rw [g6 (by omega)]
              have := g2
              simp only [List.length_append]
              omega
          refine ⟨by omega, hrr.2, ?_⟩
          unfold outN
          rw [if_neg (by omega), g7 (by omega), hR]
theorem cost_le_total (ls : List (List Nat)) : cost ls ≤ total ls := by
  induction ls with
  | nil => simp [cost]
  | cons l ls ih =>
    have e : cost (l :: ls) = (l.length - 1) + cost ls := by unfold cost; rw [List.map_cons, List.sum_cons]
    rw [e]
    show _ ≤ l.length + total ls
    omega
/-- the schedule that finish makes is valid -/
theorem fin_okS {m D P : Nat} (hm : Fld.IsM m) {ops : List (Int × Int)} {ls : List (List Nat)} (hops : opsOk ((D * m : Nat) : Int) ops = true) (hls : ∀ l ∈ ls, Rising l ∧ ∀ x ∈ l, x < D * m + ops.length) (hD : 1 ≤ D) (hDP : D + P ≤ 32) (hP : ls.length = P * m) (hc : ops.length + cost ls ≤ 131072) :
    okS m D P (fin ((D * m : Nat) : Int) ops ls).1 (fin ((D * m : Nat) : Int) ops ls).2 = true := by
  obtain ⟨E, U, h1, h2, h3, h4, h5⟩ := fin_says (L := List.replicate (D * m) 0) (by simp) hops hls ls.length (Nat.le_refl _)
  rw [List.take_length] at h1 h2
  rw [h1]
  unfold okS headOk
  have e : ((D : Int) * (m : Int)) = ((D * m : Nat) : Int) := by simp
  rw [e, h4, Bool.and_true, Bool.and_eq_true]
  refine ⟨?_, ?_⟩
  · simp only [Bool.and_eq_true, Bool.or_eq_true, decide_eq_true_eq]
    refine ⟨⟨⟨⟨⟨⟨?_, by omega⟩, by omega⟩, by omega⟩, by omega⟩, by rw [List.length_append, h2]; omega⟩, ?_⟩
    · rcases hm with rfl | rfl
      · exact .inl rfl
      · exact .inr rfl
    · show ((U.length : Nat) : Int) = _
      rw [h3, hP]; simp
  · rw [List.all_eq_true]
    intro r hr
    obtain ⟨i, hi, e2⟩ := List.getElem_of_mem hr
    have hi2 : i < ls.length := by
      have : U.length = ls.length := h3
      have : i < U.length := hi
      omega
    obtain ⟨a1, a2, _⟩ := h5 i r ls[i] (by rw [List.getElem?_eq_getElem (show i < U.length from hi)]; exact congrArg some e2) (List.getElem?_eq_getElem hi2)
    unfold outOk
    rw [decide_eq_true a1, Bool.true_and]
    refine decide_eq_true ?_
    show r < ((D * m : Nat) : Int) + ((ops ++ E).length : Int)
    omega
theorem plane_rising (m : Nat) (row : List Nat) (k T : Nat) : Rising (plane m row k T) := rising_filter _ _
theorem plane_lt {m : Nat} {row : List Nat} {k T x : Nat} (h : x ∈ plane m row k T) : x < T := by
  unfold plane at h
  exact List.mem_range.1 (List.mem_filter.1 h).1
theorem csets_rising {m D : Nat} {rows : List (List Nat)} (h : ∀ r ∈ rows, r.length = D) : ∀ l ∈ csets m rows, Rising l ∧ ∀ x ∈ l, x < D * m := by
  intro l hl
  unfold csets planes planesTo at hl
  obtain ⟨r, hr, hl⟩ := List.mem_flatMap.1 hl
  obtain ⟨k, _, rfl⟩ := List.mem_map.1 hl
  refine ⟨plane_rising _ _ _ _, fun x hx => ?_⟩
  have := plane_lt hx
  rwa [h r hr] at this
end Xp
end Go.Proofs.YtghinmlpkgcdiaaDoor
