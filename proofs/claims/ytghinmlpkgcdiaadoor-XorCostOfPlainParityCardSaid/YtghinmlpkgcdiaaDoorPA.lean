/- Schedules of codes: the sets of a compiled schedule are the code's; a plain parity unit's schedule cannot be shortened: the plain law. Schedules of codes: what a compiled schedule computes is the linear combination: the plain law. -/
import Derived.Test.YtghinmlpkgcdiaaDoorY9
import Derived.Test.YtghinmlpkgcdiaaDoorXO1
import Derived.Test.YtghinmlpkgcdiaaDoorFldL
/-! Schedules of codes: the sets of a compiled schedule are the code's; a plain parity unit's schedule cannot be shortened: the plain law. -/
namespace Go.Proofs.YtghinmlpkgcdiaaDoor
set_option linter.unusedSimpArgs false
set_option linter.unusedVariables false
namespace Xp

theorem bit_lit (j t : Nat) : (1 <<< j).testBit t = decide (j = t) := by
  rw [Nat.testBit_shiftLeft]
  by_cases h : j = t
  · subst h; simp
  · by_cases h2 : j ≤ t
    · have : t - j ≠ 0 := by omega
      obtain ⟨r, hr⟩ : ∃ r, t - j = r + 1 := ⟨t - j - 1, by omega⟩
      rw [hr]
      simp [h, Nat.testBit_succ]
    · simp [h, h2]
theorem xorAll_bits {n : Nat} (p : Nat → Bool) (t : Nat) : ∀ j, j ≤ n → (xorAll (inputs n) ((List.range j).filter p)).testBit t = (decide (t < j) && p t) := by
  intro j
  induction j with
  | zero => intro _; simp [xorAll]
  | succ j ih =>
    intro hj
    rw [List.range_succ, List.filter_append]
    by_cases hp : p j = true
    · have e : [j].filter p = [j] := by rw [List.filter_cons, if_pos hp]; rfl
      rw [e, xorAll_snoc, Nat.testBit_xor, ih (by omega), inputs_get (by omega), Option.getD_some, bit_lit]
      by_cases h : j = t
      · subst h; simp [hp]
      · by_cases h2 : t < j
        · simp [h, h2, show t < j + 1 by omega]
        · simp [h, h2, show ¬ t < j + 1 by omega]
    · have e : [j].filter p = [] := by rw [List.filter_cons, if_neg hp]; rfl
      rw [e, List.append_nil, ih (by omega)]
      by_cases h : j = t
      · subst h
        have : p j = false := by simpa using hp
        simp [this]
      · by_cases h2 : t < j
        · simp [h2, show t < j + 1 by omega]
        · simp [h2, show ¬ t < j + 1 by omega]
theorem setOf_filter {n : Nat} (p : Nat → Bool) : setOf n (xorAll (inputs n) ((List.range n).filter p)) = (List.range n).filter p := by
  unfold setOf
  apply List.filter_congr
  intro t ht
  rw [xorAll_bits p t n (Nat.le_refl _), decide_eq_true (List.mem_range.1 ht), Bool.true_and]
/-- the sets of a finished schedule are those that it was made of -/
theorem fin_sets {n : Nat} {ls : List (List Nat)} (h : ∀ l ∈ ls, ∃ p : Nat → Bool, l = (List.range n).filter p) :
    sets n (regs (inputs n) (natO (fin n [] ls).1)) (fin n [] ls).2 = ls ∧ (fin n [] ls).1.length = cost ls := by
  obtain ⟨E, U, h1, h2, h3, h4, h5⟩ := fin_says (L := inputs n) (inputs_length n) (ops := []) rfl (fun l hl => by
    obtain ⟨p, rfl⟩ := h l hl
    exact ⟨rising_filter n p, fun x hx => by have := List.mem_range.1 (List.mem_filter.1 hx).1; simpa using this⟩) ls.length (Nat.le_refl _)
  rw [List.take_length] at h1 h2
  rw [h1]
  refine ⟨?_, by rw [List.nil_append]; exact h2⟩
  unfold sets
  apply List.ext_getElem?
  intro i
  rw [List.getElem?_map]
  by_cases hi : i < ls.length
  · obtain ⟨l, hl⟩ : ∃ l, ls[i]? = some l := ⟨_, List.getElem?_eq_getElem hi⟩
    obtain ⟨r, hr⟩ : ∃ r, U[i]? = some r := ⟨_, List.getElem?_eq_getElem (by omega)⟩
    obtain ⟨_, _, e⟩ := h5 i r l hr hl
    obtain ⟨p, hp⟩ := h l (List.mem_of_getElem? hl)
    rw [hr, hl, Option.map_some, outSet_eq, e]
    congr 1
    show setOf n (xorAll (regs (inputs n) (natO [])) l) = l
    rw [hp]
    exact setOf_filter p
  · rw [List.getElem?_eq_none (show U.length ≤ i by omega), List.getElem?_eq_none (show ls.length ≤ i by omega)]; rfl
theorem csets_filter {m D : Nat} {rows : List (List Nat)} (h : ∀ r ∈ rows, r.length = D) : ∀ l ∈ csets m rows, ∃ p : Nat → Bool, l = (List.range (D * m)).filter p := by
  intro l hl
  unfold csets at hl
  obtain ⟨r, hr, hl⟩ := List.mem_flatMap.1 hl
  unfold planes planesTo plane at hl
  obtain ⟨k, _, rfl⟩ := List.mem_map.1 hl
  rw [h r hr]
  exact ⟨_, rfl⟩
/-! ### disjoint sets have no pair twice -/
theorem disj_count {a b : Nat} : ∀ {ls : List (List Nat)}, (∀ l ∈ ls, Rising l) → ls.Pairwise (fun l l' => ∀ x ∈ l, x ∉ l') → (allPairs ls).count (a, b) ≤ 1
  | [], _, _ => by simp [allPairs]
  | l :: ls, h, hd => by
    rw [List.pairwise_cons] at hd
    have e : allPairs (l :: ls) = pairsOf l ++ allPairs ls := by unfold allPairs; rw [List.flatMap_cons]
    rw [e, List.count_append, count_pairs a b (h l (List.mem_cons_self ..))]
    have ih := disj_count (a := a) (b := b) (fun l hl => h l (List.mem_cons_of_mem _ hl)) hd.2
    by_cases hh : a < b ∧ a ∈ l ∧ b ∈ l
    · have e0 : (allPairs ls).count (a, b) = 0 := by
        rw [List.count_eq_zero_of_not_mem]
        intro hm
        unfold allPairs at hm
        obtain ⟨l', hl', hm⟩ := List.mem_flatMap.1 hm
        exact hd.1 l' hl' a hh.2.1 (mem_pairsOf hm).1
      rw [if_pos hh, e0]
      omega
    · rw [if_neg hh]; omega
theorem disj_best {ls : List (List Nat)} (h : ∀ l ∈ ls, Rising l) (hd : ls.Pairwise (fun l l' => ∀ x ∈ l, x ∉ l')) : bestOf (allPairs ls) = none :=
  bestOf_is (r := none) (fun q => disj_count (a := q.1) (b := q.2) h hd)
/-! ### the plain parity unit -/
theorem plane_plain {m : Nat} (hm : Fld.IsM m) {row : List Nat} (h01 : ∀ x ∈ row, x = 0 ∨ x = 1) {k : Nat} (hk : k < m) (T : Nat) : plane m row k T = (List.range T).filter fun t => (row[t / m]?.getD 0 == 1) && (t % m == k) := by
  unfold plane
  apply List.filter_congr
  intro t _
  have hm0 : 0 < m := by omega
  have hl : (1 : Nat) <<< (t % m) < 2 ^ m := by rw [Nat.one_shiftLeft]; exact Nat.pow_lt_pow_right (by decide) (Nat.mod_lt _ hm0)
  have h : row[t / m]?.getD 0 = 0 ∨ row[t / m]?.getD 0 = 1 := by
    by_cases hi : t / m < row.length
    · rw [List.getElem?_eq_getElem hi]
      exact h01 _ (List.getElem_mem hi)
    · rw [List.getElem?_eq_none (by omega)]; exact .inl rfl
  rcases h with h | h
  · rw [h, Fld.mul_zero_left]; simp
  · rw [h, Fld.one_mul hm hl, bit_lit]
    show _ = (true && _)
    rw [Bool.true_and]
    by_cases e : t % m = k
    · simp [e]
    · simp [e]
theorem plane_len {m : Nat} (hm0 : 0 < m) {row : List Nat} {k : Nat} (hk : k < m) : ∀ j, j ≤ row.length → ((List.range (j * m)).filter fun t => (row[t / m]?.getD 0 == 1) && (t % m == k)).length = (row.take j).count 1 := by
  intro j
  induction j with
  | zero => intro _; simp
  | succ j ih =>
    intro hj
    obtain ⟨x, hx⟩ : ∃ x, row[j]? = some x := ⟨_, List.getElem?_eq_getElem (by omega)⟩
    rw [Nat.add_mul, Nat.one_mul, List.range_add, List.filter_append, List.length_append, ih (by omega), List.take_add_one, hx, List.count_append]
    congr 1
    rw [List.filter_map, List.length_map]
    have e : (List.range m).filter ((fun t => (row[t / m]?.getD 0 == 1) && (t % m == k)) ∘ fun x => j * m + x) = (List.range m).filter (fun l => (x == 1) && (l == k)) := by
      apply List.filter_congr
      intro l hl
      have hlm := List.mem_range.1 hl
      show ((row[(j * m + l) / m]?.getD 0 == 1) && ((j * m + l) % m == k)) = _
      rw [Nat.mul_comm j m, Nat.mul_add_div hm0, Nat.div_eq_of_lt hlm, Nat.add_zero, hx, Nat.mul_add_mod, Nat.mod_eq_of_lt hlm]
      rfl
    rw [e]
    by_cases h1 : x = 1
    · subst h1
      have e2 : (List.range m).filter (fun l => ((1 : Nat) == 1) && (l == k)) = (List.range m).filter (fun l => l == k) := by
        apply List.filter_congr; intro l _; simp
      rw [e2]
      have e3 : ((List.range m).filter (fun l => l == k)).length = (List.range m).count k := by
        rw [List.count_eq_countP, List.countP_eq_length_filter]
      rw [e3, count_one List.nodup_range (List.mem_range.2 hk)]
      rfl
    · have e2 : (List.range m).filter (fun l => (x == 1) && (l == k)) = [] := by
        rw [List.filter_eq_nil_iff]; intro l _; simp [h1]
      rw [e2]
      have e3 : (x == 1) = false := by simpa using h1
      show 0 = [x].count 1
      rw [List.count_cons, e3]; rfl
theorem plain_facts {m : Nat} (hm : Fld.IsM m) {row : List Nat} (h01 : ∀ x ∈ row, x = 0 ∨ x = 1) :
    cost (csets m [row]) = m * (row.count 1 - 1) ∧ bestOf (allPairs (csets m [row])) = none := by
  have hm0 : 0 < m := by rcases hm with rfl | rfl <;> omega
  have ec : csets m [row] = (List.range m).map fun k => (List.range (row.length * m)).filter fun t => (row[t / m]?.getD 0 == 1) && (t % m == k) := by
    unfold csets planes planesTo
    rw [List.flatMap_cons, List.flatMap_nil, List.append_nil]
    apply List.map_congr_left
    intro k hk
    exact plane_plain hm h01 (List.mem_range.1 hk) _
  rw [ec]
  constructor
  · unfold cost
    rw [List.map_map]
    have e2 : (List.range m).map ((fun l : List Nat => l.length - 1) ∘ fun k => (List.range (row.length * m)).filter fun t => (row[t / m]?.getD 0 == 1) && (t % m == k)) = (List.range m).map fun _ => row.count 1 - 1 := by
      apply List.map_congr_left
      intro k hk
      show (List.filter _ _).length - 1 = _
      rw [plane_len hm0 (List.mem_range.1 hk) row.length (Nat.le_refl _), List.take_length]
    rw [e2, List.map_const', List.sum_replicate_nat, List.length_range]
  · apply disj_best
    · intro l hl
      obtain ⟨k, _, rfl⟩ := List.mem_map.1 hl
      exact rising_filter _ _
    · rw [List.pairwise_map]
      refine (List.pairwise_lt_range (n := m)).imp (fun {k k'} hkk x hx hx' => ?_)
      have h1 := (List.mem_filter.1 hx).2
      have h2 := (List.mem_filter.1 hx').2
      simp only [Bool.and_eq_true, beq_iff_eq] at h1 h2
      omega
end Xp
/-- a 0/1 row's code: its schedule has that many operations, and shortening leaves it -/
theorem plain_comp {m : Nat} (hm : Fld.IsM m) {row : List Nat} (h01 : ∀ x ∈ row, x = 0 ∨ x = 1) (hok : Xp.okC m row.length (intsOf [row]) = true) :
    (Xp.compO m row.length (intsOf [row])).length = m * (row.count 1 - 1) ∧ Xp.shorten m row.length 1 (Xp.compO m row.length (intsOf [row])) (Xp.compU m row.length (intsOf [row])) = (Xp.compO m row.length (intsOf [row]), Xp.compU m row.length (intsOf [row])) := by
  have e : ((row.length : Int) * (m : Int)) = ((row.length * m : Nat) : Int) := by simp
  have e1 : Xp.compO m row.length (intsOf [row]) = (Xp.fin ((row.length * m : Nat) : Int) [] (Xp.csets m [row])).1 := by unfold Xp.compO; rw [hok, if_pos rfl, rowsOf_ints, Int.toNat_natCast, e]
  have e2 : Xp.compU m row.length (intsOf [row]) = (Xp.fin ((row.length * m : Nat) : Int) [] (Xp.csets m [row])).2 := by unfold Xp.compU; rw [hok, if_pos rfl, rowsOf_ints, Int.toNat_natCast, e]
  obtain ⟨s1, s2⟩ := Xp.fin_sets (n := row.length * m) (ls := Xp.csets m [row]) (Xp.csets_filter (fun r hr => by rw [List.mem_singleton] at hr; rw [hr]))
  obtain ⟨p1, p2⟩ := Xp.plain_facts hm h01
  rw [e1, e2]
  refine ⟨by rw [s2, p1], ?_⟩
  unfold Xp.shorten
  rw [e, Int.toNat_natCast]
  simp only
  rw [s1, Xp.shr_none p2]
  simp only [Nat.lt_irrefl, if_false]
theorem plain_okC {m : Nat} (hm : Fld.IsM m) {row : List Nat} (h01 : ∀ x ∈ row, x = 0 ∨ x = 1) (h1 : 1 ≤ row.length) (h6 : row.length ≤ 6) : Xp.okC m row.length (intsOf [row]) = decide (1 ≤ row.count 1) := by
  have hm2 : 2 ≤ 2 ^ m := by rcases hm with rfl | rfl <;> decide
  unfold Xp.okC intsOf
  have a1 : (decide ((m : Int) = 8) || decide ((m : Int) = 16)) = true := by rcases hm with rfl | rfl <;> rfl
  have a2 : decide (1 ≤ (row.length : Int)) = true := decide_eq_true (by omega)
  have a3 : decide (((([row] : List (List Nat)).map fun r => r.map fun (x : Nat) => (x : Int)).length : Int) ≤ 32) = true := decide_eq_true (by simp)
  have a4 : decide ((row.length : Int) ≤ 32 - ((([row] : List (List Nat)).map fun r => r.map fun (x : Nat) => (x : Int)).length : Int)) = true := decide_eq_true (by simp; omega)
  rw [a1, a2, a3, a4]
  simp only [Bool.true_and, List.map_cons, List.map_nil, List.all_cons, List.all_nil, Bool.and_true]
  unfold Xp.okRow
  have b1 : ((((row.map fun (x : Nat) => (x : Int)).length : Nat) : Int) == (row.length : Int)) = true := by rw [List.length_map, beq_iff_eq]
  have b2 : ((row.map fun (x : Nat) => (x : Int)).all fun x => allB (m : Int) [x]) = true := by
    rw [List.all_eq_true]
    intro x hx
    obtain ⟨y, hy, rfl⟩ := List.mem_map.1 hx
    rcases h01 y hy with rfl | rfl <;> rcases hm with rfl | rfl <;> decide
  rw [b1, b2, Bool.true_and, Bool.true_and]
  rw [Bool.eq_iff_iff, decide_eq_true_eq, Bool.not_eq_true', ← Bool.not_eq_true, List.all_eq_true]
  constructor
  · intro h
    apply Nat.pos_of_ne_zero
    intro h0
    apply h
    intro x hx
    obtain ⟨y, hy, rfl⟩ := List.mem_map.1 hx
    rcases h01 y hy with rfl | rfl
    · rfl
    · exact absurd hy (List.count_eq_zero.1 h0)
  · intro h hall
    have hm1 := List.count_pos_iff.1 (show 0 < row.count 1 by omega)
    have := hall _ (List.mem_map.2 ⟨1, hm1, rfl⟩)
    simp at this
end Go.Proofs.YtghinmlpkgcdiaaDoor
/-! Schedules of codes: what a compiled schedule computes is the linear combination: the plain law. -/
namespace Go.Proofs.YtghinmlpkgcdiaaDoor
set_option linter.unusedSimpArgs false
set_option linter.unusedVariables false
namespace Xp

theorem flat_get {α β : Type} {F : α → List β} {m : Nat} (hF : ∀ a, (F a).length = m) : ∀ (A : List α) (j k : Nat) (a : α), A[j]? = some a → k < m → (A.flatMap F)[j * m + k]? = (F a)[k]?
  | [], _, _, _, h, _ => by simp at h
  | b :: A, 0, k, a, h, hk => by
    simp only [List.getElem?_cons_zero, Option.some.injEq] at h
    subst h
    rw [List.flatMap_cons, Nat.zero_mul, Nat.zero_add, List.getElem?_append_left (by rw [hF]; exact hk)]
  | b :: A, j + 1, k, a, h, hk => by
    rw [List.flatMap_cons, List.getElem?_append_right (by rw [hF, Nat.add_mul]; omega), hF]
    have e : (j + 1) * m + k - m = j * m + k := by rw [Nat.add_mul]; omega
    rw [e]
    exact flat_get hF A j k a (by simpa using h) hk
/-- the sum of the multiples, bit for bit -/
def accT (m : Nat) (row : List Nat) (S : Nat → Nat) : Nat → Nat
  | 0 => 0
  | T + 1 => accT m row S T ^^^ (if (S (T / m)).testBit (T % m) then Fld.mul m (row[T / m]?.getD 0) (1 <<< (T % m)) else 0)
theorem accT_bit {m : Nat} {row : List Nat} {S : Nat → Nat} {L : List Nat} {x k n : Nat} (hL : ∀ t, t < n → (L[t]?.getD 0).testBit x = (S (t / m)).testBit (t % m)) : ∀ T, T ≤ n → (xorAll L (plane m row k T)).testBit x = (accT m row S T).testBit k := by
  intro T
  induction T with
  | zero => intro _; simp [plane, xorAll, accT]
  | succ T ih =>
    intro hT
    rw [plane_succ, accT, Nat.testBit_xor, ← ih (by omega)]
    by_cases h : (Fld.mul m (row[T / m]?.getD 0) (1 <<< (T % m))).testBit k = true
    · rw [if_pos h, xorAll_snoc, Nat.testBit_xor, hL T (by omega)]
      congr 1
      cases hb : (S (T / m)).testBit (T % m)
      · simp
      · simp [h]
    · rw [if_neg h]
      have hf : (if (S (T / m)).testBit (T % m) = true then Fld.mul m (row[T / m]?.getD 0) (1 <<< (T % m)) else 0).testBit k = false := by
        cases hb : (S (T / m)).testBit (T % m)
        · simp
        · simpa using h
      rw [hf, Bool.xor_false]
theorem mod_more (s l : Nat) : s % 2 ^ (l + 1) = (s % 2 ^ l) ^^^ (if s.testBit l then 1 <<< l else 0) := by
  apply Nat.eq_of_testBit_eq
  intro i
  rw [Nat.testBit_mod_two_pow, Nat.testBit_xor, Nat.testBit_mod_two_pow]
  by_cases h1 : i < l
  · have e : (if s.testBit l = true then 1 <<< l else 0).testBit i = false := by
      split
      · rw [bit_lit]; simp; omega
      · simp
    rw [e]
    simp [h1, show i < l + 1 by omega]
  · by_cases h2 : i = l
    · subst h2
      cases hb : s.testBit i
      · simp
      · simp [bit_lit]
    · have e : (if s.testBit l = true then 1 <<< l else 0).testBit i = false := by
        split
        · rw [bit_lit]; simp; omega
        · simp
      rw [e]
      simp [h1, show ¬ i < l + 1 by omega]
theorem accT_block {m : Nat} (row : List Nat) (S : Nat → Nat) (j : Nat) : ∀ l, l ≤ m → accT m row S (j * m + l) = accT m row S (j * m) ^^^ Fld.mul m (row[j]?.getD 0) (S j % 2 ^ l) := by
  intro l
  induction l with
  | zero => intro _; rw [Nat.add_zero, Nat.pow_zero, Nat.mod_one, Fld.mul_zero_right, Nat.xor_zero]
  | succ l ih =>
    intro hl
    have e1 : (j * m + l) / m = j := by rw [Nat.mul_comm, Nat.mul_add_div (by omega), Nat.div_eq_of_lt (by omega), Nat.add_zero]
    have e2 : (j * m + l) % m = l := by rw [Nat.mul_comm, Nat.mul_add_mod, Nat.mod_eq_of_lt (by omega)]
    rw [← Nat.add_assoc, accT, e1, e2, ih (by omega), mod_more, Fld.mul_right, Nat.xor_assoc]
    congr 2
    split
    · rfl
    · rw [Fld.mul_zero_right]
/-- the sum of the multiples -/
def xsum (m : Nat) (row : List Nat) (S : Nat → Nat) : Nat → Nat
  | 0 => 0
  | j + 1 => xsum m row S j ^^^ Fld.mul m (row[j]?.getD 0) (S j)
theorem accT_sum {m : Nat} (row : List Nat) {S : Nat → Nat} (hS : ∀ j, S j < 2 ^ m) : ∀ j, accT m row S (j * m) = xsum m row S j := by
  intro j
  induction j with
  | zero => rw [Nat.zero_mul]; rfl
  | succ j ih =>
    rw [Nat.add_mul, Nat.one_mul, accT_block row S j m (Nat.le_refl _), ih, Nat.mod_eq_of_lt (hS j)]; rfl
/-- a byte of a linear combination -/
theorem comb_byte {m n p : Nat} {row : List Nat} {us : List (List UInt8)} (hu : ∀ u ∈ us, u.length = n) (hr : row.length = us.length) (hp : p < n) : ∀ j, j ≤ us.length →
    (Fld.combTo m n ((row.zip us).take j))[p]? = some (UInt8.ofNat (xsum m row (fun j => Fld.symAt m (us[j]?.getD []) (p / Fld.size m * Fld.size m)) j / 256 ^ (Fld.size m - 1 - p % Fld.size m))) := by
  intro j
  induction j with
  | zero =>
    intro _
    show (List.replicate n (0 : UInt8))[p]? = _
    rw [List.getElem?_replicate, if_pos hp]
    simp [xsum]
  | succ j ih =>
    intro hj
    obtain ⟨u, huj⟩ : ∃ u, us[j]? = some u := ⟨_, List.getElem?_eq_getElem (by omega)⟩
    obtain ⟨c, hc⟩ : ∃ c, row[j]? = some c := ⟨_, List.getElem?_eq_getElem (by omega)⟩
    have hz : (row.zip us)[j]? = some (c, u) := by rw [List.getElem?_zip_eq_some]; exact ⟨hc, huj⟩
    have hul := hu u (List.mem_of_getElem? huj)
    have hlen : (Fld.combTo m n ((row.zip us).take j)).length = n := Fld.combTo_length m n _ (fun q hq => by
      have h1 := List.mem_of_mem_take hq
      exact hu q.2 (List.of_mem_zip h1).2)
    rw [List.take_add_one, hz]
    show (Fld.combTo m n ((row.zip us).take j ++ [(c, u)]))[p]? = _
    rw [Fld.combTo_snoc, Fld.xorL_get (by rw [hlen, Fld.scl_length, hul]) (by rw [hlen]; exact hp), ih (by omega), Fld.scl_get m c u (by rw [hul]; exact hp)]
    rw [Option.getD_some, Option.getD_some, xsum, hc, huj]
    unfold Fld.sclB
    rw [← Fld.ofNat_xor, ← Fld.xor_div]; rfl
theorem sym_bit {m K x : Nat} (hm : m = 8 ∨ m = 16) (hK : K < m) (l : List UInt8) : (Fld.symAt m l (x * Fld.size m)).testBit K = ((l[byteAt m K x]?.getD 0).toNat).testBit (K % 8) := by
  unfold Fld.symAt byteAt Fld.size
  rcases hm with rfl | rfl
  · rw [if_pos rfl]
    have e1 : 8 / 8 - 1 - K / 8 = 0 := by omega
    have e2 : K % 8 = K := by omega
    rw [e1, e2, Nat.add_zero]
  · rw [if_neg (by decide)]
    have hlo := (l[x * (16 / 8) + 1]?.getD 0).toNat_lt
    rw [show (256 : Nat) = 2 ^ 8 by rfl, Nat.testBit_two_pow_mul_add _ (show (l[x * (16 / 8) + 1]?.getD 0).toNat < 2 ^ 8 from hlo)]
    by_cases h : K < 8
    · rw [if_pos h]
      have e1 : 16 / 8 - 1 - K / 8 = 1 := by omega
      have e2 : K % 8 = K := by omega
      rw [e1, e2]
    · rw [if_neg h]
      have e1 : 16 / 8 - 1 - K / 8 = 0 := by omega
      have e2 : K % 8 = K - 8 := by omega
      rw [e1, e2, Nat.add_zero]
theorem runIn_sym {m n x D : Nat} (hm : m = 8 ∨ m = 16) {ss : List ByteArray} (hD : ss.length = D) (hn : ∀ s ∈ ss, s.size = n) (hx : x * Fld.size m + Fld.size m ≤ n) : ∀ t, t < D * m →
    ((runIn m ss)[t]?.getD 0).testBit x = (Fld.symAt m (((ss.map fun s => s.data.toList)[t / m]?).getD []) (x * Fld.size m)).testBit (t % m) := by
  intro t ht
  have hm0 : 0 < m := by rcases hm with rfl | rfl <;> omega
  have hj : t / m < D := by rw [Nat.div_lt_iff_lt_mul hm0]; exact ht
  have hk := Nat.mod_lt t hm0
  obtain ⟨s, hs⟩ : ∃ s, ss[t / m]? = some s := ⟨_, List.getElem?_eq_getElem (by omega)⟩
  have hsn := hn s (List.mem_of_getElem? hs)
  have e : t = t / m * m + t % m := by rw [Nat.mul_comm]; exact (Nat.div_add_mod t m).symm
  rw [getD_bit, runIn_bits hm]
  conv => lhs; rw [e]
  rw [flat_get (F := fun s => bitsOf m s x) (fun s => bitsOf_length m s x) ss (t / m) (t % m) s hs hk, List.getElem?_map, hs]
  unfold bitsOf
  rw [List.getElem?_map, List.getElem?_range hk]
  simp only [Option.map_some, Option.getD_some]
  rw [sym_bit hm hk]
  have hb : byteAt m (t % m) x < s.size := by
    rw [hsn]
    unfold byteAt
    unfold Fld.size at hx
    rcases hm with rfl | rfl <;> simp at hx ⊢ <;> omega
  rw [decide_eq_true hb, Bool.true_and]; rfl
/-- what the compiled schedule computes -/
theorem par_comb {m n D : Nat} (hm : m = 8 ∨ m = 16) {rows : List (List Nat)} (hr : ∀ r ∈ rows, r.length = D) {ss : List ByteArray} (hD : ss.length = D) (hn : ∀ s ∈ ss, s.size = n) (hdv : n % Fld.size m = 0) :
    runOut m n rows.length (regs (runIn m ss) (natO (fin ((D * m : Nat) : Int) [] (csets m rows)).1)) (fin ((D * m : Nat) : Int) [] (csets m rows)).2 = rows.map fun r => Fld.combTo m n (r.zip (ss.map fun s => s.data.toList)) := by
  have hm0 : 0 < m := by rcases hm with rfl | rfl <;> omega
  have hsz : 0 < Fld.size m := by rcases hm with rfl | rfl <;> decide
  obtain ⟨E, U, h1, h2, h3, h4, h5⟩ := fin_says (n := D * m) (L := runIn m ss) (by rw [runIn_length, hD]) (ops := []) rfl (ls := csets m rows) (fun l hl => by
    obtain ⟨p, rfl⟩ := csets_filter hr l hl
    exact ⟨rising_filter _ p, fun x hx => by have := List.mem_range.1 (List.mem_filter.1 hx).1; simpa using this⟩) (csets m rows).length (Nat.le_refl _)
  rw [List.take_length] at h1
  rw [h1, runOut_eq]
  simp only [List.nil_append] at h5 ⊢
  apply List.ext_getElem?
  intro i
  rw [List.getElem?_map, List.getElem?_map]
  by_cases hi' : ¬ i < rows.length
  · rw [List.getElem?_eq_none (by simpa using hi'), List.getElem?_eq_none (by omega)]; rfl
  have hi := Decidable.not_not.1 hi'
  obtain ⟨r, hri⟩ : ∃ r, rows[i]? = some r := ⟨_, List.getElem?_eq_getElem hi⟩
  rw [List.getElem?_range hi, hri, Option.map_some, Option.map_some]
  congr 1
  have hul : ∀ u ∈ (ss.map fun s => s.data.toList), u.length = n := fun u hu => by
    obtain ⟨s, hs, rfl⟩ := List.mem_map.1 hu
    rw [← hn s hs]; exact Array.length_toList
  have hrD := hr r (List.mem_of_getElem? hri)
  have hus : (ss.map fun s => s.data.toList).length = D := by rw [List.length_map, hD]
  have hzl : (r.zip (ss.map fun s => s.data.toList)).length = D := by rw [List.length_zip, hus, hrD, Nat.min_self]
  have hcl : (Fld.combTo m n (r.zip (ss.map fun s => s.data.toList))).length = n := Fld.combTo_length m n _ (fun q hq => hul q.2 (List.of_mem_zip hq).2)
  refine Fld.list_ext_get (by rw [unitL_length, hcl]) fun p hp => ?_
  rw [unitL_length] at hp
  have hcb := comb_byte (m := m) hul (by rw [hus, hrD]) hp D (by rw [hus]; exact Nat.le_refl _)
  rw [List.take_of_length_le (by rw [hzl]; exact Nat.le_refl _)] at hcb
  rw [hcb]
  unfold unitL
  rw [List.getElem?_map, List.getElem?_range hp, Option.map_some]
  congr 1
  apply UInt8.toNat_inj.1
  rw [UInt8.toNat_ofNat', UInt8.toNat_ofNat']
  apply Nat.eq_of_testBit_eq
  intro k
  rw [Nat.testBit_mod_two_pow, Nat.testBit_mod_two_pow]
  by_cases hk' : ¬ k < 8
  · simp [hk']
  have hk := Decidable.not_not.1 hk'
  rw [decide_eq_true hk, Bool.true_and, Bool.true_and, ubTo_bit, decide_eq_true hk, Bool.true_and]
  have hK := high_lt (i := p) hm hk
  rw [outP_eq _ _ _ hK]
  have hxn : p / (m / 8) * Fld.size m + Fld.size m ≤ n := by
    have h1 : p / Fld.size m < n / Fld.size m := by
      rw [Nat.div_lt_iff_lt_mul hsz]
      have := Nat.div_add_mod n (Fld.size m)
      rw [hdv, Nat.mul_comm] at this
      omega
    have h2 := Nat.mul_le_mul_right (Fld.size m) (show p / Fld.size m + 1 ≤ n / Fld.size m from h1)
    have h3 := Nat.div_mul_le_self n (Fld.size m)
    rw [Nat.add_mul, Nat.one_mul] at h2
    show p / Fld.size m * Fld.size m + Fld.size m ≤ n
    omega
  have hls : (csets m rows)[i * m + (high m p + k)]? = some (plane m r (high m p + k) (D * m)) := by
    unfold csets
    rw [flat_get (F := planes m) (fun r => planes_length m r) rows i (high m p + k) r hri hK]
    unfold planes planesTo
    rw [List.getElem?_map, List.getElem?_range hK, hrD]; rfl
  have hidx : i * m + (high m p + k) < U.length := by
    rw [h3]
    exact (List.getElem?_eq_some_iff.1 hls).1
  obtain ⟨o, ho⟩ : ∃ o, U[i * m + (high m p + k)]? = some o := ⟨_, List.getElem?_eq_getElem hidx⟩
  obtain ⟨_, _, e⟩ := h5 _ o _ ho hls
  rw [ho, Option.getD_some, e]
  show (xorAll (runIn m ss) _).testBit _ = _
  rw [accT_bit (S := fun j => Fld.symAt m (((ss.map fun s => s.data.toList)[j]?).getD []) (p / (m / 8) * Fld.size m)) (n := D * m) (runIn_sym hm hD hn hxn) (D * m) (Nat.le_refl _)]
  rw [accT_sum r (fun j => Fld.symAt_lt hm _ _) D]
  rw [show (256 : Nat) = 2 ^ 8 by rfl, ← Nat.pow_mul, Nat.testBit_div_two_pow]
  show (xsum m r _ D).testBit _ = (xsum m r _ D).testBit _
  congr 1
  unfold high Fld.size
  omega
end Xp
end Go.Proofs.YtghinmlpkgcdiaaDoor
