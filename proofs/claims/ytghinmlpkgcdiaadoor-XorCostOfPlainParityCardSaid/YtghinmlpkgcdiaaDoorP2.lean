/- Schedules: shortening, the plain law. -/
import Derived.Test.YtghinmlpkgcdiaaDoorXO1
namespace Go.Proofs.YtghinmlpkgcdiaaDoor
set_option linter.unusedSimpArgs false
set_option linter.unusedVariables false
namespace Xp

theorem count_one {x : Nat} : ∀ {l : List Nat}, l.Nodup → x ∈ l → l.count x = 1
  | [], _, h => by cases h
  | y :: l, hn, h => by
    rw [List.nodup_cons] at hn
    rw [List.count_cons]
    by_cases e : y = x
    · subst e
      rw [List.count_eq_zero_of_not_mem hn.1]; simp
    · have hm : x ∈ l := by
        rcases List.mem_cons.1 h with h | h
        · exact absurd h.symm e
        · exact h
      rw [count_one hn.2 hm]
      have : (y == x) = false := by simpa using e
      rw [this]; rfl
theorem filter_split (p : Nat → Bool) : ∀ l : List Nat, (l.filter p).length + (l.filter (fun x => !p x)).length = l.length
  | [] => rfl
  | x :: l => by
    have ih := filter_split p l
    rw [List.filter_cons, List.filter_cons, List.length_cons]
    cases h : p x <;> simp <;> omega
/-- the pairs that begin at position i of a list -/
def headP (l : List Nat) (i : Nat) : List (Nat × Nat) := (l.drop (i + 1)).map fun b => (l[i]?.getD 0, b)
/-- the pairs that begin at the first i positions -/
def pairsTo (l : List Nat) (i : Nat) : List (Nat × Nat) := (List.range i).flatMap (headP l)
def pairsOf (l : List Nat) : List (Nat × Nat) := pairsTo l l.length
def allPairs (ls : List (List Nat)) : List (Nat × Nat) := ls.flatMap pairsOf
theorem pairsTo_succ (l : List Nat) (i : Nat) : pairsTo l (i + 1) = pairsTo l i ++ headP l i := by
  unfold pairsTo; rw [List.range_succ, List.flatMap_append]; simp
theorem allPairs_take {ls : List (List Nat)} {t : Nat} {l : List Nat} (h : ls[t]? = some l) : allPairs (ls.take (t + 1)) = allPairs (ls.take t) ++ pairsOf l := by
  unfold allPairs; rw [List.take_add_one, h, List.flatMap_append]; simp
theorem headP_length (l : List Nat) (i : Nat) : (headP l i).length = l.length - (i + 1) := by unfold headP; simp
theorem headP_get {l : List Nat} {i j a b : Nat} (ha : l[i]? = some a) (hb : l[i + 1 + j]? = some b) : (headP l i)[j]? = some (a, b) := by
  unfold headP; rw [List.getElem?_map, List.getElem?_drop, hb, ha]; rfl
theorem headP_cons (x : Nat) (l : List Nat) (i : Nat) : headP (x :: l) (i + 1) = headP l i := by unfold headP; simp
theorem headP_zero (x : Nat) (l : List Nat) : headP (x :: l) 0 = l.map fun b => (x, b) := by unfold headP; simp
theorem pairsOf_cons (x : Nat) (l : List Nat) : pairsOf (x :: l) = (l.map fun b => (x, b)) ++ pairsOf l := by
  unfold pairsOf pairsTo
  rw [List.length_cons, List.range_succ_eq_map, List.flatMap_cons, headP_zero, List.flatMap_map, show (fun a => headP (x :: l) (Nat.succ a)) = headP l from funext (headP_cons x l)]
theorem mem_pairsOf {a b : Nat} : ∀ {l : List Nat}, (a, b) ∈ pairsOf l → a ∈ l ∧ b ∈ l
  | [], h => by simp [pairsOf, pairsTo] at h
  | x :: l, h => by
    rw [pairsOf_cons, List.mem_append] at h
    rcases h with h | h
    · obtain ⟨y, hy, e⟩ := List.mem_map.1 h
      injection e with e1 e2
      subst e1; subst e2
      exact ⟨List.mem_cons_self .., List.mem_cons_of_mem _ hy⟩
    · obtain ⟨h1, h2⟩ := mem_pairsOf h
      exact ⟨List.mem_cons_of_mem _ h1, List.mem_cons_of_mem _ h2⟩
theorem Rising.tail {x : Nat} {l : List Nat} (h : Rising (x :: l)) : Rising l ∧ ∀ y ∈ l, x < y := by
  unfold Rising at h
  rw [List.pairwise_cons] at h
  exact ⟨h.2, h.1⟩
theorem pairs_lt {a b : Nat} : ∀ {l : List Nat}, Rising l → (a, b) ∈ pairsOf l → a < b
  | [], _, h => by simp [pairsOf, pairsTo] at h
  | x :: l, hr, h => by
    obtain ⟨h1, h2⟩ := hr.tail
    rw [pairsOf_cons, List.mem_append] at h
    rcases h with h | h
    · obtain ⟨y, hy, e⟩ := List.mem_map.1 h
      injection e with e1 e2
      subst e1; subst e2
      exact h2 y hy
    · exact pairs_lt h1 h
/-- of a rising list each pair comes once -/
theorem count_pairs (a b : Nat) : ∀ {l : List Nat}, Rising l → (pairsOf l).count (a, b) = if a < b ∧ a ∈ l ∧ b ∈ l then 1 else 0
  | [], _ => by simp [pairsOf, pairsTo]
  | x :: l, hr => by
    obtain ⟨h1, h2⟩ := hr.tail
    have hnx : x ∉ l := fun hx => by have := h2 x hx; omega
    have hnd : l.Nodup := h1.imp (fun {_ _} hlt => by omega)
    rw [pairsOf_cons, List.count_append, count_pairs a b h1]
    by_cases hax : a = x
    · subst hax
      rw [if_neg (fun h => hnx h.2.1)]
      by_cases hb : b ∈ l
      · rw [if_pos ⟨h2 b hb, List.mem_cons_self .., List.mem_cons_of_mem _ hb⟩]
        have e : (l.map fun b => (a, b)).count (a, b) = l.count b := by
          rw [List.count_eq_countP, List.countP_map, List.count_eq_countP]
          apply List.countP_congr
          intro y _
          simp
        rw [e, count_one hnd hb]
      · rw [if_neg (fun h => by
          rcases List.mem_cons.1 h.2.2 with e | e
          · omega
          · exact hb e)]
        rw [List.count_eq_zero_of_not_mem]
        intro h
        obtain ⟨y, hy, e⟩ := List.mem_map.1 h
        injection e with _ e2
        subst e2
        exact hb hy
    · have e0 : (l.map fun b => (x, b)).count (a, b) = 0 := by
        rw [List.count_eq_zero_of_not_mem]
        intro h
        obtain ⟨y, hy, e⟩ := List.mem_map.1 h
        injection e with e1 _
        exact hax e1.symm
      rw [e0, Nat.zero_add]
      by_cases hb : a < b ∧ a ∈ l ∧ b ∈ l
      · rw [if_pos hb, if_pos ⟨hb.1, List.mem_cons_of_mem _ hb.2.1, List.mem_cons_of_mem _ hb.2.2⟩]
      · rw [if_neg hb, if_neg (fun h => hb ⟨h.1, by
          rcases List.mem_cons.1 h.2.1 with e | e
          · exact absurd e hax
          · exact e, by
          rcases List.mem_cons.1 h.2.1 with e | e
          · exact absurd e hax
          · rcases List.mem_cons.1 h.2.2 with e2 | e2
            · have := h2 a e; omega
            · exact e2⟩)]
/-- the lesser pair of the order of words -/
def ple (p q : Nat × Nat) : Prop := p.1 < q.1 ∨ (p.1 = q.1 ∧ p.2 ≤ q.2)
/-- the pair that comes most often, at least twice; of such the first -/
def IsBest (PL : List (Nat × Nat)) : Option (Nat × Nat) → Prop
  | none => ∀ q, PL.count q ≤ 1
  | some p => 2 ≤ PL.count p ∧ ∀ q, PL.count q ≤ PL.count p ∧ (PL.count q = PL.count p → ple p q)
theorem IsBest.unique {PL : List (Nat × Nat)} {r r' : Option (Nat × Nat)} (h : IsBest PL r) (h' : IsBest PL r') : r = r' := by
  cases r with
  | none =>
    cases r' with
    | none => rfl
    | some p => have := h p; have := h'.1; omega
  | some p =>
    cases r' with
    | none => have := h' p; have := h.1; omega
    | some q =>
      have a1 := (h.2 q).1
      have a2 := (h'.2 p).1
      have a3 := (h.2 q).2 (by omega)
      have a4 := (h'.2 p).2 (by omega)
      unfold ple at a3 a4
      have e1 : p.1 = q.1 := by omega
      have e2 : p.2 = q.2 := by omega
      rw [show p = q from Prod.ext e1 e2]
noncomputable def bestOf (PL : List (Nat × Nat)) : Option (Nat × Nat) := Classical.epsilon (IsBest PL)
theorem bestOf_is {PL : List (Nat × Nat)} {r : Option (Nat × Nat)} (h : IsBest PL r) : bestOf PL = r := (Classical.epsilon_spec (p := IsBest PL) ⟨r, h⟩).unique h
/-- both registers replaced by r -/
def repl (a b r : Nat) (l : List Nat) : List Nat := if a ∈ l ∧ b ∈ l then l.filter (fun x => !(x == a || x == b)) ++ [r] else l
/-- shortening: operations and sets -/
noncomputable def shr (n0 : Nat) : Nat → List (Int × Int) → List (List Nat) → List (Int × Int) × List (List Nat)
  | 0, O, ls => (O, ls)
  | k + 1, O, ls => match bestOf (allPairs ls) with
    | none => (O, ls)
    | some p => shr n0 k (O ++ [((p.1 : Int), (p.2 : Int))]) (ls.map (repl p.1 p.2 (n0 + O.length)))
theorem shr_none {n0 k : Nat} {O : List (Int × Int)} {ls : List (List Nat)} (h : bestOf (allPairs ls) = none) : shr n0 k O ls = (O, ls) := by
  cases k with
  | zero => rfl
  | succ k => unfold shr; rw [h]
theorem shr_some {n0 k : Nat} {O : List (Int × Int)} {ls : List (List Nat)} {p : Nat × Nat} (h : bestOf (allPairs ls) = some p) : shr n0 (k + 1) O ls = shr n0 k (O ++ [((p.1 : Int), (p.2 : Int))]) (ls.map (repl p.1 p.2 (n0 + O.length))) := by
  rw [shr, h]
/-- what holds of the sets while they are shortened: rising, of registers that are there -/
def SetsOk (N : Nat) (ls : List (List Nat)) : Prop := ∀ l ∈ ls, Rising l ∧ ∀ x ∈ l, x < N
theorem repl_ok {N a b : Nat} {l : List Nat} (h : Rising l ∧ ∀ x ∈ l, x < N) : Rising (repl a b N l) ∧ ∀ x ∈ repl a b N l, x < N + 1 := by
  unfold repl
  split
  · refine ⟨?_, fun x hx => ?_⟩
    · unfold Rising
      rw [List.pairwise_append]
      refine ⟨h.1.filter _, List.pairwise_singleton _ _, fun x hx y hy => ?_⟩
      rw [List.mem_singleton] at hy
      subst hy
      exact h.2 x (List.mem_filter.1 hx).1
    · rcases List.mem_append.1 hx with hx | hx
      · have := h.2 x (List.mem_filter.1 hx).1; omega
      · rw [List.mem_singleton] at hx; omega
  · exact ⟨h.1, fun x hx => by have := h.2 x hx; omega⟩
theorem SetsOk.repl {N a b : Nat} {ls : List (List Nat)} (h : SetsOk N ls) : SetsOk (N + 1) (ls.map (repl a b N)) := by
  intro l hl
  obtain ⟨l0, h0, rfl⟩ := List.mem_map.1 hl
  exact repl_ok (h l0 h0)
theorem filter_two {a b : Nat} : ∀ {l : List Nat}, l.Nodup → a ≠ b → a ∈ l → b ∈ l → (l.filter (fun x => !(x == a || x == b))).length + 2 = l.length := by
  intro l hn hab ha hb
  have e : (l.filter (fun x => (x == a || x == b))).length + (l.filter (fun x => !(x == a || x == b))).length = l.length := by
    exact filter_split (fun x => (x == a || x == b)) l
  have e2 : (l.filter (fun x => (x == a || x == b))).length = 2 := by
    have h1 : (l.filter (fun x => (x == a || x == b))).length = l.count a + l.count b := by
      clear e hn ha hb
      induction l with
      | nil => rfl
      | cons x l ih =>
        rw [List.filter_cons, List.count_cons, List.count_cons]
        by_cases hxa : x = a
        · subst hxa
          have : (x == b) = false := by simpa using hab
          simp [this, ih]; omega
        · by_cases hxb : x = b
          · subst hxb
            have : (x == a) = false := by simpa using hxa
            simp [this, ih]; omega
          · have h1 : (x == a) = false := by simpa using hxa
            have h2 : (x == b) = false := by simpa using hxb
            simp [h1, h2, ih]
    rw [h1, count_one hn ha, count_one hn hb]
  omega
theorem Rising.nodup {l : List Nat} (h : Rising l) : l.Nodup := h.imp (fun {_ _} hlt => by omega)
theorem repl_len {N a b : Nat} {l : List Nat} (h : Rising l) (hab : a ≠ b) : (repl a b N l).length + (if a ∈ l ∧ b ∈ l then 1 else 0) = l.length := by
  unfold repl
  split
  · next hh =>
    have := filter_two h.nodup hab hh.1 hh.2
    rw [List.length_append]
    simp only [List.length_cons, List.length_nil]
    omega
  · rfl
/-- shortening shortens -/
theorem total_repl {N a b : Nat} (hab : a < b) : ∀ {ls : List (List Nat)}, SetsOk N ls → total (ls.map (repl a b N)) + (allPairs ls).count (a, b) = total ls
  | [], _ => by simp [total, allPairs]
  | l :: ls, h => by
    have h1 := h l (List.mem_cons_self ..)
    have ih := total_repl hab (ls := ls) (fun l hl => h l (List.mem_cons_of_mem _ hl))
    have e : allPairs (l :: ls) = pairsOf l ++ allPairs ls := by unfold allPairs; rw [List.flatMap_cons]
    rw [e, List.count_append, count_pairs a b h1.1]
    have e2 := repl_len (N := N) h1.1 (show a ≠ b by omega)
    show (repl a b N l).length + total (ls.map (repl a b N)) + _ = l.length + total ls
    by_cases hh : a ∈ l ∧ b ∈ l
    · rw [if_pos hh] at e2
      rw [if_pos ⟨hab, hh⟩]; omega
    · rw [if_neg hh] at e2
      rw [if_neg (fun h => hh h.2)]; omega
theorem best_facts {ls : List (List Nat)} {N : Nat} (h : SetsOk N ls) {p : Nat × Nat} (hb : IsBest (allPairs ls) (some p)) : p.1 < p.2 ∧ p.2 < N ∧ total (ls.map (repl p.1 p.2 N)) + 2 ≤ total ls := by
  have hm : p ∈ allPairs ls := List.count_pos_iff.1 (by have := hb.1; omega)
  unfold allPairs at hm
  obtain ⟨l, hl, hm⟩ := List.mem_flatMap.1 hm
  have h1 := pairs_lt (h l hl).1 hm
  have h2 := mem_pairsOf hm
  have h3 := total_repl h1 h
  have h4 := hb.1
  refine ⟨h1, (h l hl).2 p.2 h2.2, ?_⟩
  have h5 : (allPairs ls).count (p.1, p.2) = (allPairs ls).count p := rfl
  omega
/-- the shortened schedule -/
noncomputable def shorten (f d p : Int) (ops : List (Int × Int)) (out : List Int) : List (Int × Int) × List Int :=
  let n0 := (d * f).toNat
  let ls := sets n0 (regs (inputs n0) (natO ops)) out
  let R := shr n0 (total ls) [] ls
  let F := fin (d * f) R.1 R.2
  if F.1.length < ops.length then F else (ops, out)
end Xp
end Go.Proofs.YtghinmlpkgcdiaaDoor
