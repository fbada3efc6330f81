/- Schedules: a shortened schedule means what it meant: the plain law. -/
import Derived.Test.YtghinmlpkgcdiaaDoorP2
import Derived.Test.YtghinmlpkgcdiaaDoorX34
namespace Go.Proofs.YtghinmlpkgcdiaaDoor
set_option linter.unusedSimpArgs false
set_option linter.unusedVariables false
namespace Xp

/-- there is a best pair, or none -/
theorem best_ex (PL : List (Nat × Nat)) : ∃ r, IsBest PL r := by
  have h : ∀ S : List (Nat × Nat), (∀ q ∈ S, PL.count q ≤ 1) ∨ ∃ p, 2 ≤ PL.count p ∧ ∀ q ∈ S, PL.count q ≤ PL.count p ∧ (PL.count q = PL.count p → ple p q) := by
    intro S
    induction S with
    | nil => exact .inl (fun q hq => by cases hq)
    | cons s S ih =>
      rcases ih with ih | ⟨p, h2, ih⟩
      · by_cases hs : PL.count s ≤ 1
        · refine .inl (fun q hq => ?_)
          rcases List.mem_cons.1 hq with rfl | hq
          · exact hs
          · exact ih q hq
        · refine .inr ⟨s, by omega, fun q hq => ?_⟩
          rcases List.mem_cons.1 hq with rfl | hq
          · exact ⟨Nat.le_refl _, fun _ => .inr ⟨rfl, Nat.le_refl _⟩⟩
          · have := ih q hq
            exact ⟨by omega, fun e => by omega⟩
      · by_cases hs : PL.count p < PL.count s ∨ (PL.count s = PL.count p ∧ ¬ ple p s)
        · refine .inr ⟨s, by omega, fun q hq => ?_⟩
          rcases List.mem_cons.1 hq with rfl | hq
          · exact ⟨Nat.le_refl _, fun _ => .inr ⟨rfl, Nat.le_refl _⟩⟩
          · have h3 := ih q hq
            refine ⟨by omega, fun e => ?_⟩
            rcases hs with hs | ⟨hs, hp⟩
            · omega
            · have h4 := h3.2 (by omega)
              unfold ple at *
              omega
        · refine .inr ⟨p, h2, fun q hq => ?_⟩
          rcases List.mem_cons.1 hq with rfl | hq
          · refine ⟨by omega, fun e => ?_⟩
            by_cases hp : ple p q
            · exact hp
            · exact absurd (.inr ⟨e, hp⟩) hs
          · exact ih q hq
  rcases h PL with h | ⟨p, h2, h⟩
  · refine ⟨none, fun q => ?_⟩
    by_cases hq : q ∈ PL
    · exact h q hq
    · rw [List.count_eq_zero_of_not_mem hq]; omega
  · refine ⟨some p, h2, fun q => ?_⟩
    by_cases hq : q ∈ PL
    · exact h q hq
    · rw [List.count_eq_zero_of_not_mem hq]
      exact ⟨by omega, fun e => by omega⟩
theorem bestOf_spec (PL : List (Nat × Nat)) : IsBest PL (bestOf PL) := Classical.epsilon_spec (p := IsBest PL) (best_ex PL)
theorem xorAll_cons (R : List Nat) (x : Nat) (l : List Nat) : xorAll R (x :: l) = (R[x]?.getD 0) ^^^ xorAll R l := by
  have h : ∀ (l : List Nat) (s : Nat), l.foldl (fun a x => a ^^^ (R[x]?.getD 0)) s = s ^^^ l.foldl (fun a x => a ^^^ (R[x]?.getD 0)) 0 := by
    intro l
    induction l with
    | nil => intro s; simp
    | cons y l ih =>
      intro s
      rw [List.foldl_cons, List.foldl_cons, ih, ih (0 ^^^ _), Nat.zero_xor, Nat.xor_assoc]
  unfold xorAll
  rw [List.foldl_cons, h, Nat.zero_xor]
theorem xorAll_take {R : List Nat} {a : Nat} : ∀ {l : List Nat}, l.Nodup → a ∈ l → xorAll R l = (R[a]?.getD 0) ^^^ xorAll R (l.filter (fun x => !(x == a)))
  | [], _, h => by cases h
  | y :: l, hn, h => by
    rw [List.nodup_cons] at hn
    rw [xorAll_cons, List.filter_cons]
    by_cases e : y = a
    · subst e
      have : l.filter (fun x => !(x == y)) = l := List.filter_eq_self.2 (fun x hx => by
        have : x ≠ y := fun e => hn.1 (e ▸ hx)
        simpa using this)
      simp [this]
    · have hm : a ∈ l := by
        rcases List.mem_cons.1 h with h | h
        · exact absurd h.symm e
        · exact h
      have : (!(y == a)) = true := by simpa using e
      rw [if_pos this, xorAll_cons, xorAll_take hn.2 hm, ← Nat.xor_assoc, Nat.xor_comm (R[y]?.getD 0), Nat.xor_assoc]
theorem xorAll_repl {R : List Nat} {N a b : Nat} {l : List Nat} (hN : R.length = N) (hl : Rising l) (hb : ∀ x ∈ l, x < N) (hab : a < b) :
    xorAll (R ++ [(R[a]?.getD 0) ^^^ (R[b]?.getD 0)]) (repl a b N l) = xorAll R l := by
  have hc : ∀ l : List Nat, (∀ x ∈ l, x < N) → xorAll (R ++ [(R[a]?.getD 0) ^^^ (R[b]?.getD 0)]) l = xorAll R l := fun l h => xorAll_congr rfl fun x hx => by
    rw [List.getElem?_append_left (by rw [hN]; exact h x hx)]
  unfold repl
  by_cases h : a ∈ l ∧ b ∈ l
  · rw [if_pos h, xorAll_snoc, hc _ (fun x hx => hb x (List.mem_filter.1 hx).1), List.getElem?_append_right (by omega), hN, Nat.sub_self, List.getElem?_cons_zero, Option.getD_some]
    rw [xorAll_take hl.nodup h.1, xorAll_take (l := l.filter (fun x => !(x == a))) (hl.nodup.filter _) (List.mem_filter.2 ⟨h.2, by
      have : b ≠ a := by omega
      simpa using this⟩), List.filter_filter]
    have e : (l.filter fun x => (!(x == b)) && !(x == a)) = l.filter (fun x => !(x == a || x == b)) := by
      apply List.filter_congr
      intro x _
      cases x == a <;> cases x == b <;> rfl
    rw [e, Nat.xor_comm, Nat.xor_assoc]
  · rw [if_neg h]
    exact hc l hb
/-- shortening keeps each set's meaning -/
theorem shr_says {n0 : Nat} : ∀ (k : Nat) (O : List (Int × Int)) (ls : List (List Nat)), opsOk n0 O = true → SetsOk (n0 + O.length) ls →
    opsOk n0 (shr n0 k O ls).1 = true ∧ SetsOk (n0 + (shr n0 k O ls).1.length) (shr n0 k O ls).2 ∧ (shr n0 k O ls).2.length = ls.length ∧ (shr n0 k O ls).1.length + total (shr n0 k O ls).2 ≤ O.length + total ls ∧
      ∀ (L : List Nat), L.length = n0 → ∀ (i : Nat) (l : List Nat), ls[i]? = some l → ∃ l', (shr n0 k O ls).2[i]? = some l' ∧ xorAll (regs L (natO (shr n0 k O ls).1)) l' = xorAll (regs L (natO O)) l := by
  intro k
  induction k with
  | zero => intro O ls h1 h2; exact ⟨h1, h2, rfl, Nat.le_refl _, fun L _ i l hl => ⟨l, hl, rfl⟩⟩
  | succ k ih =>
    intro O ls h1 h2
    have hb := bestOf_spec (allPairs ls)
    cases hr : bestOf (allPairs ls) with
    | none =>
      rw [shr_none hr]
      exact ⟨h1, h2, rfl, Nat.le_refl _, fun L _ i l hl => ⟨l, hl, rfl⟩⟩
    | some p =>
      rw [hr] at hb
      obtain ⟨hab, hbN, htot⟩ := best_facts h2 hb
      rw [shr_some hr]
      have g1 : opsOk n0 (O ++ [((p.1 : Int), (p.2 : Int))]) = true := by
        rw [opsOk_snoc, h1, Bool.true_and, opOk_iff]
        simp only
        omega
      have g2 : SetsOk (n0 + (O ++ [((p.1 : Int), (p.2 : Int))]).length) (ls.map (repl p.1 p.2 (n0 + O.length))) := by
        rw [List.length_append]
        exact h2.repl
      obtain ⟨a1, a2, a3, a4, a5⟩ := ih _ _ g1 g2
      refine ⟨a1, a2, by rw [a3, List.length_map], by rw [List.length_append] at a4; simp only [List.length_cons, List.length_nil] at a4; omega, fun L hL i l hl => ?_⟩
      obtain ⟨l', hl', e⟩ := a5 L hL i (repl p.1 p.2 (n0 + O.length) l) (by rw [List.getElem?_map, hl]; rfl)
      refine ⟨l', hl', e.trans ?_⟩
      have hll := h2 l (List.mem_of_getElem? hl)
      rw [regs_op, Int.toNat_natCast]
      exact xorAll_repl (by rw [regs_length, natO_length, hL]) hll.1 hll.2 hab
theorem fin_len_okS {m D P : Nat} (hm : Fld.IsM m) {ops : List (Int × Int)} {ls : List (List Nat)} (hops : opsOk ((D * m : Nat) : Int) ops = true) (hls : SetsOk (D * m + ops.length) ls) (hD : 1 ≤ D) (hDP : D + P ≤ 32) (hP : ls.length = P * m) (hc : (fin ((D * m : Nat) : Int) ops ls).1.length ≤ 131072) :
    okS m D P (fin ((D * m : Nat) : Int) ops ls).1 (fin ((D * m : Nat) : Int) ops ls).2 = true := by
  obtain ⟨E, U, h1, h2, h3, h4, h5⟩ := fin_says (L := List.replicate (D * m) 0) (by simp) hops hls ls.length (Nat.le_refl _)
  rw [List.take_length] at h1 h2
  rw [h1] at hc
  refine fin_okS hm hops hls hD hDP hP ?_
  simp only [List.length_append] at hc
  omega
theorem sets_ok (n : Nat) (R : List Nat) (out : List Int) : SetsOk n (sets n R out) := by
  intro l hl
  unfold sets at hl
  obtain ⟨x, _, rfl⟩ := List.mem_map.1 hl
  unfold outSet
  split
  · exact ⟨List.Pairwise.nil, fun x hx => by cases hx⟩
  · refine ⟨rising_filter _ _, fun x hx => ?_⟩
    unfold setOf at hx
    exact List.mem_range.1 (List.mem_filter.1 hx).1
theorem sets_total (n : Nat) (R : List Nat) (out : List Int) : total (sets n R out) ≤ out.length * n := by
  have h := total_le (sets n R out) n (fun l hl => by
    unfold sets at hl
    obtain ⟨x, _, rfl⟩ := List.mem_map.1 hl
    unfold outSet
    split
    · simp
    · exact setOf_length_le n _)
  rwa [sets, List.length_map] at h
/-! ### the registers, by their sets -/
theorem setOf_succ (n N : Nat) : setOf (n + 1) N = if N.testBit n then setOf n N ++ [n] else setOf n N := by
  unfold setOf
  rw [List.range_succ, List.filter_append]
  by_cases h : N.testBit n
  · rw [if_pos h]; simp [h]
  · rw [if_neg h]; simp [h]
theorem xorAll_setOf (L : List Nat) (A B : Nat) : ∀ n, xorAll L (setOf n (A ^^^ B)) = xorAll L (setOf n A) ^^^ xorAll L (setOf n B)
  | 0 => by
    show xorAll L [] = xorAll L [] ^^^ xorAll L []
    rw [Nat.xor_self]; rfl
  | n + 1 => by
    have ih := xorAll_setOf L A B n
    rw [setOf_succ, setOf_succ, setOf_succ, Nat.testBit_xor]
    cases A.testBit n <;> cases B.testBit n
    · simpa using ih
    · simp only [Bool.false_xor, if_true, Bool.false_eq_true, if_false, xorAll_snoc, ih, Nat.xor_assoc]
    · simp only [Bool.xor_false, if_true, Bool.false_eq_true, if_false, xorAll_snoc, ih]
      rw [Nat.xor_assoc, Nat.xor_assoc, Nat.xor_comm (xorAll L (setOf n B))]
    · simp only [Bool.xor_self, if_true, Bool.false_eq_true, if_false, xorAll_snoc, ih]
      rw [Nat.xor_assoc, ← Nat.xor_assoc (L[n]?.getD 0), Nat.xor_comm (L[n]?.getD 0), Nat.xor_assoc (xorAll L (setOf n B)), Nat.xor_self, Nat.xor_zero]
theorem setOf_zero (n : Nat) : setOf n 0 = [] := by
  unfold setOf
  rw [List.filter_eq_nil_iff]
  intro x _
  simp
/-- the registers over any inputs, by those over the unit masks -/
theorem lin_regs {n : Nat} {L : List Nat} (hL : L.length = n) (x : Nat) : ∀ (k : Nat) (os : List (Nat × Nat)), os.length = k → (regs L os)[x]?.getD 0 = xorAll L (setOf n ((regs (inputs n) os)[x]?.getD 0)) := by
  intro k
  induction k generalizing x with
  | zero =>
    intro os h
    have : os = [] := List.length_eq_zero_iff.1 h
    subst this
    show L[x]?.getD 0 = xorAll L (setOf n ((inputs n)[x]?.getD 0))
    by_cases hx : x < n
    · rw [inputs_get hx, Option.getD_some, setOf_one hx]
      show _ = 0 ^^^ _
      rw [Nat.zero_xor]
    · rw [List.getElem?_eq_none (by omega), List.getElem?_eq_none (by rw [inputs_length]; omega)]
      show 0 = xorAll L (setOf n 0)
      rw [setOf_zero]; rfl
  | succ k ih =>
    intro os h
    have hne : os ≠ [] := by intro e; subst e; simp at h
    have e := List.dropLast_concat_getLast hne
    have hd : os.dropLast.length = k := by rw [List.length_dropLast, h]; rfl
    rw [← e, regs_snoc, regs_snoc]
    by_cases hx : x < n + k
    · rw [List.getElem?_append_left (by rw [regs_length, hL, hd]; exact hx), List.getElem?_append_left (by rw [regs_length, inputs_length, hd]; exact hx)]
      exact ih x os.dropLast hd
    · by_cases hx2 : x = n + k
      · rw [List.getElem?_append_right (by rw [regs_length, hL, hd]; omega), List.getElem?_append_right (by rw [regs_length, inputs_length, hd]; omega), regs_length, regs_length, hL, inputs_length, hd, hx2, Nat.sub_self, List.getElem?_cons_zero, List.getElem?_cons_zero, Option.getD_some, Option.getD_some, xorAll_setOf, ih _ _ hd, ih _ _ hd]
      · rw [List.getElem?_eq_none (by simp [regs_length, hL, hd]; omega), List.getElem?_eq_none (by simp [regs_length, inputs_length, hd]; omega)]
        show 0 = xorAll L (setOf n 0)
        rw [setOf_zero]; rfl
theorem lin_out {n : Nat} {L : List Nat} (hL : L.length = n) (ops : List (Int × Int)) (r : Int) : outN (regs L (natO ops)) r = xorAll L (setOf n (outN (regs (inputs n) (natO ops)) r)) := by
  unfold outN
  by_cases h : r < 0
  · rw [if_pos h, if_pos h, setOf_zero]; rfl
  · rw [if_neg h, if_neg h]
    exact lin_regs hL _ _ _ rfl
theorem outSet_eq (n : Nat) (R : List Nat) (r : Int) : outSet n R r = setOf n (outN R r) := by
  unfold outSet outN
  by_cases h : r < 0
  · rw [if_pos h, if_pos h, setOf_zero]
  · rw [if_neg h, if_neg h]
/-- the shortened schedule: what it is, and what holds of it -/
theorem shorten_facts {m D P : Nat} (hm : Fld.IsM m) {ops : List (Int × Int)} {out : List Int} (hok : okS m D P ops out = true) :
    okS m D P (shorten m D P ops out).1 (shorten m D P ops out).2 = true ∧ (shorten m D P ops out).1.length ≤ ops.length ∧ (shorten m D P ops out).2.length = out.length ∧
      ∀ (L : List Nat), L.length = D * m → ∀ (i : Nat) (r r' : Int), out[i]? = some r → (shorten m D P ops out).2[i]? = some r' → outN (regs L (natO (shorten m D P ops out).1)) r' = outN (regs L (natO ops)) r := by
  have e : ((D : Int) * (m : Int)) = ((D * m : Nat) : Int) := by simp
  obtain ⟨m', D', P', em, eD, eP, hm', h1, h2, h3, h4, h5, h6, h7, h8⟩ := okS_parts hok
  obtain rfl : m' = m := by omega
  obtain rfl : D' = D := by omega
  obtain rfl : P' = P := by omega
  have hDP : D' + P' ≤ 32 := by
    unfold okS headOk at hok
    simp only [Bool.and_eq_true, decide_eq_true_eq] at hok
    have := hok.1.1.1.1.2
    omega
  unfold shorten
  rw [e, Int.toNat_natCast]
  simp only
  generalize hn0 : D' * m' = n0 at *
  obtain ⟨ls, hls⟩ : ∃ ls, sets n0 (regs (inputs n0) (natO ops)) out = ls := ⟨_, rfl⟩
  rw [hls]
  have hso : SetsOk (n0 + ([] : List (Int × Int)).length) ls := by rw [← hls]; exact sets_ok n0 _ _
  have hll : ls.length = out.length := by rw [← hls, sets, List.length_map]
  obtain ⟨a1, a2, a3, a4, a5⟩ := shr_says (n0 := n0) (total ls) [] ls rfl hso
  obtain ⟨R, hR⟩ : ∃ R, shr n0 (total ls) [] ls = R := ⟨_, rfl⟩
  rw [hR] at a1 a2 a3 a4 a5 ⊢
  by_cases hlt : (fin (n0 : Int) R.1 R.2).1.length < ops.length
  · rw [if_pos hlt]
    have hc := cost_le_total R.2
    have hfin := fun (L : List Nat) (hL : L.length = n0) => fin_says (L := L) hL a1 a2 R.2.length (Nat.le_refl _)
    refine ⟨?_, by omega, ?_, fun L hL i r r' hr hr' => ?_⟩
    · have hT : total ls ≤ 262144 := by
        have h9 := sets_total n0 (regs (inputs n0) (natO ops)) out
        rw [hls] at h9
        have := Nat.mul_le_mul (show out.length ≤ 512 by omega) h7
        omega
      have h9 := fin_len_okS hm (ops := R.1) (ls := R.2) (D := D') (m := m') (P := P') (by rw [hn0]; exact a1) (fun l hl => by rw [hn0]; exact a2 l hl) h1 hDP (by rw [a3, hll, h5]) (by rw [hn0]; omega)
      rw [hn0] at h9
      exact h9
    · obtain ⟨E, U, b1, b2, b3, _⟩ := hfin (List.replicate n0 0) (by simp)
      rw [List.take_length] at b1
      rw [b1]
      show U.length = _
      rw [b3, a3, hll]
    · obtain ⟨E, U, b1, b2, b3, b4, b5⟩ := hfin L hL
      rw [List.take_length] at b1
      rw [b1] at hr' ⊢
      simp only at hr' ⊢
      have hls_i : ls[i]? = some (outSet n0 (regs (inputs n0) (natO ops)) r) := by rw [← hls, sets, List.getElem?_map, hr]; rfl
      obtain ⟨l', hl', e2⟩ := a5 L hL i _ hls_i
      rw [(b5 i r' l' hr' hl').2.2, e2, outSet_eq, lin_out hL ops r]
      rfl
  · rw [if_neg hlt]
    exact ⟨hok, Nat.le_refl _, rfl, fun L hL i r r' hr hr' => by
      have h9 : out[i]? = some r' := hr'
      rw [hr] at h9
      injection h9 with h9
      rw [h9]⟩
end Xp
end Go.Proofs.YtghinmlpkgcdiaaDoor
