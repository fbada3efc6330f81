/- Rows of one's own, several beside one another: where an append puts the row. -/
import Derived.Test.YtghinmlpkgcdiaaDoorOwn
namespace Go.Proofs.YtghinmlpkgcdiaaDoor
set_option linter.unusedSimpArgs false
set_option linter.unusedVariables false
open Go.RowKit

section
variable {P : Program} (w : World)
theorem run_app2 (B : Nat) (t ty e : TypeId) (z : Value) (bytes : Nat) (ht : P.underlying t = some (.slice e)) (he : Elem P e z bytes) (hzs : z.cells.size = 1)
    (a : Option Addr) (n c : Nat) (xs : List Value) (hown : Own w B e a n c xs)
    (B2 : Nat) (A : Option Addr) (m mc : Nat) (news : List Value) (hr : Rd w B2 A news) (hl : news.length = m) (h1 : ∀ u ∈ news, u.oneCell' = true)
    (h63 : n + m ≤ maxLen) (hbytes : (n + m) * bytes ≤ 140737488355328) (hbase : B ≤ w.heap.size) :
    ∃ a' c' w', (Builtin.append_ #[t, t] ty #[.slice a n c, .slice A m mc]).run P w = .ok (.slice a' (n + m) c') w' ∧ Own w' B e a' (n + m) c' (xs ++ news) ∧ w.grownBy w' (Value.slice a n c).ownBlock ∧ (a' = a ∨ ∃ g, a' = some ⟨g, 0, none⟩ ∧ w.heap.size ≤ g) := by
  obtain ⟨a', c', w', hrun, ho, hg⟩ := run_app (P := P) w B t ty e z bytes ht he hzs a n c xs hown B2 A m mc news hr hl h1 h63 hbytes hbase
  refine ⟨a', c', w', hrun, ho, hg, ?_⟩
  cases a with
  | none =>
    have hown2 : Own w w.heap.size e none n c xs := ⟨hown.1, by
      rcases hown.2 with h | ⟨g, cap, cur, hv, _⟩
      · exact .inl h
      · injection hv with e1; cases e1⟩
    obtain ⟨a2, c2, w2, hrun2, ho2, _⟩ := run_app (P := P) w w.heap.size t ty e z bytes ht he hzs none n c xs hown2 B2 A m mc news hr hl h1 h63 hbytes (Nat.le_refl _)
    rw [hrun] at hrun2
    injection hrun2 with e1 _
    injection e1 with e1
    subst e1
    rcases ho2.2 with ⟨hv, _⟩ | ⟨g, cap, cur, hv, h2, _⟩
    · injection hv with e2; exact .inl e2
    · injection hv with e2; exact .inr ⟨g, e2, h2⟩
  | some ad =>
    obtain ⟨i, hi, hz0, hz1, hz2⟩ := info_parts he
    cases A with
    | none =>
      have hn : news = [] := by
        cases news with
        | nil => rfl
        | cons u r => obtain ⟨b, off, h, _⟩ := hr 0 u rfl; cases h
      subst hn
      obtain rfl : m = 0 := by simpa using hl.symm
      have := run_append_nothing (P := P) w B t ty e i ht hi _ n xs hown mc
      rw [hrun] at this
      injection this with e1 _
      injection e1 with e1
      exact .inl e1
    | some ad2 =>
      have hcells : ∀ j u, news[j]? = some u → w.cell? (ad2.add j) = some u := by
        intro j u hu
        obtain ⟨b, off, h, _, hc⟩ := hr j u hu
        injection h with h
        subst h
        have : (⟨b, off, none⟩ : Addr).add j = ⟨b, off + j, none⟩ := by unfold Addr.add; split <;> simp_all
        rw [this]; exact hc
      rcases hown.2 with ⟨hv, _⟩ | ⟨g, cap, cur, hv, hbg, hgg, hnc, hcm, hcs, htake⟩
      · injection hv with e1; cases e1
      · injection hv with e1 _ e3
        injection e1 with e1
        subst e1; subst e3
        by_cases hroom : n + m ≤ c
        · have hfit : n * i.size + news.length ≤ cur.size := by
            rw [hl, hcs, hz1, Nat.mul_one]; omega
          have hr2 := run_append_room (P := P) w t ty e i ht hi g n c cur hgg ad2 m mc news (by rw [hl, hz1, Nat.mul_one]) hcells h1 hroom hfit
          rw [hrun] at hr2
          injection hr2 with e1 _
          injection e1 with e1
          exact .inl e1
        · have holds : ∀ j u, xs[j]? = some u → w.cell? ((⟨g, 0, none⟩ : Addr).add j) = some u := World.ownsRow.cells hown (g := g) rfl
          have hr2 := run_append_grow (P := P) w t ty e i z ht hi hz0 ⟨g, 0, none⟩ n c xs (by rw [hown.1, hz1]) holds ad2 m mc news (by rw [hl, hz1, Nat.mul_one]) hcells (by omega) (by simp only [maxLen] at h63; omega) (growslice_fits (by omega) (by rw [hz2]; exact hbytes))
          rw [hrun] at hr2
          injection hr2 with e1 _
          injection e1 with e1
          exact .inr ⟨_, e1, Nat.le_refl _⟩
theorem wpList_app2 {ops : Array Oper} {rest : List Oper} {o : Oper} {act : Act} {Q : Exit → Act → World → Prop} (hgd : o.guard = none) (s x : Operand) (t : TypeId)
    (ho : o.op = .call { callee := .builtin .append, args := #[s, x], argTypes := #[t, t] })
    (B : Nat) (e : TypeId) (z : Value) (bytes : Nat) (ht : P.underlying t = some (.slice e)) (he : Elem P e z bytes) (hzs : z.cells.size = 1)
    (a : Option Addr) (n c : Nat) (xs : List Value) (hs : act.eval s = .slice a n c) (hown : Own w B e a n c xs)
    (B2 : Nat) (A : Option Addr) (m mc : Nat) (news : List Value) (hx : act.eval x = .slice A m mc) (hr : Rd w B2 A news) (hl : news.length = m) (h1 : ∀ u ∈ news, u.oneCell' = true)
    (h63 : n + m ≤ maxLen) (hbytes : (n + m) * bytes ≤ 140737488355328) (hbase : B ≤ w.heap.size)
    (h : ∀ a' c' w', Own w' B e a' (n + m) c' (xs ++ news) → w.grownBy w' (Value.slice a n c).ownBlock → (a' = a ∨ ∃ g, a' = some ⟨g, 0, none⟩ ∧ w.heap.size ≤ g) → wpList P ops Q rest (act.put o.dst (.slice a' (n + m) c')) w') : wpList P ops Q (o :: rest) act w := by
  refine wpList_plain hgd fun K hK => ?_
  obtain ⟨a', c', w', hrun, h2, h3, h4⟩ := run_app2 (P := P) w B t o.type e z bytes ht he hzs a n c xs hown B2 A m mc news hr hl h1 h63 hbytes hbase
  unfold Oper.wp execOp
  simp only [ho, resolve, invoke, builtin, Sem.run_bind, Sem.run_pure, Result.andThen_ok, List.map_toArray, List.map_cons, List.map_nil, hs, hx, hrun]
  exact hK _ _ (h a' c' w' h2 h3 h4)
end
/-- the same as one step of a region that draws its order -/
theorem step_app2 {P : Program} {ops : Array Oper} {o : Oper} {act : Act} {w : World} {K : Act → World → Prop} {Q : Exit → Act → World → Prop} {E : Prop} (hgd : o.guard = none) (s x : Operand) (t : TypeId)
    (ho : o.op = .call { callee := .builtin .append, args := #[s, x], argTypes := #[t, t] })
    (B : Nat) (e : TypeId) (z : Value) (bytes : Nat) (ht : P.underlying t = some (.slice e)) (he : Elem P e z bytes) (hzs : z.cells.size = 1)
    (a : Option Addr) (n c : Nat) (xs : List Value) (hs : act.eval s = .slice a n c) (hown : Own w B e a n c xs)
    (B2 : Nat) (A : Option Addr) (m mc : Nat) (news : List Value) (hx : act.eval x = .slice A m mc) (hr : Rd w B2 A news) (hl : news.length = m) (h1 : ∀ u ∈ news, u.oneCell' = true)
    (h63 : n + m ≤ maxLen) (hbytes : (n + m) * bytes ≤ 140737488355328) (hbase : B ≤ w.heap.size)
    (h : ∀ a' c' w', Own w' B e a' (n + m) c' (xs ++ news) → w.grownBy w' (Value.slice a n c).ownBlock → (a' = a ∨ ∃ g, a' = some ⟨g, 0, none⟩ ∧ w.heap.size ≤ g) → K (act.put o.dst (.slice a' (n + m) c')) w') :
    if Region.wanted o (yielded ops act.tmps) = true then Oper.wp P o act w K Q else E := by
  have hw : Region.wanted o (yielded ops act.tmps) = true := by simp [Region.wanted, hgd]
  rw [if_pos hw]
  obtain ⟨a', c', w', hrun, h2, h3, h4⟩ := run_app2 (P := P) w B t o.type e z bytes ht he hzs a n c xs hown B2 A m mc news hr hl h1 h63 hbytes hbase
  unfold Oper.wp execOp
  simp only [ho, resolve, invoke, builtin, Sem.run_bind, Sem.run_pure, Result.andThen_ok, List.map_toArray, List.map_cons, List.map_nil, hs, hx, hrun]
  exact h a' c' w' h2 h3 h4

/-- two rows lie in two blocks -/
def Apart (a b : Option Addr) : Prop := ∀ g, a = some ⟨g, 0, none⟩ → b ≠ some ⟨g, 0, none⟩
theorem Apart.symm {a b : Option Addr} (h : Apart a b) : Apart b a := fun g hb ha => h g ha hb
theorem Apart.none_left (b : Option Addr) : Apart none b := fun g h => by cases h
/-- the row that has just grown, beside another -/
theorem Apart.grown {w : World} {B : Nat} {e : TypeId} {a a' b : Option Addr} {n c : Nat} {xs : List Value} (h : Apart a b) (hb : Own w B e b n c xs) (hn : a' = a ∨ ∃ g, a' = some ⟨g, 0, none⟩ ∧ w.heap.size ≤ g) : Apart a' b := by
  rcases hn with rfl | ⟨g, rfl, hg⟩
  · exact h
  · intro g2 h1 h2
    injection h1 with h1; injection h1 with h1
    subst h1
    have := (hb.lt h2).2
    omega
theorem Apart.of_type {w : World} {B B2 : Nat} {e e2 : TypeId} {a b : Option Addr} {n c n2 c2 : Nat} {xs ys : List Value} (he : e ≠ e2) (ha : Own w B e a n c xs) (hb : Own w B2 e2 b n2 c2 ys) : Apart a b := by
  intro g h1 h2
  rcases ha.2 with ⟨hv, _⟩ | ⟨g1, cap, cur, hv, _, hg, _⟩
  · injection hv with e1; rw [e1] at h1; cases h1
  rcases hb.2 with ⟨hv2, _⟩ | ⟨g2, cap2, cur2, hv2, _, hg2, _⟩
  · injection hv2 with e1; rw [e1] at h2; cases h2
  injection hv with e1
  injection hv2 with e3
  rw [e1] at h1; rw [e3] at h2
  injection h1 with h1; injection h1 with h1
  injection h2 with h2; injection h2 with h2
  subst h1; subst h2
  rw [hg] at hg2
  injection hg2 with hg2
  injection hg2 with _ hg2
  exact he hg2
theorem Own.apart {w w' : World} {B B2 : Nat} {e e2 : TypeId} {a a2 : Option Addr} {n c n2 c2 : Nat} {xs ys : List Value} (h : Own w B e a n c xs) (hg : w.grownBy w' (Value.slice a2 n2 c2).ownBlock) (hne : Apart a a2) (ho : Own w B2 e2 a2 n2 c2 ys) : Own w' B e a n c xs := h.beside hg hne ho
end Go.Proofs.YtghinmlpkgcdiaaDoor
