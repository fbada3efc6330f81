/- A row of one's own grows: its old cells can still be read where they lay. -/
import Derived.Test.YtghinmlpkgcdiaaDoorOwnN
namespace Go.Proofs.YtghinmlpkgcdiaaDoor
set_option linter.unusedSimpArgs false
set_option linter.unusedVariables false
open Go.RowKit Go.Lib
section
variable {P : Program} {w : World}
theorem run_app3 (B : Nat) (t ty e : TypeId) (z : Value) (bytes : Nat) (ht : P.underlying t = some (.slice e)) (he : Elem P e z bytes) (hzs : z.cells.size = 1)
    (a : Option Addr) (n c : Nat) (xs : List Value) (hown : Own w B e a n c xs)
    (B2 : Nat) (A : Option Addr) (m mc : Nat) (news : List Value) (hr : Rd w B2 A news) (hl : news.length = m) (h1 : ∀ u ∈ news, u.oneCell' = true)
    (h63 : n + m ≤ maxLen) (hbytes : (n + m) * bytes ≤ 140737488355328) (hbase : B ≤ w.heap.size) :
    ∃ a' c' w', (Builtin.append_ #[t, t] ty #[.slice a n c, .slice A m mc]).run P w = .ok (.slice a' (n + m) c') w' ∧ Own w' B e a' (n + m) c' (xs ++ news) ∧ w.grownBy w' (Value.slice a n c).ownBlock ∧ (∀ g, a = some ⟨g, 0, none⟩ → ∀ (j : Nat) (u : Value), xs[j]? = some u → w'.cell? ⟨g, j, none⟩ = some u) := by
  obtain ⟨a', c', w', hrun, ho, hg, hd⟩ := run_app2 (P := P) w B t ty e z bytes ht he hzs a n c xs hown B2 A m mc news hr hl h1 h63 hbytes hbase
  refine ⟨a', c', w', hrun, ho, hg, fun g hga j u hu => ?_⟩
  have hj : j < xs.length := (List.getElem?_eq_some_iff.1 hu).1
  have hjn : j < n := by have := hown.len; omega
  rcases hd with rfl | ⟨g0, rfl, hg0⟩
  · obtain ⟨g2, e2, _, _, hc, _⟩ := ho.at_ (k := j) (by omega)
    rw [hga] at e2
    injection e2 with e2; injection e2 with e2
    subst e2
    rw [hc, List.getElem?_append_left hj]; exact hu
  · subst hga
    obtain ⟨i, hi, hz0, hz1, hz2⟩ := info_parts he
    have hglt := (hown.lt rfl).2
    have hcell : w.cell? ⟨g, j, none⟩ = some u := by
      obtain ⟨g2, e2, _, _, hc, _⟩ := hown.at_ (k := j) hjn
      injection e2 with e2; injection e2 with e2
      subst e2
      exact hc.trans hu
    cases A with
    | none =>
      have hn : news = [] := by
        cases news with
        | nil => rfl
        | cons u r => obtain ⟨b, off, h, _⟩ := hr 0 u rfl; cases h
      subst hn
      obtain rfl : m = 0 := by simpa using hl.symm
      have := run_append_nothing (P := P) w B t ty e i ht hi _ n xs hown mc
      rw [hrun] at this
      injection this with _ e2
      rw [e2]; exact hcell
    | some ad2 =>
      have hcells : ∀ j u, news[j]? = some u → w.cell? (ad2.add j) = some u := by
        intro j u hu
        obtain ⟨b, off, h, _, hc⟩ := hr j u hu
        injection h with h
        subst h
        have : (⟨b, off, none⟩ : Addr).add j = ⟨b, off + j, none⟩ := by unfold Addr.add; split <;> simp_all
        rw [this]; exact hc
      rcases hown.2 with ⟨hv, _⟩ | ⟨g', cap, cur, hv, hbg, hgg, hnc, hcm, hcs, htake⟩
      · injection hv with e1; cases e1
      · injection hv with e1 _ e3
        injection e1 with e1
        injection e1 with e1
        subst e1; subst e3
        by_cases hroom : n + m ≤ c
        · exfalso
          have hfit : n * i.size + news.length ≤ cur.size := by
            rw [hl, hcs, hz1, Nat.mul_one]; omega
          have hr2 := run_append_room (P := P) w t ty e i ht hi g n c cur hgg ad2 m mc news (by rw [hl, hz1, Nat.mul_one]) hcells h1 hroom hfit
          rw [hrun] at hr2
          injection hr2 with e1 _
          injection e1 with e1
          injection e1 with e1
          injection e1 with e1
          omega
        · have holds : ∀ j u, xs[j]? = some u → w.cell? ((⟨g, 0, none⟩ : Addr).add j) = some u := World.ownsRow.cells hown (g := g) rfl
          have hr2 := run_append_grow (P := P) w t ty e i z ht hi hz0 ⟨g, 0, none⟩ n c xs (by rw [hown.1, hz1]) holds ad2 m mc news (by rw [hl, hz1, Nat.mul_one]) hcells (by omega) (by simp only [maxLen] at h63; omega) (growslice_fits (by omega) (by rw [hz2]; exact hbytes))
          rw [hrun] at hr2
          injection hr2 with _ e2
          rw [e2]
          exact (World.cell?_of_block (Below.heap_alloc w.drew _ g hglt)).trans hcell
end
theorem step_app3 {P : Program} {ops : Array Oper} {o : Oper} {act : Act} {w : World} {K : Act → World → Prop} {Q : Exit → Act → World → Prop} {E : Prop} (hgd : o.guard = none) (s x : Operand) (t : TypeId)
    (ho : o.op = .call { callee := .builtin .append, args := #[s, x], argTypes := #[t, t] })
    (B : Nat) (e : TypeId) (z : Value) (bytes : Nat) (ht : P.underlying t = some (.slice e)) (he : Elem P e z bytes) (hzs : z.cells.size = 1)
    (a : Option Addr) (n c : Nat) (xs : List Value) (hs : act.eval s = .slice a n c) (hown : Own w B e a n c xs)
    (B2 : Nat) (A : Option Addr) (m mc : Nat) (news : List Value) (hx : act.eval x = .slice A m mc) (hr : Rd w B2 A news) (hl : news.length = m) (h1 : ∀ u ∈ news, u.oneCell' = true)
    (h63 : n + m ≤ maxLen) (hbytes : (n + m) * bytes ≤ 140737488355328) (hbase : B ≤ w.heap.size)
    (h : ∀ a' c' w', Own w' B e a' (n + m) c' (xs ++ news) → w.grownBy w' (Value.slice a n c).ownBlock → (∀ g, a = some ⟨g, 0, none⟩ → ∀ (j : Nat) (u : Value), xs[j]? = some u → w'.cell? ⟨g, j, none⟩ = some u) → K (act.put o.dst (.slice a' (n + m) c')) w') :
    if Region.wanted o (yielded ops act.tmps) = true then Oper.wp P o act w K Q else E := by
  have hw : Region.wanted o (yielded ops act.tmps) = true := by simp [Region.wanted, hgd]
  rw [if_pos hw]
  obtain ⟨a', c', w', hrun, h2, h3, h4⟩ := run_app3 (P := P) (w := w) B t o.type e z bytes ht he hzs a n c xs hown B2 A m mc news hr hl h1 h63 hbytes hbase
  unfold Oper.wp execOp
  simp only [ho, resolve, invoke, builtin, Sem.run_bind, Sem.run_pure, Result.andThen_ok, List.map_toArray, List.map_cons, List.map_nil, hs, hx, hrun]
  exact h a' c' w' h2 h3 h4
end Go.Proofs.YtghinmlpkgcdiaaDoor
