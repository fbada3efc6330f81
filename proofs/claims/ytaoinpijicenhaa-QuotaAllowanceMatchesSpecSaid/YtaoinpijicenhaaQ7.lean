/- Two rows that grow side by side, and rows that stay. -/
import Derived.Test.YtaoinpijicenhaaQ6
import Derived.Deep.AppendLies
namespace Go.Proofs.Ytaoinpijicenhaa
set_option linter.unusedSimpArgs false
set_option linter.unusedVariables false
open Go.RowKit

theorem own_block {a : Option Addr} {n c g : Nat} {w : World} {B : Nat} {e : TypeId} {xs : List Value} (h : Own w B e a n c xs) (hk : (Value.slice a n c).ownBlock = some g) : a = some ⟨g, 0, none⟩ := by
  cases a with
  | none => cases hk
  | some ad =>
    rcases h.2 with ⟨hv, _⟩ | ⟨g', cap, cur, hv, _⟩
    · injection hv with e3; cases e3
    · injection hv with e3
      injection e3 with e3
      subst e3
      simp [Value.ownBlock] at hk
      subst hk; rfl

structure Two (w0 w : World) (e : TypeId) (a1 : Option Addr) (n1 c1 : Nat) (xs1 : List Value) (a2 : Option Addr) (n2 c2 : Nat) (xs2 : List Value) (qs : List (Nat × TypeId × Array Value)) : Prop where
  o1 : Own w w0.heap.size e a1 n1 c1 xs1
  o2 : Own w w0.heap.size e a2 n2 c2 xs2
  ne : ∀ g, a1 = some ⟨g, 0, none⟩ → a2 = some ⟨g, 0, none⟩ → False
  bel : Below w0.heap.size w0 w
  kept : ∀ q ∈ qs, Row w q.1 q.2.1 q.2.2 ∧ (∀ g, a1 = some ⟨g, 0, none⟩ → g ≠ q.1) ∧ (∀ g, a2 = some ⟨g, 0, none⟩ → g ≠ q.1)
section
variable {w0 w w' : World} {e : TypeId} {a1 a2 : Option Addr} {n1 c1 n2 c2 : Nat} {xs1 xs2 : List Value} {qs : List (Nat × TypeId × Array Value)}
theorem Two.swap (h : Two w0 w e a1 n1 c1 xs1 a2 n2 c2 xs2 qs) : Two w0 w e a2 n2 c2 xs2 a1 n1 c1 xs1 qs :=
  ⟨h.o2, h.o1, fun g h1 h2 => h.ne g h2 h1, h.bel, fun q hq => ⟨(h.kept q hq).1, (h.kept q hq).2.2, (h.kept q hq).2.1⟩⟩
theorem Two.drew (h : Two w0 w e a1 n1 c1 xs1 a2 n2 c2 xs2 qs) : Two w0 w.drew e a1 n1 c1 xs1 a2 n2 c2 xs2 qs :=
  ⟨h.o1.drewN 1, h.o2.drewN 1, h.ne, h.bel.drew, fun q hq => ⟨(h.kept q hq).1.drew, (h.kept q hq).2⟩⟩
theorem Two.alloc (h : Two w0 w e a1 n1 c1 xs1 a2 n2 c2 xs2 qs) (cs : Array Value) (t : TypeId) : Two w0 (w.alloc (.cells cs t)) e a1 n1 c1 xs1 a2 n2 c2 xs2 ((w.heap.size, t, cs) :: qs) :=
  ⟨h.o1.alloc _, h.o2.alloc _, h.ne, h.bel.alloc h.bel.size _, fun q hq => by
    rcases List.mem_cons.1 hq with rfl | hq
    · refine ⟨Row.new _ _ _, fun g hg => ?_, fun g hg => ?_⟩
      · have := (h.o1.lt hg).2; simp only; omega
      · have := (h.o2.lt hg).2; simp only; omega
    · exact ⟨(h.kept q hq).1.alloc _, (h.kept q hq).2⟩⟩
theorem Two.below (h : Two w0 w e a1 n1 c1 xs1 a2 n2 c2 xs2 qs) (hb : Below w.heap.size w w') : Two w0 w' e a1 n1 c1 xs1 a2 n2 c2 xs2 qs :=
  ⟨h.o1.below hb, h.o2.below hb, h.ne, below_call h.bel hb, fun q hq => ⟨(h.kept q hq).1.below hb (h.kept q hq).1.lt, (h.kept q hq).2⟩⟩
theorem Two.app1 (h : Two w0 w e a1 n1 c1 xs1 a2 n2 c2 xs2 qs) {g n c : Nat} {ys : List Value} (ho : Own w' w0.heap.size e (some ⟨g, 0, none⟩) n c ys) (hg : w.grownBy w' (Value.slice a1 n1 c1).ownBlock)
    (hl : (Value.slice a1 n1 c1).ownBlock = some g ∨ g = w.heap.size) : Two w0 w' e (some ⟨g, 0, none⟩) n c ys a2 n2 c2 xs2 qs := by
  have hne : ∀ k, k < w.heap.size → (∀ g2, a1 = some ⟨g2, 0, none⟩ → g2 ≠ k) → k ≠ g := by
    intro k hk h1 h2
    rcases hl with hl | hl
    · exact h1 g (own_block h.o1 hl) h2.symm
    · omega
  refine ⟨ho, ?_, ?_, below_grown h.bel hg h.o1 h.bel.size, ?_⟩
  · exact h.o2.beside hg (fun k hk h1 => h.ne k h1 hk) h.o1
  · intro k h1 h2
    injection h1 with h1
    injection h1 with h1
    subst h1
    exact hne g (h.o2.lt h2).2 (fun g2 h3 h4 => h.ne g2 h3 (by rw [h4]; exact h2)) rfl
  · intro q hq
    obtain ⟨hr, h1, h2⟩ := h.kept q hq
    refine ⟨(hg.block q.1 hr.lt fun e1 => ?_).trans hr, ?_, h2⟩
    · exact h1 q.1 (own_block h.o1 e1.symm) rfl
    · intro k hk
      injection hk with hk
      injection hk with hk
      subst hk
      exact fun e2 => hne q.1 hr.lt h1 e2.symm
end

/-- one step of a drawn region: an append that says where the row lies -/
theorem step_lies {P : Program} {w : World} {ops : Array Oper} {o : Oper} {act : Act} {K : Act → World → Prop} {Q : Exit → Act → World → Prop} {E : Prop} (hgd : o.guard = none) (s x : Operand) (t : TypeId)
    (ho : o.op = .call { callee := .builtin .append, args := #[s, x], argTypes := #[t, t] })
    (B : Nat) (e : TypeId) (z : Value) (bytes : Nat) (ht : P.underlying t = some (.slice e)) (he : Elem P e z bytes) (hzs : z.cells.size = 1)
    (a : Option Addr) (n c : Nat) (xs : List Value) (hs : act.eval s = .slice a n c) (hown : Own w B e a n c xs)
    (h2 : Nat) (mc : Nat) (u : Value) (hx : act.eval x = .slice (some ⟨h2, 0, none⟩) 1 mc) (t2 : TypeId) (hr : Row w h2 t2 #[u]) (h1 : u.oneCell' = true)
    (h63 : n + 1 ≤ maxLen) (hbytes : (n + 1) * bytes ≤ 140737488355328) (hbase : B ≤ w.heap.size)
    (h : ∀ g c' w', Own w' B e (some ⟨g, 0, none⟩) (n + 1) c' (xs ++ [u]) → w.grownBy w' (Value.slice a n c).ownBlock → ((Value.slice a n c).ownBlock = some g ∨ g = w.heap.size) → K (act.put o.dst (.slice (some ⟨g, 0, none⟩) (n + 1) c')) w') :
    if Region.wanted o (yielded ops act.tmps) = true then Oper.wp P o act w K Q else E := by
  have hw : Region.wanted o (yielded ops act.tmps) = true := by simp [Region.wanted, hgd]
  rw [if_pos hw]
  obtain ⟨i, hi, hz0, hz1, hz2⟩ := info_parts he
  have hcells : ∀ j v, [u][j]? = some v → w.cell? ((⟨h2, 0, none⟩ : Addr).add j) = some v := by
    intro j v hv
    have : (⟨h2, 0, none⟩ : Addr).add j = ⟨h2, j, none⟩ := by unfold Addr.add; split <;> simp_all
    rw [this, hr.cell, ← hv, ← Array.getElem?_toList]
  obtain ⟨g, cap, w', hrun, h3, h4, h5, _⟩ := run_append_lies (P := P) w t o.type B e i z 1 bytes ht hi hz0 hz1 hz2 hzs (by decide) _ n xs hown ⟨h2, 0, none⟩ 1 mc [u] rfl hcells (by intro v hv; simp only [List.mem_singleton] at hv; subst hv; exact h1) (by decide) h63 hbytes hbase _ rfl
  unfold Oper.wp execOp
  simp only [ho, resolve, invoke, builtin, Sem.run_bind, Sem.run_pure, Result.andThen_ok, List.map_toArray, List.map_cons, List.map_nil, hs, hx, hrun]
  exact h g cap w' h3 h4 h5
end Go.Proofs.Ytaoinpijicenhaa
