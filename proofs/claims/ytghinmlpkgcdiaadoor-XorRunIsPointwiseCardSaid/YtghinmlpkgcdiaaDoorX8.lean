/- Schedules: rows of operations of one's own. -/
import Derived.Test.YtghinmlpkgcdiaaDoorX6
import Derived.Test.YtghinmlpkgcdiaaDoorXH
import Derived.Deep.AppendLies
namespace Go.Proofs.YtghinmlpkgcdiaaDoor
set_option linter.unusedSimpArgs false
set_option linter.unusedVariables false
open Go.RowKit Go.Lib

/-- the slice is a row of the operations l, of one's own -/
def OpsR (w : World) (B : Nat) (a : Option Addr) (n c : Nat) (l : List (Int × Int)) : Prop := w.ownsRow B 66 2 (.slice a n c) n (opsC l)
section
variable {w w' : World} {B : Nat} {a : Option Addr} {n c : Nat} {l : List (Int × Int)}
theorem OpsR.nil (w : World) (B : Nat) : OpsR w B none 0 0 [] := World.ownsRow_nil w B _ 2
theorem OpsR.len (h : OpsR w B a n c l) : l.length = n := by have := h.1; rw [opsC_length] at this; omega
theorem OpsR.form (h : OpsR w B a n c l) : (a = none ∧ n = 0 ∧ c = 0 ∧ l = []) ∨ ∃ (g : Nat) (cur : Array Value), a = some ⟨g, 0, none⟩ ∧ B ≤ g ∧ Row w g 66 cur ∧ n ≤ c ∧ c ≤ maxLen ∧ ∀ (p : Nat) (u : Value), (opsC l)[p]? = some u → cur[p]? = some u := by
  have hl := h.len
  rcases h.2 with ⟨hv, hn⟩ | ⟨g, cap, cur, hv, h1, h2, h3, h4, _, ht⟩
  · injection hv with e1 e2 e3
    exact .inl ⟨e1, hn, e3, List.length_eq_zero_iff.1 (by omega)⟩
  · injection hv with e1 e2 e3
    subst e3
    refine .inr ⟨g, cur, e1, h1, h2, h3, h4, fun p u hp => ?_⟩
    rw [← ht, List.getElem?_take] at hp
    split at hp
    · rwa [← Array.getElem?_toList]
    · cases hp
theorem OpsR.rd (h : OpsR w B a n c l) : Rd w w.heap.size a (opsC l) := by
  rcases h.form with ⟨_, _, _, rfl⟩ | ⟨g, cur, rfl, _, hr, _, _, hc⟩
  · exact Rd.nil _ _ _
  · exact fun j u hu => ⟨g, 0, rfl, hr.lt, by rw [Nat.zero_add, hr.cell]; exact hc j u hu⟩
theorem OpsR.cap (h : OpsR w B a n c l) : n ≤ c ∧ c ≤ maxLen ∧ (a = none → c = 0) := by
  rcases h.form with ⟨_, e1, e2, _⟩ | ⟨g, cur, e, _, _, h1, h2, _⟩
  · exact ⟨by omega, by unfold maxLen; omega, fun _ => e2⟩
  · exact ⟨h1, h2, fun e2 => by rw [e] at e2; cases e2⟩
theorem OpsR.kept (h : OpsR w B a n c l) (hb : ∀ g, a = some ⟨g, 0, none⟩ → w'.heap[g]? = w.heap[g]?) : OpsR w' B a n c l := by
  refine ⟨h.1, ?_⟩
  rcases h.2 with h1 | ⟨g, cap, cur, hv, h1, h2, h3⟩
  · exact .inl h1
  · injection hv with e1 e2 e3
    exact .inr ⟨g, cap, cur, by rw [e1, e3], h1, (hb g e1).trans h2, h3⟩
theorem OpsR.keeps (h : OpsR w B a n c l) (hk : Keeps 66 w w') : OpsR w' B a n c l := h.kept fun g hg => by
  rcases h.form with ⟨e, _⟩ | ⟨g2, cur, e, _, hr, _⟩
  · rw [e] at hg; cases hg
  · rw [e] at hg
    injection hg with hg
    injection hg with hg
    subst hg
    exact (hk _ _ hr).trans hr.symm
theorem OpsR.mono (h : OpsR w B a n c l) {B' : Nat} (hB : B' ≤ B) : OpsR w B' a n c l := by
  refine ⟨h.1, ?_⟩
  rcases h.2 with h | ⟨g, cap, cur, h1, h2, h3⟩
  · exact .inl h
  · exact .inr ⟨g, cap, cur, h1, Nat.le_trans hB h2, h3⟩
theorem OpsR.lt (h : OpsR w B a n c l) {g : Nat} (hg : a = some ⟨g, 0, none⟩) : B ≤ g ∧ g < w.heap.size ∧ ∃ cur, Row w g 66 cur := by
  rcases h.form with ⟨e, _⟩ | ⟨g2, cur, e, h1, hr, _⟩
  · rw [e] at hg; cases hg
  · rw [e] at hg
    injection hg with hg
    injection hg with hg
    subst hg
    exact ⟨h1, hr.lt, cur, hr⟩
theorem OpsR.block (h : OpsR w B a n c l) {k : Nat} (hk : (Value.slice a n c).ownBlock = some k) : a = some ⟨k, 0, none⟩ := by
  rcases h.form with ⟨e, _⟩ | ⟨g2, cur, e, _⟩
  · rw [e] at hk; cases hk
  · rw [e] at hk ⊢
    injection hk with hk
    have hk : g2 = k := hk
    rw [hk]
/-- rows of another type stand while operations are appended -/
theorem Keeps.ops {e : TypeId} {v : World} (h : Keeps e v w) (ho : OpsR w B a n c l) (hg : w.grownBy w' (Value.slice a n c).ownBlock) (hne : e ≠ 66) : Keeps e v w' := fun g cs hr => by
  have h1 := h g cs hr
  refine (hg.block g h1.lt (fun hx => ?_)).trans h1
  obtain ⟨_, _, cur, hr2⟩ := ho.lt (ho.block hx.symm)
  exact hne (h1.type hr2)
end
/-- one operation is appended -/
theorem wpList_op {ops : Array Oper} {rest : List Oper} {o : Oper} {act : Act} {w : World} {Q : Exit → Act → World → Prop} (hgd : o.guard = none) (s x : Operand)
    (ho : o.op = .call { callee := .builtin .append, args := #[s, x], argTypes := #[28, 28] })
    (B : Nat) (a : Option Addr) (n c : Nat) (l : List (Int × Int)) (hs : act.eval s = .slice a n c) (hown : OpsR w B a n c l)
    (g1 mc : Nat) (X Y : Int) (hx : act.eval x = .slice (some ⟨g1, 0, none⟩) 1 mc) (hc0 : w.cell? ⟨g1, 0, none⟩ = some (.int .i64 X)) (hc1 : w.cell? ⟨g1, 1, none⟩ = some (.int .i64 Y))
    (hn : n ≤ 1000000) (hbase : B ≤ w.heap.size)
    (h : ∀ a' c' w', OpsR w' B a' (n + 1) c' (l ++ [(X, Y)]) → w.grownBy w' (Value.slice a n c).ownBlock → (a' = a ∨ ∃ g, a' = some ⟨g, 0, none⟩ ∧ w.heap.size ≤ g) → wpList Tryd.prog ops Q rest (act.put o.dst (.slice a' (n + 1) c')) w') : wpList Tryd.prog ops Q (o :: rest) act w := by
  refine wpList_plain hgd fun K hK => ?_
  obtain ⟨i, hi, hz0, hz1, hz2⟩ := info_parts (show (Tryd.prog.info? 66).map (fun i => (i.zero, i.size, i.bytes)) = some (some (.agg #[.int .i64 0, .int .i64 0]), 2, 16) by kernel_rfl)
  obtain ⟨g, cap, w', hrun, h2, h3, h4, h5⟩ := run_append_lies (P := Tryd.prog) w 28 o.type B 66 i _ 2 16 Tryd.underlying28 hi hz0 hz1 hz2 rfl (by decide) _ n (opsC l) hown ⟨g1, 0, none⟩ 1 mc [.int .i64 X, .int .i64 Y] rfl
    (by
      intro j u hu
      match j, hu with
      | 0, hu => simp at hu; subst hu; exact hc0
      | 1, hu => simp at hu; subst hu; exact hc1
      | j + 2, hu => simp at hu)
    (by intro u hu; simp at hu; rcases hu with rfl | rfl <;> rfl) (by decide) (by unfold maxLen; omega) (by omega) hbase w.heap.size rfl
  unfold Oper.wp execOp
  simp only [ho, resolve, invoke, builtin, Sem.run_bind, Sem.run_pure, Result.andThen_ok, List.map_toArray, List.map_cons, List.map_nil, hs, hx, hrun]
  refine hK _ _ (h _ _ _ (by unfold OpsR; rw [opsC_snoc]; exact h2) h3 ?_)
  rcases h4 with h4 | h4
  · exact .inl (hown.block h4).symm
  · exact .inr ⟨g, rfl, by omega⟩
theorem Only.grown {X : Nat → Prop} {v w w' : World} {row : Option Nat} (h : Only X v w) (hg : w.grownBy w' row) (hr : ∀ k, row = some k → X k) : Only X v w' :=
  ⟨hg.os.trans h.os, hg.tape.trans h.tape, hg.output.trans h.output, Nat.le_trans h.size hg.size, fun i hi hx => (hg.block i (Nat.lt_of_lt_of_le hi h.size) (fun e => hx (hr i e.symm))).trans (h.block i hi hx)⟩
theorem Only.whole {X : Nat → Prop} {v w : World} (h : Only X v w) {g : Nat} (hg : X g) (cs : Array Value) : Only X v (w.setRow g cs) :=
  ⟨h.os, h.tape, h.output, by rw [size_setRow]; exact h.size, fun k hk hx => (setRow_other w g k cs (fun e => hx (e ▸ hg))).trans (h.block k hk hx)⟩
theorem Only.keeps {X : Nat → Prop} {v w : World} {e : TypeId} (h : Only X v w) (hx : ∀ k cs, Row v k e cs → ¬ X k) : Keeps e v w := fun g cs hr => h.row hr (hx g cs hr)
end Go.Proofs.YtghinmlpkgcdiaaDoor
