/- Rows of the call's own, of elements of one cell: appending to them, reading them, storing into them. -/
import Derived.Test.YtghinmlpkgcdiaaDoorLib
import Derived.Deep.RegionLaw
namespace Go.Proofs.YtghinmlpkgcdiaaDoor
set_option linter.unusedSimpArgs false
set_option linter.unusedVariables false
open Go.RowKit

/-- the slice 'a, n' is nil, or lies at the head of a row of its own from block B on; it holds xs -/
def Own (w : World) (B : Nat) (e : TypeId) (a : Option Addr) (n c : Nat) (xs : List Value) : Prop := w.ownsRow B e 1 (.slice a n c) n xs

section
variable {w w' : World} {B : Nat} {e : TypeId} {a : Option Addr} {n c : Nat} {xs : List Value}
theorem Own.nil (w : World) (B : Nat) (e : TypeId) : Own w B e none 0 0 [] := World.ownsRow_nil w B e 1
theorem Own.len (h : Own w B e a n c xs) : xs.length = n := by have := h.1; omega
theorem Own.cap (h : Own w B e a n c xs) : n ≤ c := by
  rcases h.2 with ⟨hv, hn⟩ | ⟨g, cap, cur, hv, _, _, hc, _⟩
  · injection hv with _ _ h3; omega
  · injection hv with _ _ h3; omega
theorem Own.le (h : Own w B e a n c xs) : c ≤ maxLen := by
  rcases h.2 with ⟨hv, hn⟩ | ⟨g, cap, cur, hv, _, _, _, hc, _⟩
  · injection hv with _ _ h3; subst h3; unfold maxLen; omega
  · injection hv with _ _ h3; omega
theorem Own.at_ (h : Own w B e a n c xs) {k : Nat} (hk : k < n) : ∃ g, a = some ⟨g, 0, none⟩ ∧ B ≤ g ∧ g < w.heap.size ∧ w.cell? ⟨g, k, none⟩ = xs[k]? ∧ w.frozen? ⟨g, k, none⟩ = false := by
  rcases h.2 with ⟨_, hn⟩ | ⟨g, cap, cur, hv, hb, hg, _, _, _, ht⟩
  · omega
  · injection hv with h1
    refine ⟨g, h1, hb, (Array.getElem?_eq_some_iff.1 hg).1, ?_, frozen_of_row w g k cur e hg⟩
    rw [cell_of_row w g k cur e (0, 0) hg, ← ht, List.getElem?_take_of_lt (by omega)]
    simp
theorem Own.rd (h : Own w B e a n c xs) : Rd w w.heap.size a xs := fun j u hu => by
  have hl := h.len
  have hj : j < n := by
    by_cases h : j < xs.length
    · omega
    · rw [List.getElem?_eq_none (by omega)] at hu; cases hu
  obtain ⟨g, rfl, _, hg, hc, _⟩ := h.at_ hj
  exact ⟨g, 0, rfl, hg, by rw [Nat.zero_add, hc]; exact hu⟩
theorem Own.kept (h : Own w B e a n c xs) (hb : ∀ g, a = some ⟨g, 0, none⟩ → w'.heap[g]? = w.heap[g]?) : Own w' B e a n c xs := by
  refine ⟨h.1, ?_⟩
  rcases h.2 with hn | ⟨g, cap, cur, hv, h1, hg, rest⟩
  · exact .inl hn
  · refine .inr ⟨g, cap, cur, hv, h1, ?_, rest⟩
    injection hv with e1
    rw [hb g e1]; exact hg
theorem Own.lt (h : Own w B e a n c xs) {g : Nat} (ha : a = some ⟨g, 0, none⟩) : B ≤ g ∧ g < w.heap.size := by
  rcases h.2 with ⟨hv, _⟩ | ⟨g', cap, cur, hv, h1, hg, rest⟩
  · injection hv with e1; rw [e1] at ha; cases ha
  · injection hv with e1
    rw [e1] at ha
    injection ha with ha
    injection ha with ha
    subst ha
    exact ⟨h1, (Array.getElem?_eq_some_iff.1 hg).1⟩
theorem Own.alloc (h : Own w B e a n c xs) (o : Obj) : Own (w.alloc o) B e a n c xs := h.kept fun g hg => Below.heap_alloc w o g (h.lt hg).2
theorem Own.drewN (h : Own w B e a n c xs) (k : Nat) : Own (w.drewN k) B e a n c xs := h
theorem Own.below (h : Own w B e a n c xs) (hb : Below w.heap.size w w') : Own w' B e a n c xs := h.kept fun g hg => hb.block g (h.lt hg).2
theorem Own.far (h : Own w B e a n c xs) {p : Addr} (hp : ∀ g, a = some ⟨g, 0, none⟩ → g ≠ p.block) (u : Value) : Own (w.setCell p u) B e a n c xs :=
  h.kept fun g hg => heap_setCell_other w p g u (hp g hg)
/-- a store into one of its own cells -/
theorem Own.put {g : Nat} (h : Own w B e (some ⟨g, 0, none⟩) n c xs) {k : Nat} (hk : k < n) (u : Value) : Own (w.setCell ⟨g, k, none⟩ u) B e (some ⟨g, 0, none⟩) n c (xs.set k u) := by
  have hl := h.len
  refine ⟨by simp [hl], ?_⟩
  rcases h.2 with ⟨hv, _⟩ | ⟨g', cap, cur, hv, h1, hg, h2, h3, h4, h5⟩
  · injection hv with e1; cases e1
  · injection hv with e1 _ e3
    injection e1 with e1
    injection e1 with e1
    subst e1; subst e3
    refine .inr ⟨g, c, cur.setIfInBounds k u, rfl, h1, heap_setCell_same w g k cur e u hg, h2, h3, by simpa using h4, ?_⟩
    rw [← h5]
    apply List.ext_getElem?
    intro i
    simp only [List.getElem?_take, Array.toList_setIfInBounds, List.getElem?_set]
    by_cases hi : i < n * 1
    · simp only [hi, if_true, List.length_take]
      by_cases hki : k = i
      · subst hki
        have : n * 1 ≤ cur.toList.length := by simp; omega
        have hx : k < cur.toList.length := by omega
        simp only [if_true, hx]
        rw [if_pos (by omega)]
      · simp [hki]
    · have hki : k ≠ i := by omega
      simp [hki]
/-- a new row -/
theorem Own.new (w : World) (B : Nat) (e : TypeId) (cur : Array Value) (n : Nat) (hB : B ≤ w.heap.size) (hn : cur.size = n) (hm : n ≤ maxLen) : Own (w.alloc (.cells cur e)) B e (some ⟨w.heap.size, 0, none⟩) n n cur.toList := by
  refine ⟨by simp [hn], .inr ⟨w.heap.size, n, cur, rfl, hB, heap_alloc_new w _, Nat.le_refl _, hm, by omega, ?_⟩⟩
  rw [List.take_of_length_le (by simp [hn])]
end

/-- what the program's table says of an element type -/
def Elem (P : Program) (e : TypeId) (z : Value) (bytes : Nat) : Prop := (P.info? e).map (fun i => (i.zero, i.size, i.bytes)) = some (some z, 1, bytes)

section
variable {P : Program} (w : World)
theorem run_append_nothing (B : Nat) (t ty e : TypeId) (i : TypeInfo) (ht : P.underlying t = some (.slice e)) (hi : P.info? e = some i)
    (v : Value) (n : Nat) (xs : List Value) (hown : w.ownsRow B e 1 v n xs) (c : Nat) : (Builtin.append_ #[t, t] ty #[v, .slice none 0 c]).run P w = .ok v w := by
  rcases hown.2 with ⟨rfl, rfl⟩ | ⟨g, cap, cur, rfl, _, _, hnc, _⟩
  · simp [Builtin.append_, run_underlying ht, sizeOf, typeInfo, hi, Builtin.lenOf, Builtin.firstCells]
  · simp [Builtin.append_, run_underlying ht, sizeOf, typeInfo, hi, Builtin.lenOf, Builtin.firstCells, hnc, storeCells]

theorem run_app (B : Nat) (t ty e : TypeId) (z : Value) (bytes : Nat) (ht : P.underlying t = some (.slice e)) (he : Elem P e z bytes) (hzs : z.cells.size = 1)
    (a : Option Addr) (n c : Nat) (xs : List Value) (hown : Own w B e a n c xs)
    (B2 : Nat) (A : Option Addr) (m mc : Nat) (news : List Value) (hr : Rd w B2 A news) (hl : news.length = m) (h1 : ∀ u ∈ news, u.oneCell' = true)
    (h63 : n + m ≤ maxLen) (hbytes : (n + m) * bytes ≤ 140737488355328) (hbase : B ≤ w.heap.size) :
    ∃ a' c' w', (Builtin.append_ #[t, t] ty #[.slice a n c, .slice A m mc]).run P w = .ok (.slice a' (n + m) c') w' ∧ Own w' B e a' (n + m) c' (xs ++ news) ∧ w.grownBy w' (Value.slice a n c).ownBlock := by
  obtain ⟨i, hi, hz0, hz1, hz2⟩ := info_parts he
  cases A with
  | none =>
    have hn : news = [] := by
      cases news with
      | nil => rfl
      | cons u r => obtain ⟨b, off, h, _⟩ := hr 0 u rfl; cases h
    subst hn
    obtain rfl : m = 0 := by simpa using hl.symm
    exact ⟨a, c, w, run_append_nothing w B t ty e i ht hi _ n xs hown mc, by simpa using hown, World.grownBy.refl w _⟩
  | some ad =>
    have hcells : ∀ j u, news[j]? = some u → w.cell? (ad.add j) = some u := by
      intro j u hu
      obtain ⟨b, off, h, _, hc⟩ := hr j u hu
      injection h with h
      subst h
      have : (⟨b, off, none⟩ : Addr).add j = ⟨b, off + j, none⟩ := by unfold Addr.add; split <;> simp_all
      rw [this]; exact hc
    obtain ⟨v', w', hrun, hown', hg, _⟩ := run_append_own (P := P) w B t ty e i z 1 bytes ht hi hz0 hz1 hz2 hzs (by decide) _ n xs hown ad m mc news (by omega) hcells h1 h63 hbytes hbase
    rcases hown'.2 with ⟨rfl, hn⟩ | ⟨g, cap, cur, rfl, hx⟩
    · rw [hn] at *
      exact ⟨none, 0, w', hrun, hown', hg⟩
    · exact ⟨some ⟨g, 0, none⟩, cap, w', hrun, hown', hg⟩

theorem wpList_app {ops : Array Oper} {rest : List Oper} {o : Oper} {act : Act} {Q : Exit → Act → World → Prop} (hgd : o.guard = none) (s x : Operand) (t : TypeId)
    (ho : o.op = .call { callee := .builtin .append, args := #[s, x], argTypes := #[t, t] })
    (B : Nat) (e : TypeId) (z : Value) (bytes : Nat) (ht : P.underlying t = some (.slice e)) (he : Elem P e z bytes) (hzs : z.cells.size = 1)
    (a : Option Addr) (n c : Nat) (xs : List Value) (hs : act.eval s = .slice a n c) (hown : Own w B e a n c xs)
    (B2 : Nat) (A : Option Addr) (m mc : Nat) (news : List Value) (hx : act.eval x = .slice A m mc) (hr : Rd w B2 A news) (hl : news.length = m) (h1 : ∀ u ∈ news, u.oneCell' = true)
    (h63 : n + m ≤ maxLen) (hbytes : (n + m) * bytes ≤ 140737488355328) (hbase : B ≤ w.heap.size)
    (h : ∀ a' c' w', Own w' B e a' (n + m) c' (xs ++ news) → w.grownBy w' (Value.slice a n c).ownBlock → wpList P ops Q rest (act.put o.dst (.slice a' (n + m) c')) w') : wpList P ops Q (o :: rest) act w := by
  refine wpList_plain hgd fun K hK => ?_
  obtain ⟨a', c', w', hrun, h2, h3⟩ := run_app (P := P) w B t o.type e z bytes ht he hzs a n c xs hown B2 A m mc news hr hl h1 h63 hbytes hbase
  unfold Oper.wp execOp
  simp only [ho, resolve, invoke, builtin, Sem.run_bind, Sem.run_pure, Result.andThen_ok, List.map_toArray, List.map_cons, List.map_nil, hs, hx, hrun]
  exact hK _ _ (h a' c' w' h2 h3)
end
/-- the same as one step of a region that draws its order -/
theorem step_app {P : Program} {ops : Array Oper} {o : Oper} {act : Act} {w : World} {K : Act → World → Prop} {Q : Exit → Act → World → Prop} {E : Prop} (hgd : o.guard = none) (s x : Operand) (t : TypeId)
    (ho : o.op = .call { callee := .builtin .append, args := #[s, x], argTypes := #[t, t] })
    (B : Nat) (e : TypeId) (z : Value) (bytes : Nat) (ht : P.underlying t = some (.slice e)) (he : Elem P e z bytes) (hzs : z.cells.size = 1)
    (a : Option Addr) (n c : Nat) (xs : List Value) (hs : act.eval s = .slice a n c) (hown : Own w B e a n c xs)
    (B2 : Nat) (A : Option Addr) (m mc : Nat) (news : List Value) (hx : act.eval x = .slice A m mc) (hr : Rd w B2 A news) (hl : news.length = m) (h1 : ∀ u ∈ news, u.oneCell' = true)
    (h63 : n + m ≤ maxLen) (hbytes : (n + m) * bytes ≤ 140737488355328) (hbase : B ≤ w.heap.size)
    (h : ∀ a' c' w', Own w' B e a' (n + m) c' (xs ++ news) → w.grownBy w' (Value.slice a n c).ownBlock → K (act.put o.dst (.slice a' (n + m) c')) w') :
    if Region.wanted o (yielded ops act.tmps) = true then Oper.wp P o act w K Q else E := by
  have hw : Region.wanted o (yielded ops act.tmps) = true := by simp [Region.wanted, hgd]
  rw [if_pos hw]
  obtain ⟨a', c', w', hrun, h2, h3⟩ := run_app (P := P) w B t o.type e z bytes ht he hzs a n c xs hown B2 A m mc news hr hl h1 h63 hbytes hbase
  unfold Oper.wp execOp
  simp only [ho, resolve, invoke, builtin, Sem.run_bind, Sem.run_pure, Result.andThen_ok, List.map_toArray, List.map_cons, List.map_nil, hs, hx, hrun]
  exact h a' c' w' h2 h3
theorem Rd.one (w : World) (e : TypeId) (u : Value) : Rd (w.alloc (.cells #[u] e)) (w.heap.size + 1) (some ⟨w.heap.size, 0, none⟩) [u] :=
  Rd.row (Row.new w e #[u]) (Nat.lt_succ_self _) fun j v hv => by rw [← hv, ← Array.getElem?_toList]
theorem below_grown {w0 w w' : World} {B : Nat} {e : TypeId} {a : Option Addr} {n c : Nat} {xs : List Value} (h : Below B w0 w) (hg : w.grownBy w' (Value.slice a n c).ownBlock) (ho : Own w B e a n c xs) (hB : B ≤ w.heap.size) : Below B w0 w' := by
  refine h.grown hg hB fun k hk => ?_
  cases a with
  | none => cases hk
  | some ad =>
    rcases ho.2 with ⟨hv, _⟩ | ⟨g, cap, cur, hv, h1, _⟩
    · injection hv with e1; cases e1
    · injection hv with e1
      injection e1 with e1
      subst e1
      simp [Value.ownBlock] at hk
      omega
theorem below_grown2 {w0 w w' : World} {B0 B : Nat} {e : TypeId} {a : Option Addr} {n c : Nat} {xs : List Value} (h : Below B0 w0 w) (hg : w.grownBy w' (Value.slice a n c).ownBlock) (ho : Own w B e a n c xs) (hB : B0 ≤ w.heap.size) (h0 : B0 ≤ B) : Below B0 w0 w' := by
  refine h.grown hg hB fun k hk => ?_
  cases a with
  | none => cases hk
  | some ad =>
    rcases ho.2 with ⟨hv, _⟩ | ⟨g, cap, cur, hv, h1, _⟩
    · injection hv with e1; cases e1
    · injection hv with e1
      injection e1 with e1
      subst e1
      simp [Value.ownBlock] at hk
      omega
/-- another row of one's own, while one grows -/
theorem Own.beside {w w' : World} {B B2 : Nat} {e e2 : TypeId} {a a2 : Option Addr} {n c n2 c2 : Nat} {xs ys : List Value} (h : Own w B e a n c xs) (hg : w.grownBy w' (Value.slice a2 n2 c2).ownBlock)
    (hne : ∀ g, a = some ⟨g, 0, none⟩ → a2 ≠ some ⟨g, 0, none⟩) (_ho : Own w B2 e2 a2 n2 c2 ys) : Own w' B e a n c xs := by
  refine h.kept fun g hg2 => hg.block g (h.lt hg2).2 fun e1 => ?_
  cases a2 with
  | none => cases e1
  | some ad =>
    rcases _ho.2 with ⟨hv, _⟩ | ⟨g', cap, cur, hv, _⟩
    · injection hv with e3; cases e3
    · injection hv with e3
      injection e3 with e3
      subst e3
      simp [Value.ownBlock] at e1
      subst e1
      exact hne g hg2 rfl
theorem Rd.grown {w w' : World} {B : Nat} {A : Option Addr} {xs : List Value} {row : Option Nat} (h : Rd w B A xs) (hg : w.grownBy w' row) (hB : B ≤ w.heap.size) (hr : ∀ k, row = some k → B ≤ k) : Rd w' B A xs :=
  h.keep fun b o hb => World.cell?_of_block (w := w) (hg.block b (by omega) fun e => by have := hr b e.symm; omega)
end Go.Proofs.YtghinmlpkgcdiaaDoor
