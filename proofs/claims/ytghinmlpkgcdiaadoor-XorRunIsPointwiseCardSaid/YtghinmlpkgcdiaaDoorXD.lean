/- Schedules: the operations that compute each set, the plain words. Schedules: rows of operations of one's own. Schedules: the operations that compute each set, the program's walk. Codes: the program's validity. Codes: the program's validity, the walk. -/
import Derived.Test.YtghinmlpkgcdiaaDoorXB
import Derived.Deep.AppendLies
import Derived.Deep.RegionHeld3
/-! Schedules: the operations that compute each set, the plain words. -/
set_option linter.unusedVariables false
namespace Go.Proofs.YtghinmlpkgcdiaaDoor
namespace Xp

/-- one element more of a set: the first is taken as it is, each further one by an operation -/
def chStep (n : Int) (s : List (Int × Int) × Int) (x : Nat) : List (Int × Int) × Int := if 0 ≤ s.2 then (s.1 ++ [(s.2, (x : Int))], n + s.1.length) else (s.1, (x : Int))
def chain (n : Int) (ops : List (Int × Int)) (l : List Nat) : List (Int × Int) × Int := l.foldl (chStep n) (ops, -1)
theorem chain_snoc (n : Int) (ops : List (Int × Int)) (l : List Nat) (x : Nat) : chain n ops (l ++ [x]) = chStep n (chain n ops l) x := by
  unfold chain; rw [List.foldl_append]; rfl
theorem chain_take {n : Int} {ops : List (Int × Int)} {l : List Nat} {k x : Nat} (h : l[k]? = some x) : chain n ops (l.take (k + 1)) = chStep n (chain n ops (l.take k)) x := by
  rw [List.take_add_one, h]; exact chain_snoc _ _ _ _
theorem chStep_length (n : Int) (s : List (Int × Int) × Int) (x : Nat) : (chStep n s x).1.length ≤ s.1.length + 1 := by
  unfold chStep; split <;> simp
theorem chain_length (n : Int) (ops : List (Int × Int)) : ∀ (k : Nat) (l : List Nat), l.length = k → (chain n ops l).1.length ≤ ops.length + l.length := by
  intro k
  induction k with
  | zero => intro l hl; rw [List.length_eq_zero_iff.1 hl]; exact Nat.le_refl _
  | succ k ih =>
    intro l hl
    obtain ⟨x, hx⟩ : ∃ x, l[k]? = some x := ⟨_, List.getElem?_eq_getElem (by omega)⟩
    have e : l = l.take (k + 1) := (List.take_of_length_le (by omega)).symm
    rw [e, chain_take hx]
    have h1 := chStep_length n (chain n ops (l.take k)) x
    have h2 := ih (l.take k) (by rw [List.length_take]; omega)
    rw [List.length_take] at h2 ⊢
    omega
/-- all sets, one after the other -/
def fiStep (n : Int) (s : List (Int × Int) × List Int) (l : List Nat) : List (Int × Int) × List Int := ((chain n s.1 l).1, s.2 ++ [(chain n s.1 l).2])
def fin (n : Int) (ops : List (Int × Int)) (ls : List (List Nat)) : List (Int × Int) × List Int := ls.foldl (fiStep n) (ops, [])
theorem fin_take {n : Int} {ops : List (Int × Int)} {ls : List (List Nat)} {k : Nat} {l : List Nat} (h : ls[k]? = some l) : fin n ops (ls.take (k + 1)) = fiStep n (fin n ops (ls.take k)) l := by
  rw [List.take_add_one, h]
  unfold fin; rw [List.foldl_append]; rfl
def total : List (List Nat) → Nat
  | [] => 0
  | l :: ls => l.length + total ls
theorem total_take {ls : List (List Nat)} : ∀ {k : Nat} {l : List Nat}, ls[k]? = some l → total (ls.take (k + 1)) = total (ls.take k) + l.length := by
  induction ls with
  | nil => intro k l h; simp at h
  | cons a ls ih =>
    intro k l h
    cases k with
    | zero => simp at h; subst h; simp [total]
    | succ k =>
      rw [List.getElem?_cons_succ] at h
      have := ih h
      rw [List.take_succ_cons, List.take_succ_cons]
      show a.length + total _ = a.length + total _ + _
      omega
theorem total_take_le (ls : List (List Nat)) : ∀ k, total (ls.take k) ≤ total ls := by
  induction ls with
  | nil => intro k; simp [total]
  | cons a ls ih =>
    intro k
    cases k with
    | zero => simp [total]
    | succ k => rw [List.take_succ_cons]; show a.length + total _ ≤ a.length + total _; have := ih k; omega
theorem fin_length (n : Int) (ops : List (Int × Int)) (ls : List (List Nat)) : ∀ k, k ≤ ls.length → (fin n ops (ls.take k)).1.length ≤ ops.length + total (ls.take k) ∧ (fin n ops (ls.take k)).2.length = k
  | 0, _ => by simp [fin, total]
  | k + 1, hk => by
    obtain ⟨l, hl⟩ : ∃ l, ls[k]? = some l := ⟨_, List.getElem?_eq_getElem (by omega)⟩
    obtain ⟨h1, h2⟩ := fin_length n ops ls k (by omega)
    rw [fin_take hl, total_take hl]
    unfold fiStep
    have h3 := chain_length n (fin n ops (ls.take k)).1 _ l rfl
    exact ⟨by simp only; omega, by simp [h2]⟩
theorem fin_all (n : Int) (ops : List (Int × Int)) (ls : List (List Nat)) : fin n ops (ls.take ls.length) = fin n ops ls := by rw [List.take_of_length_le (Nat.le_refl _)]
end Xp
end Go.Proofs.YtghinmlpkgcdiaaDoor
/-! Schedules: rows of operations of one's own. -/
namespace Go.Proofs.YtghinmlpkgcdiaaDoor
set_option linter.unusedSimpArgs false
set_option linter.unusedVariables false
open Go.RowKit Go.Lib

/-- the slice is a row of the operations l, of one's own -/
def OpsR (w : World) (B : Nat) (a : Option Addr) (n c : Nat) (l : List (Int × Int)) : Prop := w.ownsRow B 66 2 (.slice a n c) n (opsC l)
section
variable {w w' : World} {B : Nat} {a : Option Addr} {n c : Nat} {l : List (Int × Int)}
theorem OpsR.nil (w : World) (B : Nat) : OpsR w B none 0 0 [] := World.ownsRow_nil w B _ 2
theorem OpsR.len (h : OpsR w B a n c l) : l.length = n := by have := h.1; rw [opsC_length] at this; omega
theorem OpsR.form (h : OpsR w B a n c l) : (a = none ∧ n = 0 ∧ c = 0 ∧ l = []) ∨ ∃ (g : Nat) (cur : Array Value), a = some ⟨g, 0, none⟩ ∧ B ≤ g ∧ Row w g 66 cur ∧ n ≤ c ∧ c ≤ maxLen ∧ ∀ (p : Nat) (u : Value), (opsC l)[p]? = some u → cur[p]? = some u := by
  have hl := h.len
  rcases h.2 with ⟨hv, hn⟩ | ⟨g, cap, cur, hv, h1, h2, h3, h4, _, ht⟩
  · injection hv with e1 e2 e3
    exact .inl ⟨e1, hn, e3, List.length_eq_zero_iff.1 (by omega)⟩
  · injection hv with e1 e2 e3
    subst e3
    refine .inr ⟨g, cur, e1, h1, h2, h3, h4, fun p u hp => ?_⟩
    rw [← ht, List.getElem?_take] at hp
    split at hp
    · rwa [← Array.getElem?_toList]
    · cases hp
theorem OpsR.rd (h : OpsR w B a n c l) : Rd w w.heap.size a (opsC l) := by
  rcases h.form with ⟨_, _, _, rfl⟩ | ⟨g, cur, rfl, _, hr, _, _, hc⟩
  · exact Rd.nil _ _ _
  · exact fun j u hu => ⟨g, 0, rfl, hr.lt, by rw [Nat.zero_add, hr.cell]; exact hc j u hu⟩
theorem OpsR.cap (h : OpsR w B a n c l) : n ≤ c ∧ c ≤ maxLen ∧ (a = none → c = 0) := by
  rcases h.form with ⟨_, e1, e2, _⟩ | ⟨g, cur, e, _, _, h1, h2, _⟩
  · exact ⟨by omega, by unfold maxLen; omega, fun _ => e2⟩
  · exact ⟨h1, h2, fun e2 => by rw [e] at e2; cases e2⟩
theorem OpsR.kept (h : OpsR w B a n c l) (hb : ∀ g, a = some ⟨g, 0, none⟩ → w'.heap[g]? = w.heap[g]?) : OpsR w' B a n c l := by
  refine ⟨h.1, ?_⟩
  rcases h.2 with h1 | ⟨g, cap, cur, hv, h1, h2, h3⟩
  · exact .inl h1
  · injection hv with e1 e2 e3
    exact .inr ⟨g, cap, cur, by rw [e1, e3], h1, (hb g e1).trans h2, h3⟩
theorem OpsR.keeps (h : OpsR w B a n c l) (hk : Keeps 66 w w') : OpsR w' B a n c l := h.kept fun g hg => by
  rcases h.form with ⟨e, _⟩ | ⟨g2, cur, e, _, hr, _⟩
  · rw [e] at hg; cases hg
  · rw [e] at hg
    injection hg with hg
    injection hg with hg
    subst hg
    exact (hk _ _ hr).trans hr.symm
theorem OpsR.mono (h : OpsR w B a n c l) {B' : Nat} (hB : B' ≤ B) : OpsR w B' a n c l := by
  refine ⟨h.1, ?_⟩
  rcases h.2 with h | ⟨g, cap, cur, h1, h2, h3⟩
  · exact .inl h
  · exact .inr ⟨g, cap, cur, h1, Nat.le_trans hB h2, h3⟩
theorem OpsR.lt (h : OpsR w B a n c l) {g : Nat} (hg : a = some ⟨g, 0, none⟩) : B ≤ g ∧ g < w.heap.size ∧ ∃ cur, Row w g 66 cur := by
  rcases h.form with ⟨e, _⟩ | ⟨g2, cur, e, h1, hr, _⟩
  · rw [e] at hg; cases hg
  · rw [e] at hg
    injection hg with hg
    injection hg with hg
    subst hg
    exact ⟨h1, hr.lt, cur, hr⟩
theorem OpsR.block (h : OpsR w B a n c l) {k : Nat} (hk : (Value.slice a n c).ownBlock = some k) : a = some ⟨k, 0, none⟩ := by
  rcases h.form with ⟨e, _⟩ | ⟨g2, cur, e, _⟩
  · rw [e] at hk; cases hk
  · rw [e] at hk ⊢
    injection hk with hk
    have hk : g2 = k := hk
    rw [hk]
/-- rows of another type stand while operations are appended -/
theorem Keeps.ops {e : TypeId} {v : World} (h : Keeps e v w) (ho : OpsR w B a n c l) (hg : w.grownBy w' (Value.slice a n c).ownBlock) (hne : e ≠ 66) : Keeps e v w' := fun g cs hr => by
  have h1 := h g cs hr
  refine (hg.block g h1.lt (fun hx => ?_)).trans h1
  obtain ⟨_, _, cur, hr2⟩ := ho.lt (ho.block hx.symm)
  exact hne (h1.type hr2)
end
/-- one operation is appended -/
theorem wpList_op {ops : Array Oper} {rest : List Oper} {o : Oper} {act : Act} {w : World} {Q : Exit → Act → World → Prop} (hgd : o.guard = none) (s x : Operand)
    (ho : o.op = .call { callee := .builtin .append, args := #[s, x], argTypes := #[28, 28] })
    (B : Nat) (a : Option Addr) (n c : Nat) (l : List (Int × Int)) (hs : act.eval s = .slice a n c) (hown : OpsR w B a n c l)
    (g1 mc : Nat) (X Y : Int) (hx : act.eval x = .slice (some ⟨g1, 0, none⟩) 1 mc) (hc0 : w.cell? ⟨g1, 0, none⟩ = some (.int .i64 X)) (hc1 : w.cell? ⟨g1, 1, none⟩ = some (.int .i64 Y))
    (hn : n ≤ 1000000) (hbase : B ≤ w.heap.size)
    (h : ∀ a' c' w', OpsR w' B a' (n + 1) c' (l ++ [(X, Y)]) → w.grownBy w' (Value.slice a n c).ownBlock → (a' = a ∨ ∃ g, a' = some ⟨g, 0, none⟩ ∧ w.heap.size ≤ g) → wpList Tryd.prog ops Q rest (act.put o.dst (.slice a' (n + 1) c')) w') : wpList Tryd.prog ops Q (o :: rest) act w := by
  refine wpList_plain hgd fun K hK => ?_
  obtain ⟨i, hi, hz0, hz1, hz2⟩ := info_parts (show (Tryd.prog.info? 66).map (fun i => (i.zero, i.size, i.bytes)) = some (some (.agg #[.int .i64 0, .int .i64 0]), 2, 16) by kernel_rfl)
  obtain ⟨g, cap, w', hrun, h2, h3, h4, h5⟩ := run_append_lies (P := Tryd.prog) w 28 o.type B 66 i _ 2 16 Tryd.underlying28 hi hz0 hz1 hz2 rfl (by decide) _ n (opsC l) hown ⟨g1, 0, none⟩ 1 mc [.int .i64 X, .int .i64 Y] rfl
    (by
      intro j u hu
      match j, hu with
      | 0, hu => simp at hu; subst hu; exact hc0
      | 1, hu => simp at hu; subst hu; exact hc1
      | j + 2, hu => simp at hu)
    (by intro u hu; simp at hu; rcases hu with rfl | rfl <;> rfl) (by decide) (by unfold maxLen; omega) (by omega) hbase w.heap.size rfl
  unfold Oper.wp execOp
  simp only [ho, resolve, invoke, builtin, Sem.run_bind, Sem.run_pure, Result.andThen_ok, List.map_toArray, List.map_cons, List.map_nil, hs, hx, hrun]
  refine hK _ _ (h _ _ _ (by unfold OpsR; rw [opsC_snoc]; exact h2) h3 ?_)
  rcases h4 with h4 | h4
  · exact .inl (hown.block h4).symm
  · exact .inr ⟨g, rfl, by omega⟩
theorem Only.grown {X : Nat → Prop} {v w w' : World} {row : Option Nat} (h : Only X v w) (hg : w.grownBy w' row) (hr : ∀ k, row = some k → X k) : Only X v w' :=
  ⟨hg.os.trans h.os, hg.tape.trans h.tape, hg.output.trans h.output, Nat.le_trans h.size hg.size, fun i hi hx => (hg.block i (Nat.lt_of_lt_of_le hi h.size) (fun e => hx (hr i e.symm))).trans (h.block i hi hx)⟩
theorem Only.whole {X : Nat → Prop} {v w : World} (h : Only X v w) {g : Nat} (hg : X g) (cs : Array Value) : Only X v (w.setRow g cs) :=
  ⟨h.os, h.tape, h.output, by rw [size_setRow]; exact h.size, fun k hk hx => (setRow_other w g k cs (fun e => hx (e ▸ hg))).trans (h.block k hk hx)⟩
theorem Only.keeps {X : Nat → Prop} {v w : World} {e : TypeId} (h : Only X v w) (hx : ∀ k cs, Row v k e cs → ¬ X k) : Keeps e v w := fun g cs hr => h.row hr (hx g cs hr)
end Go.Proofs.YtghinmlpkgcdiaaDoor
/-! Schedules: the operations that compute each set, the program's walk. -/
namespace Go.Proofs.YtghinmlpkgcdiaaDoor
set_option linter.unusedSimpArgs false
set_option linter.unusedVariables false
open Go.RowKit Go.Lib

/-- rows of rows of numbers, to be read -/
structure RowsT (w : World) (qs : Option Addr) (ns : Nat) (ls : List (List Nat)) : Prop where
  len : ls.length = ns
  row : ∀ (i : Nat) (l : List Nat), ls[i]? = some l → ∃ (g : Nat) (cs : Array Value) (q : Option Addr) (k : Nat), qs = some ⟨g, 0, none⟩ ∧ Row w g 27 cs ∧ cs[i]? = some (.slice q l.length k) ∧ l.length ≤ k ∧
    (∀ (p x : Nat), l[p]? = some x → ∃ (g2 : Nat) (cs2 : Array Value), q = some ⟨g2, 0, none⟩ ∧ Row w g2 3 cs2 ∧ cs2[p]? = some (.int .i64 (x : Int)))
theorem RowsT.keeps {w w' : World} {qs : Option Addr} {ns : Nat} {ls : List (List Nat)} (h : RowsT w qs ns ls) (h1 : Keeps 27 w w') (h2 : Keeps 3 w w') : RowsT w' qs ns ls :=
  ⟨h.len, fun i l hl => by
    obtain ⟨g, cs, q, k, e, hr, hc, hk, hx⟩ := h.row i l hl
    exact ⟨g, cs, q, k, e, h1 g cs hr, hc, hk, fun p x hp => by
      obtain ⟨g2, cs2, e2, hr2, hc2⟩ := hx p x hp
      exact ⟨g2, cs2, e2, h2 g2 cs2 hr2, hc2⟩⟩⟩
theorem RowsT.of {w : World} {B B2 : Nat} {qs : Option Addr} {ns ks : Nat} {vs : List Value} {ls : List (List Nat)} (ho : Own w B 27 qs ns ks vs) (hf : Fam w B2 vs ls) : RowsT w qs ns ls :=
  ⟨by rw [← hf.len, ho.len], fun i l hl => by
    obtain ⟨q, k, e, h2⟩ := hf.own i l hl
    have hi : i < ns := by
      obtain ⟨h, _⟩ := List.getElem?_eq_some_iff.1 hl
      rw [← ho.len, hf.len]; exact h
    obtain ⟨g, eg, _, _, _, _⟩ := ho.at_ hi
    obtain ⟨cs, hr, hc⟩ := ho.row eg
    refine ⟨g, cs, q, k, eg, hr, hc i _ e, h2.cap, fun p x hp => ?_⟩
    have hpl : p < l.length := by obtain ⟨h, _⟩ := List.getElem?_eq_some_iff.1 hp; exact h
    obtain ⟨g2, eg2, _, _, _, _⟩ := h2.at_ hpl
    obtain ⟨cs2, hr2, hc2⟩ := h2.row eg2
    exact ⟨g2, cs2, eg2, hr2, hc2 p _ (nts_get hp)⟩⟩
/-- the blocks that finish may change: the row of operations that came in, and new ones -/
def FinX (w : World) (qo : Option Addr) (k : Nat) : Prop := qo = some ⟨k, 0, none⟩ ∨ w.heap.size ≤ k
/-- what stands in memory while the operations are made -/
structure FinM (w wr : World) (B : Nat) (qo : Option Addr) (f d p : Int) (q : Option Addr) (n k : Nat) (ops : List (Int × Int)) (qx : Option Addr) (nx kx : Nat) (out : List Int) : Prop where
  box : Row wr w.heap.size 30 (schC f d p q n k qx nx kx)
  res : Row wr (w.heap.size + 1) 30 (schC 0 0 0 none 0 0 none 0 0)
  ops : OpsR wr B q n k ops
  lies : ∀ g, q = some ⟨g, 0, none⟩ → FinX w qo g
  out : Own wr w.heap.size 3 qx nx kx (ints out)
  only : Only (FinX w qo) w wr
section
variable {w wr w' : World} {B : Nat} {qo q : Option Addr} {f d p : Int} {n k : Nat} {ops : List (Int × Int)} {qx : Option Addr} {nx kx : Nat} {out : List Int}
theorem FinM.below (h : FinM w wr B qo f d p q n k ops qx nx kx out) (hb : Below wr.heap.size wr w') : FinM w w' B qo f d p q n k ops qx nx kx out :=
  ⟨h.box.below hb h.box.lt, h.res.below hb h.res.lt, h.ops.keeps (Keeps.of_below hb), h.lies, h.out.below hb, h.only.trans (Only.of_below hb (fun k hk _ => hk))⟩
theorem FinM.drew (h : FinM w wr B qo f d p q n k ops qx nx kx out) : FinM w wr.drew B qo f d p q n k ops qx nx kx out :=
  ⟨h.box, h.res, h.ops, h.lies, h.out, h.only.trans ⟨rfl, rfl, rfl, Nat.le_refl _, fun _ _ _ => rfl⟩⟩
theorem FinM.size (h : FinM w wr B qo f d p q n k ops qx nx kx out) : w.heap.size + 1 < wr.heap.size := h.res.lt
theorem FinM.op {a' : Option Addr} {c' : Nat} {x y : Int} (h : FinM w wr B qo f d p q n k ops qx nx kx out) (ho : OpsR w' B a' (n + 1) c' (ops ++ [(x, y)])) (hg : wr.grownBy w' (Value.slice q n k).ownBlock) (hn : a' = q ∨ ∃ g, a' = some ⟨g, 0, none⟩ ∧ wr.heap.size ≤ g) :
    Row w' w.heap.size 30 (schC f d p q n k qx nx kx) ∧ FinM w (w'.setCell ⟨w.heap.size, 3, none⟩ (.slice a' (n + 1) c')) B qo f d p a' (n + 1) c' (ops ++ [(x, y)]) qx nx kx out := by
  have hk : ∀ e : TypeId, e ≠ 66 → Keeps e wr w' := fun e he => (Keeps.refl e wr).ops h.ops hg he
  have h1 := hk _ (by decide) _ _ h.box
  have h2 := hk _ (by decide) _ _ h.res
  have hk2 : ∀ e : TypeId, e ≠ 30 → Keeps e w' (w'.setCell ⟨w.heap.size, 3, none⟩ (.slice a' (n + 1) c')) := fun e he => (Keeps.refl e w').put (p := ⟨w.heap.size, 3, none⟩) h1 he _
  refine ⟨h1, h1.put 3 _, h2.far (by show w.heap.size + 1 ≠ w.heap.size; omega) _, ho.keeps (hk2 _ (by decide)), fun g hg2 => ?_, (h.out.keeps (hk _ (by decide))).keeps (hk2 _ (by decide)), ?_⟩
  · rcases hn with rfl | ⟨g3, e, hg3⟩
    · exact h.lies g hg2
    · rw [e] at hg2
      injection hg2 with hg2
      injection hg2 with hg2
      have := h.size
      exact .inr (by omega)
  · refine (h.only.grown hg (fun k hk => h.lies k (h.ops.block hk))).setCell (.inr ?_) _
    exact Nat.le_refl _
theorem FinM.app {a' : Option Addr} {c' : Nat} {x : Int} (h : FinM w wr B qo f d p q n k ops qx nx kx out) (ho : Own w' w.heap.size 3 a' (nx + 1) c' (ints out ++ [.int .i64 x])) (hg : wr.grownBy w' (Value.slice qx nx kx).ownBlock) :
    Row w' w.heap.size 30 (schC f d p q n k qx nx kx) ∧ FinM w (w'.setCell ⟨w.heap.size, 4, none⟩ (.slice a' (nx + 1) c')) B qo f d p q n k ops a' (nx + 1) c' (out ++ [x]) := by
  have hk : ∀ e : TypeId, e ≠ 3 → Keeps e wr w' := fun e he => (Keeps.refl e wr).grown h.out hg he
  have h1 := hk _ (by decide) _ _ h.box
  have h2 := hk _ (by decide) _ _ h.res
  have hk2 : ∀ e : TypeId, e ≠ 30 → Keeps e w' (w'.setCell ⟨w.heap.size, 4, none⟩ (.slice a' (nx + 1) c')) := fun e he => (Keeps.refl e w').put (p := ⟨w.heap.size, 4, none⟩) h1 he _
  refine ⟨h1, h1.put 4 _, h2.far (by show w.heap.size + 1 ≠ w.heap.size; omega) _, (h.ops.keeps (hk _ (by decide))).keeps (hk2 _ (by decide)), h.lies, ?_, ?_⟩
  · have : ints (out ++ [x]) = ints out ++ [.int .i64 x] := by simp [ints]
    rw [this]; exact ho.keeps (hk2 _ (by decide))
  · refine (h.only.grown hg (fun k hk => .inr ?_)).setCell (.inr (Nat.le_refl _)) _
    rcases h.out.block_or with e | ⟨g, e⟩
    · rw [e] at hk; cases hk
    · have := (h.out.lt e).1
      rw [e] at hk
      injection hk with hk
      have hk : g = k := hk
      omega
theorem FinM.rows (h : FinM w wr B qo f d p q n k ops qx nx kx out) {no ko : Nat} {l0 : List (Int × Int)} (h0 : OpsR w B qo no ko l0) {e : TypeId} (he : e ≠ 66) : Keeps e w wr :=
  h.only.keeps fun k cs hr hx => by
    rcases hx with hx | hx
    · obtain ⟨_, _, cur, hr2⟩ := h0.lt hx
      exact he (hr.type hr2)
    · have := hr.lt; omega
end
set_option maxRecDepth 100000 in
set_option maxHeartbeats 6400000 in
theorem finish_any (f d p : Int) (B : Nat) (qo : Option Addr) (no ko : Nat) (ops : List (Int × Int)) (qs : Option Addr) (ns ks : Nat) (ls : List (List Nat)) (n : Int) (w : World)
    (hn : IntKind.i64.wrap (d * f) = n) (hn0 : 0 ≤ n) (hn1 : n ≤ 512) (ho : OpsR w B qo no ko ops) (hB : B ≤ w.heap.size) (hs : RowsT w qs ns ls) (hns : ns ≤ 512) (htot : no + Xp.total ls ≤ 500000) :
    Calls Tryd.prog 30 #[schV f d p qo no ko none 0 0, .slice qs ns ks] w fun e w' => (∃ q k qx kx, e = .returned (schV f d p q (Xp.fin n ops ls).1.length k qx ns kx) ∧ OpsR w' B q (Xp.fin n ops ls).1.length k (Xp.fin n ops ls).1 ∧ Own w' w.heap.size 3 qx ns kx (ints (Xp.fin n ops ls).2) ∧ (∀ g, q = some ⟨g, 0, none⟩ → FinX w qo g)) ∧ Only (FinX w qo) w w' := by
  unfold schV
  have HIN := Lib.hid (fun (W : World) (a b : Value) => inputs_any f d p a b n hn W)
  have HS := Lib.hid hs
  have HO := Lib.hid ho
  have HLS := Lib.hid hs.len
  have HTOT := Lib.hid (fun k => And.intro (Xp.total_take_le ls k) htot)
  have HLEN := Lib.hid (fun k (hk : k ≤ ls.length) => Xp.fin_length n ops ls k hk)
  have HOL := Lib.hid ho.len
  have HM0 := Lib.hid (show FinM w ((w.alloc (.cells (schC f d p qo no ko none 0 0) 30)).alloc (.cells (schC 0 0 0 none 0 0 none 0 0) 30)) B qo f d p qo no ko ops none 0 0 [] from
    ⟨(Row.new w _ _).alloc _, Row.made _ _ (by simp), ho.keeps (((Keeps.refl _ w).alloc _).alloc _), fun g hg => .inl hg, Own.nil _ _ _, ((Only.refl _ w).alloc _).alloc _⟩)
  clear hs ho hn htot
  go_enter Tryd.func30, Tryd.ntmps30
  go_wp2_with fail
  go_loopw [12] (fun i wr => ∃ (t : Nat) (q : Option Addr) (n1 k : Nat) (qx : Option Addr) (kx : Nat), t ≤ ns ∧ i = .int .i64 t ∧ FinM w wr B qo f d p q n1 k (Xp.fin n ops (ls.take t)).1 qx t kx (Xp.fin n ops (ls.take t)).2) (fun i _ => ns - (intOf i).toNat)
  case atStart => exact ⟨0, qo, no, ko, none, 0, Nat.zero_le _, rfl, HM0.out⟩
  case round =>
    obtain ⟨t, q, n1, k, qx, kx, ht, rfl, hm⟩ := hrel
    have HM := Lib.hid hm
    obtain ⟨O, hO⟩ : ∃ O, (Xp.fin n ops (ls.take t)).1 = O := ⟨_, rfl⟩
    obtain ⟨U, hU⟩ : ∃ U, (Xp.fin n ops (ls.take t)).2 = U := ⟨_, rfl⟩
    rw [hO, hU] at HM
    have HOO := Lib.hid hO
    have HUU := Lib.hid hU
    clear hm hO hU HM0
    by_cases hlt : t < ns
    · have hd : decide ((t : Int) < ns) = true := decide_eq_true (by omega)
      obtain ⟨l, hl⟩ : ∃ l, ls[t]? = some l := ⟨_, List.getElem?_eq_getElem (by rw [HLS.out]; exact hlt)⟩
      obtain ⟨gs, cs, ql, kl, rfl, hrs, hcs, hkl, hxl⟩ := HS.out.row t l hl
      have hcl := ((HM.out.rows HO.out (e := 27) (by decide) _ _ hrs).cell t).trans hcs
      have hbd : n1 + l.length ≤ 500000 := by
        have h1 := (HLEN.out t (by rw [HLS.out]; omega)).1
        have h2 := Xp.total_take hl
        have h3 := HTOT.out (t + 1)
        rw [HOO.out, HM.out.ops.len, HOL.out] at h1
        omega
      have HLL := Lib.hid hl
      have HXL := Lib.hid hxl
      obtain ⟨L, hL⟩ : ∃ L, l.length = L := ⟨_, rfl⟩
      have HL := Lib.hid hL
      rw [hL] at hcl hbd
      clear hl hrs hcs hkl hxl hL
      go_wp2_with fail
      clear hcl
      go_loopw [7, 18] (fun r7 i wr => ∃ (j : Nat) (r : Int) (q : Option Addr) (n1 k : Nat) (O2 : List (Int × Int)), j ≤ L ∧ i = .int .i64 j ∧ r7 = .int .i64 r ∧ Hid (Xp.chain n O (l.take j) = (O2, r)) ∧ FinM w wr B qo f d p q n1 k O2 qx t kx U) (fun _ i _ => L - (intOf i).toNat)
      case atStart => exact ⟨0, -1, q, n1, k, O, Nat.zero_le _, rfl, rfl, Lib.hid (by simp [Xp.chain]), HM.out⟩
      case round =>
        obtain ⟨j, r, q2, n2, k2, O2, hj, rfl, rfl, hch, hm⟩ := hrel
        have HC := Lib.hid hch.out
        have HM2 := Lib.hid hm
        clear hch hm
        by_cases hjl : j < L
        · have hd2 : decide ((j : Int) < L) = true := decide_eq_true (by omega)
          obtain ⟨x, hx⟩ : ∃ x, l[j]? = some x := ⟨_, List.getElem?_eq_getElem (by rw [HL.out]; exact hjl)⟩
          obtain ⟨gq, cs2, rfl, hr2, hc2⟩ := HXL.out j x hx
          have hcx := ((HM2.out.rows HO.out (e := 3) (by decide) _ _ hr2).cell j).trans hc2
          have HCS := Lib.hid (show Xp.chain n O (l.take (j + 1)) = Xp.chStep n (O2, r) x by rw [Xp.chain_take hx, HC.out])
          have hn2 : n2 ≤ 500000 := by
            have h1 := Xp.chain_length n O _ (l.take j) rfl
            rw [HC.out, HM2.out.ops.len, HM.out.ops.len, List.length_take] at h1
            omega
          have hlo := HM2.out.ops.len
          clear hx hr2 hc2
          by_cases hr0 : 0 ≤ r
          · have hd3 : decide ((0 : Int) ≤ r) = true := decide_eq_true hr0
            have HCS2 := Lib.hid (show Xp.chain n O (l.take (j + 1)) = (O2 ++ [(r, (x : Int))], n + (n2 : Int)) by
              rw [HCS.out]
              unfold Xp.chStep
              rw [if_pos hr0, hlo])
            have hz := HM2.out.size
            obtain ⟨c0, c1, c2, c3, c4⟩ := sbox HM2.out.box
            have HMA := Lib.hid (HM2.out.below ((Below.refl wr.heap.size wr).alloc (Nat.le_refl _) (.cells #[.int .i64 r, .int .i64 (x : Int)] 66)))
            have HN := Lib.hid (show Row (wr.alloc (.cells #[.int .i64 r, .int .i64 (x : Int)] 66)) wr.heap.size 66 #[.int .i64 r, .int .i64 (x : Int)] from Row.new _ _ _)
            have hsB : B ≤ wr.heap.size := by omega
            clear hlo
            go_wp2_with (refine wpList_op rfl (.tmp 25) (.tmp 29) rfl B q2 n2 k2 O2 rfl HMA.out.ops wr.heap.size 1 r (x : Int) rfl (HN.out.cell 0) (HN.out.cell 1) (by omega) (by rw [size1]; omega) ?_; intro a6 k6 w6 ho6 hg6 hn6; have HF6 := Lib.hid (HMA.out.op ho6 hg6 hn6); obtain ⟨c0, c1, c2, c3, c4⟩ := sbox HF6.out.1; have hfz := HF6.out.1.frozen 3; clear ho6 hg6 hn6)
            obtain ⟨w7, hw7⟩ : ∃ w7, w7 = w6.setCell ⟨w.heap.size, 3, none⟩ (.slice a6 (n2 + 1) k6) := ⟨_, rfl⟩
            have HM7 := Lib.hid (show FinM w w7 B qo f d p a6 (n2 + 1) k6 (O2 ++ [(r, (x : Int))]) qx t kx U by rw [hw7]; exact HF6.out.2)
            rw [← hw7]
            have HM7d := Lib.hid HM7.out.drew
            clear hw7 c0 c1 c2 c3 c4 hfz HF6
            have hwr1 : IntKind.i64.wrap (n + ((n2 : Int) + 1)) = n + ((n2 : Int) + 1) := by rw [IntKind.wrap_i64] <;> omega
            have hwr2 : IntKind.i64.wrap (n + ((n2 : Int) + 1) - 1) = n + ((n2 : Int) + 1) - 1 := by rw [IntKind.wrap_i64] <;> omega
            go_region_held3 (fun wn => wn.cell? ⟨w.heap.size, 0, none⟩ = some (.int .i64 f) ∧ wn.cell? ⟨w.heap.size, 1, none⟩ = some (.int .i64 d) ∧ wn.cell? ⟨w.heap.size, 2, none⟩ = some (.int .i64 p) ∧ wn.cell? ⟨w.heap.size, 3, none⟩ = some (.slice a6 (n2 + 1) k6) ∧ wn.cell? ⟨w.heap.size, 4, none⟩ = some (.slice qx t kx)) (first | exact sbox HM8.out.box | exact sbox HM7d.out.box | exact sbox HM7.out.box) (first
              | (go_at_call 33; (with_reducible refine (HIN.out _ _ _).mono ?_); rintro e8 w8 ⟨rfl, hb8⟩; have HM8 := Lib.hid (HM7d.out.below hb8); clear hb8))
            go_wp2_with fail
            go_roundw
            case rel => exact ⟨j + 1, _, a6, n2 + 1, k6, _, by omega, by go_num, rfl, Lib.hid (by rw [HCS2.out]; congr 1; omega), HM8.out⟩
            case measure => simp [intOf]; omega
          · have hd3 : decide ((0 : Int) ≤ r) = false := decide_eq_false hr0
            have HCS2 := Lib.hid (show Xp.chain n O (l.take (j + 1)) = (O2, (x : Int)) by
              rw [HCS.out]
              unfold Xp.chStep
              rw [if_neg hr0])
            clear hlo
            go_wp2_with fail
            go_roundw
            case rel => exact ⟨j + 1, x, q2, n2, k2, O2, by omega, by go_num, rfl, Lib.hid HCS2.out, HM2.out⟩
            case measure => simp [intOf]; omega
        · have hd2 : decide ((j : Int) < L) = false := decide_eq_false (by omega)
          have HC2 := Lib.hid (show Xp.chain n O l = (O2, r) by
            have := HC.out
            rwa [List.take_of_length_le (by rw [HL.out]; omega)] at this)
          have HFT := Lib.hid (show Xp.fin n ops (ls.take (t + 1)) = (O2, U ++ [r]) by
            rw [Xp.fin_take HLL.out]
            unfold Xp.fiStep
            rw [HOO.out, HUU.out, HC2.out])
          have hz := HM2.out.size
          obtain ⟨c0, c1, c2, c3, c4⟩ := sbox HM2.out.box
          have HMA := Lib.hid (HM2.out.below ((Below.refl wr.heap.size wr).alloc (Nat.le_refl _) (.cells #[.int .i64 r] 3)))
          go_wp2_with (refine wpList_app _ rfl (.tmp 42) (.tmp 44) 27 rfl w.heap.size 3 (.int .i64 0) 8 Tryd.underlying27 elem_ints rfl qx t kx (ints U) rfl HMA.out.out _ (some ⟨wr.heap.size, 0, none⟩) 1 1 [.int .i64 r] rfl (Rd.one wr _ _) rfl (by intro u hu; simp only [List.mem_singleton] at hu; subst hu; rfl) (by unfold maxLen; omega) (by omega) (by rw [size1]; omega) ?_; intro a9 k9 w9 ho9 hg9; have HF9 := Lib.hid (HMA.out.app ho9 hg9); (obtain ⟨c0, c1, c2, c3, c4⟩ := sbox HF9.out.1); have hfz := HF9.out.1.frozen 4; clear ho9 hg9)
          have HM9 := Lib.hid HF9.out.2
          clear HF9
          go_roundw
          case rel => exact ⟨t + 1, q2, n2, k2, a9, k9, by omega, by go_num, by rw [HFT.out]; exact HM9.out⟩
          case measure => simp [intOf]; omega
    · have hd : decide ((t : Int) < ns) = false := decide_eq_false (by omega)
      have htn : t = ns := by omega
      have HFA := Lib.hid (show Xp.fin n ops (ls.take t) = Xp.fin n ops ls by rw [List.take_of_length_le (by rw [HLS.out]; omega)])
      rw [HFA.out] at HOO HUU
      have hlo := HM.out.ops.len
      subst htn
      have hz := HM.out.size
      obtain ⟨c0, c1, c2, c3, c4⟩ := sbox HM.out.box
      have HLO := Lib.hid (show n1 = (Xp.fin n ops ls).1.length by rw [HOO.out, hlo])
      clear hlo
      go_wp2_with (refine wpList_store_row rfl _ _ _ rfl (w.heap.size + 1) (schC f d p q n1 k qx t kx) rfl rfl _ _ HM.out.res (by kernel_rfl) rfl (schC_one _ _ _ _ _ _ _ _ _) ?_)
      refine bodyPost_ret (v := .agg (schC f d p q n1 k qx t kx)) ?_ rfl ⟨⟨q, k, qx, kx, by rw [HLO.out], ?_, ?_, HM.out.lies⟩, HM.out.only.whole (.inr (by omega)) _⟩
      · exact results_cell_row rfl _ _ (w.heap.size + 1) _ _ (0, 0) _ rfl (HM.out.res.whole _) Tryd.underlying30 rfl (by kernel_rfl)
      · rw [← HLO.out, HOO.out]
        exact HM.out.ops.kept fun g hg => setRow_other _ _ _ _ (fun e => by
          obtain ⟨_, _, cur, hr⟩ := HM.out.ops.lt hg
          subst e
          exact absurd (hr.type HM.out.res) (by decide))
      · rw [HUU.out]
        exact HM.out.out.kept fun g hg => setRow_other _ _ _ _ (fun e => by
          obtain ⟨cur, hr, _⟩ := HM.out.out.row hg
          subst e
          exact absurd (hr.type HM.out.res) (by decide))
end Go.Proofs.YtghinmlpkgcdiaaDoor
/-! Codes: the program's validity. -/
namespace Go.Proofs.YtghinmlpkgcdiaaDoor
set_option linter.unusedSimpArgs false
set_option linter.unusedVariables false
open Go.RowKit Go.Lib

/-- the cells of a code -/
abbrev codC (nm : Value) (f d : Int) (qp : Option Addr) (np kp : Nat) (dom : Int) : Array Value := #[nm, .int .i64 f, .int .i64 d, .slice qp np kp, .int .i64 dom]
theorem cbox {w : World} {g : Nat} {t : TypeId} {nm : Value} {f d : Int} {qp : Option Addr} {np kp : Nat} {dom : Int} (h : Row w g t (codC nm f d qp np kp dom)) :
    w.cell? ⟨g, 0, none⟩ = some nm ∧ w.cell? ⟨g, 1, none⟩ = some (.int .i64 f) ∧ w.cell? ⟨g, 2, none⟩ = some (.int .i64 d) ∧ w.cell? ⟨g, 3, none⟩ = some (.slice qp np kp) ∧ w.cell? ⟨g, 4, none⟩ = some (.int .i64 dom) :=
  ⟨h.cell 0, h.cell 1, h.cell 2, h.cell 3, h.cell 4⟩
/-- rows of numbers that came in -/
structure Grid (w : World) (B : Nat) (a : Option Addr) (n : Nat) (zss : List (List Int)) : Prop where
  len : zss.length = n
  row : ∀ (i : Nat) (zs : List Int), zss[i]? = some zs → ∃ (b off : Nat) (q : Option Addr) (k : Nat), a = some ⟨b, off, none⟩ ∧ b < B ∧ w.cell? ⟨b, off + i, none⟩ = some (.slice q zs.length k) ∧ zs.length ≤ maxLen ∧ Rd w B q (ints zs)
theorem Grid.below {w w' : World} {B : Nat} {a : Option Addr} {n : Nat} {zss : List (List Int)} (h : Grid w B a n zss) (hb : Below B w w') : Grid w' B a n zss :=
  ⟨h.len, fun i zs hz => by
    obtain ⟨b, off, q, k, e, hB, hc, hl, hr⟩ := h.row i zs hz
    exact ⟨b, off, q, k, e, hB, (hb.cell (p := ⟨b, off + i, none⟩) hB).trans hc, hl, hr.below hb⟩⟩
theorem Grid.more {w : World} {B B' : Nat} {a : Option Addr} {n : Nat} {zss : List (List Int)} (h : Grid w B a n zss) (hB : B ≤ B') : Grid w B' a n zss :=
  ⟨h.len, fun i zs hz => by
    obtain ⟨b, off, q, k, e, hB2, hc, hl, hr⟩ := h.row i zs hz
    exact ⟨b, off, q, k, e, by omega, hc, hl, hr.more hB⟩⟩

/-! ### every, over numbers -/
set_option maxRecDepth 100000 in
theorem eindex_any (g : Nat) (P : Int → Bool) (a : Option Addr) (m k0 : Nat) (xs : List Int) (w : World) (hl : xs.length = m) (hm : m ≤ 9223372036854775807) (hr : Rd w w.heap.size a (ints xs))
    (hf : ∀ x W, Below w.heap.size w W → Calls Tryd.prog 84 #[.int .i64 x, .pointer (some ⟨g, 0, none⟩)] W fun e w' => e = .returned (.bool (P x)) ∧ Below W.heap.size W w') :
    Calls Tryd.prog 69 #[.slice a m k0, .func (.func 84) #[] #[.pointer (some ⟨g, 0, none⟩)]] w fun e w' => Found (xs.any P) e ∧ Below w.heap.size w w' := by
  have HR := Lib.hid hr
  have HL := Lib.hid hl
  have HF := Lib.hid hf
  clear hr hl hf
  go_enter Tryd.func69, Tryd.ntmps69
  go_wp2
  go_loopw [8] (fun i wr => ∃ k : Nat, k ≤ m ∧ i = .int .i64 k ∧ (xs.take k).any P = false ∧ Below w.heap.size w wr) (fun i _ => m - (intOf i).toNat)
  case atStart => exact ⟨0, by omega, rfl, rfl, Below.refl _ _⟩
  case round =>
    obtain ⟨k, hk, rfl, ha, hbw⟩ := hrel
    have HA := Lib.hid ha
    have HBW := Lib.hid hbw
    clear ha hbw
    by_cases hlt : k < m
    · obtain ⟨x, hx⟩ : ∃ x, xs[k]? = some x := ⟨_, List.getElem?_eq_getElem (by rw [HL.out]; exact hlt)⟩
      obtain ⟨b, off, rfl, hb, hc⟩ := (HR.out.below HBW.out) k (.int .i64 x) (by rw [ints, List.getElem?_map, hx]; rfl)
      have HX := Lib.hid hx
      clear hx
      obtain ⟨bx, hbx⟩ : ∃ bx, P x = bx := ⟨_, rfl⟩
      have HBX := Lib.hid hbx
      clear hbx
      go_wp2_with fail
      refine (HF.out x _ HBW.out).mono ?_
      rw [HBX.out]
      rintro e w1 ⟨rfl, hb1⟩
      have HB1 := Lib.hid (below_call HBW.out hb1)
      clear hb1
      cases bx
      · go_wp2
        go_roundw
        case rel => exact ⟨k + 1, by omega, by go_num, by rw [any_take HA.out HX.out]; exact HBX.out, HB1.out⟩
        case measure => simp [intOf]; omega
      · go_wp2
        go_ret
        refine ⟨.inr ⟨?_, k, rfl⟩, HB1.out⟩
        rw [List.any_eq_true]
        exact ⟨x, List.mem_of_getElem? HX.out, HBX.out⟩
    · have h1 : k = m := by omega
      have HA2 := Lib.hid (show xs.any P = false by
        have := HA.out
        rwa [List.take_of_length_le (by rw [HL.out]; omega)] at this)
      clear h1
      go_wp2
      go_ret
      exact ⟨.inl ⟨HA2.out, rfl⟩, HBW.out⟩
set_option maxRecDepth 100000 in
theorem econt_any (g : Nat) (P : Int → Bool) (a : Option Addr) (m k0 : Nat) (xs : List Int) (w : World) (hl : xs.length = m) (hm : m ≤ 9223372036854775807) (hr : Rd w w.heap.size a (ints xs))
    (hf : ∀ x W, Below w.heap.size w W → Calls Tryd.prog 84 #[.int .i64 x, .pointer (some ⟨g, 0, none⟩)] W fun e w' => e = .returned (.bool (P x)) ∧ Below W.heap.size W w') :
    Calls Tryd.prog 54 #[.slice a m k0, .func (.func 84) #[] #[.pointer (some ⟨g, 0, none⟩)]] w fun e w' => e = .returned (.bool (xs.any P)) ∧ Below w.heap.size w w' := by
  have h := eindex_any g P a m k0 xs w hl hm hr hf
  generalize xs.any P = b at h ⊢
  have H := Lib.hid h
  clear h hl hr hf
  go_enter Tryd.func54, Tryd.ntmps54
  go_wp2_with fail
  refine H.out.mono ?_
  rintro e w1 ⟨hf, hb⟩
  have HB := Lib.hid hb
  clear hb
  rcases hf with ⟨rfl, rfl⟩ | ⟨rfl, k, rfl⟩
  · go_wp2
    go_ret
    exact ⟨rfl, HB.out⟩
  · have hd : decide (0 ≤ (k : Int)) = true := by simp
    go_wp2
    go_ret
    exact ⟨rfl, HB.out⟩
set_option maxRecDepth 100000 in
theorem every_any (F : Fn) (caps : Array Value) (Q : Int → Bool) (a : Option Addr) (m k0 : Nat) (xs : List Int) (w : World) (hl : xs.length = m) (hm : m ≤ 9223372036854775807) (hr : Rd w w.heap.size a (ints xs))
    (hf : ∀ x W, Below w.heap.size w W → Row W w.heap.size 69 #[.func F #[] caps] → Calls Tryd.prog 84 #[.int .i64 x, .pointer (some ⟨w.heap.size, 0, none⟩)] W fun e w' => e = .returned (.bool (!Q x)) ∧ Below W.heap.size W w') :
    Calls Tryd.prog 62 #[.slice a m k0, .func F #[] caps] w fun e w' => e = .returned (.bool (xs.all Q)) ∧ Below w.heap.size w w' := by
  have hW : Below w.heap.size w (w.alloc (.cells #[.func F #[] caps] 69)) := (Below.refl _ w).alloc (Nat.le_refl _) _
  have HC := Lib.hid (econt_any w.heap.size (fun x => !Q x) a m k0 xs (w.alloc (.cells #[.func F #[] caps] 69)) hl hm ((hr.below hW).more (by simp)) (fun x W hb => hf x W (below_call hW hb) ((Row.new w _ _).below hb (by simp))))
  have HQ := Lib.hid (show xs.all Q = !(xs.any fun x => !Q x) by rw [List.all_eq_not_any_not])
  rw [HQ.out]
  generalize (xs.any fun x => !Q x) = b at HC ⊢
  have HW := Lib.hid hW
  clear hW hl hr hf
  go_enter Tryd.func62, Tryd.ntmps62
  go_wp2_with fail
  refine HC.out.mono ?_
  rintro e w1 ⟨rfl, hb⟩
  have HB := Lib.hid (below_call HW.out hb)
  clear hb
  go_wp2
  go_ret
  exact ⟨rfl, HB.out⟩
/-! ### the conditions -/
set_option maxRecDepth 100000 in
theorem ecell1_any (nm : Value) (f d : Int) (qp : Option Addr) (np kp : Nat) (dom : Int) (gc : Nat) (x : Int) (w : World) (ht : Tab w) (hg : Row w gc 26 (codC nm f d qp np kp dom)) :
    Calls Tryd.prog 63 #[.int .i64 x, .pointer (some ⟨gc, 0, none⟩)] w fun e w' => e = .returned (.bool (allB f [x])) ∧ Below w.heap.size w w' := by
  have HV := Lib.hid (valid_any f x w ht)
  obtain ⟨c0, c1, c2, c3, c4⟩ := cbox hg
  clear ht hg
  go_enter Tryd.func63, Tryd.ntmps63
  go_wp2_with fail
  refine HV.out.mono ?_
  rintro e w1 ⟨rfl, hb⟩
  have HB := Lib.hid hb
  clear hb
  go_wp2
  go_ret
  exact ⟨rfl, HB.out⟩
set_option maxRecDepth 100000 in
theorem ecell2_any (x : Int) (w : World) :
    Calls Tryd.prog 64 #[.int .i64 x] w fun e w' => e = .returned (.bool (x == 0)) ∧ w' = w := by
  go_enter Tryd.func64, Tryd.ntmps64
  go_wp2
  go_ret
  exact ⟨rfl, rfl⟩
set_option maxRecDepth 100000 in
theorem ewrap1_any (nm : Value) (f d : Int) (qp : Option Addr) (np kp : Nat) (dom : Int) (gc g : Nat) (x : Int) (w : World) (ht : Tab w) (hg : Row w gc 26 (codC nm f d qp np kp dom)) (hr : Row w g 69 #[.func (.func 63) #[] #[.pointer (some ⟨gc, 0, none⟩)]]) :
    Calls Tryd.prog 84 #[.int .i64 x, .pointer (some ⟨g, 0, none⟩)] w fun e w' => e = .returned (.bool (!allB f [x])) ∧ Below w.heap.size w w' := by
  have HV := Lib.hid (ecell1_any nm f d qp np kp dom gc x w ht hg)
  have hc := hr.cell 0
  simp only [List.getElem?_toArray, List.getElem?_cons_zero] at hc
  generalize allB f [x] = b at HV ⊢
  clear ht hg hr
  go_enter Tryd.func84, Tryd.ntmps84
  go_wp2_with fail
  refine HV.out.mono ?_
  rintro e w1 ⟨rfl, hb⟩
  have HB := Lib.hid hb
  clear hb
  go_wp2
  go_ret
  exact ⟨rfl, HB.out⟩
set_option maxRecDepth 100000 in
theorem ewrap2_any (g : Nat) (x : Int) (w : World) (hr : Row w g 69 #[.func (.func 64) #[] #[]]) :
    Calls Tryd.prog 84 #[.int .i64 x, .pointer (some ⟨g, 0, none⟩)] w fun e w' => e = .returned (.bool (!(x == 0))) ∧ Below w.heap.size w w' := by
  have HV := Lib.hid (ecell2_any x w)
  have hc := hr.cell 0
  simp only [List.getElem?_toArray, List.getElem?_cons_zero] at hc
  generalize (x == 0) = b at HV ⊢
  clear hr
  go_enter Tryd.func84, Tryd.ntmps84
  go_wp2_with fail
  refine HV.out.mono ?_
  rintro e w1 ⟨rfl, rfl⟩
  go_wp2
  go_ret
  exact ⟨rfl, Below.refl _ _⟩
end Go.Proofs.YtghinmlpkgcdiaaDoor
/-! Codes: the program's validity, the walk. -/
namespace Go.Proofs.YtghinmlpkgcdiaaDoor
set_option linter.unusedSimpArgs false
set_option linter.unusedVariables false
open Go.RowKit Go.Lib

namespace Xp
/-- a row of coefficients is valid -/
def okRow (f d : Int) (zs : List Int) : Bool := ((zs.length : Int) == d) && zs.all (fun x => allB f [x]) && !(zs.all fun x => x == 0)
/-- the code is valid -/
def okC (f d : Int) (zss : List (List Int)) : Bool := (decide (f = 8) || decide (f = 16)) && decide (1 ≤ d) && decide ((zss.length : Int) ≤ 32) && decide (d ≤ 32 - zss.length) && zss.all (okRow f d)
end Xp
set_option maxRecDepth 100000 in
set_option maxHeartbeats 800000 in
theorem erow_any (nm : Value) (f d : Int) (qp : Option Addr) (np kp : Nat) (dom : Int) (gc : Nat) (a : Option Addr) (m k0 : Nat) (zs : List Int) (w : World) (ht : Tab w) (hg : Row w gc 26 (codC nm f d qp np kp dom)) (hl : zs.length = m) (hm : m ≤ 9223372036854775807) (hr : Rd w w.heap.size a (ints zs)) :
    Calls Tryd.prog 61 #[.slice a m k0, .pointer (some ⟨gc, 0, none⟩)] w fun e w' => e = .returned (.bool (Xp.okRow f d zs)) ∧ Below w.heap.size w w' := by
  have HE1 := Lib.hid (every_any (.func 63) #[.pointer (some ⟨gc, 0, none⟩)] (fun x => allB f [x]) a m k0 zs w hl hm hr (fun x W hb hw => ewrap1_any nm f d qp np kp dom gc _ x W (ht.next hb) (hg.below hb hg.lt) hw))
  have HE2 := Lib.hid (fun (W : World) (hb : Below w.heap.size w W) => every_any (.func 64) #[] (fun x => x == 0) a m k0 zs W hl hm ((hr.below hb).more hb.size) (fun x W hb hw => ewrap2_any _ x W hw))
  obtain ⟨c0, c1, c2, c3, c4⟩ := cbox hg
  unfold Xp.okRow
  rw [hl]
  obtain ⟨b1, e1⟩ : ∃ b, ((m : Int) == d) = b := ⟨_, rfl⟩
  generalize (zs.all fun x => allB f [x]) = b2 at HE1 ⊢
  generalize (zs.all fun x => x == 0) = b3 at HE2 ⊢
  rw [e1]
  clear ht hg hl hm hr
  cases b1
  · go_enter Tryd.func61, Tryd.ntmps61
    go_wp2
    go_ret
    exact ⟨rfl, Below.refl _ _⟩
  · go_enter Tryd.func61, Tryd.ntmps61
    go_wp2_with fail
    refine HE1.out.mono ?_
    rintro e w1 ⟨rfl, hb⟩
    have HB := Lib.hid hb
    clear hb
    cases b2
    · go_wp2
      go_ret
      exact ⟨rfl, HB.out⟩
    · go_wp2_with fail
      refine (HE2.out _ HB.out).mono ?_
      rintro e w2 ⟨rfl, hb⟩
      have HB2 := Lib.hid (below_call HB.out hb)
      clear hb
      go_wp2
      go_ret
      exact ⟨ret_bool (by simp), HB2.out⟩
set_option maxRecDepth 100000 in
theorem erwrap_any (nm : Value) (f d : Int) (qp : Option Addr) (np kp : Nat) (dom : Int) (gc g : Nat) (a : Option Addr) (m k0 : Nat) (zs : List Int) (w : World) (ht : Tab w) (hg : Row w gc 26 (codC nm f d qp np kp dom)) (hr0 : Row w g 96 #[.func (.func 61) #[] #[.pointer (some ⟨gc, 0, none⟩)]]) (hl : zs.length = m) (hm : m ≤ 9223372036854775807) (hr : Rd w w.heap.size a (ints zs)) :
    Calls Tryd.prog 83 #[.slice a m k0, .pointer (some ⟨g, 0, none⟩)] w fun e w' => e = .returned (.bool (!Xp.okRow f d zs)) ∧ Below w.heap.size w w' := by
  have HV := Lib.hid (erow_any nm f d qp np kp dom gc a m k0 zs w ht hg hl hm hr)
  have hc := hr0.cell 0
  simp only [List.getElem?_toArray, List.getElem?_cons_zero] at hc
  generalize Xp.okRow f d zs = b at HV ⊢
  clear ht hg hr0 hl hm hr
  go_enter Tryd.func83, Tryd.ntmps83
  go_wp2_with fail
  refine HV.out.mono ?_
  rintro e w1 ⟨rfl, hb⟩
  have HB := Lib.hid hb
  clear hb
  go_wp2
  go_ret
  exact ⟨rfl, HB.out⟩
theorem any_take2 {α : Type} {p : α → Bool} {xs : List α} {k : Nat} {x : α} (h : (xs.take k).any p = false) (hx : xs[k]? = some x) : (xs.take (k + 1)).any p = p x := by
  rw [List.take_add_one, hx, List.any_append, h]; simp
set_option maxRecDepth 100000 in
theorem erindex_any (nm : Value) (f d : Int) (qp : Option Addr) (np kp : Nat) (dom : Int) (gc g : Nat) (a : Option Addr) (m k0 : Nat) (zss : List (List Int)) (w : World) (ht : Tab w) (hg : Row w gc 26 (codC nm f d qp np kp dom)) (hr0 : Row w g 96 #[.func (.func 61) #[] #[.pointer (some ⟨gc, 0, none⟩)]]) (hm : m ≤ 32) (hr : Grid w w.heap.size a m zss) :
    Calls Tryd.prog 93 #[.slice a m k0, .func (.func 83) #[] #[.pointer (some ⟨g, 0, none⟩)]] w fun e w' => Found (zss.any fun zs => !Xp.okRow f d zs) e ∧ Below w.heap.size w w' := by
  have HR := Lib.hid hr
  have HL := Lib.hid hr.len
  have HF := Lib.hid (fun (q : Option Addr) (k0 : Nat) (zs : List Int) (W : World) (hb : Below w.heap.size w W) (hm : zs.length ≤ maxLen) (hr : Rd W W.heap.size q (ints zs)) => erwrap_any nm f d qp np kp dom gc g q zs.length k0 zs W (ht.next hb) (hg.below hb hg.lt) (hr0.below hb hr0.lt) rfl (by unfold maxLen at hm; omega) hr)
  clear hr ht hg hr0
  go_enter Tryd.func93, Tryd.ntmps93
  go_wp2
  go_loopw [8] (fun i wr => ∃ k : Nat, k ≤ m ∧ i = .int .i64 k ∧ (zss.take k).any (fun zs => !Xp.okRow f d zs) = false ∧ Below w.heap.size w wr) (fun i _ => m - (intOf i).toNat)
  case atStart => exact ⟨0, by omega, rfl, rfl, Below.refl _ _⟩
  case round =>
    obtain ⟨k, hk, rfl, ha, hbw⟩ := hrel
    have HA := Lib.hid ha
    have HBW := Lib.hid hbw
    clear ha hbw
    by_cases hlt : k < m
    · obtain ⟨zs, hx⟩ : ∃ x, zss[k]? = some x := ⟨_, List.getElem?_eq_getElem (by rw [HL.out]; exact hlt)⟩
      obtain ⟨b, off, q, kq, rfl, hb, hc, hml, hrq⟩ := (HR.out.below HBW.out).row k zs hx
      have HX := Lib.hid hx
      have HC := Lib.hid (HF.out q kq zs wr HBW.out hml (hrq.more HBW.out.size))
      obtain ⟨bx, hbx⟩ : ∃ bx, (!Xp.okRow f d zs) = bx := ⟨_, rfl⟩
      rw [hbx] at HC
      have HBX := Lib.hid hbx
      obtain ⟨L, hL⟩ : ∃ L, zs.length = L := ⟨_, rfl⟩
      rw [hL] at HC hc
      clear hx hbx hml hrq hL
      go_wp2_with fail
      refine HC.out.mono ?_
      rintro e w1 ⟨rfl, hb1⟩
      have HB1 := Lib.hid (below_call HBW.out hb1)
      clear hb1 hc
      cases bx
      · go_wp2
        go_roundw
        case rel => exact ⟨k + 1, by omega, by go_num, by rw [any_take2 HA.out HX.out]; exact HBX.out, HB1.out⟩
        case measure => simp [intOf]; omega
      · go_wp2
        go_ret
        refine ⟨.inr ⟨?_, k, rfl⟩, HB1.out⟩
        rw [List.any_eq_true]
        exact ⟨zs, List.mem_of_getElem? HX.out, HBX.out⟩
    · have h1 : k = m := by omega
      have HA2 := Lib.hid (show zss.any (fun zs => !Xp.okRow f d zs) = false by
        have := HA.out
        rwa [List.take_of_length_le (by rw [HL.out]; omega)] at this)
      clear h1
      go_wp2
      go_ret
      exact ⟨.inl ⟨HA2.out, rfl⟩, HBW.out⟩
set_option maxRecDepth 100000 in
theorem ercont_any (nm : Value) (f d : Int) (qp : Option Addr) (np kp : Nat) (dom : Int) (gc g : Nat) (a : Option Addr) (m k0 : Nat) (zss : List (List Int)) (w : World) (ht : Tab w) (hg : Row w gc 26 (codC nm f d qp np kp dom)) (hr0 : Row w g 96 #[.func (.func 61) #[] #[.pointer (some ⟨gc, 0, none⟩)]]) (hm : m ≤ 32) (hr : Grid w w.heap.size a m zss) :
    Calls Tryd.prog 82 #[.slice a m k0, .func (.func 83) #[] #[.pointer (some ⟨g, 0, none⟩)]] w fun e w' => e = .returned (.bool (zss.any fun zs => !Xp.okRow f d zs)) ∧ Below w.heap.size w w' := by
  have h := erindex_any nm f d qp np kp dom gc g a m k0 zss w ht hg hr0 hm hr
  generalize (zss.any fun zs => !Xp.okRow f d zs) = b at h ⊢
  have H := Lib.hid h
  clear h ht hg hr0 hr
  go_enter Tryd.func82, Tryd.ntmps82
  go_wp2_with fail
  refine H.out.mono ?_
  rintro e w1 ⟨hf, hb⟩
  have HB := Lib.hid hb
  clear hb
  rcases hf with ⟨rfl, rfl⟩ | ⟨rfl, k, rfl⟩
  · go_wp2
    go_ret
    exact ⟨rfl, HB.out⟩
  · have hd : decide (0 ≤ (k : Int)) = true := by simp
    go_wp2
    go_ret
    exact ⟨rfl, HB.out⟩
set_option maxRecDepth 100000 in
theorem ereach_any (nm : Value) (f d : Int) (qp : Option Addr) (np kp : Nat) (dom : Int) (gc : Nat) (a : Option Addr) (m k0 : Nat) (zss : List (List Int)) (w : World) (ht : Tab w) (hg : Row w gc 26 (codC nm f d qp np kp dom)) (hm : m ≤ 32) (hr : Grid w w.heap.size a m zss) :
    Calls Tryd.prog 60 #[.slice a m k0, .func (.func 61) #[] #[.pointer (some ⟨gc, 0, none⟩)]] w fun e w' => e = .returned (.bool (zss.all (Xp.okRow f d))) ∧ Below w.heap.size w w' := by
  have hW : Below w.heap.size w (w.alloc (.cells #[.func (.func 61) #[] #[.pointer (some ⟨gc, 0, none⟩)]] 96)) := (Below.refl _ w).alloc (Nat.le_refl _) _
  have HC := Lib.hid (ercont_any nm f d qp np kp dom gc w.heap.size a m k0 zss (w.alloc (.cells #[.func (.func 61) #[] #[.pointer (some ⟨gc, 0, none⟩)]] 96)) (ht.next hW) (hg.alloc _) (Row.new w _ _) hm ((hr.below hW).more (by simp)))
  have HQ := Lib.hid (show zss.all (Xp.okRow f d) = !(zss.any fun zs => !Xp.okRow f d zs) by rw [List.all_eq_not_any_not])
  rw [HQ.out]
  generalize (zss.any fun zs => !Xp.okRow f d zs) = b at HC ⊢
  have HW := Lib.hid hW
  clear hW hr ht hg
  go_enter Tryd.func60, Tryd.ntmps60
  go_wp2_with fail
  refine HC.out.mono ?_
  rintro e w1 ⟨rfl, hb⟩
  have HB := Lib.hid (below_call HW.out hb)
  clear hb
  go_wp2
  go_ret
  exact ⟨rfl, HB.out⟩
set_option maxRecDepth 100000 in
set_option maxHeartbeats 1600000 in
theorem evalid_any (nm : Value) (f d : Int) (qp : Option Addr) (np kp : Nat) (dom : Int) (zss : List (List Int)) (w : World) (ht : Tab w) (hr : Grid w w.heap.size qp np zss) (hnp : np ≤ 9223372036854775807) (hnm : nm.oneCell' = true) :
    Calls Tryd.prog 28 #[.agg (codC nm f d qp np kp dom)] w fun e w' => e = .returned (.bool (Xp.okC f d zss)) ∧ Below w.heap.size w w' := by
  have HV := Lib.hid (fun (W : World) (hb : Below w.heap.size w W) => valid_any f 0 W (ht.next hb))
  rw [allB_zero] at HV
  have HE := Lib.hid (fun (W : World) (hb : Below w.heap.size w W) (hg : Row W w.heap.size 26 (codC nm f d qp np kp dom)) (hm : np ≤ 32) => ereach_any nm f d qp np kp dom w.heap.size qp np kp zss W (ht.next hb) hg hm ((hr.below hb).more hb.size))
  have HL := Lib.hid hr.len
  have HOK := Lib.hid (show Xp.okC f d zss = ((decide (f = 8) || decide (f = 16)) && !decide (d < 1) && !decide (32 < (np : Int)) && !decide (32 - (np : Int) < d) && zss.all (Xp.okRow f d)) by
    unfold Xp.okC
    rw [HL.out]
    have e1 : decide (1 ≤ d) = !decide (d < 1) := by rw [Bool.eq_iff_iff]; simp
    have e2 : decide ((np : Int) ≤ 32) = !decide (32 < (np : Int)) := by rw [Bool.eq_iff_iff]; simp
    have e3 : decide (d ≤ 32 - (np : Int)) = !decide (32 - (np : Int) < d) := by rw [Bool.eq_iff_iff]; simp
    rw [e1, e2, e3])
  rw [HOK.out]
  generalize (decide (f = 8) || decide (f = 16)) = b1 at HV ⊢
  generalize zss.all (Xp.okRow f d) = b5 at HE ⊢
  have HW : Hid (Below w.heap.size w (w.alloc (.cells (codC nm f d qp np kp dom) 26))) := Lib.hid ((Below.refl _ w).alloc (Nat.le_refl _) _)
  have HR : Hid (Row (w.alloc (.cells (codC nm f d qp np kp dom) 26)) w.heap.size 26 (codC nm f d qp np kp dom)) := Lib.hid (Row.new w _ _)
  have hw3 : np ≤ 32 → IntKind.i64.wrap (32 - (np : Int)) = 32 - (np : Int) := fun h => by rw [IntKind.wrap_i64] <;> omega
  clear ht hr
  obtain ⟨b2, e2⟩ : ∃ b, decide (d < 1) = b := ⟨_, rfl⟩
  obtain ⟨b3, e3⟩ : ∃ b, decide (32 < (np : Int)) = b := ⟨_, rfl⟩
  rw [e2, e3]
  by_cases hb : b1 = true ∧ b2 = false ∧ b3 = false
  · obtain ⟨rfl, rfl, rfl⟩ := hb
    have hnp2 : np ≤ 32 := by have := of_decide_eq_false e3; omega
    have hw4 := hw3 hnp2
    clear hw3
    obtain ⟨b4, e4⟩ : ∃ b, decide (32 - (np : Int) < d) = b := ⟨_, rfl⟩
    rw [e4]
    cases b4
    · go_enter Tryd.func28, Tryd.ntmps28
      go_wp2_with fail
      refine (HV.out _ HW.out).mono ?_
      rintro e w1 ⟨rfl, hb⟩
      have HB := Lib.hid (below_call HW.out hb)
      have HR1 := Lib.hid (HR.out.below hb HR.out.lt)
      obtain ⟨c0, c1, c2, c3, c4⟩ := cbox HR1.out
      clear hb
      go_wp2_with fail
      refine (HE.out _ HB.out HR1.out hnp2).mono ?_
      rintro e w2 ⟨rfl, hb⟩
      have HB2 := Lib.hid (below_call HB.out hb)
      clear hb
      go_wp2
      go_ret
      exact ⟨ret_bool (by simp), HB2.out⟩
    · go_enter Tryd.func28, Tryd.ntmps28
      go_wp2_with fail
      refine (HV.out _ HW.out).mono ?_
      rintro e w1 ⟨rfl, hb⟩
      have HB := Lib.hid (below_call HW.out hb)
      obtain ⟨c0, c1, c2, c3, c4⟩ := cbox (HR.out.below hb HR.out.lt)
      clear hb
      go_wp2
      go_ret
      exact ⟨ret_bool (by simp), HB.out⟩
  · have hs : b1 = false ∨ (b1 = true ∧ b2 = true) ∨ (b1 = true ∧ b2 = false ∧ b3 = true) := by
      cases b1 <;> cases b2 <;> cases b3 <;> simp at hb ⊢
    clear hb hw3
    rcases hs with rfl | ⟨rfl, rfl⟩ | ⟨rfl, rfl, rfl⟩
    all_goals
      go_enter Tryd.func28, Tryd.ntmps28
      go_wp2_with fail
      refine (HV.out _ HW.out).mono ?_
      rintro e w1 ⟨rfl, hb⟩
      have HB := Lib.hid (below_call HW.out hb)
      obtain ⟨c0, c1, c2, c3, c4⟩ := cbox (HR.out.below hb HR.out.lt)
      clear hb
      go_wp2
      go_ret
      exact ⟨ret_bool (by simp), HB.out⟩
end Go.Proofs.YtghinmlpkgcdiaaDoor
