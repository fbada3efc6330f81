/- Matrices: reduction, the words of it. -/
import Derived.Test.YtaijjhddgecieaaDoorM11
namespace Go.Proofs.YtaijjhddgecieaaDoor
set_option linter.unusedSimpArgs false
set_option linter.unusedVariables false
open Go.RowKit Go.Lib

/-- what stands in memory while a matrix is reduced: its box, its cells, the pivots -/
structure Redu (w wr : World) (gb g N : Nat) (box : Array Value) (a : Option Addr) (n c : Nat) (xs : List Value) (f : Nat → Nat) : Prop where
  rb : Row wr gb 24 box
  cells : Cells wr g N f
  own : Own wr (gb + 1) 3 a n c xs
  only : Only (fun k => k = g) w wr
section
variable {w wr w' : World} {gb g N n c : Nat} {box : Array Value} {a : Option Addr} {xs : List Value} {f : Nat → Nat}
theorem Redu.next (h : Redu w wr gb g N box a n c xs f) (hb : Below wr.heap.size wr w') : Redu w w' gb g N box a n c xs f :=
  ⟨h.rb.below hb h.rb.lt, h.cells.below hb h.cells.lt, h.own.below hb, h.only.trans (Only.of_below hb (fun k hk _ => hk))⟩
theorem Redu.drew (h : Redu w wr gb g N box a n c xs f) : Redu w wr.drew gb g N box a n c xs f := ⟨h.rb, h.cells, h.own, only_drew h.only⟩
theorem Redu.wrote (h : Redu w wr gb g N box a n c xs f) {f' : Nat → Nat} (ho : Only (fun k => k = g) wr w') (hc : Cells w' g N f') (hg : g < gb) : Redu w w' gb g N box a n c xs f' :=
  ⟨ho.row h.rb (by omega), hc, h.own.kept (fun b hb => by have := h.own.lt hb; exact ho.block b this.2 (by omega)), h.only.trans ho⟩
theorem Redu.put (h : Redu w wr gb g N box a n c xs f) {k : Nat} (hk : k < N) (v : Nat) (hg : g < gb) : Redu w (wr.setCell ⟨g, k, none⟩ (.int .i64 (v : Int))) gb g N box a n c xs (fun p => if p = k then v else f p) :=
  h.wrote ((Only.refl (fun k => k = g) wr).setCell (p := ⟨g, k, none⟩) rfl _) (h.cells.put hk v) hg
theorem Redu.congr (h : Redu w wr gb g N box a n c xs f) {f' : Nat → Nat} (e : ∀ p, p < N → f p = f' p) : Redu w wr gb g N box a n c xs f' := ⟨h.rb, h.cells.congr e, h.own, h.only⟩
theorem Redu.tab (h : Redu w wr gb g N box a n c xs f) (ht : Tab w) (hg : 0 < g) : Tab wr := tab_only h.only ht (by omega)
end
/-- row r scaled in its first k columns -/
def scTo (m : Nat) (A : Nat → Nat → Nat) (r f k p q : Nat) : Nat := if p = r ∧ q < k then Fld.mul m f (A r q) else A p q
/-- the first i rows cleared -/
def clTo (m : Nat) (A : Nat → Nat → Nat) (r j i p q : Nat) : Nat := if p < i ∧ p ≠ r then A p q ^^^ Fld.mul m (A p j) (A r q) else A p q
theorem scTo_step {m : Nat} {A : Nat → Nat → Nat} {r f k : Nat} (p q : Nat) : scTo m A r f (k + 1) p q = if p = r ∧ q = k then Fld.mul m f (A r k) else scTo m A r f k p q := by
  unfold scTo
  by_cases e : p = r ∧ q = k
  · rw [if_pos e, if_pos ⟨e.1, by omega⟩, e.2]
  · rw [if_neg e]
    by_cases e2 : p = r ∧ q < k
    · rw [if_pos e2, if_pos ⟨e2.1, by omega⟩]
    · rw [if_neg e2, if_neg (by omega)]
theorem scTo_end {m R c : Nat} {A : Nat → Nat → Nat} {r f : Nat} : Mat.Eq R c (scTo m A r f c) (Mat.scale m A r f) := fun p q hp hq => by
  unfold scTo Mat.scale
  by_cases e : p = r
  · rw [if_pos ⟨e, hq⟩, if_pos e]
  · rw [if_neg (fun h => e h.1), if_neg e]
theorem scTo_zero (m : Nat) (A : Nat → Nat → Nat) (r f p q : Nat) : scTo m A r f 0 p q = A p q := by
  unfold scTo; rw [if_neg (fun h => Nat.not_lt_zero _ h.2)]
theorem clTo_zero (m : Nat) (A : Nat → Nat → Nat) (r j p q : Nat) : clTo m A r j 0 p q = A p q := by
  unfold clTo; rw [if_neg (fun h => Nat.not_lt_zero _ h.1)]
theorem clTo_same (m : Nat) (A : Nat → Nat → Nat) (r j p q : Nat) : clTo m A r j (r + 1) p q = clTo m A r j r p q := by
  unfold clTo
  by_cases e : p < r
  · rw [if_pos ⟨by omega, by omega⟩, if_pos ⟨e, by omega⟩]
  · rw [if_neg (by omega), if_neg (by omega)]
theorem clTo_at {m : Nat} {A : Nat → Nat → Nat} {r j i q : Nat} : clTo m A r j i i q = A i q ∧ clTo m A r j i r q = A r q := by
  unfold clTo
  rw [if_neg (fun h => Nat.lt_irrefl _ h.1), if_neg (fun h => h.2 rfl)]
  exact ⟨rfl, rfl⟩
theorem clTo_step {m : Nat} {A : Nat → Nat → Nat} {r j i : Nat} (hi : i ≠ r) (p q : Nat) : addRow m (clTo m A r j i) i (A i j) (clTo m A r j i r) p q = clTo m A r j (i + 1) p q := by
  unfold addRow
  by_cases e : p = i
  · subst e
    rw [if_pos rfl, (clTo_at).1, (clTo_at).2]
    unfold clTo
    rw [if_pos ⟨Nat.lt_succ_self _, hi⟩]
  · rw [if_neg e]
    unfold clTo
    by_cases e2 : p < i ∧ p ≠ r
    · rw [if_pos e2, if_pos ⟨by omega, e2.2⟩]
    · rw [if_neg e2, if_neg (fun h => e2 ⟨by omega, h.2⟩)]
theorem clTo_end {m R c : Nat} {A : Nat → Nat → Nat} {r j : Nat} : Mat.Eq R c (clTo m A r j R) (Mat.clear m A r j) := fun p q hp hq => by
  unfold clTo Mat.clear
  by_cases e : p = r
  · rw [if_neg (fun h => h.2 e), if_pos e]
  · rw [if_pos ⟨hp, e⟩, if_neg e]
theorem clTo_ok {m R c : Nat} (hm : Fld.IsM m) {A : Nat → Nat → Nat} (h : Mat.Ok m R c A) {r j i : Nat} (hj : j < c) : Mat.Ok m R c (clTo m A r j i) := fun p q hp hq => by
  unfold clTo
  split
  · exact Nat.xor_lt_two_pow (h _ _ hp hq) (Fld.mul_lt hm _ (h _ _ hp hj))
  · exact h _ _ hp hq
theorem finv_at {m x : Nat} (hm : Fld.IsM m) (hx : x < 2 ^ m) (h0 : x ≠ 0) (w : World) (ht : Tab w) :
    Calls Tryd.prog 49 #[.int .i64 m, .int .i64 x] w fun e w' => e = .returned (pairV (Fld.inv m x : Int) 0) ∧ Below w.heap.size w w' := by
  have h := finv_any (m : Int) (x : Int) w ht
  have hb := allB_one hm hx
  rwa [show pairV (invX (m : Int) (x : Int)) (invE (m : Int) (x : Int)) = pairV (Fld.inv m x : Int) 0 by
    rw [invX, invE, hb, if_pos ⟨rfl, by omega⟩, if_pos rfl, if_neg (by omega)]; rfl] at h
theorem rinv_at {m x : Nat} (hm : Fld.IsM m) (hx : x < 2 ^ m) (h0 : x ≠ 0) (w : World) :
    Calls Tryd.prog 51 #[.int .i64 m, .int .i64 x] w fun e w' => e = .returned (pairV (Fld.inv m x : Int) 0) ∧ w' = w := by
  have h := rinv_any (m : Int) (x : Int) w
  have hb := allB_one hm hx
  rwa [show pairV (invX (m : Int) (x : Int)) (invE (m : Int) (x : Int)) = pairV (Fld.inv m x : Int) 0 by
    rw [invX, invE, hb, if_pos ⟨rfl, by omega⟩, if_pos rfl, if_neg (by omega)]; rfl] at h
/-- a row of a matrix of its own block, by its place -/
theorem mrow_g {m r c kap g : Nat} (hm : Fld.IsM m) (hr : r ≤ 32) (hc : c ≤ 64) (hpos : 0 < c) (hk1 : r * c ≤ kap) (hk2 : kap ≤ maxLen) {A : Nat → Nat → Nat} (ok : Mat.Ok m r c A) {w0 : World} (hcell : Cells w0 g (r * c) (Mat.flat c A)) (i o : Nat) (hi : i < r) (ho : i * c = o) (w : World) :
    Calls Tryd.prog 36 #[matV m r c (some ⟨g, 0, none⟩) (r * c) kap, .int .i64 (i : Int)] w fun e w' => ∃ k', e = .returned (.slice (some ⟨g, o, none⟩) c k') ∧ k' ≤ maxLen ∧ c ≤ k' ∧ Below w.heap.size w w' := by
  refine (mrow_any (MatR.of_cells2 hcell (Nat.lt_succ_self g) hm hr hc hk1 hk2 ok) i hi w).mono ?_
  rintro e w' ⟨q', k', rfl, h1, h2, h3, hb⟩
  obtain ⟨g', o', e1, rfl⟩ := h3 hpos
  injection e1 with e1
  injection e1 with e1 e2
  subst e1; subst e2
  refine ⟨k', by rw [Nat.zero_add, ho], h1, h2, hb⟩
theorem red_none {m R j : Nat} {A A1 : Nat → Nat → Nat} {pv : List Nat} {n : Nat} (h1 : (Mat.red m R A j).1 = A1) (h2 : (Mat.red m R A j).2 = pv) (hn : pv.length = n) (h : ∀ t, n ≤ t → t < R → A1 t j = 0) (hnR : n ≤ R) : (Mat.red m R A (j + 1)).1 = A1 ∧ (Mat.red m R A (j + 1)).2 = pv := by
  have : Mat.red m R A (j + 1) = Mat.red m R A j := by
    show Mat.col m R (Mat.red m R A j) j = _
    exact Mat.col_none (by rw [h1, h2, hn]; exact Mat.find_eq_none (fun t a b => h t a (by omega)))
  rw [this]; exact ⟨h1, h2⟩
theorem red_some {m R j : Nat} {A A1 : Nat → Nat → Nat} {pv : List Nat} {n i : Nat} (h1 : (Mat.red m R A j).1 = A1) (h2 : (Mat.red m R A j).2 = pv) (hn : pv.length = n) (h : ∀ t, n ≤ t → t < i → A1 t j = 0) (hni : n ≤ i) (hi : i < R) (h0 : A1 i j ≠ 0) : (Mat.red m R A (j + 1)).1 = Mat.pivot m A1 n i j ∧ (Mat.red m R A (j + 1)).2 = pv ++ [j] := by
  have : Mat.red m R A (j + 1) = (Mat.pivot m A1 n i j, pv ++ [j]) := by
    show Mat.col m R (Mat.red m R A j) j = _
    rw [Mat.col_some (i := i) (by rw [h1, h2, hn]; exact Mat.find_eq_some hni (by omega) h0 h), h1, h2, hn]
  rw [this]; exact ⟨rfl, rfl⟩
theorem swap_at (A : Nat → Nat → Nat) (i k q : Nat) : Mat.swap A i k k q = A i q := by
  unfold Mat.swap
  by_cases e : k = i
  · rw [if_pos e, e]
  · rw [if_neg e, if_pos rfl]
theorem scTo_row {m : Nat} {A : Nat → Nat → Nat} {r f k : Nat} : scTo m A r f k r k = A r k := by
  unfold scTo; rw [if_neg (fun h => Nat.lt_irrefl _ h.2)]
theorem scTo_ok {m R c : Nat} (hm : Fld.IsM m) {A : Nat → Nat → Nat} (h : Mat.Ok m R c A) {r f k : Nat} (hf : f < 2 ^ m) : Mat.Ok m R c (scTo m A r f k) := fun p q hp hq => by
  unfold scTo
  split
  · exact Fld.mul_lt hm _ hf
  · exact h _ _ hp hq
def natsL (l : List Nat) : List Int := l.map (fun x : Nat => (x : Int))
theorem natsL_snoc (l : List Nat) (j : Nat) : ints (natsL (l ++ [j])) = ints (natsL l) ++ [.int .i64 (j : Int)] := by simp [ints, natsL]
theorem elem_int6 : Elem Tryd.prog 3 (.int .i64 0) 8 := by unfold Elem; kernel_rfl
theorem Redu.app {w wr w' : World} {gb g N n c n2 c2 : Nat} {box : Array Value} {a a2 : Option Addr} {xs ys : List Value} {f : Nat → Nat} (h : Redu w wr gb g N box a n c xs f) (o : Obj) (ho : Own w' (gb + 1) 3 a2 n2 c2 ys)
    (hgr : (wr.alloc o).grownBy w' (Value.slice a n c).ownBlock) (hg : g < gb) (hgb : w.heap.size ≤ gb) : Redu w w' gb g N box a2 n2 c2 ys f := by
  have hl := h.rb.lt
  have hb : Below (gb + 1) wr w' := below_grown2 ((Below.refl _ wr).alloc (by omega) o) hgr (h.own.alloc o) (by simp; omega) (Nat.le_refl _)
  exact ⟨h.rb.below hb (Nat.lt_succ_self _), h.cells.below hb (by omega), ho,
    ⟨hb.os.trans h.only.os, hb.tape.trans h.only.tape, hb.output.trans h.only.output, Nat.le_trans h.only.size hb.size, fun i hi hx => (hb.block i (by omega)).trans (h.only.block i hi hx)⟩⟩
theorem own_nil {w : World} {B : Nat} {e : TypeId} {a : Option Addr} {n c : Nat} {xs : List Value} (h : Own w B e a n c xs) (ha : a = none) : c = 0 := by
  subst ha
  rcases h.2 with ⟨hv, _⟩ | ⟨g9, cap9, cur9, hv, _⟩
  · injection hv
  · injection hv with e9
    cases e9
end Go.Proofs.YtaijjhddgecieaaDoor
