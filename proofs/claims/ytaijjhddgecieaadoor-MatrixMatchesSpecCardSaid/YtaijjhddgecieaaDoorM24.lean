/- Matrices: from what is read to what is proved of it. -/
import Derived.Test.YtaijjhddgecieaaDoorM23
import Derived.Test.YtaijjhddgecieaaDoorOpenM
namespace Go.Proofs.YtaijjhddgecieaaDoor
set_option linter.unusedSimpArgs false
set_option linter.unusedVariables false
open Go.RowKit Go.Lib

theorem own_matR {w : World} {B m L k k9 : Nat} {q : Option Addr} {X : Nat → Nat → Nat} (h : Own w B 3 q (L * k) k9 (ints (cellsL L k X))) (hm : Fld.IsM m) (hL : L ≤ 32) (hk : k ≤ 64) (ok : Mat.Ok m L k X) : MatR w w.heap.size m L k q k9 X :=
  MatR.of_rd h.rd hm hL hk ok h.cap h.le (own_nil h)
theorem pick_ok {m r k L : Nat} {A : Nat → Nat → Nat} {is : List Int} (hA : Mat.Ok m r k A) (hb : badRow r is = false) (hl : is.length = L) : Mat.Ok m L k (pick A is) := fun p q hp hq => by
  have e := List.getElem?_eq_getElem (l := is) (i := p) (by omega)
  have h2 := badRow_false hb e
  unfold pick
  rw [e]
  exact hA _ _ (by simp; omega) hq
theorem same_true {m r c : Int} {q1 q2 : Option Addr} {n k1 k2 : Nat} {xs ys : List Int} {w : World} (h1 : xs.length = n) (he : xs = ys) (hn : n ≤ 9223372036854775807) (hr1 : Rd w w.heap.size q1 (ints xs)) (hr2 : Rd w w.heap.size q2 (ints ys)) :
    Calls Tryd.prog 15 #[matV m r c q1 n k1, matV m r c q2 n k2] w fun e w' => e = .returned (.bool true) ∧ Below w.heap.size w w' := by
  subst he
  have := same_any m r c m r c q1 q2 n k1 n k2 xs xs w h1 h1 hn hr1 hr2
  simpa using this
/-- a matrix that is read and valid -/
theorem matIn {w : World} {m r c : Int} {a : Option Addr} {n k : Nat} {xs : List Int} (h : IntsIn w a n k xs) (hok : okMat m r c xs = true) :
    ∃ (m' r' c' : Nat) (A : Nat → Nat → Nat), m = m' ∧ r = r' ∧ c = c' ∧ n = r' * c' ∧ xs = cellsL r' c' A ∧ c' ≤ 32 ∧ MatR w w.heap.size m' r' c' a k A := by
  obtain ⟨m', r', c', A, h1, h2, h3, hm, hr, hc, ok, hx⟩ := okMat_get hok
  obtain ⟨i1, i2, i3, i4, i5⟩ := h
  have hn : n = r' * c' := by rw [← i1, hx, cellsL_length]
  refine ⟨m', r', c', A, h1, h2, h3, hn, hx, hc, ?_⟩
  rw [hx] at i5
  exact MatR.of_rd i5 hm hr (by omega) ok (by omega) i3 i4
theorem IntsIn.le {w : World} {a : Option Addr} {n k : Nat} {xs : List Int} (h : IntsIn w a n k xs) : n ≤ 9223372036854775807 := by
  obtain ⟨i1, i2, i3, i4, i5⟩ := h
  unfold maxLen at i3
  omega
end Go.Proofs.YtaijjhddgecieaaDoor
