/- Matrices: whatever is read, a product comes out or the error. -/
import Derived.Test.YtaijjhddgecieaaDoorM24
import Derived.Test.YtaijjhddgecieaaDoorMatG
namespace Go.Proofs.YtaijjhddgecieaaDoor
set_option linter.unusedSimpArgs false
set_option linter.unusedVariables false
open Go.RowKit Go.Lib

/-- the product, if there is one -/
theorem any_mul {ma ra ca : Int} {qa : Option Addr} {na ka : Nat} {xs : List Int} {mb rb cb : Int} {qb : Option Addr} {nb kb : Nat} {ys : List Int} {w : World} (h1 : IntsIn w qa na ka xs) (h2 : IntsIn w qb nb kb ys) (ht : Tab w) :
    ∃ (mp rp cp : Int) (Np : Nat), ∀ W, Below w.heap.size w W → Calls Tryd.prog 16 #[matV ma ra ca qa na ka, matV mb rb cb qb nb kb] W fun e w' => (e = .returned (outV nilM 1) ∨ ∃ g, e = .returned (outV (matV mp rp cp (some ⟨g, 0, none⟩) Np Np) 0)) ∧ Below W.heap.size W w' := by
  cases hmul : (okMat ma ra ca xs && okMat mb rb cb ys && decide (ma = mb) && decide (ca = rb)) with
  | false =>
    refine ⟨0, 0, 0, 0, fun W hb => (mul_no ma ra ca qa na ka xs mb rb cb qb nb kb ys W h1.1 h1.le ((h1.2.2.2.2.below hb).more hb.size) h2.1 h2.le ((h2.2.2.2.2.below hb).more hb.size) hmul).mono ?_⟩
    rintro e w' ⟨rfl, hb⟩
    exact ⟨.inl rfl, hb⟩
  | true =>
    simp only [Bool.and_eq_true, decide_eq_true_eq] at hmul
    obtain ⟨⟨⟨hoa, hob⟩, e1⟩, e2⟩ := hmul
    obtain ⟨m, r, k, A, rfl, rfl, rfl, rfl, hxs, hk, hA⟩ := matIn h1 hoa
    obtain ⟨m2, k2, c, B, e3, e4, rfl, rfl, hys, hc, hB⟩ := matIn h2 hob
    obtain rfl : m = m2 := by omega
    obtain rfl : k = k2 := by omega
    subst e3; subst e4
    refine ⟨m, r, c, r * c, fun W hb => (mul_yes qa ka qb kb W (ht.next hb) ((hA.below hb).more hb.size) ((hB.below hb).more hb.size) hk hc).mono ?_⟩
    rintro e w' ⟨g, rfl, _, _, hb⟩
    exact ⟨.inr ⟨g, rfl⟩, hb⟩
theorem no_mul {ma ra ca : Int} {qa : Option Addr} {na ka : Nat} {xs : List Int} {mb rb cb : Int} {qb : Option Addr} {nb kb : Nat} {ys : List Int} {w : World} (h1 : IntsIn w qa na ka xs) (h2 : IntsIn w qb nb kb ys) (h : (okMat ma ra ca xs && okMat mb rb cb ys && decide (ma = mb) && decide (ca = rb)) = false) :
    ∀ W, Below w.heap.size w W → Calls Tryd.prog 16 #[matV ma ra ca qa na ka, matV mb rb cb qb nb kb] W fun e w' => e = .returned (outV nilM 1) ∧ Below W.heap.size W w' :=
  fun W hb => mul_no ma ra ca qa na ka xs mb rb cb qb nb kb ys W h1.1 h1.le ((h1.2.2.2.2.below hb).more hb.size) h2.1 h2.le ((h2.2.2.2.2.below hb).more hb.size) h
end Go.Proofs.YtaijjhddgecieaaDoor
