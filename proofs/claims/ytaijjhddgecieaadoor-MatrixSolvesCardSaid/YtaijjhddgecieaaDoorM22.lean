/- Matrices: the examples that every statement plays first: the words. -/
import Derived.Test.YtaijjhddgecieaaDoorM21
namespace Go.Proofs.YtaijjhddgecieaaDoor
set_option linter.unusedSimpArgs false
set_option linter.unusedVariables false
open Go.RowKit Go.Lib

/-- the matrix with these cells -/
def lit (c : Nat) (l : List Nat) (i j : Nat) : Nat := l.getD (i * c + j) 0
theorem lit_matR {w : World} {g m r c : Nat} (l : List Nat) (h : Row w g 3 (l.map fun x : Nat => Value.int .i64 (x : Int)).toArray) (hm : Fld.IsM m) (hr : r ≤ 32) (hc : c ≤ 64) (hl : l.length = r * c) (ok : ∀ x ∈ l, x < 2 ^ m) (B : Nat) (hB : g < B) : MatR w B m r c (some ⟨g, 0, none⟩) (r * c) (lit c l) := by
  refine MatR.of_cells ⟨_, h, by simp; omega, fun p hp => ?_⟩ hB hm hr hc (fun i j hi hj => ?_)
  · obtain ⟨h1, h2, h3⟩ := Mat.flat_split hp
    unfold Mat.flat lit
    rw [← h3]
    simp [show p < l.length by omega]
  · have := Mat.at_lt hi hj
    unfold lit
    rw [List.getD_eq_getElem?_getD, List.getElem?_eq_getElem (by omega)]
    exact ok _ (List.getElem_mem _)
theorem lit_rd {w : World} {g : Nat} (l : List Nat) (h : Row w g 3 (l.map fun x : Nat => Value.int .i64 (x : Int)).toArray) (B : Nat) (hB : g < B) : Rd w B (some ⟨g, 0, none⟩) (ints (natsL l)) :=
  Rd.row h hB (fun j u hu => by rw [← hu]; simp [ints, natsL]; rfl)
theorem s_mul : cellsL 2 1 (Mat.prod 8 2 (lit 2 [1, 2, 3, 4]) (lit 1 [5, 6])) = natsL [9, 23] := by decide +kernel
theorem s_inv1 : (Mat.red 8 2 (lit 2 [1, 1, 1, 1]) 2).2.length < 2 := by decide +kernel
theorem s_inv2 : (Mat.red 8 2 (lit 2 [1, 1, 0, 1]) 2).2.length = 2 ∧ noSol 2 2 2 (Mat.red 8 2 (beside 2 (lit 2 [1, 1, 0, 1]) Mat.one) 2).1 (Mat.red 8 2 (beside 2 (lit 2 [1, 1, 0, 1]) Mat.one) 2).2.length = false ∧ cellsL 2 2 (solTo 2 (Mat.red 8 2 (beside 2 (lit 2 [1, 1, 0, 1]) Mat.one) 2).1 (Mat.red 8 2 (beside 2 (lit 2 [1, 1, 0, 1]) Mat.one) 2).2 2) = natsL [1, 1, 0, 1] := by decide +kernel
theorem s_sol1 : noSol 1 2 1 (Mat.red 8 1 (beside 2 (lit 2 [1, 1]) (lit 1 [7])) 2).1 (Mat.red 8 1 (beside 2 (lit 2 [1, 1]) (lit 1 [7])) 2).2.length = false ∧ cellsL 2 1 (solTo 2 (Mat.red 8 1 (beside 2 (lit 2 [1, 1]) (lit 1 [7])) 2).1 (Mat.red 8 1 (beside 2 (lit 2 [1, 1]) (lit 1 [7])) 2).2 1) = natsL [7, 0] := by decide +kernel
theorem s_sol2 : noSol 2 1 1 (Mat.red 8 2 (beside 1 (lit 1 [1, 1]) (lit 1 [1, 2])) 1).1 (Mat.red 8 2 (beside 1 (lit 1 [1, 1]) (lit 1 [1, 2])) 1).2.length = true := by decide +kernel
theorem s_rank : (Mat.red 8 2 (lit 2 [1, 2, 2, 4]) 2).2.length = 1 := by decide +kernel
theorem s_indep : (Mat.red 8 2 (Mat.tr (lit 2 [0, 0, 1, 1, 2, 2, 0, 3])) 4).2 = [1, 3] := by decide +kernel
section
variable (w : World)
theorem s_call_mul (ht : Tab w) (ga gb : Nat) (ha : Row w ga 3 #[.int .i64 1, .int .i64 2, .int .i64 3, .int .i64 4]) (hb : Row w gb 3 #[.int .i64 5, .int .i64 6]) :
    Calls Tryd.prog 16 #[matV 8 2 2 (some ⟨ga, 0, none⟩) 4 4, matV 8 2 1 (some ⟨gb, 0, none⟩) 2 2] w fun e w' => ∃ g, e = .returned (outV (matV 8 2 1 (some ⟨g, 0, none⟩) 2 2) 0) ∧ w.heap.size ≤ g ∧ Cells w' g (2 * 1) (Mat.flat 1 (Mat.prod 8 2 (lit 2 [1, 2, 3, 4]) (lit 1 [5, 6]))) ∧ Below w.heap.size w w' :=
  mul_yes (some ⟨ga, 0, none⟩) 4 (some ⟨gb, 0, none⟩) 2 w ht (lit_matR [1, 2, 3, 4] ha (.inl rfl) (by decide) (by decide) rfl (by decide) _ ha.lt : MatR w w.heap.size 8 2 2 _ _ (lit 2 [1, 2, 3, 4])) (lit_matR [5, 6] hb (.inl rfl) (by decide) (by decide) rfl (by decide) _ hb.lt : MatR w w.heap.size 8 2 1 _ _ (lit 1 [5, 6])) (by decide) (by decide)
theorem s_res_mul {gp : Nat} (h : Cells w gp (2 * 1) (Mat.flat 1 (Mat.prod 8 2 (lit 2 [1, 2, 3, 4]) (lit 1 [5, 6])))) : Rd w w.heap.size (some ⟨gp, 0, none⟩) (ints (natsL [9, 23])) := by
  have := (MatR.of_cells h h.lt (.inl rfl) (by decide) (by decide) (by
    intro i j hi hj
    exact Mat.sum_lt _ _ fun t ht => Fld.mul_lt (.inl rfl) _ (by
      have : ∀ i, i < 2 → ∀ t, t < 2 → lit 2 [1, 2, 3, 4] i t < 2 ^ 8 := by decide
      exact this i hi t ht)) : MatR w w.heap.size 8 2 1 _ _ (Mat.prod 8 2 (lit 2 [1, 2, 3, 4]) (lit 1 [5, 6]))).rd
  rwa [s_mul] at this
theorem s_call_inv1 (ht : Tab w) (ga : Nat) (ha : Row w ga 3 #[.int .i64 1, .int .i64 1, .int .i64 1, .int .i64 1]) :
    Calls Tryd.prog 22 #[matV 8 2 2 (some ⟨ga, 0, none⟩) 4 4] w fun e w' => e = .returned (outV nilM 10) ∧ Below w.heap.size w w' := by
  refine (inverse_yes (some ⟨ga, 0, none⟩) 4 w ht (lit_matR [1, 1, 1, 1] ha (.inl rfl) (by decide) (by decide) rfl (by decide) _ ha.lt : MatR w w.heap.size 8 2 2 _ _ (lit 2 [1, 1, 1, 1]))).mono ?_
  rintro e w' ⟨h | ⟨h, _⟩, hb⟩
  · exact ⟨h.2, hb⟩
  · exact absurd s_inv1 (by omega)
theorem s_call_inv2 (ht : Tab w) (ga : Nat) (ha : Row w ga 3 #[.int .i64 1, .int .i64 1, .int .i64 0, .int .i64 1]) :
    Calls Tryd.prog 22 #[matV 8 2 2 (some ⟨ga, 0, none⟩) 4 4] w fun e w' => ∃ g, e = .returned (outV (matV 8 2 2 (some ⟨g, 0, none⟩) 4 4) 0) ∧ Rd w' w'.heap.size (some ⟨g, 0, none⟩) (ints (natsL [1, 1, 0, 1])) ∧ Below w.heap.size w w' := by
  refine (inverse_yes (some ⟨ga, 0, none⟩) 4 w ht (lit_matR [1, 1, 0, 1] ha (.inl rfl) (by decide) (by decide) rfl (by decide) _ ha.lt : MatR w w.heap.size 8 2 2 _ _ (lit 2 [1, 1, 0, 1]))).mono ?_
  obtain ⟨h1, h2, h3⟩ := s_inv2
  rintro e w' ⟨h | ⟨_, h | ⟨_, g, rfl, hg, hc⟩⟩, hb⟩
  · have := h.1
    omega
  · rw [h2] at h; cases h.1
  · refine ⟨g, rfl, ?_, hb⟩
    rw [← h3]
    intro p u hu
    have hp : p < 2 * 2 := by
      by_cases h : p < 2 * 2
      · exact h
      · rw [ints, List.getElem?_map, List.getElem?_eq_none (by rw [cellsL_length]; omega)] at hu; cases hu
    rw [ints, List.getElem?_map, cellsL_get _ _ _ hp] at hu
    injection hu with hu
    subst hu
    exact ⟨g, 0, rfl, hc.lt, by rw [Nat.zero_add]; exact hc.cell hp⟩
theorem cells_rd {w : World} {g r c : Nat} {A : Nat → Nat → Nat} (hc : Cells w g (r * c) (Mat.flat c A)) : Rd w w.heap.size (some ⟨g, 0, none⟩) (ints (cellsL r c A)) := fun p u hu => by
  have hp : p < r * c := by
    by_cases h : p < r * c
    · exact h
    · rw [ints, List.getElem?_map, List.getElem?_eq_none (by rw [cellsL_length]; omega)] at hu; cases hu
  rw [ints, List.getElem?_map, cellsL_get _ _ _ hp] at hu
  injection hu with hu
  subst hu
  exact ⟨g, 0, rfl, hc.lt, by rw [Nat.zero_add]; exact hc.cell hp⟩
theorem s_call_sol1 (ht : Tab w) (ga gb : Nat) (ha : Row w ga 3 #[.int .i64 1, .int .i64 1]) (hb : Row w gb 3 #[.int .i64 7]) :
    Calls Tryd.prog 17 #[matV 8 1 2 (some ⟨ga, 0, none⟩) 2 2, matV 8 1 1 (some ⟨gb, 0, none⟩) 1 1] w fun e w' => ∃ g, e = .returned (outV (matV 8 2 1 (some ⟨g, 0, none⟩) 2 2) 0) ∧ Rd w' w'.heap.size (some ⟨g, 0, none⟩) (ints (natsL [7, 0])) ∧ Below w.heap.size w w' := by
  refine (solve_yes (some ⟨ga, 0, none⟩) 2 (some ⟨gb, 0, none⟩) 1 w ht (lit_matR [1, 1] ha (.inl rfl) (by decide) (by decide) rfl (by decide) _ ha.lt : MatR w w.heap.size 8 1 2 _ _ (lit 2 [1, 1])) (lit_matR [7] hb (.inl rfl) (by decide) (by decide) rfl (by decide) _ hb.lt : MatR w w.heap.size 8 1 1 _ _ (lit 1 [7])) (by decide) (by decide)).mono ?_
  obtain ⟨h1, h2⟩ := s_sol1
  rintro e w' ⟨h | ⟨_, g, rfl, hg, hc⟩, hb⟩
  · rw [h1] at h; cases h.1
  · refine ⟨g, rfl, ?_, hb⟩
    rw [← h2]
    exact cells_rd hc
theorem s_call_sol2 (ht : Tab w) (ga gb : Nat) (ha : Row w ga 3 #[.int .i64 1, .int .i64 1]) (hb : Row w gb 3 #[.int .i64 1, .int .i64 2]) :
    Calls Tryd.prog 17 #[matV 8 2 1 (some ⟨ga, 0, none⟩) 2 2, matV 8 2 1 (some ⟨gb, 0, none⟩) 2 2] w fun e w' => e = .returned (outV nilM 12) ∧ Below w.heap.size w w' := by
  refine (solve_yes (some ⟨ga, 0, none⟩) 2 (some ⟨gb, 0, none⟩) 2 w ht (lit_matR [1, 1] ha (.inl rfl) (by decide) (by decide) rfl (by decide) _ ha.lt : MatR w w.heap.size 8 2 1 _ _ (lit 1 [1, 1])) (lit_matR [1, 2] hb (.inl rfl) (by decide) (by decide) rfl (by decide) _ hb.lt : MatR w w.heap.size 8 2 1 _ _ (lit 1 [1, 2])) (by decide) (by decide)).mono ?_
  rintro e w' ⟨h | ⟨h, _⟩, hb⟩
  · exact ⟨h.2, hb⟩
  · rw [s_sol2] at h; cases h
theorem s_call_rank (ht : Tab w) (ga : Nat) (ha : Row w ga 3 #[.int .i64 1, .int .i64 2, .int .i64 2, .int .i64 4]) :
    Calls Tryd.prog 20 #[matV 8 2 2 (some ⟨ga, 0, none⟩) 4 4] w fun e w' => e = .returned (.int .i64 1) ∧ Below w.heap.size w w' := by
  have := rank_yes (some ⟨ga, 0, none⟩) w ht (lit_matR [1, 2, 2, 4] ha (.inl rfl) (by decide) (by decide) rfl (by decide) _ ha.lt : MatR w w.heap.size 8 2 2 _ _ (lit 2 [1, 2, 2, 4])) (by decide)
  rwa [s_rank] at this
theorem s_call_indep (ht : Tab w) (ga : Nat) (ha : Row w ga 3 #[.int .i64 0, .int .i64 0, .int .i64 1, .int .i64 1, .int .i64 2, .int .i64 2, .int .i64 0, .int .i64 3]) :
    Calls Tryd.prog 33 #[matV 8 4 2 (some ⟨ga, 0, none⟩) 8 8] w fun e w' => ∃ q k, e = .returned (.slice q 2 k) ∧ Rd w' w'.heap.size q (ints (natsL [1, 3])) ∧ Below w.heap.size w w' := by
  have := indep_yes (some ⟨ga, 0, none⟩) w ht (lit_matR [0, 0, 1, 1, 2, 2, 0, 3] ha (.inl rfl) (by decide) (by decide) rfl (by decide) _ ha.lt : MatR w w.heap.size 8 4 2 _ _ (lit 2 [0, 0, 1, 1, 2, 2, 0, 3])) (by decide)
  rw [s_indep] at this
  refine this.mono ?_
  rintro e w' ⟨⟨q, k, rfl, _, _, _, h⟩, hb⟩
  exact ⟨q, k, rfl, h, hb⟩
theorem s_call_valid (ga : Nat) (ha : Row w ga 3 #[.int .i64 1, .int .i64 2, .int .i64 3, .int .i64 4]) :
    Calls Tryd.prog 28 #[matV 8 2 2 (some ⟨ga, 0, none⟩) 4 4] w fun e w' => e = .returned (.bool true) ∧ Below w.heap.size w w' :=
  mvalid_any 8 2 2 (some ⟨ga, 0, none⟩) 4 4 [1, 2, 3, 4] w rfl (by decide) (lit_rd [1, 2, 3, 4] ha _ ha.lt)
theorem s_call_invalid :
    Calls Tryd.prog 28 #[matV 8 2 2 none 0 0] w fun e w' => e = .returned (.bool false) ∧ Below w.heap.size w w' :=
  mvalid_any 8 2 2 none 0 0 [] w rfl (by decide) (Rd.nil _ _ _)
theorem s_call_at (ga : Nat) (ha : Row w ga 3 #[.int .i64 1, .int .i64 2, .int .i64 3, .int .i64 4]) :
    Calls Tryd.prog 29 #[matV 8 2 2 (some ⟨ga, 0, none⟩) 4 4, .int .i64 1, .int .i64 0] w fun e w' => e = .returned (.int .i64 3) ∧ Below w.heap.size w w' :=
  at_yes (some ⟨ga, 0, none⟩) 1 0 w (lit_matR [1, 2, 3, 4] ha (.inl rfl) (by decide) (by decide) rfl (by decide) _ ha.lt : MatR w w.heap.size 8 2 2 _ _ (lit 2 [1, 2, 3, 4])) (by decide) (by decide) (by decide)
theorem s_call_same (r c : Int) (q1 q2 : Option Addr) (n : Nat) (l : List Nat) (hl : l.length = n) (hn : n ≤ 100) (h1 : Rd w w.heap.size q1 (ints (natsL l))) (h2 : Rd w w.heap.size q2 (ints (natsL l))) :
    Calls Tryd.prog 15 #[matV 8 r c q1 n n, matV 8 r c q2 n n] w fun e w' => e = .returned (.bool true) ∧ Below w.heap.size w w' := by
  have := same_any 8 r c 8 r c q1 q2 n n n n (natsL l) (natsL l) w (by simpa [natsL] using hl) (by simpa [natsL] using hl) (by omega) h1 h2
  simpa using this
theorem s_call_ints (q1 q2 : Option Addr) (n k1 k2 : Nat) (l : List Nat) (hl : l.length = n) (hn : n ≤ 100) (h1 : Rd w w.heap.size q1 (ints (natsL l))) (h2 : Rd w w.heap.size q2 (ints (natsL l))) :
    Calls Tryd.prog 32 #[.slice q1 n k1, .slice q2 n k2] w fun e w' => e = .returned (.bool true) ∧ Below w.heap.size w w' := by
  have := lints_any q1 q2 n k1 n k2 (natsL l) (natsL l) w (by simpa [natsL] using hl) (by simpa [natsL] using hl) (by omega) h1 h2
  simpa using this
end
end Go.Proofs.YtaijjhddgecieaaDoor
