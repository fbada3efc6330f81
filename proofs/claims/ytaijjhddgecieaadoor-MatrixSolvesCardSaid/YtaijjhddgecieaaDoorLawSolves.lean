/- This text proves of solventlaw06.MatrixSolves: for every two matrices the statement returns true: the solution or the error is that of the specification; a solution multiplied by the first matrix is the second one; if there is none, appending the columns of the second matrix increases the rank; the arguments read as they did. (Printed by mksolves.py.) -/
import Derived.Test.YtaijjhddgecieaaDoorM36
import Derived.Test.YtaijjhddgecieaaDoorOpenM
import Derived.Test.YtaijjhddgecieaaDoorFldT
import Derived.Deep.RegionHeld3
namespace Go.Proofs.YtaijjhddgecieaaDoor
set_option linter.unusedSimpArgs false
set_option linter.unusedVariables false
open Go.ChangeShapes Go.WideShapes Go.ChangeAt Go.RowKit Go.Lib

theorem cellsL_two (k c r : Nat) (X : Nat → Nat → Nat) : cellsL (k + c) r X = cellsL k r X ++ cellsL c r (fun i j => X (k + i) j) := by
  apply List.ext_getElem?
  intro p
  by_cases hp : p < (k + c) * r
  · rw [cellsL_get _ _ _ hp]
    have hr : 0 < r := by
      rcases Nat.eq_zero_or_pos r with rfl | h
      · simp at hp
      · exact h
    by_cases h1 : p < k * r
    · rw [List.getElem?_append_left (by rw [cellsL_length]; exact h1), cellsL_get _ _ _ h1]
    · rw [List.getElem?_append_right (by rw [cellsL_length]; omega), cellsL_length]
      rw [Nat.add_mul] at hp
      rw [cellsL_get _ _ _ (by omega)]
      unfold Mat.flat
      obtain ⟨d, rfl⟩ : ∃ d, p = k * r + d := ⟨p - k * r, by omega⟩
      rw [Nat.add_sub_cancel_left]
      show some (_ : Int) = some ((X (k + d / r) (d % r) : Nat) : Int)
      rw [show (k * r + d) / r = k + d / r by rw [Nat.add_comm, Nat.add_mul_div_right _ _ hr, Nat.add_comm], show (k * r + d) % r = d % r by rw [Nat.add_comm, Nat.add_mul_mod_self_right]]
  · rw [List.getElem?_eq_none (by rw [cellsL_length]; omega), List.getElem?_eq_none (by rw [List.length_append, cellsL_length, cellsL_length, ← Nat.add_mul]; omega)]
theorem beside_tr {k c r : Nat} (A B : Nat → Nat → Nat) : ints (cellsL k r (Mat.tr A)) ++ ints (cellsL c r (Mat.tr B)) = ints (cellsL (k + c) r (Mat.tr (beside k A B))) := by
  rw [cellsL_two]
  unfold ints
  rw [List.map_append]
  congr 1
  · congr 1
    exact cellsL_inj.2 (fun i j hi hj => by unfold Mat.tr beside; rw [if_pos hi])
  · congr 1
    exact cellsL_inj.2 (fun i j hi hj => by unfold Mat.tr beside; rw [if_neg (by omega), Nat.add_sub_cancel_left])

set_option maxRecDepth 100000 in
set_option maxHeartbeats 6400000 in
theorem solves_0 (ma ra ca : Int) (qa : Option Addr) (na ka : Nat) (mb rb cb : Int) (qb : Option Addr) (nb kb : Nat) (w : World) (ht : Tab w) (hs1 : smallB ra ca na = false) :
    Calls Tryd.prog 4 #[matV ma ra ca qa na ka, matV mb rb cb qb nb kb] w fun e w' => e = .returned (.bool true) ∧ Below w.heap.size w w' := by
  have HT := Lib.hid ht
  have HW := Lib.hid (Below.refl w.heap.size w)
  have hp := ht.lt
  have HSM1 := Lib.hid (fun W => small_any ma ra ca qa na ka W)
  rw [hs1] at HSM1
  unfold matV at HSM1 ⊢
  clear ht hs1
  go_enter Tryd.func4, Tryd.ntmps4
  go_wp2_with fail
  refine (HSM1.out _).mono ?_
  rintro e v1 ⟨rfl, hb⟩
  have hcb : Below w.heap.size w v1 := below_call (((Below.refl _ w).alloc (Nat.le_refl _) _).alloc (by simp) _) hb
  have HT := Lib.hid (HT.out.next hcb)
  have HW := Lib.hid (below_call HW.out hcb)
  have HBA := Lib.hid (((show Row (w.alloc (.cells (matC ma ra ca qa na ka) 24)) (w.heap.size) 24 (matC ma ra ca qa na ka) from Row.made _ _ (by simp)).alloc _).below hb (by simp <;> omega))
  have HBB := Lib.hid ((show Row ((w.alloc (.cells (matC ma ra ca qa na ka) 24)).alloc (.cells (matC mb rb cb qb nb kb) 24)) (w.heap.size + 1) 24 (matC mb rb cb qb nb kb) from Row.made _ _ (by simp)).below hb (by simp <;> omega))
  clear hb hcb
  obtain ⟨c3a, c3b, c3c, c3d⟩ := mbox HBA.out
  obtain ⟨c4a, c4b, c4c, c4d⟩ := mbox HBB.out
  go_wp2_with fail
  clear c3a c3b c3c c3d c4a c4b c4c c4d
  refine (sanity6_any _ HT.out).mono ?_
  rintro e v2 ⟨rfl, hb⟩
  have hcb : Below v1.heap.size v1 v2 := below_call (Below.refl _ v1) hb
  have HT := Lib.hid (HT.out.next hcb)
  have HW := Lib.hid (below_call HW.out hcb)
  have HBA := Lib.hid (HBA.out.below hcb HBA.out.lt)
  have HBB := Lib.hid (HBB.out.below hcb HBB.out.lt)
  clear hb hcb
  go_wp2
  go_ret
  exact ⟨rfl, HW.out⟩
set_option maxRecDepth 100000 in
set_option maxHeartbeats 6400000 in
theorem solves_1 (ma ra ca : Int) (qa : Option Addr) (na ka : Nat) (mb rb cb : Int) (qb : Option Addr) (nb kb : Nat) (w : World) (ht : Tab w) (hs1 : smallB ra ca na = true) (hs2 : smallB rb cb nb = false) :
    Calls Tryd.prog 4 #[matV ma ra ca qa na ka, matV mb rb cb qb nb kb] w fun e w' => e = .returned (.bool true) ∧ Below w.heap.size w w' := by
  have HT := Lib.hid ht
  have HW := Lib.hid (Below.refl w.heap.size w)
  have hp := ht.lt
  have HSM1 := Lib.hid (fun W => small_any ma ra ca qa na ka W)
  rw [hs1] at HSM1
  have HSM2 := Lib.hid (fun W => small_any mb rb cb qb nb kb W)
  rw [hs2] at HSM2
  unfold matV at HSM1 HSM2 ⊢
  clear ht hs1 hs2
  go_enter Tryd.func4, Tryd.ntmps4
  go_wp2_with fail
  refine (HSM1.out _).mono ?_
  rintro e v5 ⟨rfl, hb⟩
  have hcb : Below w.heap.size w v5 := below_call (((Below.refl _ w).alloc (Nat.le_refl _) _).alloc (by simp) _) hb
  have HT := Lib.hid (HT.out.next hcb)
  have HW := Lib.hid (below_call HW.out hcb)
  have HBA := Lib.hid (((show Row (w.alloc (.cells (matC ma ra ca qa na ka) 24)) (w.heap.size) 24 (matC ma ra ca qa na ka) from Row.made _ _ (by simp)).alloc _).below hb (by simp <;> omega))
  have HBB := Lib.hid ((show Row ((w.alloc (.cells (matC ma ra ca qa na ka) 24)).alloc (.cells (matC mb rb cb qb nb kb) 24)) (w.heap.size + 1) 24 (matC mb rb cb qb nb kb) from Row.made _ _ (by simp)).below hb (by simp <;> omega))
  clear hb hcb
  obtain ⟨c7a, c7b, c7c, c7d⟩ := mbox HBA.out
  obtain ⟨c8a, c8b, c8c, c8d⟩ := mbox HBB.out
  go_wp2_with fail
  clear c7a c7b c7c c7d c8a c8b c8c c8d
  refine (HSM2.out _).mono ?_
  rintro e v6 ⟨rfl, hb⟩
  have hcb : Below v5.heap.size v5 v6 := below_call (Below.refl _ v5) hb
  have HT := Lib.hid (HT.out.next hcb)
  have HW := Lib.hid (below_call HW.out hcb)
  have HBA := Lib.hid (HBA.out.below hcb HBA.out.lt)
  have HBB := Lib.hid (HBB.out.below hcb HBB.out.lt)
  clear hb hcb
  obtain ⟨c10a, c10b, c10c, c10d⟩ := mbox HBA.out
  obtain ⟨c11a, c11b, c11c, c11d⟩ := mbox HBB.out
  go_wp2_with fail
  clear c10a c10b c10c c10d c11a c11b c11c c11d
  refine (sanity6_any _ HT.out).mono ?_
  rintro e v9 ⟨rfl, hb⟩
  have hcb : Below v6.heap.size v6 v9 := below_call (Below.refl _ v6) hb
  have HT := Lib.hid (HT.out.next hcb)
  have HW := Lib.hid (below_call HW.out hcb)
  have HBA := Lib.hid (HBA.out.below hcb HBA.out.lt)
  have HBB := Lib.hid (HBB.out.below hcb HBB.out.lt)
  clear hb hcb
  go_wp2
  go_ret
  exact ⟨rfl, HW.out⟩
set_option maxRecDepth 100000 in
set_option maxHeartbeats 6400000 in
theorem solves_2 (ma ra ca : Int) (qa : Option Addr) (na ka : Nat) (mb rb cb : Int) (qb : Option Addr) (nb kb : Nat) (w : World) (ht : Tab w) (hs1 : smallB ra ca na = true) (hs2 : smallB rb cb nb = true) (xs ys : List Int) (h1 : IntsIn w qa na ka xs) (h2 : IntsIn w qb nb kb ys) (h : (okMat ma ra ca xs && okMat mb rb cb ys && decide (ma = mb) && decide (ra = rb)) = false) :
    Calls Tryd.prog 4 #[matV ma ra ca qa na ka, matV mb rb cb qb nb kb] w fun e w' => e = .returned (.bool true) ∧ Below w.heap.size w w' := by
  have HT := Lib.hid ht
  have HW := Lib.hid (Below.refl w.heap.size w)
  have hp := ht.lt
  have HSM1 := Lib.hid (fun W => small_any ma ra ca qa na ka W)
  rw [hs1] at HSM1
  have HSM2 := Lib.hid (fun W => small_any mb rb cb qb nb kb W)
  rw [hs2] at HSM2
  have HSP := Lib.hid (fun (W : World) (hb : Below w.heap.size w W) => solve_no ma ra ca qa na ka xs mb rb cb qb nb kb ys W h1.1 h1.le ((h1.2.2.2.2.below hb).more hb.size) h2.1 h2.le ((h2.2.2.2.2.below hb).more hb.size) h)
  have HSR := Lib.hid (fun (W : World) (hb : Below w.heap.size w W) => rsolve_no ma ra ca qa na ka xs mb rb cb qb nb kb ys W h1.1 h1.le ((h1.2.2.2.2.below hb).more hb.size) h2.1 h2.le ((h2.2.2.2.2.below hb).more hb.size) h)
  have HSN := Lib.hid (fun (W : World) => show Calls Tryd.prog 15 #[nilM, nilM] W fun e w' => e = .returned (.bool true) ∧ Below W.heap.size W w' from same_true (m := 0) (r := 0) (c := 0) (k1 := 0) (k2 := 0) (q1 := none) (q2 := none) (n := 0) (xs := []) (ys := []) rfl rfl (by omega) (Rd.nil _ _ _) (Rd.nil _ _ _))
  unfold matV at HSM1 HSM2 HSP HSR ⊢
  clear ht hs1 hs2 h1 h2 h
  go_enter Tryd.func4, Tryd.ntmps4
  go_wp2_with fail
  refine (HSM1.out _).mono ?_
  rintro e v12 ⟨rfl, hb⟩
  have hcb : Below w.heap.size w v12 := below_call (((Below.refl _ w).alloc (Nat.le_refl _) _).alloc (by simp) _) hb
  have HT := Lib.hid (HT.out.next hcb)
  have HW := Lib.hid (below_call HW.out hcb)
  have HBA := Lib.hid (((show Row (w.alloc (.cells (matC ma ra ca qa na ka) 24)) (w.heap.size) 24 (matC ma ra ca qa na ka) from Row.made _ _ (by simp)).alloc _).below hb (by simp <;> omega))
  have HBB := Lib.hid ((show Row ((w.alloc (.cells (matC ma ra ca qa na ka) 24)).alloc (.cells (matC mb rb cb qb nb kb) 24)) (w.heap.size + 1) 24 (matC mb rb cb qb nb kb) from Row.made _ _ (by simp)).below hb (by simp <;> omega))
  clear hb hcb
  obtain ⟨c14a, c14b, c14c, c14d⟩ := mbox HBA.out
  obtain ⟨c15a, c15b, c15c, c15d⟩ := mbox HBB.out
  go_wp2_with fail
  clear c14a c14b c14c c14d c15a c15b c15c c15d
  refine (HSM2.out _).mono ?_
  rintro e v13 ⟨rfl, hb⟩
  have hcb : Below v12.heap.size v12 v13 := below_call (Below.refl _ v12) hb
  have HT := Lib.hid (HT.out.next hcb)
  have HW := Lib.hid (below_call HW.out hcb)
  have HBA := Lib.hid (HBA.out.below hcb HBA.out.lt)
  have HBB := Lib.hid (HBB.out.below hcb HBB.out.lt)
  clear hb hcb
  obtain ⟨c17a, c17b, c17c, c17d⟩ := mbox HBA.out
  obtain ⟨c18a, c18b, c18c, c18d⟩ := mbox HBB.out
  go_wp2_with fail
  clear c17a c17b c17c c17d c18a c18b c18c c18d
  refine (HSP.out _ HW.out).mono ?_
  rintro e v16 ⟨rfl, hb⟩
  have hcb : Below v13.heap.size v13 v16 := below_call (Below.refl _ v13) hb
  have HT := Lib.hid (HT.out.next hcb)
  have HW := Lib.hid (below_call HW.out hcb)
  have HBA := Lib.hid (HBA.out.below hcb HBA.out.lt)
  have HBB := Lib.hid (HBB.out.below hcb HBB.out.lt)
  clear hb hcb
  obtain ⟨c20a, c20b, c20c, c20d⟩ := mbox HBA.out
  have c20l := HBA.out.lt
  obtain ⟨c21a, c21b, c21c, c21d⟩ := mbox HBB.out
  have c21l := HBB.out.lt
  go_wp2_with fail
  clear c20a c20b c20c c20d c20l c21a c21b c21c c21d c21l
  refine (HSR.out _ (HW.out.alloc (by first | exact HW.out.size | (have h9 := HW.out.size; simp <;> omega)) _)).mono ?_
  rintro e v19 ⟨rfl, hb⟩
  have hcb : Below v16.heap.size v16 v19 := below_call ((Below.refl _ v16).alloc (Nat.le_refl _) _) hb
  have HT := Lib.hid (HT.out.next hcb)
  have HW := Lib.hid (below_call HW.out hcb)
  have HBA := Lib.hid (HBA.out.below hcb HBA.out.lt)
  have HBB := Lib.hid (HBB.out.below hcb HBB.out.lt)
  have HBX := Lib.hid ((show Row (v16.alloc (.cells (matC 0 0 0 none 0 0) 24)) (v16.heap.size) 24 (matC 0 0 0 none 0 0) from Row.made _ _ (by simp)).below hb (by simp <;> omega))
  clear hb hcb
  obtain ⟨c23a, c23b, c23c, c23d⟩ := mbox HBA.out
  have c23l := HBA.out.lt
  obtain ⟨c24a, c24b, c24c, c24d⟩ := mbox HBB.out
  have c24l := HBB.out.lt
  obtain ⟨c25a, c25b, c25c, c25d⟩ := mbox HBX.out
  have c25l := HBX.out.lt
  go_wp2_with fail
  clear c23a c23b c23c c23d c23l c24a c24b c24c c24d c24l c25a c25b c25c c25d c25l
  refine (HSN.out _).mono ?_
  rintro e v22 ⟨rfl, hb⟩
  have hcb : Below v19.heap.size v19 v22 := below_call ((Below.refl _ v19).alloc (Nat.le_refl _) _) hb
  have HT := Lib.hid (HT.out.next hcb)
  have HW := Lib.hid (below_call HW.out hcb)
  have HBA := Lib.hid (HBA.out.below hcb HBA.out.lt)
  have HBB := Lib.hid (HBB.out.below hcb HBB.out.lt)
  have HBX := Lib.hid (HBX.out.below hcb HBX.out.lt)
  have HBY := Lib.hid ((show Row (v19.alloc (.cells (matC 0 0 0 none 0 0) 24)) (v19.heap.size) 24 (matC 0 0 0 none 0 0) from Row.made _ _ (by simp)).below hb (by simp <;> omega))
  clear hb hcb
  obtain ⟨c27a, c27b, c27c, c27d⟩ := mbox HBA.out
  obtain ⟨c28a, c28b, c28c, c28d⟩ := mbox HBB.out
  obtain ⟨c29a, c29b, c29c, c29d⟩ := mbox HBX.out
  obtain ⟨c30a, c30b, c30c, c30d⟩ := mbox HBY.out
  go_wp2_with fail
  clear c27a c27b c27c c27d c28a c28b c28c c28d c29a c29b c29c c29d c30a c30b c30c c30d
  refine (sanity6_any _ HT.out).mono ?_
  rintro e v26 ⟨rfl, hb⟩
  have hcb : Below v22.heap.size v22 v26 := below_call (Below.refl _ v22) hb
  have HT := Lib.hid (HT.out.next hcb)
  have HW := Lib.hid (below_call HW.out hcb)
  have HBA := Lib.hid (HBA.out.below hcb HBA.out.lt)
  have HBB := Lib.hid (HBB.out.below hcb HBB.out.lt)
  have HBX := Lib.hid (HBX.out.below hcb HBX.out.lt)
  have HBY := Lib.hid (HBY.out.below hcb HBY.out.lt)
  clear hb hcb
  go_wp2
  go_ret
  exact ⟨rfl, HW.out⟩
set_option maxRecDepth 100000 in
set_option maxHeartbeats 12800000 in
theorem solves_3 {m r k c : Nat} {A B : Nat → Nat → Nat} (qa : Option Addr) (ka : Nat) (qb : Option Addr) (kb : Nat) (w : World) (ht : Tab w) (hA : MatR w w.heap.size m r k qa ka A) (hk : k ≤ 32) (hB : MatR w w.heap.size m r c qb kb B) (hc : c ≤ 32) (hs1 : smallB r k (r * k) = true) (hs2 : smallB r c (r * c) = true) (h : noSol r k c (Mat.red m r (beside k A B) k).1 (Mat.red m r (beside k A B) k).2.length = false) :
    Calls Tryd.prog 4 #[matV m r k qa (r * k) ka, matV m r c qb (r * c) kb] w fun e w' => e = .returned (.bool true) ∧ Below w.heap.size w w' := by
  have HT := Lib.hid ht
  have HW := Lib.hid (Below.refl w.heap.size w)
  have hp := ht.lt
  have hr := hA.hr
  have hrk : r * k ≤ 32 * 32 := Nat.mul_le_mul hr hk
  have hrc : r * c ≤ 32 * 32 := Nat.mul_le_mul hr hc
  have hkc : k * c ≤ 32 * 32 := Nat.mul_le_mul hk hc
  have HSM1 := Lib.hid (fun W => small_any m r k qa (r * k) ka W)
  have HSM2 := Lib.hid (fun W => small_any m r c qb (r * c) kb W)
  rw [hs1] at HSM1
  rw [hs2] at HSM2
  obtain ⟨eAX, oX⟩ := Mat.solves hA.hm hA.ok hB.ok h
  have HSP := Lib.hid (fun (W : World) (hb : Below w.heap.size w W) => show Calls Tryd.prog 17 #[matV m r k qa (r * k) ka, matV m r c qb (r * c) kb] W fun e w' => ∃ g, e = .returned (outV (matV m k c (some ⟨g, 0, none⟩) (k * c) (k * c)) 0) ∧ Cells w' g (k * c) (Mat.flat c (solTo k (Mat.red m r (beside k A B) k).1 (Mat.red m r (beside k A B) k).2 r)) ∧ Below W.heap.size W w' from (solve_yes qa ka qb kb W (ht.next hb) ((hA.below hb).more hb.size) ((hB.below hb).more hb.size) hk hc).mono (by
    rintro e w' ⟨⟨h9, _⟩ | ⟨_, g, rfl, _, hc9⟩, hb⟩
    · rw [h] at h9; cases h9
    · exact ⟨g, rfl, hc9, hb⟩))
  have HSR := Lib.hid (fun (W : World) (hb : Below w.heap.size w W) => show Calls Tryd.prog 18 #[matV m r k qa (r * k) ka, matV m r c qb (r * c) kb] W fun e w' => ∃ g, e = .returned (outV (matV m k c (some ⟨g, 0, none⟩) (k * c) (k * c)) 0) ∧ Cells w' g (k * c) (Mat.flat c (solTo k (Mat.red m r (beside k A B) k).1 (Mat.red m r (beside k A B) k).2 r)) ∧ Below W.heap.size W w' from (rsolve_yes qa ka qb kb W ((hA.below hb).more hb.size) ((hB.below hb).more hb.size) hk hc).mono (by
    rintro e w' ⟨⟨h9, _⟩ | ⟨_, g, rfl, _, hc9⟩, hb⟩
    · rw [h] at h9; cases h9
    · exact ⟨g, rfl, hc9, hb⟩))
  generalize solTo k (Mat.red m r (beside k A B) k).1 (Mat.red m r (beside k A B) k).2 r = X at eAX oX HSP HSR
  have HMU := Lib.hid (fun (W : World) (hb : Below w.heap.size w W) (ht2 : Tab W) (g : Nat) (hc1 : Cells W g (k * c) (Mat.flat c X)) => show Calls Tryd.prog 16 #[matV m r k qa (r * k) ka, matV m k c (some ⟨g, 0, none⟩) (k * c) (k * c)] W fun e w' => ∃ g, e = .returned (outV (matV m r c (some ⟨g, 0, none⟩) (r * c) (r * c)) 0) ∧ Cells w' g (r * c) (Mat.flat c (Mat.prod m k A X)) ∧ Below W.heap.size W w' from (mul_yes qa ka (some ⟨g, 0, none⟩) (k * c) W ht2 ((hA.below hb).more hb.size) (MatR.of_cells hc1 hc1.lt hA.hm hk (by omega) oX) hk hc).mono (by
    rintro e w' ⟨g, rfl, _, hc, hb⟩
    exact ⟨g, rfl, hc, hb⟩))
  have HS1 := Lib.hid (fun (W : World) (g1 g2 : Nat) (hc1 : Cells W g1 (k * c) (Mat.flat c X)) (hc2 : Cells W g2 (k * c) (Mat.flat c X)) => same_true (m := m) (r := k) (c := c) (k1 := k * c) (k2 := k * c) (cellsL_length k c _) rfl (by omega) (cells_rd hc1) (cells_rd hc2))
  have HS2 := Lib.hid (fun (W : World) (hb : Below w.heap.size w W) (g1 : Nat) (hc1 : Cells W g1 (r * c) (Mat.flat c (Mat.prod m k A X))) => same_true (m := m) (r := r) (c := c) (k1 := r * c) (k2 := kb) (cellsL_length r c _) (cellsL_inj.2 eAX) (by omega) (cells_rd hc1) ((hB.rd.below hb).more hb.size))
  obtain ⟨Na, hNa⟩ : ∃ N, r * k = N := ⟨_, rfl⟩
  obtain ⟨Nb, hNb⟩ : ∃ N, r * c = N := ⟨_, rfl⟩
  obtain ⟨Nx, hNx⟩ : ∃ N, k * c = N := ⟨_, rfl⟩
  rw [hNa] at HSM1 HSP HSR HMU ⊢
  rw [hNb] at HSM2 HSP HSR HMU HS2 ⊢
  rw [hNx] at HSP HSR HMU HS1
  unfold matV at HSM1 HSM2 HSP HSR HMU HS1 HS2 ⊢
  clear ht hA hB hs1 hs2 h eAX oX hNa hNb hNx hrk hrc hkc
  go_enter Tryd.func4, Tryd.ntmps4
  go_wp2_with fail
  refine (HSM1.out _).mono ?_
  rintro e v31 ⟨rfl, hb⟩
  have hcb : Below w.heap.size w v31 := below_call (((Below.refl _ w).alloc (Nat.le_refl _) _).alloc (by simp) _) hb
  have HT := Lib.hid (HT.out.next hcb)
  have HW := Lib.hid (below_call HW.out hcb)
  have HBA := Lib.hid (((show Row (w.alloc (.cells (matC m r k qa Na ka) 24)) (w.heap.size) 24 (matC m r k qa Na ka) from Row.made _ _ (by simp)).alloc _).below hb (by simp <;> omega))
  have HBB := Lib.hid ((show Row ((w.alloc (.cells (matC m r k qa Na ka) 24)).alloc (.cells (matC m r c qb Nb kb) 24)) (w.heap.size + 1) 24 (matC m r c qb Nb kb) from Row.made _ _ (by simp)).below hb (by simp <;> omega))
  clear hb hcb
  obtain ⟨c33a, c33b, c33c, c33d⟩ := mbox HBA.out
  obtain ⟨c34a, c34b, c34c, c34d⟩ := mbox HBB.out
  go_wp2_with fail
  clear c33a c33b c33c c33d c34a c34b c34c c34d
  refine (HSM2.out _).mono ?_
  rintro e v32 ⟨rfl, hb⟩
  have hcb : Below v31.heap.size v31 v32 := below_call (Below.refl _ v31) hb
  have HT := Lib.hid (HT.out.next hcb)
  have HW := Lib.hid (below_call HW.out hcb)
  have HBA := Lib.hid (HBA.out.below hcb HBA.out.lt)
  have HBB := Lib.hid (HBB.out.below hcb HBB.out.lt)
  clear hb hcb
  obtain ⟨c36a, c36b, c36c, c36d⟩ := mbox HBA.out
  obtain ⟨c37a, c37b, c37c, c37d⟩ := mbox HBB.out
  go_wp2_with fail
  clear c36a c36b c36c c36d c37a c37b c37c c37d
  refine (HSP.out _ HW.out).mono ?_
  rintro e v35 ⟨gx, rfl, hcx, hb⟩
  have hcb : Below v32.heap.size v32 v35 := below_call (Below.refl _ v32) hb
  have HT := Lib.hid (HT.out.next hcb)
  have HW := Lib.hid (below_call HW.out hcb)
  have HBA := Lib.hid (HBA.out.below hcb HBA.out.lt)
  have HBB := Lib.hid (HBB.out.below hcb HBB.out.lt)
  have HCx := Lib.hid hcx
  clear hcx
  clear hb hcb
  obtain ⟨c39a, c39b, c39c, c39d⟩ := mbox HBA.out
  have c39l := HBA.out.lt
  obtain ⟨c40a, c40b, c40c, c40d⟩ := mbox HBB.out
  have c40l := HBB.out.lt
  go_wp2_with fail
  clear c39a c39b c39c c39d c39l c40a c40b c40c c40d c40l
  refine (HSR.out _ (HW.out.alloc (by first | exact HW.out.size | (have h9 := HW.out.size; simp <;> omega)) _)).mono ?_
  rintro e v38 ⟨gy, rfl, hcy, hb⟩
  have hcb : Below v35.heap.size v35 v38 := below_call ((Below.refl _ v35).alloc (Nat.le_refl _) _) hb
  have HT := Lib.hid (HT.out.next hcb)
  have HW := Lib.hid (below_call HW.out hcb)
  have HBA := Lib.hid (HBA.out.below hcb HBA.out.lt)
  have HBB := Lib.hid (HBB.out.below hcb HBB.out.lt)
  have HCx := Lib.hid (HCx.out.below hcb HCx.out.lt)
  have HBX := Lib.hid ((show Row (v35.alloc (.cells (matC m k c (some ⟨gx, 0, none⟩) Nx Nx) 24)) (v35.heap.size) 24 (matC m k c (some ⟨gx, 0, none⟩) Nx Nx) from Row.made _ _ (by simp)).below hb (by simp <;> omega))
  have HCy := Lib.hid hcy
  clear hcy
  clear hb hcb
  obtain ⟨c42a, c42b, c42c, c42d⟩ := mbox HBA.out
  have c42l := HBA.out.lt
  obtain ⟨c43a, c43b, c43c, c43d⟩ := mbox HBB.out
  have c43l := HBB.out.lt
  obtain ⟨c44a, c44b, c44c, c44d⟩ := mbox HBX.out
  have c44l := HBX.out.lt
  go_wp2_with fail
  clear c42a c42b c42c c42d c42l c43a c43b c43c c43d c43l c44a c44b c44c c44d c44l
  refine (HS1.out _ gx gy (HCx.out.alloc _) (HCy.out.alloc _)).mono ?_
  rintro e v41 ⟨rfl, hb⟩
  have hcb : Below v38.heap.size v38 v41 := below_call ((Below.refl _ v38).alloc (Nat.le_refl _) _) hb
  have HT := Lib.hid (HT.out.next hcb)
  have HW := Lib.hid (below_call HW.out hcb)
  have HBA := Lib.hid (HBA.out.below hcb HBA.out.lt)
  have HBB := Lib.hid (HBB.out.below hcb HBB.out.lt)
  have HCx := Lib.hid (HCx.out.below hcb HCx.out.lt)
  have HBX := Lib.hid (HBX.out.below hcb HBX.out.lt)
  have HCy := Lib.hid (HCy.out.below hcb HCy.out.lt)
  have HBY := Lib.hid ((show Row (v38.alloc (.cells (matC m k c (some ⟨gy, 0, none⟩) Nx Nx) 24)) (v38.heap.size) 24 (matC m k c (some ⟨gy, 0, none⟩) Nx Nx) from Row.made _ _ (by simp)).below hb (by simp <;> omega))
  clear hb hcb
  obtain ⟨c46a, c46b, c46c, c46d⟩ := mbox HBA.out
  obtain ⟨c47a, c47b, c47c, c47d⟩ := mbox HBB.out
  obtain ⟨c48a, c48b, c48c, c48d⟩ := mbox HBX.out
  obtain ⟨c49a, c49b, c49c, c49d⟩ := mbox HBY.out
  go_wp2_with fail
  clear c46a c46b c46c c46d c47a c47b c47c c47d c48a c48b c48c c48d c49a c49b c49c c49d
  refine (HMU.out _ HW.out HT.out gx HCx.out).mono ?_
  rintro e v45 ⟨gp, rfl, hcp, hb⟩
  have hcb : Below v41.heap.size v41 v45 := below_call (Below.refl _ v41) hb
  have HT := Lib.hid (HT.out.next hcb)
  have HW := Lib.hid (below_call HW.out hcb)
  have HBA := Lib.hid (HBA.out.below hcb HBA.out.lt)
  have HBB := Lib.hid (HBB.out.below hcb HBB.out.lt)
  have HCx := Lib.hid (HCx.out.below hcb HCx.out.lt)
  have HBX := Lib.hid (HBX.out.below hcb HBX.out.lt)
  have HCy := Lib.hid (HCy.out.below hcb HCy.out.lt)
  have HBY := Lib.hid (HBY.out.below hcb HBY.out.lt)
  have HCp := Lib.hid hcp
  clear hcp
  clear hb hcb
  obtain ⟨c51a, c51b, c51c, c51d⟩ := mbox HBA.out
  have c51l := HBA.out.lt
  obtain ⟨c52a, c52b, c52c, c52d⟩ := mbox HBB.out
  have c52l := HBB.out.lt
  obtain ⟨c53a, c53b, c53c, c53d⟩ := mbox HBX.out
  have c53l := HBX.out.lt
  obtain ⟨c54a, c54b, c54c, c54d⟩ := mbox HBY.out
  have c54l := HBY.out.lt
  go_wp2_with fail
  clear c51a c51b c51c c51d c51l c52a c52b c52c c52d c52l c53a c53b c53c c53d c53l c54a c54b c54c c54d c54l
  refine (sanity6_any _ (HT.out.next ((Below.refl _ v45).alloc (Nat.le_refl _) _))).mono ?_
  rintro e v50 ⟨rfl, hb⟩
  have hcb : Below v45.heap.size v45 v50 := below_call ((Below.refl _ v45).alloc (Nat.le_refl _) _) hb
  have HT := Lib.hid (HT.out.next hcb)
  have HW := Lib.hid (below_call HW.out hcb)
  have HBA := Lib.hid (HBA.out.below hcb HBA.out.lt)
  have HBB := Lib.hid (HBB.out.below hcb HBB.out.lt)
  have HCx := Lib.hid (HCx.out.below hcb HCx.out.lt)
  have HBX := Lib.hid (HBX.out.below hcb HBX.out.lt)
  have HCy := Lib.hid (HCy.out.below hcb HCy.out.lt)
  have HBY := Lib.hid (HBY.out.below hcb HBY.out.lt)
  have HCp := Lib.hid (HCp.out.below hcb HCp.out.lt)
  have HBP := Lib.hid ((show Row (v45.alloc (.cells (matC m r c (some ⟨gp, 0, none⟩) Nb Nb) 24)) (v45.heap.size) 24 (matC m r c (some ⟨gp, 0, none⟩) Nb Nb) from Row.made _ _ (by simp)).below hb (by simp <;> omega))
  clear hb hcb
  obtain ⟨c56a, c56b, c56c, c56d⟩ := mbox HBA.out
  obtain ⟨c57a, c57b, c57c, c57d⟩ := mbox HBB.out
  obtain ⟨c58a, c58b, c58c, c58d⟩ := mbox HBX.out
  obtain ⟨c59a, c59b, c59c, c59d⟩ := mbox HBY.out
  obtain ⟨c60a, c60b, c60c, c60d⟩ := mbox HBP.out
  go_wp2_with fail
  clear c56a c56b c56c c56d c57a c57b c57c c57d c58a c58b c58c c58d c59a c59b c59c c59d c60a c60b c60c c60d
  refine (HS2.out _ HW.out gp HCp.out).mono ?_
  rintro e v55 ⟨rfl, hb⟩
  have hcb : Below v50.heap.size v50 v55 := below_call (Below.refl _ v50) hb
  have HT := Lib.hid (HT.out.next hcb)
  have HW := Lib.hid (below_call HW.out hcb)
  have HBA := Lib.hid (HBA.out.below hcb HBA.out.lt)
  have HBB := Lib.hid (HBB.out.below hcb HBB.out.lt)
  have HCx := Lib.hid (HCx.out.below hcb HCx.out.lt)
  have HBX := Lib.hid (HBX.out.below hcb HBX.out.lt)
  have HCy := Lib.hid (HCy.out.below hcb HCy.out.lt)
  have HBY := Lib.hid (HBY.out.below hcb HBY.out.lt)
  have HCp := Lib.hid (HCp.out.below hcb HCp.out.lt)
  have HBP := Lib.hid (HBP.out.below hcb HBP.out.lt)
  clear hb hcb
  go_wp2
  go_ret
  exact ⟨rfl, HW.out⟩
set_option maxRecDepth 100000 in
set_option maxHeartbeats 12800000 in
theorem solves_4 {m r k c : Nat} {A B : Nat → Nat → Nat} (qa : Option Addr) (ka : Nat) (qb : Option Addr) (kb : Nat) (w : World) (ht : Tab w) (hA : MatR w w.heap.size m r k qa ka A) (hk : k ≤ 32) (hB : MatR w w.heap.size m r c qb kb B) (hc : c ≤ 32) (hs1 : smallB r k (r * k) = true) (hs2 : smallB r c (r * c) = true) (hk12 : k ≤ 12) (hc12 : c ≤ 12) (h : noSol r k c (Mat.red m r (beside k A B) k).1 (Mat.red m r (beside k A B) k).2.length = true) :
    Calls Tryd.prog 4 #[matV m r k qa (r * k) ka, matV m r c qb (r * c) kb] w fun e w' => e = .returned (.bool true) ∧ Below w.heap.size w w' := by
  have HT := Lib.hid ht
  have HW := Lib.hid (Below.refl w.heap.size w)
  have hp := ht.lt
  have hr := hA.hr
  have hrk : r * k ≤ 32 * 32 := Nat.mul_le_mul hr hk
  have hrc : r * c ≤ 32 * 32 := Nat.mul_le_mul hr hc
  have hkc : k * c ≤ 32 * 32 := Nat.mul_le_mul hk hc
  have HSM1 := Lib.hid (fun W => small_any m r k qa (r * k) ka W)
  have HSM2 := Lib.hid (fun W => small_any m r c qb (r * c) kb W)
  rw [hs1] at HSM1
  rw [hs2] at HSM2
  have hgr := Mat.grows hA.hm hA.ok hB.ok h
  have oBE := beside_ok hA.ok hB.ok
  have htr := Mat.rk_tr hA.hm oBE
  have HSP := Lib.hid (fun (W : World) (hb : Below w.heap.size w W) => show Calls Tryd.prog 17 #[matV m r k qa (r * k) ka, matV m r c qb (r * c) kb] W fun e w' => e = .returned (outV nilM 12) ∧ Below W.heap.size W w' from (solve_yes qa ka qb kb W (ht.next hb) ((hA.below hb).more hb.size) ((hB.below hb).more hb.size) hk hc).mono (by
    rintro e w' ⟨⟨_, he⟩ | ⟨h9, _⟩, hb⟩
    · exact ⟨he, hb⟩
    · rw [h] at h9; cases h9))
  have HSR := Lib.hid (fun (W : World) (hb : Below w.heap.size w W) => show Calls Tryd.prog 18 #[matV m r k qa (r * k) ka, matV m r c qb (r * c) kb] W fun e w' => e = .returned (outV nilM 12) ∧ Below W.heap.size W w' from (rsolve_yes qa ka qb kb W ((hA.below hb).more hb.size) ((hB.below hb).more hb.size) hk hc).mono (by
    rintro e w' ⟨⟨_, he⟩ | ⟨h9, _⟩, hb⟩
    · exact ⟨he, hb⟩
    · rw [h] at h9; cases h9))
  have HSN := Lib.hid (fun (W : World) => show Calls Tryd.prog 15 #[nilM, nilM] W fun e w' => e = .returned (.bool true) ∧ Below W.heap.size W w' from same_true (m := 0) (r := 0) (c := 0) (k1 := 0) (k2 := 0) (q1 := none) (q2 := none) (n := 0) (xs := []) (ys := []) rfl rfl (by omega) (Rd.nil _ _ _) (Rd.nil _ _ _))
  have HTA := Lib.hid (fun (W : World) (hb : Below w.heap.size w W) => show Calls Tryd.prog 19 #[matV m r k qa (r * k) ka] W fun e w' => ∃ g, e = .returned (outV (matV m k r (some ⟨g, 0, none⟩) (k * r) (k * r)) 0) ∧ Cells w' g (k * r) (Mat.flat r (Mat.tr A)) ∧ Below W.heap.size W w' from (transp_yes qa ka W ((hA.below hb).more hb.size) hk).mono (by
    rintro e w' ⟨g, rfl, _, hc, hb⟩
    exact ⟨g, rfl, hc, hb⟩))
  have HTB := Lib.hid (fun (W : World) (hb : Below w.heap.size w W) => show Calls Tryd.prog 19 #[matV m r c qb (r * c) kb] W fun e w' => ∃ g, e = .returned (outV (matV m c r (some ⟨g, 0, none⟩) (c * r) (c * r)) 0) ∧ Cells w' g (c * r) (Mat.flat r (Mat.tr B)) ∧ Below W.heap.size W w' from (transp_yes qb kb W ((hB.below hb).more hb.size) hc).mono (by
    rintro e w' ⟨g, rfl, _, hc, hb⟩
    exact ⟨g, rfl, hc, hb⟩))
  have HRSx := Lib.hid (fun (W : World) (g : Nat) (hc : Cells W g (k * r) (Mat.flat r (Mat.tr A))) => cells_rd hc)
  have HRTx := Lib.hid (fun (W : World) (g : Nat) (hc : Cells W g (c * r) (Mat.flat r (Mat.tr B))) => cells_rd hc)
  have HRX := Lib.hid (fun (W : World) (ht2 : Tab W) (q : Option Addr) (k9 B9 : Nat) (ho : Own W B9 3 q ((k + c) * r) k9 (ints (cellsL (k + c) r (Mat.tr (beside k A B))))) => rank_yes q W ht2 (own_matR ho hA.hm (by omega) (by omega) (Mat.tr_ok oBE)) hr)
  have HRK := Lib.hid (fun (W : World) (hb : Below w.heap.size w W) => rank_yes qa W (ht.next hb) ((hA.below hb).more hb.size) hk)
  have HZZ := Lib.hid (beside_tr (k := k) (c := c) (r := r) A B)
  have HZS := Lib.hid (show (ints (cellsL k r (Mat.tr A))).length = k * r by unfold ints; rw [List.length_map, cellsL_length])
  have HZT := Lib.hid (show (ints (cellsL c r (Mat.tr B))).length = c * r by unfold ints; rw [List.length_map, cellsL_length])
  have hks : k * r ≤ 32 * 32 := Nat.mul_le_mul hk hr
  have hcs : c * r ≤ 32 * 32 := Nat.mul_le_mul hc hr
  unfold Mat.rk at hgr htr
  rw [htr] at HRX
  generalize (Mat.red m r (beside k A B) (k + c)).2.length = R2 at hgr HRX
  generalize (Mat.red m r A k).2.length = R1 at hgr HRK
  have HD2 := Lib.hid (show decide (R1 < R2) = true from decide_eq_true hgr)
  have hd1 : decide ((R1 : Int) < R2) = true := decide_eq_true (by omega)
  have hd2 : decide (R1 < R2) = true := decide_eq_true hgr
  generalize cellsL (k + c) r (Mat.tr (beside k A B)) = zz at HRX HZZ
  generalize cellsL k r (Mat.tr A) = zs at HRSx HZZ HZS
  generalize cellsL c r (Mat.tr B) = zt at HRTx HZZ HZT
  generalize Mat.flat r (Mat.tr A) = FA at HTA HRSx
  generalize Mat.flat r (Mat.tr B) = FB at HTB HRTx
  obtain ⟨K, hK⟩ : ∃ K, k + c = K := ⟨_, rfl⟩
  have HNN := Lib.hid (show k * r + c * r = (k + c) * r by rw [Nat.add_mul])
  have hwK : IntKind.i64.wrap ((k : Int) + (c : Int)) = (K : Int) := by rw [← Int.natCast_add, hK, IntKind.wrap_i64] <;> omega
  rw [hK] at HRX HNN
  obtain ⟨Na, hNa⟩ : ∃ N, r * k = N := ⟨_, rfl⟩
  obtain ⟨Nb, hNb⟩ : ∃ N, r * c = N := ⟨_, rfl⟩
  obtain ⟨Ns, hNs⟩ : ∃ N, k * r = N := ⟨_, rfl⟩
  obtain ⟨Nt, hNt⟩ : ∃ N, c * r = N := ⟨_, rfl⟩
  rw [hNs, hNt] at HNN
  rw [← HNN.out] at HRX
  rw [hNa] at HSM1 HSP HSR HTA HRK ⊢
  rw [hNb] at HSM2 HSP HSR HTB ⊢
  rw [hNs] at HTA HRSx HZS hks
  rw [hNt] at HTB HRTx HZT hcs
  unfold matV at HSM1 HSM2 HSP HSR HTA HTB HRX HRK ⊢
  clear ht hA hB hs1 hs2 h hgr htr oBE hNa hNb hNs hNt hrk hrc hkc hk12 hc12 hK
  go_enter Tryd.func4, Tryd.ntmps4
  go_wp2_with fail
  refine (HSM1.out _).mono ?_
  rintro e v61 ⟨rfl, hb⟩
  have hcb : Below w.heap.size w v61 := below_call (((Below.refl _ w).alloc (Nat.le_refl _) _).alloc (by simp) _) hb
  have HT := Lib.hid (HT.out.next hcb)
  have HW := Lib.hid (below_call HW.out hcb)
  have HBA := Lib.hid (((show Row (w.alloc (.cells (matC m r k qa Na ka) 24)) (w.heap.size) 24 (matC m r k qa Na ka) from Row.made _ _ (by simp)).alloc _).below hb (by simp <;> omega))
  have HBB := Lib.hid ((show Row ((w.alloc (.cells (matC m r k qa Na ka) 24)).alloc (.cells (matC m r c qb Nb kb) 24)) (w.heap.size + 1) 24 (matC m r c qb Nb kb) from Row.made _ _ (by simp)).below hb (by simp <;> omega))
  clear hb hcb
  obtain ⟨c63a, c63b, c63c, c63d⟩ := mbox HBA.out
  obtain ⟨c64a, c64b, c64c, c64d⟩ := mbox HBB.out
  go_wp2_with fail
  clear c63a c63b c63c c63d c64a c64b c64c c64d
  refine (HSM2.out _).mono ?_
  rintro e v62 ⟨rfl, hb⟩
  have hcb : Below v61.heap.size v61 v62 := below_call (Below.refl _ v61) hb
  have HT := Lib.hid (HT.out.next hcb)
  have HW := Lib.hid (below_call HW.out hcb)
  have HBA := Lib.hid (HBA.out.below hcb HBA.out.lt)
  have HBB := Lib.hid (HBB.out.below hcb HBB.out.lt)
  clear hb hcb
  obtain ⟨c66a, c66b, c66c, c66d⟩ := mbox HBA.out
  obtain ⟨c67a, c67b, c67c, c67d⟩ := mbox HBB.out
  go_wp2_with fail
  clear c66a c66b c66c c66d c67a c67b c67c c67d
  refine (HSP.out _ HW.out).mono ?_
  rintro e v65 ⟨rfl, hb⟩
  have hcb : Below v62.heap.size v62 v65 := below_call (Below.refl _ v62) hb
  have HT := Lib.hid (HT.out.next hcb)
  have HW := Lib.hid (below_call HW.out hcb)
  have HBA := Lib.hid (HBA.out.below hcb HBA.out.lt)
  have HBB := Lib.hid (HBB.out.below hcb HBB.out.lt)
  clear hb hcb
  obtain ⟨c69a, c69b, c69c, c69d⟩ := mbox HBA.out
  have c69l := HBA.out.lt
  obtain ⟨c70a, c70b, c70c, c70d⟩ := mbox HBB.out
  have c70l := HBB.out.lt
  go_wp2_with fail
  clear c69a c69b c69c c69d c69l c70a c70b c70c c70d c70l
  refine (HSR.out _ (HW.out.alloc (by first | exact HW.out.size | (have h9 := HW.out.size; simp <;> omega)) _)).mono ?_
  rintro e v68 ⟨rfl, hb⟩
  have hcb : Below v65.heap.size v65 v68 := below_call ((Below.refl _ v65).alloc (Nat.le_refl _) _) hb
  have HT := Lib.hid (HT.out.next hcb)
  have HW := Lib.hid (below_call HW.out hcb)
  have HBA := Lib.hid (HBA.out.below hcb HBA.out.lt)
  have HBB := Lib.hid (HBB.out.below hcb HBB.out.lt)
  have HBX := Lib.hid ((show Row (v65.alloc (.cells (matC 0 0 0 none 0 0) 24)) (v65.heap.size) 24 (matC 0 0 0 none 0 0) from Row.made _ _ (by simp)).below hb (by simp <;> omega))
  clear hb hcb
  obtain ⟨c72a, c72b, c72c, c72d⟩ := mbox HBA.out
  have c72l := HBA.out.lt
  obtain ⟨c73a, c73b, c73c, c73d⟩ := mbox HBB.out
  have c73l := HBB.out.lt
  obtain ⟨c74a, c74b, c74c, c74d⟩ := mbox HBX.out
  have c74l := HBX.out.lt
  go_wp2_with fail
  clear c72a c72b c72c c72d c72l c73a c73b c73c c73d c73l c74a c74b c74c c74d c74l
  refine (HSN.out _).mono ?_
  rintro e v71 ⟨rfl, hb⟩
  have hcb : Below v68.heap.size v68 v71 := below_call ((Below.refl _ v68).alloc (Nat.le_refl _) _) hb
  have HT := Lib.hid (HT.out.next hcb)
  have HW := Lib.hid (below_call HW.out hcb)
  have HBA := Lib.hid (HBA.out.below hcb HBA.out.lt)
  have HBB := Lib.hid (HBB.out.below hcb HBB.out.lt)
  have HBX := Lib.hid (HBX.out.below hcb HBX.out.lt)
  have HBY := Lib.hid ((show Row (v68.alloc (.cells (matC 0 0 0 none 0 0) 24)) (v68.heap.size) 24 (matC 0 0 0 none 0 0) from Row.made _ _ (by simp)).below hb (by simp <;> omega))
  clear hb hcb
  obtain ⟨c76a, c76b, c76c, c76d⟩ := mbox HBA.out
  obtain ⟨c77a, c77b, c77c, c77d⟩ := mbox HBB.out
  obtain ⟨c78a, c78b, c78c, c78d⟩ := mbox HBX.out
  obtain ⟨c79a, c79b, c79c, c79d⟩ := mbox HBY.out
  go_wp2_with fail
  clear c76a c76b c76c c76d c77a c77b c77c c77d c78a c78b c78c c78d c79a c79b c79c c79d
  refine (HTA.out _ HW.out).mono ?_
  rintro e v75 ⟨gs, rfl, hcs, hb⟩
  have hcb : Below v71.heap.size v71 v75 := below_call (Below.refl _ v71) hb
  have HT := Lib.hid (HT.out.next hcb)
  have HW := Lib.hid (below_call HW.out hcb)
  have HBA := Lib.hid (HBA.out.below hcb HBA.out.lt)
  have HBB := Lib.hid (HBB.out.below hcb HBB.out.lt)
  have HBX := Lib.hid (HBX.out.below hcb HBX.out.lt)
  have HBY := Lib.hid (HBY.out.below hcb HBY.out.lt)
  have HCs := Lib.hid hcs
  clear hcs
  clear hb hcb
  obtain ⟨c81a, c81b, c81c, c81d⟩ := mbox HBA.out
  have c81l := HBA.out.lt
  obtain ⟨c82a, c82b, c82c, c82d⟩ := mbox HBB.out
  have c82l := HBB.out.lt
  obtain ⟨c83a, c83b, c83c, c83d⟩ := mbox HBX.out
  have c83l := HBX.out.lt
  obtain ⟨c84a, c84b, c84c, c84d⟩ := mbox HBY.out
  have c84l := HBY.out.lt
  go_wp2_with fail
  clear c81a c81b c81c c81d c81l c82a c82b c82c c82d c82l c83a c83b c83c c83d c83l c84a c84b c84c c84d c84l
  refine (HTB.out _ (HW.out.alloc (by first | exact HW.out.size | (have h9 := HW.out.size; simp <;> omega)) _)).mono ?_
  rintro e v80 ⟨gt, rfl, hct, hb⟩
  have hcb : Below v75.heap.size v75 v80 := below_call ((Below.refl _ v75).alloc (Nat.le_refl _) _) hb
  have HT := Lib.hid (HT.out.next hcb)
  have HW := Lib.hid (below_call HW.out hcb)
  have HBA := Lib.hid (HBA.out.below hcb HBA.out.lt)
  have HBB := Lib.hid (HBB.out.below hcb HBB.out.lt)
  have HBX := Lib.hid (HBX.out.below hcb HBX.out.lt)
  have HBY := Lib.hid (HBY.out.below hcb HBY.out.lt)
  have HCs := Lib.hid (HCs.out.below hcb HCs.out.lt)
  have HBS := Lib.hid ((show Row (v75.alloc (.cells (matC m k r (some ⟨gs, 0, none⟩) Ns Ns) 24)) (v75.heap.size) 24 (matC m k r (some ⟨gs, 0, none⟩) Ns Ns) from Row.made _ _ (by simp)).below hb (by simp <;> omega))
  have HCt := Lib.hid hct
  clear hct
  clear hb hcb
  go_upto_region 16 with fail
  obtain ⟨v85, hE⟩ : ∃ wE, wE = (v80.alloc (.cells (matC m c r (some ⟨gt, 0, none⟩) Nt Nt) 24)) := ⟨_, rfl⟩
  rw [← hE]
  have hcb : Below v80.heap.size v80 v85 := by rw [hE]; exact ((Below.refl _ v80).alloc (Nat.le_refl _) _)
  have HT := Lib.hid (HT.out.next hcb)
  have HW := Lib.hid (below_call HW.out hcb)
  have HBA := Lib.hid (HBA.out.below hcb HBA.out.lt)
  have HBB := Lib.hid (HBB.out.below hcb HBB.out.lt)
  have HBX := Lib.hid (HBX.out.below hcb HBX.out.lt)
  have HBY := Lib.hid (HBY.out.below hcb HBY.out.lt)
  have HCs := Lib.hid (HCs.out.below hcb HCs.out.lt)
  have HBS := Lib.hid (HBS.out.below hcb HBS.out.lt)
  have HCt := Lib.hid (HCt.out.below hcb HCt.out.lt)
  have HBT := Lib.hid (show Row v85 (v80.heap.size) 24 (matC m c r (some ⟨gt, 0, none⟩) Nt Nt) by rw [hE]; exact (show Row (v80.alloc (.cells (matC m c r (some ⟨gt, 0, none⟩) Nt Nt) 24)) (v80.heap.size) 24 (matC m c r (some ⟨gt, 0, none⟩) Nt Nt) from Row.made _ _ (by simp)))
  clear hcb hE
  obtain ⟨s0, s1, s2, s3⟩ := mbox HBS.out
  obtain ⟨t0, t1, t2, t3⟩ := mbox HBT.out
  go_wp2_with (first | (refine wpList_app _ rfl (.tmp 78) (.tmp 80) 22 rfl v85.heap.size 3 (.int .i64 0) 8 Tryd.underlying22 elem_int6 rfl none 0 0 [] rfl (Own.nil _ _ _) _ (some ⟨gs, 0, none⟩) Ns Ns (ints zs) rfl (HRSx.out _ gs HCs.out) HZS.out (ints_one _) (by unfold maxLen; omega) (by omega) (Nat.le_refl _) ?_; intro a1 c1 y1 ho1 hg1; have HY1 := Lib.hid (below_grown2 (Below.refl v85.heap.size v85) hg1 (Own.nil _ v85.heap.size 3) (Nat.le_refl _) (Nat.le_refl _)); have HO1 := Lib.hid (show Own y1 v85.heap.size 3 a1 Ns c1 (ints zs) by simpa using ho1); clear s0 s1 s2 s3 t0 t1 t2 t3; obtain ⟨t0, t1, t2, t3⟩ := mbox (HBT.out.below HY1.out HBT.out.lt); have HRT1 := Lib.hid (HRTx.out _ gt (HCt.out.below HY1.out HCt.out.lt)); have hy1 := HY1.out.size; rw [Nat.zero_add]; clear ho1 hg1) | (refine wpList_app _ rfl (.tmp 82) (.tmp 84) 22 rfl v85.heap.size 3 (.int .i64 0) 8 Tryd.underlying22 elem_int6 rfl a1 Ns c1 (ints zs) rfl HO1.out _ (some ⟨gt, 0, none⟩) Nt Nt (ints zt) rfl HRT1.out HZT.out (ints_one _) (by unfold maxLen; omega) (by omega) hy1 ?_; intro a2 c2 y2 ho2 hg2; have HY2 := Lib.hid (below_grown2 HY1.out hg2 HO1.out hy1 (Nat.le_refl _)); have HO2 := Lib.hid ho2; clear ho2 hg2 t0 t1 t2 t3))
  rw [HZZ.out] at HO2
  have hcb := HY2.out
  have HT := Lib.hid (HT.out.next hcb)
  have HW := Lib.hid (below_call HW.out hcb)
  have HBA := Lib.hid (HBA.out.below hcb HBA.out.lt)
  have HBB := Lib.hid (HBB.out.below hcb HBB.out.lt)
  have HBX := Lib.hid (HBX.out.below hcb HBX.out.lt)
  have HBY := Lib.hid (HBY.out.below hcb HBY.out.lt)
  have HCs := Lib.hid (HCs.out.below hcb HCs.out.lt)
  have HBS := Lib.hid (HBS.out.below hcb HBS.out.lt)
  have HCt := Lib.hid (HCt.out.below hcb HCt.out.lt)
  have HBT := Lib.hid (HBT.out.below hcb HBT.out.lt)
  clear hcb
  have HXS := Lib.hid (fun (wn : World) (h : Below y2.heap.size y2 wn) => (⟨mbox (HBA.out.below h HBA.out.lt), mbox (HBS.out.below h HBS.out.lt), mbox (HBT.out.below h HBT.out.lt)⟩ : (wn.cell? ⟨w.heap.size, 0, none⟩ = some (.int .i64 m) ∧ wn.cell? ⟨w.heap.size, 1, none⟩ = some (.int .i64 r) ∧ wn.cell? ⟨w.heap.size, 2, none⟩ = some (.int .i64 k) ∧ wn.cell? ⟨w.heap.size, 3, none⟩ = some (.slice qa Na ka)) ∧ (wn.cell? ⟨v75.heap.size, 0, none⟩ = some (.int .i64 m) ∧ wn.cell? ⟨v75.heap.size, 1, none⟩ = some (.int .i64 k) ∧ wn.cell? ⟨v75.heap.size, 2, none⟩ = some (.int .i64 r) ∧ wn.cell? ⟨v75.heap.size, 3, none⟩ = some (.slice (some ⟨gs, 0, none⟩) Ns Ns)) ∧ (wn.cell? ⟨v80.heap.size, 0, none⟩ = some (.int .i64 m) ∧ wn.cell? ⟨v80.heap.size, 1, none⟩ = some (.int .i64 c) ∧ wn.cell? ⟨v80.heap.size, 2, none⟩ = some (.int .i64 r) ∧ wn.cell? ⟨v80.heap.size, 3, none⟩ = some (.slice (some ⟨gt, 0, none⟩) Nt Nt))))
  go_region_held3 (fun wn => (wn.cell? ⟨w.heap.size, 0, none⟩ = some (.int .i64 m) ∧ wn.cell? ⟨w.heap.size, 1, none⟩ = some (.int .i64 r) ∧ wn.cell? ⟨w.heap.size, 2, none⟩ = some (.int .i64 k) ∧ wn.cell? ⟨w.heap.size, 3, none⟩ = some (.slice qa Na ka)) ∧ (wn.cell? ⟨v75.heap.size, 0, none⟩ = some (.int .i64 m) ∧ wn.cell? ⟨v75.heap.size, 1, none⟩ = some (.int .i64 k) ∧ wn.cell? ⟨v75.heap.size, 2, none⟩ = some (.int .i64 r) ∧ wn.cell? ⟨v75.heap.size, 3, none⟩ = some (.slice (some ⟨gs, 0, none⟩) Ns Ns)) ∧ (wn.cell? ⟨v80.heap.size, 0, none⟩ = some (.int .i64 m) ∧ wn.cell? ⟨v80.heap.size, 1, none⟩ = some (.int .i64 c) ∧ wn.cell? ⟨v80.heap.size, 2, none⟩ = some (.int .i64 r) ∧ wn.cell? ⟨v80.heap.size, 3, none⟩ = some (.slice (some ⟨gt, 0, none⟩) Nt Nt))) (first | with_reducible exact HXS.out _ K4.out | with_reducible exact HXS.out _ K3.out | with_reducible exact HXS.out _ K2.out | with_reducible exact HXS.out _ K1.out | with_reducible exact HXS.out _ (Below.refl _ _).drew) (first
    | (go_at_call 14; (with_reducible refine (sanity6_any _ (HT.out.next (Below.refl _ _).drew)).mono ?_); rintro e1 x1 ⟨rfl, hx1⟩; have K1 := Lib.hid (show Below y2.heap.size y2 x1 from below_call (Below.refl _ _).drew hx1); clear hx1)
    | (go_at_call 21; (with_reducible refine (of_any m K r a2 (Ns + Nt) c2 _).mono ?_); rintro e2 x2 ⟨rfl, hx2⟩; have K2 := Lib.hid (show Below y2.heap.size y2 x2 from below_call K1.out hx2); clear hx2)
    | (go_at_call 20; (with_reducible refine (HRX.out _ (HT.out.next K2.out) a2 c2 _ (HO2.out.below K2.out)).mono ?_); rintro e3 x3 ⟨rfl, hx3⟩; have K3 := Lib.hid (show Below y2.heap.size y2 x3 from below_call K2.out hx3); clear hx3)
    | (go_at_call 20; (with_reducible refine (HRK.out _ (below_call HW.out K3.out)).mono ?_); rintro e4 x4 ⟨rfl, hx4⟩; have K4 := Lib.hid (show Below y2.heap.size y2 x4 from below_call K3.out hx4); clear hx4))
  go_wp2
  go_ret
  exact ⟨ret_bool (by first | exact HD2.out | rfl), below_call HW.out K4.out⟩
theorem walk_MatrixSolves (ma ra ca : Int) (qa : Option Addr) (na ka : Nat) (xs : List Int) (mb rb cb : Int) (qb : Option Addr) (nb kb : Nat) (ys : List Int) (w : World) (h1 : IntsIn w qa na ka xs) (h2 : IntsIn w qb nb kb ys) (ht : Tab w) :
    Calls Tryd.prog 4 #[matV ma ra ca qa na ka, matV mb rb cb qb nb kb] w fun e w' => e = .returned (.bool true) ∧ Below w.heap.size w w' := by
  cases hs1 : smallB ra ca na with
  | false => exact solves_0 ma ra ca qa na ka mb rb cb qb nb kb w ht hs1
  | true =>
    cases hs2 : smallB rb cb nb with
    | false => exact solves_1 ma ra ca qa na ka mb rb cb qb nb kb w ht hs1 hs2
    | true =>
      cases hok : (okMat ma ra ca xs && okMat mb rb cb ys && decide (ma = mb) && decide (ra = rb)) with
      | false => exact solves_2 ma ra ca qa na ka mb rb cb qb nb kb w ht hs1 hs2 xs ys h1 h2 hok
      | true =>
        simp only [Bool.and_eq_true, decide_eq_true_eq] at hok
        obtain ⟨⟨⟨hoa, hob⟩, e1⟩, e2⟩ := hok
        obtain ⟨m, r, k, A, rfl, rfl, rfl, rfl, hxs, hk, hA⟩ := matIn h1 hoa
        obtain ⟨m2, r2, c, B, e3, e4, rfl, rfl, hys, hc, hB⟩ := matIn h2 hob
        obtain rfl : m = m2 := by omega
        obtain rfl : r = r2 := by omega
        subst e3; subst e4
        cases hns : noSol r k c (Mat.red m r (beside k A B) k).1 (Mat.red m r (beside k A B) k).2.length with
        | false => exact solves_3 qa ka qb kb w ht hA hk hB hc hs1 hs2 hns
        | true =>
          have hs1' := hs1
          have hs2' := hs2
          unfold smallB at hs1' hs2'
          simp only [Bool.and_eq_true, decide_eq_true_eq] at hs1' hs2'
          exact solves_4 qa ka qb kb w ht hA hk hB hc hs1 hs2 (by omega) (by omega) hns

/-! ### the frame: the arguments opened and shut -/
theorem contract_MatrixSolves (H : Type) (enc : TypeId × Value → H) (W : World) (base : Nat) (args : Array Value) (ds gs : List (DataW H)) (before : List MemPlace)
    (hval0 : ∀ (j : Nat) t v, Tryd.f4.params[j]? = some t → args[j]? = some v → Value.okWide Tryd.prog W .any base t v)
    (hW : DataW.Whole enc Tryd.prog Tryd.f4.params.toList Rows.matrixSolvesSpec.vars false W args.toList ds gs before) (hL : laidMetH Tryd.prog Rows.matrixSolvesRow.laid W) :
    Calls Tryd.prog 4 args W fun e W' => ∃ v, e = .returned v ∧ Rows.matrixSolvesSpec.post enc Tryd.prog Tryd.f4 false true false false W args v W' := by
  have hval : ∀ (j : Nat) t v, Tryd.f4.params[j]? = some t → args[j]? = some v → Value.okWide Tryd.prog W .any base t v := hval0
  have hW' := hW
  obtain ⟨p, q, hA0, hV, rfl, hfz, hnd⟩ := hW
  have hA : DataW.TrodAll enc Tryd.prog W 0 (fun _ => true) true Tryd.f4.params.toList args.toList ds p := hA0
  rw [Tryd.params4] at hA hval
  obtain ⟨v0, vs0, d0, ds0, p0, q0, hargs, rfl, rfl, h0, r0⟩ := trodAll_cons hA
  obtain ⟨v1, vs1, d1, ds1, p1, q1, rfl, rfl, rfl, h1, r1⟩ := trodAll_cons r0
  obtain ⟨rfl, rfl, rfl⟩ := trodAll_nil r1
  obtain rfl : args = #[v0, v1] := by cases args; simp_all
  obtain ⟨rfl, rfl⟩ := trodVars_none hV
  have k0 := h0
  have lt0 : ∀ x ∈ p0, x.block < W.heap.size := by obtain ⟨m, hm⟩ := k0; exact DataW.trod_lt m _ _ _ hm
  have k1 := h1
  have lt1 : ∀ x ∈ p1, x.block < W.heap.size := by obtain ⟨m, hm⟩ := k1; exact DataW.trod_lt m _ _ _ hm
  obtain ⟨cs0, rfl, _⟩ := okWide_struct Tryd.underlying24 (hval 0 24 v0 rfl rfl)
  obtain ⟨fuel0, hf0⟩ := h0
  obtain ⟨mm0, mr0, mc0, ma0, mn0, mk0, mx0, hcs0, hin0⟩ := open_matrix hf0
  obtain rfl : cs0 = #[.int .i64 mm0, .int .i64 mr0, .int .i64 mc0, .slice ma0 mn0 mk0] := by apply Array.toList_inj.1; simpa [Value.cells] using hcs0
  obtain ⟨cs1, rfl, _⟩ := okWide_struct Tryd.underlying24 (hval 1 24 v1 rfl rfl)
  obtain ⟨fuel1, hf1⟩ := h1
  obtain ⟨mm1, mr1, mc1, ma1, mn1, mk1, mx1, hcs1, hin1⟩ := open_matrix hf1
  obtain rfl : cs1 = #[.int .i64 mm1, .int .i64 mr1, .int .i64 mc1, .slice ma1 mn1 mk1] := by apply Array.toList_inj.1; simpa [Value.cells] using hcs1
  refine (walk_MatrixSolves mm0 mr0 mc0 ma0 mn0 mk0 mx0 mm1 mr1 mc1 ma1 mn1 mk1 mx1 W hin0 hin1 (tab_of hL)).mono fun e W' ⟨he, bel⟩ => ?_
  subst he
  exact ⟨_, rfl, _, _, _, [], _, [], hW', trodAll_mk1 (shut_bool Tryd.underlying4 _), (trodAll_cons_mk (Below.trod laidOut (by kernel_rfl) (of_decide_eq_true (by kernel_rfl)) k0 bel lt0) (trodAll_cons_mk (Below.trod laidOut (by kernel_rfl) (of_decide_eq_true (by kernel_rfl)) k1 bel lt1) trodAll_mk0)), rfl, bel.frame _, fun h => by cases h⟩
theorem laid_MatrixSolves (os : Os) : laidMet Tryd.prog Rows.matrixSolvesRow.laid ((laidWorld os).forCall (fun _ _ => 0) ⟨#[], #[.agg #[.int .i64 0, .int .i64 0, .int .i64 0, .slice none 0 0], .agg #[.int .i64 0, .int .i64 0, .int .i64 0, .slice none 0 0]], []⟩).memory :=
  laidMet_of_run' 8 (by kernel_rfl) (by kernel_rfl)
theorem reads_MatrixSolves (os : Os) {H : Type} (enc : TypeId × Value → H) : ∃ places, DataW.whole enc Tryd.prog ((laidWorld os).forCall (fun _ _ => 0) ⟨#[], #[.agg #[.int .i64 0, .int .i64 0, .int .i64 0, .slice none 0 0], .agg #[.int .i64 0, .int .i64 0, .int .i64 0, .slice none 0 0]], []⟩).memory Tryd.f4.params.toList Rows.matrixSolvesSpec.vars false (#[.agg #[.int .i64 0, .int .i64 0, .int .i64 0, .slice none 0 0], .agg #[.int .i64 0, .int .i64 0, .int .i64 0, .slice none 0 0]] : Array Value).toList 8 = some ([.agg [.lit (.int .i64 0), .lit (.int .i64 0), .lit (.int .i64 0), .nil], .agg [.lit (.int .i64 0), .lit (.int .i64 0), .lit (.int .i64 0), .nil]], [], places) :=
  ⟨[], by kernel_rfl⟩
set_option maxRecDepth 100000 in
theorem lifted_MatrixSolves (os : Os) (started : os.Started) (H : Type) (enc : TypeId × Value → H) (F : Stop.Interp) :
    ReturnsInHanded {} Tryd.checked os 4 .any ((OpenSpec.ofChange Rows.matrixSolvesSpec).preRow enc Tryd.prog Tryd.f4 Rows.matrixSolvesRow.domain false Rows.matrixSolvesRow.laid) (((OpenSpec.ofChange Rows.matrixSolvesSpec).at F).post enc Tryd.prog Tryd.f4 false true false false) := by
  obtain ⟨places, hx⟩ := reads_MatrixSolves os enc
  refine returnsInHanded_of_row (C := Tryd.checked) (s := OpenSpec.ofChange Rows.matrixSolvesSpec) own started (by kernel_rfl) Tryd.func4
    (witness_row_at (enc := enc) (C := Tryd.checked) false (laidWorld os) #[.agg #[.int .i64 0, .int .i64 0, .int .i64 0, .slice none 0 0], .agg #[.int .i64 0, .int .i64 0, .int .i64 0, .slice none 0 0]] rfl (by kernel_rfl) (by kernel_rfl) (by kernel_rfl)
      (OpenSpec.preRow_of_cond 8 hx (by kernel_rfl) (fun k hk => by cases hk) (by kernel_rfl) (laid_MatrixSolves os))) ?_
  intro W base args ds gs before hval hW _ hcond _ hL _ _
  exact contract_MatrixSolves H enc W base args ds gs before hval hW hL

theorem said_MatrixSolves : Rows.MatrixSolvesSaid :=
  OpenClaim.holds_of_cond 4 Tryd.f4 rfl rfl rfl rfl rfl rfl rfl ⟨rfl, rfl, rfl, rfl, rfl⟩ rfl rfl rfl rfl rfl (by kernel_rfl) Tryd.func4 (by kernel_rfl)
    (of_decide_eq_true (by kernel_rfl)) (by unfold Func.isWrapper; first | (rw [if_pos (by decide +kernel)]; kernel_rfl) | (rw [if_neg (by decide +kernel)]; exact ⟨rfl, rfl⟩))
    (fun os started H enc _ F => by rw [OpenClaim.pre_eq_preRow]; exact lifted_MatrixSolves os started H enc F)
theorem plain_MatrixSolves (f : FuncId) (fn : Func) (hf : Tryd.pinned.checked.prog.funcNamed "solvent/solventlaw06.MatrixSolves" = some f) (hfn : Tryd.pinned.checked.prog.funcs[f]? = some fn) :
    false = Tryd.pinned.checked.prog.looks [] ∧ ∀ (j : Nat) t, fn.params[j]? = some t → Tryd.pinned.checked.prog.wantsStandIn t = false := by
  obtain rfl : f = 4 := Option.some.inj ((show Tryd.prog.funcNamed "solvent/solventlaw06.MatrixSolves" = some 4 by kernel_rfl).symm.trans hf) |>.symm
  obtain rfl : fn = Tryd.f4 := (Option.some.inj (Tryd.func4.symm.trans hfn)).symm
  refine ⟨by kernel_rfl, fun j t ht => ?_⟩
  rw [Tryd.params4] at ht
  have hm := Array.mem_of_getElem? ht
  simp only [List.mem_toArray, List.mem_cons, List.not_mem_nil, or_false, or_self] at hm
  subst hm
  exact (show Tryd.prog.wantsStandIn 24 = false by kernel_rfl)
theorem proved_MatrixSolves : Rows.MatrixSolvesCardSaid :=
  Claim7.holds_tied_plain_at .later [] _ _ _ _ said_MatrixSolves (fun _ h => by cases h) (by kernel_rfl) (fun _ h => by cases h) matrixSolves_row_tie rfl ⟨rfl, rfl⟩ (by kernel_rfl) rfl plain_MatrixSolves (by kernel_rfl)

end Go.Proofs.YtaijjhddgecieaaDoor
