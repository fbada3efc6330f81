/- This text proves of solventlaw06.MatrixInverts: for every matrix the statement returns true: a valid square matrix has an inverse if and only if its rank is the number of its rows; the inverse inverts from both sides, and its inverse is the matrix; the argument reads as it did. (Printed by mkinv.py.) -/
import Derived.Test.YtaijjhddgecieaaDoorM25
import Derived.Test.YtaijjhddgecieaaDoorMatJ
import Derived.Test.YtaijjhddgecieaaDoorOpenM
import Derived.Test.YtaijjhddgecieaaDoorFldT
import Derived.Deep.RegionHeld3
namespace Go.Proofs.YtaijjhddgecieaaDoor
set_option linter.unusedSimpArgs false
set_option linter.unusedVariables false
open Go.ChangeShapes Go.WideShapes Go.ChangeAt Go.RowKit Go.Lib

set_option maxRecDepth 100000 in
set_option maxHeartbeats 6400000 in
theorem inverts_0 (ma ra ca : Int) (qa : Option Addr) (na ka : Nat) (xs : List Int) (w : World) (ht : Tab w) (h1 : IntsIn w qa na ka xs) (hs : smallB ra ca na = false) :
    Calls Tryd.prog 5 #[matV ma ra ca qa na ka] w fun e w' => e = .returned (.bool true) ∧ Below w.heap.size w w' := by
  have HT := Lib.hid ht
  have HW := Lib.hid (Below.refl w.heap.size w)
  have hp := ht.lt
  have HSM := Lib.hid (fun W => small_any ma ra ca qa na ka W)
  rw [hs] at HSM
  unfold matV at HSM ⊢
  clear ht h1 hs
  go_enter Tryd.func5, Tryd.ntmps5
  go_wp2_with fail
  refine (HSM.out _).mono ?_
  rintro e v1 ⟨rfl, hb⟩
  have hcb : Below w.heap.size w v1 := below_call ((Below.refl _ w).alloc (Nat.le_refl _) _) hb
  have HT := Lib.hid (HT.out.next hcb)
  have HW := Lib.hid (below_call HW.out hcb)
  have HBA := Lib.hid ((show Row (w.alloc (.cells (matC ma ra ca qa na ka) 24)) (w.heap.size) 24 (matC ma ra ca qa na ka) from Row.made _ _ (by simp)).below hb (by simp <;> omega))
  clear hb hcb
  obtain ⟨c3a, c3b, c3c, c3d⟩ := mbox HBA.out
  go_wp2_with fail
  clear c3a c3b c3c c3d
  refine (sanity6_any _ HT.out).mono ?_
  rintro e v2 ⟨rfl, hb⟩
  have hcb : Below v1.heap.size v1 v2 := below_call (Below.refl _ v1) hb
  have HT := Lib.hid (HT.out.next hcb)
  have HW := Lib.hid (below_call HW.out hcb)
  have HBA := Lib.hid (HBA.out.below hcb HBA.out.lt)
  clear hb hcb
  go_wp2
  go_ret
  exact ⟨rfl, HW.out⟩
set_option maxRecDepth 100000 in
set_option maxHeartbeats 6400000 in
theorem inverts_1 (ma ra ca : Int) (qa : Option Addr) (na ka : Nat) (xs : List Int) (w : World) (ht : Tab w) (h1 : IntsIn w qa na ka xs) (hs : smallB ra ca na = true) (hv : okMat ma ra ca xs = false) :
    Calls Tryd.prog 5 #[matV ma ra ca qa na ka] w fun e w' => e = .returned (.bool true) ∧ Below w.heap.size w w' := by
  have HT := Lib.hid ht
  have HW := Lib.hid (Below.refl w.heap.size w)
  have hp := ht.lt
  have HSM := Lib.hid (fun W => small_any ma ra ca qa na ka W)
  rw [hs] at HSM
  have HVL := Lib.hid (fun (W : World) (hb : Below w.heap.size w W) => rvalid6_any ma ra ca qa na ka xs W h1.1 h1.le ((h1.2.2.2.2.below hb).more hb.size))
  rw [hv] at HVL
  unfold matV at HSM HVL ⊢
  clear ht h1 hs hv
  go_enter Tryd.func5, Tryd.ntmps5
  go_wp2_with fail
  refine (HSM.out _).mono ?_
  rintro e v4 ⟨rfl, hb⟩
  have hcb : Below w.heap.size w v4 := below_call ((Below.refl _ w).alloc (Nat.le_refl _) _) hb
  have HT := Lib.hid (HT.out.next hcb)
  have HW := Lib.hid (below_call HW.out hcb)
  have HBA := Lib.hid ((show Row (w.alloc (.cells (matC ma ra ca qa na ka) 24)) (w.heap.size) 24 (matC ma ra ca qa na ka) from Row.made _ _ (by simp)).below hb (by simp <;> omega))
  clear hb hcb
  obtain ⟨c6a, c6b, c6c, c6d⟩ := mbox HBA.out
  go_wp2_with fail
  clear c6a c6b c6c c6d
  refine (HVL.out _ HW.out).mono ?_
  rintro e v5 ⟨rfl, hb⟩
  have hcb : Below v4.heap.size v4 v5 := below_call (Below.refl _ v4) hb
  have HT := Lib.hid (HT.out.next hcb)
  have HW := Lib.hid (below_call HW.out hcb)
  have HBA := Lib.hid (HBA.out.below hcb HBA.out.lt)
  clear hb hcb
  obtain ⟨c8a, c8b, c8c, c8d⟩ := mbox HBA.out
  go_wp2_with fail
  clear c8a c8b c8c c8d
  refine (sanity6_any _ HT.out).mono ?_
  rintro e v7 ⟨rfl, hb⟩
  have hcb : Below v5.heap.size v5 v7 := below_call (Below.refl _ v5) hb
  have HT := Lib.hid (HT.out.next hcb)
  have HW := Lib.hid (below_call HW.out hcb)
  have HBA := Lib.hid (HBA.out.below hcb HBA.out.lt)
  clear hb hcb
  go_wp2
  go_ret
  exact ⟨rfl, HW.out⟩
set_option maxRecDepth 100000 in
set_option maxHeartbeats 6400000 in
theorem inverts_2 (ma ra ca : Int) (qa : Option Addr) (na ka : Nat) (xs : List Int) (w : World) (ht : Tab w) (h1 : IntsIn w qa na ka xs) (hs : smallB ra ca na = true) (hv : okMat ma ra ca xs = true) (hd1 : (ra != ca) = true) :
    Calls Tryd.prog 5 #[matV ma ra ca qa na ka] w fun e w' => e = .returned (.bool true) ∧ Below w.heap.size w w' := by
  have HT := Lib.hid ht
  have HW := Lib.hid (Below.refl w.heap.size w)
  have hp := ht.lt
  have HSM := Lib.hid (fun W => small_any ma ra ca qa na ka W)
  rw [hs] at HSM
  have HVL := Lib.hid (fun (W : World) (hb : Below w.heap.size w W) => rvalid6_any ma ra ca qa na ka xs W h1.1 h1.le ((h1.2.2.2.2.below hb).more hb.size))
  rw [hv] at HVL
  unfold matV at HSM HVL ⊢
  clear ht h1 hs hv
  go_enter Tryd.func5, Tryd.ntmps5
  go_wp2_with fail
  refine (HSM.out _).mono ?_
  rintro e v9 ⟨rfl, hb⟩
  have hcb : Below w.heap.size w v9 := below_call ((Below.refl _ w).alloc (Nat.le_refl _) _) hb
  have HT := Lib.hid (HT.out.next hcb)
  have HW := Lib.hid (below_call HW.out hcb)
  have HBA := Lib.hid ((show Row (w.alloc (.cells (matC ma ra ca qa na ka) 24)) (w.heap.size) 24 (matC ma ra ca qa na ka) from Row.made _ _ (by simp)).below hb (by simp <;> omega))
  clear hb hcb
  obtain ⟨c11a, c11b, c11c, c11d⟩ := mbox HBA.out
  go_wp2_with fail
  clear c11a c11b c11c c11d
  refine (HVL.out _ HW.out).mono ?_
  rintro e v10 ⟨rfl, hb⟩
  have hcb : Below v9.heap.size v9 v10 := below_call (Below.refl _ v9) hb
  have HT := Lib.hid (HT.out.next hcb)
  have HW := Lib.hid (below_call HW.out hcb)
  have HBA := Lib.hid (HBA.out.below hcb HBA.out.lt)
  clear hb hcb
  obtain ⟨c13a, c13b, c13c, c13d⟩ := mbox HBA.out
  go_wp2_with fail
  clear c13a c13b c13c c13d
  refine (sanity6_any _ HT.out).mono ?_
  rintro e v12 ⟨rfl, hb⟩
  have hcb : Below v10.heap.size v10 v12 := below_call (Below.refl _ v10) hb
  have HT := Lib.hid (HT.out.next hcb)
  have HW := Lib.hid (below_call HW.out hcb)
  have HBA := Lib.hid (HBA.out.below hcb HBA.out.lt)
  clear hb hcb
  go_wp2
  go_ret
  exact ⟨rfl, HW.out⟩
set_option maxRecDepth 100000 in
set_option maxHeartbeats 6400000 in
theorem inverts_3 {m n : Nat} {A : Nat → Nat → Nat} (qa : Option Addr) (ka : Nat) (w : World) (ht : Tab w) (hA : MatR w w.heap.size m n n qa ka A) (hs : smallB n n (n * n) = true) (hrk : Mat.rk m n n A < n) :
    Calls Tryd.prog 5 #[matV m n n qa (n * n) ka] w fun e w' => e = .returned (.bool true) ∧ Below w.heap.size w w' := by
  have HT := Lib.hid ht
  have HW := Lib.hid (Below.refl w.heap.size w)
  have hp := ht.lt
  have hn := hA.hr
  have HSM := Lib.hid (fun W => small_any m n n qa (n * n) ka W)
  rw [hs] at HSM
  have hnn : n * n ≤ 32 * 32 := Nat.mul_le_mul hn hn
  have HVL := Lib.hid (fun (W : World) (hb : Below w.heap.size w W) => rvalid_yes hA hn W hb hb.size)
  have HRK := Lib.hid (fun (W : World) (hb : Below w.heap.size w W) => rank_yes qa W (ht.next hb) ((hA.below hb).more hb.size) hn)
  have HIN := Lib.hid (fun (W : World) (hb : Below w.heap.size w W) => show Calls Tryd.prog 22 #[matV m n n qa (n * n) ka] W fun e w' => e = .returned (outV nilM 10) ∧ Below W.heap.size W w' from (inverse_yes qa ka W (ht.next hb) ((hA.below hb).more hb.size)).mono (by
    rintro e w' ⟨h | ⟨h, _⟩, hb⟩
    · exact ⟨h.2, hb⟩
    · exact absurd h (by unfold Mat.rk at hrk; omega)))
  obtain ⟨R, hR⟩ : ∃ R, (Mat.red m n A n).2.length = R := ⟨_, rfl⟩
  unfold Mat.rk at hrk
  rw [hR] at HRK hrk
  have HD2 := Lib.hid (show decide (R < n) = true from decide_eq_true hrk)
  obtain ⟨N, hN⟩ : ∃ N, n * n = N := ⟨_, rfl⟩
  rw [hN] at HSM HVL HRK HIN ⊢
  unfold matV at HSM HVL HRK HIN ⊢
  clear ht hA hs hN hnn hR hrk
  go_enter Tryd.func5, Tryd.ntmps5
  go_wp2_with fail
  refine (HSM.out _).mono ?_
  rintro e v14 ⟨rfl, hb⟩
  have hcb : Below w.heap.size w v14 := below_call ((Below.refl _ w).alloc (Nat.le_refl _) _) hb
  have HT := Lib.hid (HT.out.next hcb)
  have HW := Lib.hid (below_call HW.out hcb)
  have HBA := Lib.hid ((show Row (w.alloc (.cells (matC m n n qa N ka) 24)) (w.heap.size) 24 (matC m n n qa N ka) from Row.made _ _ (by simp)).below hb (by simp <;> omega))
  clear hb hcb
  obtain ⟨c16a, c16b, c16c, c16d⟩ := mbox HBA.out
  go_wp2_with fail
  clear c16a c16b c16c c16d
  refine (HVL.out _ HW.out).mono ?_
  rintro e v15 ⟨rfl, hb⟩
  have hcb : Below v14.heap.size v14 v15 := below_call (Below.refl _ v14) hb
  have HT := Lib.hid (HT.out.next hcb)
  have HW := Lib.hid (below_call HW.out hcb)
  have HBA := Lib.hid (HBA.out.below hcb HBA.out.lt)
  clear hb hcb
  obtain ⟨c18a, c18b, c18c, c18d⟩ := mbox HBA.out
  go_wp2_with fail
  clear c18a c18b c18c c18d
  refine (HIN.out _ HW.out).mono ?_
  rintro e v17 ⟨rfl, hb⟩
  have hcb : Below v15.heap.size v15 v17 := below_call (Below.refl _ v15) hb
  have HT := Lib.hid (HT.out.next hcb)
  have HW := Lib.hid (below_call HW.out hcb)
  have HBA := Lib.hid (HBA.out.below hcb HBA.out.lt)
  clear hb hcb
  obtain ⟨c9a, c9b, c9c, c9d⟩ := mbox HBA.out
  have c9l := HBA.out.lt
  go_wp2_with fail
  clear c9a c9b c9c c9d c9l
  obtain ⟨v19, hE⟩ : ∃ wE, wE = (v17.alloc (.cells (matC 0 0 0 none 0 0) 24)) := ⟨_, rfl⟩
  rw [← hE]
  have hcb : Below v17.heap.size v17 v19 := by rw [hE]; exact ((Below.refl _ v17).alloc (Nat.le_refl _) _)
  have HT := Lib.hid (HT.out.next hcb)
  have HW := Lib.hid (below_call HW.out hcb)
  have HBA := Lib.hid (HBA.out.below hcb HBA.out.lt)
  clear hcb hE
  have HXS := Lib.hid (fun (wn : World) (h : Below v19.heap.size v19 wn) => (mbox (HBA.out.below h HBA.out.lt) : (wn.cell? ⟨w.heap.size, 0, none⟩ = some (.int .i64 m) ∧ wn.cell? ⟨w.heap.size, 1, none⟩ = some (.int .i64 n) ∧ wn.cell? ⟨w.heap.size, 2, none⟩ = some (.int .i64 n) ∧ wn.cell? ⟨w.heap.size, 3, none⟩ = some (.slice qa N ka))))
  go_region_held3 (fun wn => (wn.cell? ⟨w.heap.size, 0, none⟩ = some (.int .i64 m) ∧ wn.cell? ⟨w.heap.size, 1, none⟩ = some (.int .i64 n) ∧ wn.cell? ⟨w.heap.size, 2, none⟩ = some (.int .i64 n) ∧ wn.cell? ⟨w.heap.size, 3, none⟩ = some (.slice qa N ka))) (first | with_reducible exact HXS.out _ K2.out | with_reducible exact HXS.out _ K1.out | with_reducible exact HXS.out _ (Below.refl _ _).drew) (first
    | (go_at_call 14; (with_reducible refine (sanity6_any _ (HT.out.next (Below.refl _ _).drew)).mono ?_); rintro e1 x1 ⟨rfl, hx1⟩; have K1 := Lib.hid (show Below v19.heap.size v19 x1 from below_call (Below.refl _ _).drew hx1); clear hx1)
    | (go_at_call 20; (with_reducible refine (HRK.out _ (below_call HW.out K1.out)).mono ?_); rintro e2 x2 ⟨rfl, hx2⟩; have K2 := Lib.hid (show Below v19.heap.size v19 x2 from below_call K1.out hx2); clear hx2))
  go_wp2
  go_ret
  exact ⟨ret_bool HD2.out, below_call HW.out K2.out⟩
/-- Inverse of a matrix of full rank -/
theorem inverse_full {m n : Nat} {A : Nat → Nat → Nat} (q : Option Addr) (k : Nat) (w : World) (ht : Tab w) (hA : MatR w w.heap.size m n n q k A) (hrk : n ≤ Mat.rk m n n A) :
    Calls Tryd.prog 22 #[matV m n n q (n * n) k] w fun e w' => ∃ g, e = .returned (outV (matV m n n (some ⟨g, 0, none⟩) (n * n) (n * n)) 0) ∧ Cells w' g (n * n) (Mat.flat n (solTo n (Mat.red m n (beside n A Mat.one) n).1 (Mat.red m n (beside n A Mat.one) n).2 n)) ∧ Below w.heap.size w w' := by
  have hns := Mat.noSol_square (B := Mat.one) (c := n) hrk
  refine (inverse_yes q k w ht hA).mono ?_
  rintro e w' ⟨h | ⟨_, h | ⟨_, g, rfl, hg, hc⟩⟩, hb⟩
  · unfold Mat.rk at hrk
    have := h.1
    omega
  · rw [hns] at h; cases h.1
  · exact ⟨g, rfl, hc, hb⟩
set_option maxRecDepth 100000 in
set_option maxHeartbeats 12800000 in
theorem inverts_4 {m n : Nat} {A : Nat → Nat → Nat} (qa : Option Addr) (ka : Nat) (w : World) (ht : Tab w) (hA : MatR w w.heap.size m n n qa ka A) (hs : smallB n n (n * n) = true) (hrk : n ≤ Mat.rk m n n A) :
    Calls Tryd.prog 5 #[matV m n n qa (n * n) ka] w fun e w' => e = .returned (.bool true) ∧ Below w.heap.size w w' := by
  have HT := Lib.hid ht
  have HW := Lib.hid (Below.refl w.heap.size w)
  have hp := ht.lt
  have hn := hA.hr
  have HSM := Lib.hid (fun W => small_any m n n qa (n * n) ka W)
  rw [hs] at HSM
  have hnn : n * n ≤ 32 * 32 := Nat.mul_le_mul hn hn
  have HVL := Lib.hid (fun (W : World) (hb : Below w.heap.size w W) => rvalid_yes hA hn W hb hb.size)
  have HRK := Lib.hid (fun (W : World) (hb : Below w.heap.size w W) => rank_yes qa W (ht.next hb) ((hA.below hb).more hb.size) hn)
  have hR : (Mat.red m n A n).2.length = n := Nat.le_antisymm (Mat.rk_le_rows hA.hm hA.ok) hrk
  rw [hR] at HRK
  obtain ⟨oX, eAX, eXA, hX⟩ := Mat.inverts hA.hm hA.ok hrk
  have HIN := Lib.hid (fun (W : World) (hb : Below w.heap.size w W) => inverse_full qa ka W (ht.next hb) ((hA.below hb).more hb.size) hrk)
  generalize solTo n (Mat.red m n (beside n A Mat.one) n).1 (Mat.red m n (beside n A Mat.one) n).2 n = X at oX eAX eXA hX HIN
  obtain ⟨oY, eXY, _, _⟩ := Mat.inverts hA.hm oX hX
  have HIX := Lib.hid (fun (W : World) (ht2 : Tab W) (g : Nat) (hc : Cells W g (n * n) (Mat.flat n X)) => inverse_full (some ⟨g, 0, none⟩) (n * n) W ht2 (MatR.of_cells hc hc.lt hA.hm hn (by omega) oX) hX)
  generalize solTo n (Mat.red m n (beside n X Mat.one) n).1 (Mat.red m n (beside n X Mat.one) n).2 n = Y at oY eXY HIX
  have eYA : Mat.Eq n n Y A := (Mat.one_prod hA.hm oY).symm.trans ((Mat.prod_congr eAX.symm (Mat.Eq.refl _ _ _)).trans ((Mat.prod_assoc hA.hm hA.ok oX oY).trans ((Mat.prod_congr (Mat.Eq.refl _ _ _) eXY).trans (Mat.prod_one hA.hm hA.ok))))
  have HON := Lib.hid (fun (W : World) => show Calls Tryd.prog 11 #[.int .i64 m, .int .i64 n] W fun e w' => ∃ g, e = .returned (outV (matV m n n (some ⟨g, 0, none⟩) (n * n) (n * n)) 0) ∧ Cells w' g (n * n) (Mat.flat n Mat.one) ∧ Below W.heap.size W w' from (rident_yes m n hA.hm hn W).mono (by
    rintro e w' ⟨g, rfl, _, hc, hb⟩
    exact ⟨g, rfl, hc, hb⟩))
  have HAX := Lib.hid (fun (W : World) (hb : Below w.heap.size w W) (ht2 : Tab W) (g : Nat) (hc : Cells W g (n * n) (Mat.flat n X)) => show Calls Tryd.prog 16 #[matV m n n qa (n * n) ka, matV m n n (some ⟨g, 0, none⟩) (n * n) (n * n)] W fun e w' => ∃ g, e = .returned (outV (matV m n n (some ⟨g, 0, none⟩) (n * n) (n * n)) 0) ∧ Cells w' g (n * n) (Mat.flat n (Mat.prod m n A X)) ∧ Below W.heap.size W w' from (mul_yes qa ka (some ⟨g, 0, none⟩) (n * n) W ht2 ((hA.below hb).more hb.size) (MatR.of_cells hc hc.lt hA.hm hn (by omega) oX) hn hn).mono (by
    rintro e w' ⟨g, rfl, _, hc, hb⟩
    exact ⟨g, rfl, hc, hb⟩))
  have HXA := Lib.hid (fun (W : World) (hb : Below w.heap.size w W) (ht2 : Tab W) (g : Nat) (hc : Cells W g (n * n) (Mat.flat n X)) => show Calls Tryd.prog 16 #[matV m n n (some ⟨g, 0, none⟩) (n * n) (n * n), matV m n n qa (n * n) ka] W fun e w' => ∃ g, e = .returned (outV (matV m n n (some ⟨g, 0, none⟩) (n * n) (n * n)) 0) ∧ Cells w' g (n * n) (Mat.flat n (Mat.prod m n X A)) ∧ Below W.heap.size W w' from (mul_yes (some ⟨g, 0, none⟩) (n * n) qa ka W ht2 (MatR.of_cells hc hc.lt hA.hm hn (by omega) oX) ((hA.below hb).more hb.size) hn hn).mono (by
    rintro e w' ⟨g, rfl, _, hc, hb⟩
    exact ⟨g, rfl, hc, hb⟩))
  have HS1 := Lib.hid (fun (W : World) (g1 g2 : Nat) (hc1 : Cells W g1 (n * n) (Mat.flat n (Mat.prod m n A X))) (hc2 : Cells W g2 (n * n) (Mat.flat n Mat.one)) => same_true (m := m) (r := n) (c := n) (k1 := n * n) (k2 := n * n) (cellsL_length n n _) (cellsL_inj.2 eAX) (by omega) (cells_rd hc1) (cells_rd hc2))
  have HS2 := Lib.hid (fun (W : World) (g1 g2 : Nat) (hc1 : Cells W g1 (n * n) (Mat.flat n (Mat.prod m n X A))) (hc2 : Cells W g2 (n * n) (Mat.flat n Mat.one)) => same_true (m := m) (r := n) (c := n) (k1 := n * n) (k2 := n * n) (cellsL_length n n _) (cellsL_inj.2 eXA) (by omega) (cells_rd hc1) (cells_rd hc2))
  have HS3 := Lib.hid (fun (W : World) (hb : Below w.heap.size w W) (g1 : Nat) (hc1 : Cells W g1 (n * n) (Mat.flat n Y)) => same_true (m := m) (r := n) (c := n) (k1 := n * n) (k2 := ka) (cellsL_length n n _) (cellsL_inj.2 eYA) (by omega) (cells_rd hc1) ((hA.rd.below hb).more hb.size))
  obtain ⟨N, hN⟩ : ∃ N, n * n = N := ⟨_, rfl⟩
  rw [hN] at HSM HVL HRK HIN HIX HON HAX HXA HS1 HS2 HS3 ⊢
  unfold matV at HSM HVL HRK HIN HIX HON HAX HXA HS1 HS2 HS3 ⊢
  clear ht hA hs hN hnn hR hrk oX eAX eXA hX oY eXY eYA
  go_enter Tryd.func5, Tryd.ntmps5
  go_wp2_with fail
  refine (HSM.out _).mono ?_
  rintro e v20 ⟨rfl, hb⟩
  have hcb : Below w.heap.size w v20 := below_call ((Below.refl _ w).alloc (Nat.le_refl _) _) hb
  have HT := Lib.hid (HT.out.next hcb)
  have HW := Lib.hid (below_call HW.out hcb)
  have HBA := Lib.hid ((show Row (w.alloc (.cells (matC m n n qa N ka) 24)) (w.heap.size) 24 (matC m n n qa N ka) from Row.made _ _ (by simp)).below hb (by simp <;> omega))
  clear hb hcb
  obtain ⟨c22a, c22b, c22c, c22d⟩ := mbox HBA.out
  go_wp2_with fail
  clear c22a c22b c22c c22d
  refine (HVL.out _ HW.out).mono ?_
  rintro e v21 ⟨rfl, hb⟩
  have hcb : Below v20.heap.size v20 v21 := below_call (Below.refl _ v20) hb
  have HT := Lib.hid (HT.out.next hcb)
  have HW := Lib.hid (below_call HW.out hcb)
  have HBA := Lib.hid (HBA.out.below hcb HBA.out.lt)
  clear hb hcb
  obtain ⟨c24a, c24b, c24c, c24d⟩ := mbox HBA.out
  go_wp2_with fail
  clear c24a c24b c24c c24d
  refine (HIN.out _ HW.out).mono ?_
  rintro e v23 ⟨gx, rfl, hcx, hb⟩
  have hcb : Below v21.heap.size v21 v23 := below_call (Below.refl _ v21) hb
  have HT := Lib.hid (HT.out.next hcb)
  have HW := Lib.hid (below_call HW.out hcb)
  have HBA := Lib.hid (HBA.out.below hcb HBA.out.lt)
  have HCx := Lib.hid hcx
  clear hcx
  clear hb hcb
  obtain ⟨c26a, c26b, c26c, c26d⟩ := mbox HBA.out
  have c26l := HBA.out.lt
  go_wp2_with fail
  clear c26a c26b c26c c26d c26l
  refine (HON.out _).mono ?_
  rintro e v25 ⟨go, rfl, hco, hb⟩
  have hcb : Below v23.heap.size v23 v25 := below_call ((Below.refl _ v23).alloc (Nat.le_refl _) _) hb
  have HT := Lib.hid (HT.out.next hcb)
  have HW := Lib.hid (below_call HW.out hcb)
  have HBA := Lib.hid (HBA.out.below hcb HBA.out.lt)
  have HCx := Lib.hid (HCx.out.below hcb HCx.out.lt)
  have HBX := Lib.hid ((show Row (v23.alloc (.cells (matC m n n (some ⟨gx, 0, none⟩) N N) 24)) (v23.heap.size) 24 (matC m n n (some ⟨gx, 0, none⟩) N N) from Row.made _ _ (by simp)).below hb (by simp <;> omega))
  have HCo := Lib.hid hco
  clear hco
  clear hb hcb
  obtain ⟨c28a, c28b, c28c, c28d⟩ := mbox HBA.out
  have c28l := HBA.out.lt
  obtain ⟨c29a, c29b, c29c, c29d⟩ := mbox HBX.out
  have c29l := HBX.out.lt
  go_wp2_with fail
  clear c28a c28b c28c c28d c28l c29a c29b c29c c29d c29l
  refine (HAX.out _ (HW.out.alloc (by first | exact HW.out.size | (have h9 := HW.out.size; simp <;> omega)) _) (HT.out.next ((Below.refl _ v25).alloc (Nat.le_refl _) _)) gx (HCx.out.alloc _)).mono ?_
  rintro e v27 ⟨gp, rfl, hcp, hb⟩
  have hcb : Below v25.heap.size v25 v27 := below_call ((Below.refl _ v25).alloc (Nat.le_refl _) _) hb
  have HT := Lib.hid (HT.out.next hcb)
  have HW := Lib.hid (below_call HW.out hcb)
  have HBA := Lib.hid (HBA.out.below hcb HBA.out.lt)
  have HCx := Lib.hid (HCx.out.below hcb HCx.out.lt)
  have HBX := Lib.hid (HBX.out.below hcb HBX.out.lt)
  have HCo := Lib.hid (HCo.out.below hcb HCo.out.lt)
  have HBO := Lib.hid ((show Row (v25.alloc (.cells (matC m n n (some ⟨go, 0, none⟩) N N) 24)) (v25.heap.size) 24 (matC m n n (some ⟨go, 0, none⟩) N N) from Row.made _ _ (by simp)).below hb (by simp <;> omega))
  have HCp := Lib.hid hcp
  clear hcp
  clear hb hcb
  obtain ⟨c31a, c31b, c31c, c31d⟩ := mbox HBA.out
  have c31l := HBA.out.lt
  obtain ⟨c32a, c32b, c32c, c32d⟩ := mbox HBX.out
  have c32l := HBX.out.lt
  obtain ⟨c33a, c33b, c33c, c33d⟩ := mbox HBO.out
  have c33l := HBO.out.lt
  go_wp2_with fail
  clear c31a c31b c31c c31d c31l c32a c32b c32c c32d c32l c33a c33b c33c c33d c33l
  refine (HXA.out _ (HW.out.alloc (by first | exact HW.out.size | (have h9 := HW.out.size; simp <;> omega)) _) (HT.out.next ((Below.refl _ v27).alloc (Nat.le_refl _) _)) gx (HCx.out.alloc _)).mono ?_
  rintro e v30 ⟨gq, rfl, hcq, hb⟩
  have hcb : Below v27.heap.size v27 v30 := below_call ((Below.refl _ v27).alloc (Nat.le_refl _) _) hb
  have HT := Lib.hid (HT.out.next hcb)
  have HW := Lib.hid (below_call HW.out hcb)
  have HBA := Lib.hid (HBA.out.below hcb HBA.out.lt)
  have HCx := Lib.hid (HCx.out.below hcb HCx.out.lt)
  have HBX := Lib.hid (HBX.out.below hcb HBX.out.lt)
  have HCo := Lib.hid (HCo.out.below hcb HCo.out.lt)
  have HBO := Lib.hid (HBO.out.below hcb HBO.out.lt)
  have HCp := Lib.hid (HCp.out.below hcb HCp.out.lt)
  have HBP := Lib.hid ((show Row (v27.alloc (.cells (matC m n n (some ⟨gp, 0, none⟩) N N) 24)) (v27.heap.size) 24 (matC m n n (some ⟨gp, 0, none⟩) N N) from Row.made _ _ (by simp)).below hb (by simp <;> omega))
  have HCq := Lib.hid hcq
  clear hcq
  clear hb hcb
  obtain ⟨c35a, c35b, c35c, c35d⟩ := mbox HBA.out
  have c35l := HBA.out.lt
  obtain ⟨c36a, c36b, c36c, c36d⟩ := mbox HBX.out
  have c36l := HBX.out.lt
  obtain ⟨c37a, c37b, c37c, c37d⟩ := mbox HBO.out
  have c37l := HBO.out.lt
  obtain ⟨c38a, c38b, c38c, c38d⟩ := mbox HBP.out
  have c38l := HBP.out.lt
  go_wp2_with fail
  clear c35a c35b c35c c35d c35l c36a c36b c36c c36d c36l c37a c37b c37c c37d c37l c38a c38b c38c c38d c38l
  refine (HIX.out _ (HT.out.next ((Below.refl _ v30).alloc (Nat.le_refl _) _)) gx (HCx.out.alloc _)).mono ?_
  rintro e v34 ⟨gy, rfl, hcy, hb⟩
  have hcb : Below v30.heap.size v30 v34 := below_call ((Below.refl _ v30).alloc (Nat.le_refl _) _) hb
  have HT := Lib.hid (HT.out.next hcb)
  have HW := Lib.hid (below_call HW.out hcb)
  have HBA := Lib.hid (HBA.out.below hcb HBA.out.lt)
  have HCx := Lib.hid (HCx.out.below hcb HCx.out.lt)
  have HBX := Lib.hid (HBX.out.below hcb HBX.out.lt)
  have HCo := Lib.hid (HCo.out.below hcb HCo.out.lt)
  have HBO := Lib.hid (HBO.out.below hcb HBO.out.lt)
  have HCp := Lib.hid (HCp.out.below hcb HCp.out.lt)
  have HBP := Lib.hid (HBP.out.below hcb HBP.out.lt)
  have HCq := Lib.hid (HCq.out.below hcb HCq.out.lt)
  have HBQ := Lib.hid ((show Row (v30.alloc (.cells (matC m n n (some ⟨gq, 0, none⟩) N N) 24)) (v30.heap.size) 24 (matC m n n (some ⟨gq, 0, none⟩) N N) from Row.made _ _ (by simp)).below hb (by simp <;> omega))
  have HCy := Lib.hid hcy
  clear hcy
  clear hb hcb
  obtain ⟨c39a, c39b, c39c, c39d⟩ := mbox HBA.out
  have c39l := HBA.out.lt
  obtain ⟨c40a, c40b, c40c, c40d⟩ := mbox HBX.out
  have c40l := HBX.out.lt
  obtain ⟨c41a, c41b, c41c, c41d⟩ := mbox HBO.out
  have c41l := HBO.out.lt
  obtain ⟨c42a, c42b, c42c, c42d⟩ := mbox HBP.out
  have c42l := HBP.out.lt
  obtain ⟨c43a, c43b, c43c, c43d⟩ := mbox HBQ.out
  have c43l := HBQ.out.lt
  go_wp2_with fail
  clear c39a c39b c39c c39d c39l c40a c40b c40c c40d c40l c41a c41b c41c c41d c41l c42a c42b c42c c42d c42l c43a c43b c43c c43d c43l
  obtain ⟨v44, hE⟩ : ∃ wE, wE = (v34.alloc (.cells (matC m n n (some ⟨gy, 0, none⟩) N N) 24)) := ⟨_, rfl⟩
  rw [← hE]
  have hcb : Below v34.heap.size v34 v44 := by rw [hE]; exact ((Below.refl _ v34).alloc (Nat.le_refl _) _)
  have HT := Lib.hid (HT.out.next hcb)
  have HW := Lib.hid (below_call HW.out hcb)
  have HBA := Lib.hid (HBA.out.below hcb HBA.out.lt)
  have HCx := Lib.hid (HCx.out.below hcb HCx.out.lt)
  have HBX := Lib.hid (HBX.out.below hcb HBX.out.lt)
  have HCo := Lib.hid (HCo.out.below hcb HCo.out.lt)
  have HBO := Lib.hid (HBO.out.below hcb HBO.out.lt)
  have HCp := Lib.hid (HCp.out.below hcb HCp.out.lt)
  have HBP := Lib.hid (HBP.out.below hcb HBP.out.lt)
  have HCq := Lib.hid (HCq.out.below hcb HCq.out.lt)
  have HBQ := Lib.hid (HBQ.out.below hcb HBQ.out.lt)
  have HCy := Lib.hid (HCy.out.below hcb HCy.out.lt)
  have HBY := Lib.hid (show Row v44 (v34.heap.size) 24 (matC m n n (some ⟨gy, 0, none⟩) N N) by rw [hE]; exact (show Row (v34.alloc (.cells (matC m n n (some ⟨gy, 0, none⟩) N N) 24)) (v34.heap.size) 24 (matC m n n (some ⟨gy, 0, none⟩) N N) from Row.made _ _ (by simp)))
  clear hcb hE
  have HXS := Lib.hid (fun (wn : World) (h : Below v44.heap.size v44 wn) => (⟨mbox (HBA.out.below h HBA.out.lt), mbox (HBO.out.below h HBO.out.lt), mbox (HBP.out.below h HBP.out.lt), mbox (HBQ.out.below h HBQ.out.lt), mbox (HBY.out.below h HBY.out.lt)⟩ : (wn.cell? ⟨w.heap.size, 0, none⟩ = some (.int .i64 m) ∧ wn.cell? ⟨w.heap.size, 1, none⟩ = some (.int .i64 n) ∧ wn.cell? ⟨w.heap.size, 2, none⟩ = some (.int .i64 n) ∧ wn.cell? ⟨w.heap.size, 3, none⟩ = some (.slice qa N ka)) ∧ (wn.cell? ⟨v25.heap.size, 0, none⟩ = some (.int .i64 m) ∧ wn.cell? ⟨v25.heap.size, 1, none⟩ = some (.int .i64 n) ∧ wn.cell? ⟨v25.heap.size, 2, none⟩ = some (.int .i64 n) ∧ wn.cell? ⟨v25.heap.size, 3, none⟩ = some (.slice (some ⟨go, 0, none⟩) N N)) ∧ (wn.cell? ⟨v27.heap.size, 0, none⟩ = some (.int .i64 m) ∧ wn.cell? ⟨v27.heap.size, 1, none⟩ = some (.int .i64 n) ∧ wn.cell? ⟨v27.heap.size, 2, none⟩ = some (.int .i64 n) ∧ wn.cell? ⟨v27.heap.size, 3, none⟩ = some (.slice (some ⟨gp, 0, none⟩) N N)) ∧ (wn.cell? ⟨v30.heap.size, 0, none⟩ = some (.int .i64 m) ∧ wn.cell? ⟨v30.heap.size, 1, none⟩ = some (.int .i64 n) ∧ wn.cell? ⟨v30.heap.size, 2, none⟩ = some (.int .i64 n) ∧ wn.cell? ⟨v30.heap.size, 3, none⟩ = some (.slice (some ⟨gq, 0, none⟩) N N)) ∧ (wn.cell? ⟨v34.heap.size, 0, none⟩ = some (.int .i64 m) ∧ wn.cell? ⟨v34.heap.size, 1, none⟩ = some (.int .i64 n) ∧ wn.cell? ⟨v34.heap.size, 2, none⟩ = some (.int .i64 n) ∧ wn.cell? ⟨v34.heap.size, 3, none⟩ = some (.slice (some ⟨gy, 0, none⟩) N N))))
  go_region_held3 (fun wn => (wn.cell? ⟨w.heap.size, 0, none⟩ = some (.int .i64 m) ∧ wn.cell? ⟨w.heap.size, 1, none⟩ = some (.int .i64 n) ∧ wn.cell? ⟨w.heap.size, 2, none⟩ = some (.int .i64 n) ∧ wn.cell? ⟨w.heap.size, 3, none⟩ = some (.slice qa N ka)) ∧ (wn.cell? ⟨v25.heap.size, 0, none⟩ = some (.int .i64 m) ∧ wn.cell? ⟨v25.heap.size, 1, none⟩ = some (.int .i64 n) ∧ wn.cell? ⟨v25.heap.size, 2, none⟩ = some (.int .i64 n) ∧ wn.cell? ⟨v25.heap.size, 3, none⟩ = some (.slice (some ⟨go, 0, none⟩) N N)) ∧ (wn.cell? ⟨v27.heap.size, 0, none⟩ = some (.int .i64 m) ∧ wn.cell? ⟨v27.heap.size, 1, none⟩ = some (.int .i64 n) ∧ wn.cell? ⟨v27.heap.size, 2, none⟩ = some (.int .i64 n) ∧ wn.cell? ⟨v27.heap.size, 3, none⟩ = some (.slice (some ⟨gp, 0, none⟩) N N)) ∧ (wn.cell? ⟨v30.heap.size, 0, none⟩ = some (.int .i64 m) ∧ wn.cell? ⟨v30.heap.size, 1, none⟩ = some (.int .i64 n) ∧ wn.cell? ⟨v30.heap.size, 2, none⟩ = some (.int .i64 n) ∧ wn.cell? ⟨v30.heap.size, 3, none⟩ = some (.slice (some ⟨gq, 0, none⟩) N N)) ∧ (wn.cell? ⟨v34.heap.size, 0, none⟩ = some (.int .i64 m) ∧ wn.cell? ⟨v34.heap.size, 1, none⟩ = some (.int .i64 n) ∧ wn.cell? ⟨v34.heap.size, 2, none⟩ = some (.int .i64 n) ∧ wn.cell? ⟨v34.heap.size, 3, none⟩ = some (.slice (some ⟨gy, 0, none⟩) N N))) (first | with_reducible exact HXS.out _ K5.out | with_reducible exact HXS.out _ K4.out | with_reducible exact HXS.out _ K3.out | with_reducible exact HXS.out _ K2.out | with_reducible exact HXS.out _ K1.out | with_reducible exact HXS.out _ (Below.refl _ _).drew) (first
    | (go_at_call 14; (with_reducible refine (sanity6_any _ (HT.out.next (Below.refl _ _).drew)).mono ?_); rintro e1 x1 ⟨rfl, hx1⟩; have K1 := Lib.hid (show Below v44.heap.size v44 x1 from below_call (Below.refl _ _).drew hx1); clear hx1)
    | (go_at_call 20; (with_reducible refine (HRK.out _ (below_call HW.out K1.out)).mono ?_); rintro e2 x2 ⟨rfl, hx2⟩; have K2 := Lib.hid (show Below v44.heap.size v44 x2 from below_call K1.out hx2); clear hx2)
    | (go_at_call 15; (with_reducible refine (HS1.out _ gp go (HCp.out.below K2.out HCp.out.lt) (HCo.out.below K2.out HCo.out.lt)).mono ?_); rintro e3 x3 ⟨rfl, hx3⟩; have K3 := Lib.hid (show Below v44.heap.size v44 x3 from below_call K2.out hx3); clear hx3)
    | (go_at_call 15; (with_reducible refine (HS2.out _ gq go (HCq.out.below K3.out HCq.out.lt) (HCo.out.below K3.out HCo.out.lt)).mono ?_); rintro e4 x4 ⟨rfl, hx4⟩; have K4 := Lib.hid (show Below v44.heap.size v44 x4 from below_call K3.out hx4); clear hx4)
    | (go_at_call 15; (with_reducible refine (HS3.out _ (below_call HW.out K4.out) gy (HCy.out.below K4.out HCy.out.lt)).mono ?_); rintro e5 x5 ⟨rfl, hx5⟩; have K5 := Lib.hid (show Below v44.heap.size v44 x5 from below_call K4.out hx5); clear hx5))
  go_wp2
  go_ret
  exact ⟨rfl, below_call HW.out K5.out⟩
theorem walk_MatrixInverts (ma ra ca : Int) (qa : Option Addr) (na ka : Nat) (xs : List Int) (w : World) (h1 : IntsIn w qa na ka xs) (ht : Tab w) :
    Calls Tryd.prog 5 #[matV ma ra ca qa na ka] w fun e w' => e = .returned (.bool true) ∧ Below w.heap.size w w' := by
  cases hs : smallB ra ca na with
  | false => exact inverts_0 ma ra ca qa na ka xs w ht h1 hs
  | true =>
    cases hv : okMat ma ra ca xs with
    | false => exact inverts_1 ma ra ca qa na ka xs w ht h1 hs hv
    | true =>
      cases hd1 : (ra != ca) with
      | true => exact inverts_2 ma ra ca qa na ka xs w ht h1 hs hv hd1
      | false =>
        rw [bne_eq_false_iff_eq] at hd1
        obtain ⟨m, n, c, A, rfl, rfl, rfl, rfl, hxs, hc, hA⟩ := matIn h1 hv
        obtain rfl : n = c := by omega
        by_cases hrk : Mat.rk m n n A < n
        · exact inverts_3 qa ka w ht hA hs hrk
        · exact inverts_4 qa ka w ht hA hs (by omega)

/-! ### the frame: the arguments opened and shut -/
theorem contract_MatrixInverts (H : Type) (enc : TypeId × Value → H) (W : World) (base : Nat) (args : Array Value) (ds gs : List (DataW H)) (before : List MemPlace)
    (hval0 : ∀ (j : Nat) t v, Tryd.f5.params[j]? = some t → args[j]? = some v → Value.okWide Tryd.prog W .any base t v)
    (hW : DataW.Whole enc Tryd.prog Tryd.f5.params.toList Rows.matrixInvertsSpec.vars false W args.toList ds gs before) (hL : laidMetH Tryd.prog Rows.matrixInvertsRow.laid W) :
    Calls Tryd.prog 5 args W fun e W' => ∃ v, e = .returned v ∧ Rows.matrixInvertsSpec.post enc Tryd.prog Tryd.f5 false true false false W args v W' := by
  have hval : ∀ (j : Nat) t v, Tryd.f5.params[j]? = some t → args[j]? = some v → Value.okWide Tryd.prog W .any base t v := hval0
  have hW' := hW
  obtain ⟨p, q, hA0, hV, rfl, hfz, hnd⟩ := hW
  have hA : DataW.TrodAll enc Tryd.prog W 0 (fun _ => true) true Tryd.f5.params.toList args.toList ds p := hA0
  rw [Tryd.params5] at hA hval
  obtain ⟨v0, vs0, d0, ds0, p0, q0, hargs, rfl, rfl, h0, r0⟩ := trodAll_cons hA
  obtain ⟨rfl, rfl, rfl⟩ := trodAll_nil r0
  obtain rfl : args = #[v0] := by cases args; simp_all
  obtain ⟨rfl, rfl⟩ := trodVars_none hV
  have k0 := h0
  have lt0 : ∀ x ∈ p0, x.block < W.heap.size := by obtain ⟨m, hm⟩ := k0; exact DataW.trod_lt m _ _ _ hm
  obtain ⟨cs0, rfl, _⟩ := okWide_struct Tryd.underlying24 (hval 0 24 v0 rfl rfl)
  obtain ⟨fuel0, hf0⟩ := h0
  obtain ⟨mm0, mr0, mc0, ma0, mn0, mk0, mx0, hcs0, hin0⟩ := open_matrix hf0
  obtain rfl : cs0 = #[.int .i64 mm0, .int .i64 mr0, .int .i64 mc0, .slice ma0 mn0 mk0] := by apply Array.toList_inj.1; simpa [Value.cells] using hcs0
  refine (walk_MatrixInverts mm0 mr0 mc0 ma0 mn0 mk0 mx0 W hin0 (tab_of hL)).mono fun e W' ⟨he, bel⟩ => ?_
  subst he
  exact ⟨_, rfl, _, _, _, [], _, [], hW', trodAll_mk1 (shut_bool Tryd.underlying4 _), (trodAll_cons_mk (Below.trod laidOut (by kernel_rfl) (of_decide_eq_true (by kernel_rfl)) k0 bel lt0) trodAll_mk0), rfl, bel.frame _, fun h => by cases h⟩
theorem laid_MatrixInverts (os : Os) : laidMet Tryd.prog Rows.matrixInvertsRow.laid ((laidWorld os).forCall (fun _ _ => 0) ⟨#[], #[.agg #[.int .i64 0, .int .i64 0, .int .i64 0, .slice none 0 0]], []⟩).memory :=
  laidMet_of_run' 8 (by kernel_rfl) (by kernel_rfl)
theorem reads_MatrixInverts (os : Os) {H : Type} (enc : TypeId × Value → H) : ∃ places, DataW.whole enc Tryd.prog ((laidWorld os).forCall (fun _ _ => 0) ⟨#[], #[.agg #[.int .i64 0, .int .i64 0, .int .i64 0, .slice none 0 0]], []⟩).memory Tryd.f5.params.toList Rows.matrixInvertsSpec.vars false (#[.agg #[.int .i64 0, .int .i64 0, .int .i64 0, .slice none 0 0]] : Array Value).toList 8 = some ([.agg [.lit (.int .i64 0), .lit (.int .i64 0), .lit (.int .i64 0), .nil]], [], places) :=
  ⟨[], by kernel_rfl⟩
set_option maxRecDepth 100000 in
theorem lifted_MatrixInverts (os : Os) (started : os.Started) (H : Type) (enc : TypeId × Value → H) (F : Stop.Interp) :
    ReturnsInHanded {} Tryd.checked os 5 .any ((OpenSpec.ofChange Rows.matrixInvertsSpec).preRow enc Tryd.prog Tryd.f5 Rows.matrixInvertsRow.domain false Rows.matrixInvertsRow.laid) (((OpenSpec.ofChange Rows.matrixInvertsSpec).at F).post enc Tryd.prog Tryd.f5 false true false false) := by
  obtain ⟨places, hx⟩ := reads_MatrixInverts os enc
  refine returnsInHanded_of_row (C := Tryd.checked) (s := OpenSpec.ofChange Rows.matrixInvertsSpec) own started (by kernel_rfl) Tryd.func5
    (witness_row_at (enc := enc) (C := Tryd.checked) false (laidWorld os) #[.agg #[.int .i64 0, .int .i64 0, .int .i64 0, .slice none 0 0]] rfl (by kernel_rfl) (by kernel_rfl) (by kernel_rfl)
      (OpenSpec.preRow_of_cond 8 hx (by kernel_rfl) (fun k hk => by cases hk) (by kernel_rfl) (laid_MatrixInverts os))) ?_
  intro W base args ds gs before hval hW _ hcond _ hL _ _
  exact contract_MatrixInverts H enc W base args ds gs before hval hW hL

theorem said_MatrixInverts : Rows.MatrixInvertsSaid :=
  OpenClaim.holds_of_cond 5 Tryd.f5 rfl rfl rfl rfl rfl rfl rfl ⟨rfl, rfl, rfl, rfl, rfl⟩ rfl rfl rfl rfl rfl (by kernel_rfl) Tryd.func5 (by kernel_rfl)
    (of_decide_eq_true (by kernel_rfl)) (by unfold Func.isWrapper; first | (rw [if_pos (by decide +kernel)]; kernel_rfl) | (rw [if_neg (by decide +kernel)]; exact ⟨rfl, rfl⟩))
    (fun os started H enc _ F => by rw [OpenClaim.pre_eq_preRow]; exact lifted_MatrixInverts os started H enc F)
theorem plain_MatrixInverts (f : FuncId) (fn : Func) (hf : Tryd.pinned.checked.prog.funcNamed "solvent/solventlaw06.MatrixInverts" = some f) (hfn : Tryd.pinned.checked.prog.funcs[f]? = some fn) :
    false = Tryd.pinned.checked.prog.looks [] ∧ ∀ (j : Nat) t, fn.params[j]? = some t → Tryd.pinned.checked.prog.wantsStandIn t = false := by
  obtain rfl : f = 5 := Option.some.inj ((show Tryd.prog.funcNamed "solvent/solventlaw06.MatrixInverts" = some 5 by kernel_rfl).symm.trans hf) |>.symm
  obtain rfl : fn = Tryd.f5 := (Option.some.inj (Tryd.func5.symm.trans hfn)).symm
  refine ⟨by kernel_rfl, fun j t ht => ?_⟩
  rw [Tryd.params5] at ht
  have hm := Array.mem_of_getElem? ht
  simp only [List.mem_toArray, List.mem_cons, List.not_mem_nil, or_false] at hm
  subst hm
  exact (show Tryd.prog.wantsStandIn 24 = false by kernel_rfl)
theorem proved_MatrixInverts : Rows.MatrixInvertsCardSaid :=
  Claim7.holds_tied_plain_at .later [] _ _ _ _ said_MatrixInverts (fun _ h => by cases h) (by kernel_rfl) (fun _ h => by cases h) matrixInverts_row_tie rfl ⟨rfl, rfl⟩ (by kernel_rfl) rfl plain_MatrixInverts (by kernel_rfl)

end Go.Proofs.YtaijjhddgecieaaDoor
