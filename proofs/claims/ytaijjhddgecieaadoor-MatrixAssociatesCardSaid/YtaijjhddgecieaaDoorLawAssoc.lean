/- This text proves of solventlaw06.MatrixAssociates: for every three matrices the statement returns true: the product is associative, and the transposed product is the product of the transposed factors in reverse order; the arguments read as they did. (Printed by mkassoc.py.) -/
import Derived.Test.YtaijjhddgecieaaDoorM25
import Derived.Test.YtaijjhddgecieaaDoorOpenM
import Derived.Test.YtaijjhddgecieaaDoorFldT
import Derived.Deep.RegionHeld3
namespace Go.Proofs.YtaijjhddgecieaaDoor
set_option linter.unusedSimpArgs false
set_option linter.unusedVariables false
open Go.ChangeShapes Go.WideShapes Go.ChangeAt Go.RowKit Go.Lib

set_option maxRecDepth 100000 in
set_option maxHeartbeats 6400000 in
theorem assoc_a (ma ra ca : Int) (qa : Option Addr) (na ka : Nat) (mb rb cb : Int) (qb : Option Addr) (nb kb : Nat) (mc rc cc : Int) (qc : Option Addr) (nc kc : Nat) (w : World) (ht : Tab w) (hs1 : smallB ra ca na = false) (mp1 rp1 cp1 : Int) (Np1 : Nat) (hm1 : ∀ W, Below w.heap.size w W → Calls Tryd.prog 16 #[matV ma ra ca qa na ka, matV mb rb cb qb nb kb] W fun e w' => (e = .returned (outV nilM 1) ∨ ∃ g, e = .returned (outV (matV mp1 rp1 cp1 (some ⟨g, 0, none⟩) Np1 Np1) 0)) ∧ Below W.heap.size W w') (mp2 rp2 cp2 : Int) (Np2 : Nat) (hm2 : ∀ W, Below w.heap.size w W → Calls Tryd.prog 16 #[matV mb rb cb qb nb kb, matV mc rc cc qc nc kc] W fun e w' => (e = .returned (outV nilM 1) ∨ ∃ g, e = .returned (outV (matV mp2 rp2 cp2 (some ⟨g, 0, none⟩) Np2 Np2) 0)) ∧ Below W.heap.size W w') :
    Calls Tryd.prog 6 #[matV ma ra ca qa na ka, matV mb rb cb qb nb kb, matV mc rc cc qc nc kc] w fun e w' => e = .returned (.bool true) ∧ Below w.heap.size w w' := by
  have HT := Lib.hid ht
  have HW := Lib.hid (Below.refl w.heap.size w)
  have hp := ht.lt
  have HSM1 := Lib.hid (fun W => small_any ma ra ca qa na ka W)
  rw [hs1] at HSM1
  have HM1 := Lib.hid hm1
  have HM2 := Lib.hid hm2
  unfold matV at HM1 HM2 HSM1 ⊢
  clear ht hm1 hm2 hs1
  go_enter Tryd.func6, Tryd.ntmps6
  go_wp2_with fail
  refine (HSM1.out _).mono ?_
  rintro e v1 ⟨rfl, hb⟩
  have hcb : Below w.heap.size w v1 := below_call ((((Below.refl _ w).alloc (Nat.le_refl _) _).alloc (by simp) _).alloc (by simp <;> omega) _) hb
  have HT := Lib.hid (HT.out.next hcb)
  have HW := Lib.hid (below_call HW.out hcb)
  have HBA := Lib.hid ((((show Row (w.alloc (.cells (matC ma ra ca qa na ka) 24)) (w.heap.size) 24 (matC ma ra ca qa na ka) from Row.made _ _ (by simp)).alloc _).alloc _).below hb (by simp <;> omega))
  have HBB := Lib.hid (((show Row ((w.alloc (.cells (matC ma ra ca qa na ka) 24)).alloc (.cells (matC mb rb cb qb nb kb) 24)) (w.heap.size + 1) 24 (matC mb rb cb qb nb kb) from Row.made _ _ (by simp)).alloc _).below hb (by simp <;> omega))
  have HBC := Lib.hid ((show Row (((w.alloc (.cells (matC ma ra ca qa na ka) 24)).alloc (.cells (matC mb rb cb qb nb kb) 24)).alloc (.cells (matC mc rc cc qc nc kc) 24)) (w.heap.size + 2) 24 (matC mc rc cc qc nc kc) from Row.made _ _ (by simp)).below hb (by simp <;> omega))
  clear hb hcb
  obtain ⟨c3a, c3b, c3c, c3d⟩ := mbox HBA.out
  obtain ⟨c4a, c4b, c4c, c4d⟩ := mbox HBB.out
  obtain ⟨c5a, c5b, c5c, c5d⟩ := mbox HBC.out
  go_wp2_with fail
  clear c3a c3b c3c c3d c4a c4b c4c c4d c5a c5b c5c c5d
  refine (HM1.out _ HW.out).mono ?_
  rintro e v2 ⟨hres, hb⟩
  have hcb : Below v1.heap.size v1 v2 := below_call (Below.refl _ v1) hb
  have HT := Lib.hid (HT.out.next hcb)
  have HW := Lib.hid (below_call HW.out hcb)
  have HBA := Lib.hid (HBA.out.below hcb HBA.out.lt)
  have HBB := Lib.hid (HBB.out.below hcb HBB.out.lt)
  have HBC := Lib.hid (HBC.out.below hcb HBC.out.lt)
  clear hb hcb
  rcases hres with rfl | ⟨g1x, rfl⟩
  · obtain ⟨c7a, c7b, c7c, c7d⟩ := mbox HBA.out
    have c7l := HBA.out.lt
    obtain ⟨c8a, c8b, c8c, c8d⟩ := mbox HBB.out
    have c8l := HBB.out.lt
    obtain ⟨c9a, c9b, c9c, c9d⟩ := mbox HBC.out
    have c9l := HBC.out.lt
    go_wp2_with fail
    clear c7a c7b c7c c7d c7l c8a c8b c8c c8d c8l c9a c9b c9c c9d c9l
    refine (HM2.out _ (HW.out.alloc (by first | exact HW.out.size | (have h9 := HW.out.size; simp <;> omega)) _)).mono ?_
    rintro e v6 ⟨hres, hb⟩
    have hcb : Below v2.heap.size v2 v6 := below_call ((Below.refl _ v2).alloc (Nat.le_refl _) _) hb
    have HT := Lib.hid (HT.out.next hcb)
    have HW := Lib.hid (below_call HW.out hcb)
    have HBA := Lib.hid (HBA.out.below hcb HBA.out.lt)
    have HBB := Lib.hid (HBB.out.below hcb HBB.out.lt)
    have HBC := Lib.hid (HBC.out.below hcb HBC.out.lt)
    clear hb hcb
    rcases hres with rfl | ⟨g2x, rfl⟩
    · obtain ⟨c11a, c11b, c11c, c11d⟩ := mbox HBA.out
      have c11l := HBA.out.lt
      obtain ⟨c12a, c12b, c12c, c12d⟩ := mbox HBB.out
      have c12l := HBB.out.lt
      obtain ⟨c13a, c13b, c13c, c13d⟩ := mbox HBC.out
      have c13l := HBC.out.lt
      go_wp2_with fail
      clear c11a c11b c11c c11d c11l c12a c12b c12c c12d c12l c13a c13b c13c c13d c13l
      refine (sanity6_any _ (HT.out.next ((Below.refl _ v6).alloc (Nat.le_refl _) _))).mono ?_
      rintro e v10 ⟨rfl, hb⟩
      have hcb : Below v6.heap.size v6 v10 := below_call ((Below.refl _ v6).alloc (Nat.le_refl _) _) hb
      have HT := Lib.hid (HT.out.next hcb)
      have HW := Lib.hid (below_call HW.out hcb)
      have HBA := Lib.hid (HBA.out.below hcb HBA.out.lt)
      have HBB := Lib.hid (HBB.out.below hcb HBB.out.lt)
      have HBC := Lib.hid (HBC.out.below hcb HBC.out.lt)
      clear hb hcb
      go_wp2
      go_ret
      exact ⟨rfl, HW.out⟩
    · obtain ⟨c15a, c15b, c15c, c15d⟩ := mbox HBA.out
      have c15l := HBA.out.lt
      obtain ⟨c16a, c16b, c16c, c16d⟩ := mbox HBB.out
      have c16l := HBB.out.lt
      obtain ⟨c17a, c17b, c17c, c17d⟩ := mbox HBC.out
      have c17l := HBC.out.lt
      go_wp2_with fail
      clear c15a c15b c15c c15d c15l c16a c16b c16c c16d c16l c17a c17b c17c c17d c17l
      refine (sanity6_any _ (HT.out.next ((Below.refl _ v6).alloc (Nat.le_refl _) _))).mono ?_
      rintro e v14 ⟨rfl, hb⟩
      have hcb : Below v6.heap.size v6 v14 := below_call ((Below.refl _ v6).alloc (Nat.le_refl _) _) hb
      have HT := Lib.hid (HT.out.next hcb)
      have HW := Lib.hid (below_call HW.out hcb)
      have HBA := Lib.hid (HBA.out.below hcb HBA.out.lt)
      have HBB := Lib.hid (HBB.out.below hcb HBB.out.lt)
      have HBC := Lib.hid (HBC.out.below hcb HBC.out.lt)
      clear hb hcb
      go_wp2
      go_ret
      exact ⟨rfl, HW.out⟩
  · obtain ⟨c19a, c19b, c19c, c19d⟩ := mbox HBA.out
    have c19l := HBA.out.lt
    obtain ⟨c20a, c20b, c20c, c20d⟩ := mbox HBB.out
    have c20l := HBB.out.lt
    obtain ⟨c21a, c21b, c21c, c21d⟩ := mbox HBC.out
    have c21l := HBC.out.lt
    go_wp2_with fail
    clear c19a c19b c19c c19d c19l c20a c20b c20c c20d c20l c21a c21b c21c c21d c21l
    refine (HM2.out _ (HW.out.alloc (by first | exact HW.out.size | (have h9 := HW.out.size; simp <;> omega)) _)).mono ?_
    rintro e v18 ⟨hres, hb⟩
    have hcb : Below v2.heap.size v2 v18 := below_call ((Below.refl _ v2).alloc (Nat.le_refl _) _) hb
    have HT := Lib.hid (HT.out.next hcb)
    have HW := Lib.hid (below_call HW.out hcb)
    have HBA := Lib.hid (HBA.out.below hcb HBA.out.lt)
    have HBB := Lib.hid (HBB.out.below hcb HBB.out.lt)
    have HBC := Lib.hid (HBC.out.below hcb HBC.out.lt)
    clear hb hcb
    rcases hres with rfl | ⟨g2x, rfl⟩
    · obtain ⟨c23a, c23b, c23c, c23d⟩ := mbox HBA.out
      have c23l := HBA.out.lt
      obtain ⟨c24a, c24b, c24c, c24d⟩ := mbox HBB.out
      have c24l := HBB.out.lt
      obtain ⟨c25a, c25b, c25c, c25d⟩ := mbox HBC.out
      have c25l := HBC.out.lt
      go_wp2_with fail
      clear c23a c23b c23c c23d c23l c24a c24b c24c c24d c24l c25a c25b c25c c25d c25l
      refine (sanity6_any _ (HT.out.next ((Below.refl _ v18).alloc (Nat.le_refl _) _))).mono ?_
      rintro e v22 ⟨rfl, hb⟩
      have hcb : Below v18.heap.size v18 v22 := below_call ((Below.refl _ v18).alloc (Nat.le_refl _) _) hb
      have HT := Lib.hid (HT.out.next hcb)
      have HW := Lib.hid (below_call HW.out hcb)
      have HBA := Lib.hid (HBA.out.below hcb HBA.out.lt)
      have HBB := Lib.hid (HBB.out.below hcb HBB.out.lt)
      have HBC := Lib.hid (HBC.out.below hcb HBC.out.lt)
      clear hb hcb
      go_wp2
      go_ret
      exact ⟨rfl, HW.out⟩
    · obtain ⟨c27a, c27b, c27c, c27d⟩ := mbox HBA.out
      have c27l := HBA.out.lt
      obtain ⟨c28a, c28b, c28c, c28d⟩ := mbox HBB.out
      have c28l := HBB.out.lt
      obtain ⟨c29a, c29b, c29c, c29d⟩ := mbox HBC.out
      have c29l := HBC.out.lt
      go_wp2_with fail
      clear c27a c27b c27c c27d c27l c28a c28b c28c c28d c28l c29a c29b c29c c29d c29l
      refine (sanity6_any _ (HT.out.next ((Below.refl _ v18).alloc (Nat.le_refl _) _))).mono ?_
      rintro e v26 ⟨rfl, hb⟩
      have hcb : Below v18.heap.size v18 v26 := below_call ((Below.refl _ v18).alloc (Nat.le_refl _) _) hb
      have HT := Lib.hid (HT.out.next hcb)
      have HW := Lib.hid (below_call HW.out hcb)
      have HBA := Lib.hid (HBA.out.below hcb HBA.out.lt)
      have HBB := Lib.hid (HBB.out.below hcb HBB.out.lt)
      have HBC := Lib.hid (HBC.out.below hcb HBC.out.lt)
      clear hb hcb
      go_wp2
      go_ret
      exact ⟨rfl, HW.out⟩
set_option maxRecDepth 100000 in
set_option maxHeartbeats 6400000 in
theorem assoc_b (ma ra ca : Int) (qa : Option Addr) (na ka : Nat) (mb rb cb : Int) (qb : Option Addr) (nb kb : Nat) (mc rc cc : Int) (qc : Option Addr) (nc kc : Nat) (w : World) (ht : Tab w) (hs1 : smallB ra ca na = true) (hs2 : smallB rb cb nb = false) (mp1 rp1 cp1 : Int) (Np1 : Nat) (hm1 : ∀ W, Below w.heap.size w W → Calls Tryd.prog 16 #[matV ma ra ca qa na ka, matV mb rb cb qb nb kb] W fun e w' => (e = .returned (outV nilM 1) ∨ ∃ g, e = .returned (outV (matV mp1 rp1 cp1 (some ⟨g, 0, none⟩) Np1 Np1) 0)) ∧ Below W.heap.size W w') (mp2 rp2 cp2 : Int) (Np2 : Nat) (hm2 : ∀ W, Below w.heap.size w W → Calls Tryd.prog 16 #[matV mb rb cb qb nb kb, matV mc rc cc qc nc kc] W fun e w' => (e = .returned (outV nilM 1) ∨ ∃ g, e = .returned (outV (matV mp2 rp2 cp2 (some ⟨g, 0, none⟩) Np2 Np2) 0)) ∧ Below W.heap.size W w') :
    Calls Tryd.prog 6 #[matV ma ra ca qa na ka, matV mb rb cb qb nb kb, matV mc rc cc qc nc kc] w fun e w' => e = .returned (.bool true) ∧ Below w.heap.size w w' := by
  have HT := Lib.hid ht
  have HW := Lib.hid (Below.refl w.heap.size w)
  have hp := ht.lt
  have HSM1 := Lib.hid (fun W => small_any ma ra ca qa na ka W)
  rw [hs1] at HSM1
  have HSM2 := Lib.hid (fun W => small_any mb rb cb qb nb kb W)
  rw [hs2] at HSM2
  have HM1 := Lib.hid hm1
  have HM2 := Lib.hid hm2
  unfold matV at HM1 HM2 HSM1 HSM2 ⊢
  clear ht hm1 hm2 hs1 hs2
  go_enter Tryd.func6, Tryd.ntmps6
  go_wp2_with fail
  refine (HSM1.out _).mono ?_
  rintro e v30 ⟨rfl, hb⟩
  have hcb : Below w.heap.size w v30 := below_call ((((Below.refl _ w).alloc (Nat.le_refl _) _).alloc (by simp) _).alloc (by simp <;> omega) _) hb
  have HT := Lib.hid (HT.out.next hcb)
  have HW := Lib.hid (below_call HW.out hcb)
  have HBA := Lib.hid ((((show Row (w.alloc (.cells (matC ma ra ca qa na ka) 24)) (w.heap.size) 24 (matC ma ra ca qa na ka) from Row.made _ _ (by simp)).alloc _).alloc _).below hb (by simp <;> omega))
  have HBB := Lib.hid (((show Row ((w.alloc (.cells (matC ma ra ca qa na ka) 24)).alloc (.cells (matC mb rb cb qb nb kb) 24)) (w.heap.size + 1) 24 (matC mb rb cb qb nb kb) from Row.made _ _ (by simp)).alloc _).below hb (by simp <;> omega))
  have HBC := Lib.hid ((show Row (((w.alloc (.cells (matC ma ra ca qa na ka) 24)).alloc (.cells (matC mb rb cb qb nb kb) 24)).alloc (.cells (matC mc rc cc qc nc kc) 24)) (w.heap.size + 2) 24 (matC mc rc cc qc nc kc) from Row.made _ _ (by simp)).below hb (by simp <;> omega))
  clear hb hcb
  obtain ⟨c32a, c32b, c32c, c32d⟩ := mbox HBA.out
  obtain ⟨c33a, c33b, c33c, c33d⟩ := mbox HBB.out
  obtain ⟨c34a, c34b, c34c, c34d⟩ := mbox HBC.out
  go_wp2_with fail
  clear c32a c32b c32c c32d c33a c33b c33c c33d c34a c34b c34c c34d
  refine (HSM2.out _).mono ?_
  rintro e v31 ⟨rfl, hb⟩
  have hcb : Below v30.heap.size v30 v31 := below_call (Below.refl _ v30) hb
  have HT := Lib.hid (HT.out.next hcb)
  have HW := Lib.hid (below_call HW.out hcb)
  have HBA := Lib.hid (HBA.out.below hcb HBA.out.lt)
  have HBB := Lib.hid (HBB.out.below hcb HBB.out.lt)
  have HBC := Lib.hid (HBC.out.below hcb HBC.out.lt)
  clear hb hcb
  obtain ⟨c36a, c36b, c36c, c36d⟩ := mbox HBA.out
  obtain ⟨c37a, c37b, c37c, c37d⟩ := mbox HBB.out
  obtain ⟨c38a, c38b, c38c, c38d⟩ := mbox HBC.out
  go_wp2_with fail
  clear c36a c36b c36c c36d c37a c37b c37c c37d c38a c38b c38c c38d
  refine (HM1.out _ HW.out).mono ?_
  rintro e v35 ⟨hres, hb⟩
  have hcb : Below v31.heap.size v31 v35 := below_call (Below.refl _ v31) hb
  have HT := Lib.hid (HT.out.next hcb)
  have HW := Lib.hid (below_call HW.out hcb)
  have HBA := Lib.hid (HBA.out.below hcb HBA.out.lt)
  have HBB := Lib.hid (HBB.out.below hcb HBB.out.lt)
  have HBC := Lib.hid (HBC.out.below hcb HBC.out.lt)
  clear hb hcb
  rcases hres with rfl | ⟨g1x, rfl⟩
  · obtain ⟨c40a, c40b, c40c, c40d⟩ := mbox HBA.out
    have c40l := HBA.out.lt
    obtain ⟨c41a, c41b, c41c, c41d⟩ := mbox HBB.out
    have c41l := HBB.out.lt
    obtain ⟨c42a, c42b, c42c, c42d⟩ := mbox HBC.out
    have c42l := HBC.out.lt
    go_wp2_with fail
    clear c40a c40b c40c c40d c40l c41a c41b c41c c41d c41l c42a c42b c42c c42d c42l
    refine (HM2.out _ (HW.out.alloc (by first | exact HW.out.size | (have h9 := HW.out.size; simp <;> omega)) _)).mono ?_
    rintro e v39 ⟨hres, hb⟩
    have hcb : Below v35.heap.size v35 v39 := below_call ((Below.refl _ v35).alloc (Nat.le_refl _) _) hb
    have HT := Lib.hid (HT.out.next hcb)
    have HW := Lib.hid (below_call HW.out hcb)
    have HBA := Lib.hid (HBA.out.below hcb HBA.out.lt)
    have HBB := Lib.hid (HBB.out.below hcb HBB.out.lt)
    have HBC := Lib.hid (HBC.out.below hcb HBC.out.lt)
    clear hb hcb
    rcases hres with rfl | ⟨g2x, rfl⟩
    · obtain ⟨c44a, c44b, c44c, c44d⟩ := mbox HBA.out
      have c44l := HBA.out.lt
      obtain ⟨c45a, c45b, c45c, c45d⟩ := mbox HBB.out
      have c45l := HBB.out.lt
      obtain ⟨c46a, c46b, c46c, c46d⟩ := mbox HBC.out
      have c46l := HBC.out.lt
      go_wp2_with fail
      clear c44a c44b c44c c44d c44l c45a c45b c45c c45d c45l c46a c46b c46c c46d c46l
      refine (sanity6_any _ (HT.out.next ((Below.refl _ v39).alloc (Nat.le_refl _) _))).mono ?_
      rintro e v43 ⟨rfl, hb⟩
      have hcb : Below v39.heap.size v39 v43 := below_call ((Below.refl _ v39).alloc (Nat.le_refl _) _) hb
      have HT := Lib.hid (HT.out.next hcb)
      have HW := Lib.hid (below_call HW.out hcb)
      have HBA := Lib.hid (HBA.out.below hcb HBA.out.lt)
      have HBB := Lib.hid (HBB.out.below hcb HBB.out.lt)
      have HBC := Lib.hid (HBC.out.below hcb HBC.out.lt)
      clear hb hcb
      go_wp2
      go_ret
      exact ⟨rfl, HW.out⟩
    · obtain ⟨c48a, c48b, c48c, c48d⟩ := mbox HBA.out
      have c48l := HBA.out.lt
      obtain ⟨c49a, c49b, c49c, c49d⟩ := mbox HBB.out
      have c49l := HBB.out.lt
      obtain ⟨c50a, c50b, c50c, c50d⟩ := mbox HBC.out
      have c50l := HBC.out.lt
      go_wp2_with fail
      clear c48a c48b c48c c48d c48l c49a c49b c49c c49d c49l c50a c50b c50c c50d c50l
      refine (sanity6_any _ (HT.out.next ((Below.refl _ v39).alloc (Nat.le_refl _) _))).mono ?_
      rintro e v47 ⟨rfl, hb⟩
      have hcb : Below v39.heap.size v39 v47 := below_call ((Below.refl _ v39).alloc (Nat.le_refl _) _) hb
      have HT := Lib.hid (HT.out.next hcb)
      have HW := Lib.hid (below_call HW.out hcb)
      have HBA := Lib.hid (HBA.out.below hcb HBA.out.lt)
      have HBB := Lib.hid (HBB.out.below hcb HBB.out.lt)
      have HBC := Lib.hid (HBC.out.below hcb HBC.out.lt)
      clear hb hcb
      go_wp2
      go_ret
      exact ⟨rfl, HW.out⟩
  · obtain ⟨c52a, c52b, c52c, c52d⟩ := mbox HBA.out
    have c52l := HBA.out.lt
    obtain ⟨c53a, c53b, c53c, c53d⟩ := mbox HBB.out
    have c53l := HBB.out.lt
    obtain ⟨c54a, c54b, c54c, c54d⟩ := mbox HBC.out
    have c54l := HBC.out.lt
    go_wp2_with fail
    clear c52a c52b c52c c52d c52l c53a c53b c53c c53d c53l c54a c54b c54c c54d c54l
    refine (HM2.out _ (HW.out.alloc (by first | exact HW.out.size | (have h9 := HW.out.size; simp <;> omega)) _)).mono ?_
    rintro e v51 ⟨hres, hb⟩
    have hcb : Below v35.heap.size v35 v51 := below_call ((Below.refl _ v35).alloc (Nat.le_refl _) _) hb
    have HT := Lib.hid (HT.out.next hcb)
    have HW := Lib.hid (below_call HW.out hcb)
    have HBA := Lib.hid (HBA.out.below hcb HBA.out.lt)
    have HBB := Lib.hid (HBB.out.below hcb HBB.out.lt)
    have HBC := Lib.hid (HBC.out.below hcb HBC.out.lt)
    clear hb hcb
    rcases hres with rfl | ⟨g2x, rfl⟩
    · obtain ⟨c56a, c56b, c56c, c56d⟩ := mbox HBA.out
      have c56l := HBA.out.lt
      obtain ⟨c57a, c57b, c57c, c57d⟩ := mbox HBB.out
      have c57l := HBB.out.lt
      obtain ⟨c58a, c58b, c58c, c58d⟩ := mbox HBC.out
      have c58l := HBC.out.lt
      go_wp2_with fail
      clear c56a c56b c56c c56d c56l c57a c57b c57c c57d c57l c58a c58b c58c c58d c58l
      refine (sanity6_any _ (HT.out.next ((Below.refl _ v51).alloc (Nat.le_refl _) _))).mono ?_
      rintro e v55 ⟨rfl, hb⟩
      have hcb : Below v51.heap.size v51 v55 := below_call ((Below.refl _ v51).alloc (Nat.le_refl _) _) hb
      have HT := Lib.hid (HT.out.next hcb)
      have HW := Lib.hid (below_call HW.out hcb)
      have HBA := Lib.hid (HBA.out.below hcb HBA.out.lt)
      have HBB := Lib.hid (HBB.out.below hcb HBB.out.lt)
      have HBC := Lib.hid (HBC.out.below hcb HBC.out.lt)
      clear hb hcb
      go_wp2
      go_ret
      exact ⟨rfl, HW.out⟩
    · obtain ⟨c60a, c60b, c60c, c60d⟩ := mbox HBA.out
      have c60l := HBA.out.lt
      obtain ⟨c61a, c61b, c61c, c61d⟩ := mbox HBB.out
      have c61l := HBB.out.lt
      obtain ⟨c62a, c62b, c62c, c62d⟩ := mbox HBC.out
      have c62l := HBC.out.lt
      go_wp2_with fail
      clear c60a c60b c60c c60d c60l c61a c61b c61c c61d c61l c62a c62b c62c c62d c62l
      refine (sanity6_any _ (HT.out.next ((Below.refl _ v51).alloc (Nat.le_refl _) _))).mono ?_
      rintro e v59 ⟨rfl, hb⟩
      have hcb : Below v51.heap.size v51 v59 := below_call ((Below.refl _ v51).alloc (Nat.le_refl _) _) hb
      have HT := Lib.hid (HT.out.next hcb)
      have HW := Lib.hid (below_call HW.out hcb)
      have HBA := Lib.hid (HBA.out.below hcb HBA.out.lt)
      have HBB := Lib.hid (HBB.out.below hcb HBB.out.lt)
      have HBC := Lib.hid (HBC.out.below hcb HBC.out.lt)
      clear hb hcb
      go_wp2
      go_ret
      exact ⟨rfl, HW.out⟩
set_option maxRecDepth 100000 in
set_option maxHeartbeats 6400000 in
theorem assoc_c (ma ra ca : Int) (qa : Option Addr) (na ka : Nat) (mb rb cb : Int) (qb : Option Addr) (nb kb : Nat) (mc rc cc : Int) (qc : Option Addr) (nc kc : Nat) (w : World) (ht : Tab w) (hs1 : smallB ra ca na = true) (hs2 : smallB rb cb nb = true) (hs3 : smallB rc cc nc = false) (mp1 rp1 cp1 : Int) (Np1 : Nat) (hm1 : ∀ W, Below w.heap.size w W → Calls Tryd.prog 16 #[matV ma ra ca qa na ka, matV mb rb cb qb nb kb] W fun e w' => (e = .returned (outV nilM 1) ∨ ∃ g, e = .returned (outV (matV mp1 rp1 cp1 (some ⟨g, 0, none⟩) Np1 Np1) 0)) ∧ Below W.heap.size W w') (mp2 rp2 cp2 : Int) (Np2 : Nat) (hm2 : ∀ W, Below w.heap.size w W → Calls Tryd.prog 16 #[matV mb rb cb qb nb kb, matV mc rc cc qc nc kc] W fun e w' => (e = .returned (outV nilM 1) ∨ ∃ g, e = .returned (outV (matV mp2 rp2 cp2 (some ⟨g, 0, none⟩) Np2 Np2) 0)) ∧ Below W.heap.size W w') :
    Calls Tryd.prog 6 #[matV ma ra ca qa na ka, matV mb rb cb qb nb kb, matV mc rc cc qc nc kc] w fun e w' => e = .returned (.bool true) ∧ Below w.heap.size w w' := by
  have HT := Lib.hid ht
  have HW := Lib.hid (Below.refl w.heap.size w)
  have hp := ht.lt
  have HSM1 := Lib.hid (fun W => small_any ma ra ca qa na ka W)
  rw [hs1] at HSM1
  have HSM2 := Lib.hid (fun W => small_any mb rb cb qb nb kb W)
  rw [hs2] at HSM2
  have HSM3 := Lib.hid (fun W => small_any mc rc cc qc nc kc W)
  rw [hs3] at HSM3
  have HM1 := Lib.hid hm1
  have HM2 := Lib.hid hm2
  unfold matV at HM1 HM2 HSM1 HSM2 HSM3 ⊢
  clear ht hm1 hm2 hs1 hs2 hs3
  go_enter Tryd.func6, Tryd.ntmps6
  go_wp2_with fail
  refine (HSM1.out _).mono ?_
  rintro e v63 ⟨rfl, hb⟩
  have hcb : Below w.heap.size w v63 := below_call ((((Below.refl _ w).alloc (Nat.le_refl _) _).alloc (by simp) _).alloc (by simp <;> omega) _) hb
  have HT := Lib.hid (HT.out.next hcb)
  have HW := Lib.hid (below_call HW.out hcb)
  have HBA := Lib.hid ((((show Row (w.alloc (.cells (matC ma ra ca qa na ka) 24)) (w.heap.size) 24 (matC ma ra ca qa na ka) from Row.made _ _ (by simp)).alloc _).alloc _).below hb (by simp <;> omega))
  have HBB := Lib.hid (((show Row ((w.alloc (.cells (matC ma ra ca qa na ka) 24)).alloc (.cells (matC mb rb cb qb nb kb) 24)) (w.heap.size + 1) 24 (matC mb rb cb qb nb kb) from Row.made _ _ (by simp)).alloc _).below hb (by simp <;> omega))
  have HBC := Lib.hid ((show Row (((w.alloc (.cells (matC ma ra ca qa na ka) 24)).alloc (.cells (matC mb rb cb qb nb kb) 24)).alloc (.cells (matC mc rc cc qc nc kc) 24)) (w.heap.size + 2) 24 (matC mc rc cc qc nc kc) from Row.made _ _ (by simp)).below hb (by simp <;> omega))
  clear hb hcb
  obtain ⟨c65a, c65b, c65c, c65d⟩ := mbox HBA.out
  obtain ⟨c66a, c66b, c66c, c66d⟩ := mbox HBB.out
  obtain ⟨c67a, c67b, c67c, c67d⟩ := mbox HBC.out
  go_wp2_with fail
  clear c65a c65b c65c c65d c66a c66b c66c c66d c67a c67b c67c c67d
  refine (HSM2.out _).mono ?_
  rintro e v64 ⟨rfl, hb⟩
  have hcb : Below v63.heap.size v63 v64 := below_call (Below.refl _ v63) hb
  have HT := Lib.hid (HT.out.next hcb)
  have HW := Lib.hid (below_call HW.out hcb)
  have HBA := Lib.hid (HBA.out.below hcb HBA.out.lt)
  have HBB := Lib.hid (HBB.out.below hcb HBB.out.lt)
  have HBC := Lib.hid (HBC.out.below hcb HBC.out.lt)
  clear hb hcb
  obtain ⟨c69a, c69b, c69c, c69d⟩ := mbox HBA.out
  obtain ⟨c70a, c70b, c70c, c70d⟩ := mbox HBB.out
  obtain ⟨c71a, c71b, c71c, c71d⟩ := mbox HBC.out
  go_wp2_with fail
  clear c69a c69b c69c c69d c70a c70b c70c c70d c71a c71b c71c c71d
  refine (HSM3.out _).mono ?_
  rintro e v68 ⟨rfl, hb⟩
  have hcb : Below v64.heap.size v64 v68 := below_call (Below.refl _ v64) hb
  have HT := Lib.hid (HT.out.next hcb)
  have HW := Lib.hid (below_call HW.out hcb)
  have HBA := Lib.hid (HBA.out.below hcb HBA.out.lt)
  have HBB := Lib.hid (HBB.out.below hcb HBB.out.lt)
  have HBC := Lib.hid (HBC.out.below hcb HBC.out.lt)
  clear hb hcb
  obtain ⟨c73a, c73b, c73c, c73d⟩ := mbox HBA.out
  obtain ⟨c74a, c74b, c74c, c74d⟩ := mbox HBB.out
  obtain ⟨c75a, c75b, c75c, c75d⟩ := mbox HBC.out
  go_wp2_with fail
  clear c73a c73b c73c c73d c74a c74b c74c c74d c75a c75b c75c c75d
  refine (HM1.out _ HW.out).mono ?_
  rintro e v72 ⟨hres, hb⟩
  have hcb : Below v68.heap.size v68 v72 := below_call (Below.refl _ v68) hb
  have HT := Lib.hid (HT.out.next hcb)
  have HW := Lib.hid (below_call HW.out hcb)
  have HBA := Lib.hid (HBA.out.below hcb HBA.out.lt)
  have HBB := Lib.hid (HBB.out.below hcb HBB.out.lt)
  have HBC := Lib.hid (HBC.out.below hcb HBC.out.lt)
  clear hb hcb
  rcases hres with rfl | ⟨g1x, rfl⟩
  · obtain ⟨c77a, c77b, c77c, c77d⟩ := mbox HBA.out
    have c77l := HBA.out.lt
    obtain ⟨c78a, c78b, c78c, c78d⟩ := mbox HBB.out
    have c78l := HBB.out.lt
    obtain ⟨c79a, c79b, c79c, c79d⟩ := mbox HBC.out
    have c79l := HBC.out.lt
    go_wp2_with fail
    clear c77a c77b c77c c77d c77l c78a c78b c78c c78d c78l c79a c79b c79c c79d c79l
    refine (HM2.out _ (HW.out.alloc (by first | exact HW.out.size | (have h9 := HW.out.size; simp <;> omega)) _)).mono ?_
    rintro e v76 ⟨hres, hb⟩
    have hcb : Below v72.heap.size v72 v76 := below_call ((Below.refl _ v72).alloc (Nat.le_refl _) _) hb
    have HT := Lib.hid (HT.out.next hcb)
    have HW := Lib.hid (below_call HW.out hcb)
    have HBA := Lib.hid (HBA.out.below hcb HBA.out.lt)
    have HBB := Lib.hid (HBB.out.below hcb HBB.out.lt)
    have HBC := Lib.hid (HBC.out.below hcb HBC.out.lt)
    clear hb hcb
    rcases hres with rfl | ⟨g2x, rfl⟩
    · obtain ⟨c81a, c81b, c81c, c81d⟩ := mbox HBA.out
      have c81l := HBA.out.lt
      obtain ⟨c82a, c82b, c82c, c82d⟩ := mbox HBB.out
      have c82l := HBB.out.lt
      obtain ⟨c83a, c83b, c83c, c83d⟩ := mbox HBC.out
      have c83l := HBC.out.lt
      go_wp2_with fail
      clear c81a c81b c81c c81d c81l c82a c82b c82c c82d c82l c83a c83b c83c c83d c83l
      refine (sanity6_any _ (HT.out.next ((Below.refl _ v76).alloc (Nat.le_refl _) _))).mono ?_
      rintro e v80 ⟨rfl, hb⟩
      have hcb : Below v76.heap.size v76 v80 := below_call ((Below.refl _ v76).alloc (Nat.le_refl _) _) hb
      have HT := Lib.hid (HT.out.next hcb)
      have HW := Lib.hid (below_call HW.out hcb)
      have HBA := Lib.hid (HBA.out.below hcb HBA.out.lt)
      have HBB := Lib.hid (HBB.out.below hcb HBB.out.lt)
      have HBC := Lib.hid (HBC.out.below hcb HBC.out.lt)
      clear hb hcb
      go_wp2
      go_ret
      exact ⟨rfl, HW.out⟩
    · obtain ⟨c85a, c85b, c85c, c85d⟩ := mbox HBA.out
      have c85l := HBA.out.lt
      obtain ⟨c86a, c86b, c86c, c86d⟩ := mbox HBB.out
      have c86l := HBB.out.lt
      obtain ⟨c87a, c87b, c87c, c87d⟩ := mbox HBC.out
      have c87l := HBC.out.lt
      go_wp2_with fail
      clear c85a c85b c85c c85d c85l c86a c86b c86c c86d c86l c87a c87b c87c c87d c87l
      refine (sanity6_any _ (HT.out.next ((Below.refl _ v76).alloc (Nat.le_refl _) _))).mono ?_
      rintro e v84 ⟨rfl, hb⟩
      have hcb : Below v76.heap.size v76 v84 := below_call ((Below.refl _ v76).alloc (Nat.le_refl _) _) hb
      have HT := Lib.hid (HT.out.next hcb)
      have HW := Lib.hid (below_call HW.out hcb)
      have HBA := Lib.hid (HBA.out.below hcb HBA.out.lt)
      have HBB := Lib.hid (HBB.out.below hcb HBB.out.lt)
      have HBC := Lib.hid (HBC.out.below hcb HBC.out.lt)
      clear hb hcb
      go_wp2
      go_ret
      exact ⟨rfl, HW.out⟩
  · obtain ⟨c89a, c89b, c89c, c89d⟩ := mbox HBA.out
    have c89l := HBA.out.lt
    obtain ⟨c90a, c90b, c90c, c90d⟩ := mbox HBB.out
    have c90l := HBB.out.lt
    obtain ⟨c91a, c91b, c91c, c91d⟩ := mbox HBC.out
    have c91l := HBC.out.lt
    go_wp2_with fail
    clear c89a c89b c89c c89d c89l c90a c90b c90c c90d c90l c91a c91b c91c c91d c91l
    refine (HM2.out _ (HW.out.alloc (by first | exact HW.out.size | (have h9 := HW.out.size; simp <;> omega)) _)).mono ?_
    rintro e v88 ⟨hres, hb⟩
    have hcb : Below v72.heap.size v72 v88 := below_call ((Below.refl _ v72).alloc (Nat.le_refl _) _) hb
    have HT := Lib.hid (HT.out.next hcb)
    have HW := Lib.hid (below_call HW.out hcb)
    have HBA := Lib.hid (HBA.out.below hcb HBA.out.lt)
    have HBB := Lib.hid (HBB.out.below hcb HBB.out.lt)
    have HBC := Lib.hid (HBC.out.below hcb HBC.out.lt)
    clear hb hcb
    rcases hres with rfl | ⟨g2x, rfl⟩
    · obtain ⟨c93a, c93b, c93c, c93d⟩ := mbox HBA.out
      have c93l := HBA.out.lt
      obtain ⟨c94a, c94b, c94c, c94d⟩ := mbox HBB.out
      have c94l := HBB.out.lt
      obtain ⟨c95a, c95b, c95c, c95d⟩ := mbox HBC.out
      have c95l := HBC.out.lt
      go_wp2_with fail
      clear c93a c93b c93c c93d c93l c94a c94b c94c c94d c94l c95a c95b c95c c95d c95l
      refine (sanity6_any _ (HT.out.next ((Below.refl _ v88).alloc (Nat.le_refl _) _))).mono ?_
      rintro e v92 ⟨rfl, hb⟩
      have hcb : Below v88.heap.size v88 v92 := below_call ((Below.refl _ v88).alloc (Nat.le_refl _) _) hb
      have HT := Lib.hid (HT.out.next hcb)
      have HW := Lib.hid (below_call HW.out hcb)
      have HBA := Lib.hid (HBA.out.below hcb HBA.out.lt)
      have HBB := Lib.hid (HBB.out.below hcb HBB.out.lt)
      have HBC := Lib.hid (HBC.out.below hcb HBC.out.lt)
      clear hb hcb
      go_wp2
      go_ret
      exact ⟨rfl, HW.out⟩
    · obtain ⟨c97a, c97b, c97c, c97d⟩ := mbox HBA.out
      have c97l := HBA.out.lt
      obtain ⟨c98a, c98b, c98c, c98d⟩ := mbox HBB.out
      have c98l := HBB.out.lt
      obtain ⟨c99a, c99b, c99c, c99d⟩ := mbox HBC.out
      have c99l := HBC.out.lt
      go_wp2_with fail
      clear c97a c97b c97c c97d c97l c98a c98b c98c c98d c98l c99a c99b c99c c99d c99l
      refine (sanity6_any _ (HT.out.next ((Below.refl _ v88).alloc (Nat.le_refl _) _))).mono ?_
      rintro e v96 ⟨rfl, hb⟩
      have hcb : Below v88.heap.size v88 v96 := below_call ((Below.refl _ v88).alloc (Nat.le_refl _) _) hb
      have HT := Lib.hid (HT.out.next hcb)
      have HW := Lib.hid (below_call HW.out hcb)
      have HBA := Lib.hid (HBA.out.below hcb HBA.out.lt)
      have HBB := Lib.hid (HBB.out.below hcb HBB.out.lt)
      have HBC := Lib.hid (HBC.out.below hcb HBC.out.lt)
      clear hb hcb
      go_wp2
      go_ret
      exact ⟨rfl, HW.out⟩
set_option maxRecDepth 100000 in
set_option maxHeartbeats 6400000 in
theorem assoc_d (ma ra ca : Int) (qa : Option Addr) (na ka : Nat) (mb rb cb : Int) (qb : Option Addr) (nb kb : Nat) (mc rc cc : Int) (qc : Option Addr) (nc kc : Nat) (w : World) (ht : Tab w) (hs1 : smallB ra ca na = true) (hs2 : smallB rb cb nb = true) (hs3 : smallB rc cc nc = true) (hm1 : ∀ W, Below w.heap.size w W → Calls Tryd.prog 16 #[matV ma ra ca qa na ka, matV mb rb cb qb nb kb] W fun e w' => e = .returned (outV nilM 1) ∧ Below W.heap.size W w') (mp2 rp2 cp2 : Int) (Np2 : Nat) (hm2 : ∀ W, Below w.heap.size w W → Calls Tryd.prog 16 #[matV mb rb cb qb nb kb, matV mc rc cc qc nc kc] W fun e w' => (e = .returned (outV nilM 1) ∨ ∃ g, e = .returned (outV (matV mp2 rp2 cp2 (some ⟨g, 0, none⟩) Np2 Np2) 0)) ∧ Below W.heap.size W w') :
    Calls Tryd.prog 6 #[matV ma ra ca qa na ka, matV mb rb cb qb nb kb, matV mc rc cc qc nc kc] w fun e w' => e = .returned (.bool true) ∧ Below w.heap.size w w' := by
  have HT := Lib.hid ht
  have HW := Lib.hid (Below.refl w.heap.size w)
  have hp := ht.lt
  have HSM1 := Lib.hid (fun W => small_any ma ra ca qa na ka W)
  rw [hs1] at HSM1
  have HSM2 := Lib.hid (fun W => small_any mb rb cb qb nb kb W)
  rw [hs2] at HSM2
  have HSM3 := Lib.hid (fun W => small_any mc rc cc qc nc kc W)
  rw [hs3] at HSM3
  have HM1 := Lib.hid hm1
  have HM2 := Lib.hid hm2
  unfold matV at HM1 HM2 HSM1 HSM2 HSM3 ⊢
  clear ht hm1 hm2 hs1 hs2 hs3
  go_enter Tryd.func6, Tryd.ntmps6
  go_wp2_with fail
  refine (HSM1.out _).mono ?_
  rintro e v100 ⟨rfl, hb⟩
  have hcb : Below w.heap.size w v100 := below_call ((((Below.refl _ w).alloc (Nat.le_refl _) _).alloc (by simp) _).alloc (by simp <;> omega) _) hb
  have HT := Lib.hid (HT.out.next hcb)
  have HW := Lib.hid (below_call HW.out hcb)
  have HBA := Lib.hid ((((show Row (w.alloc (.cells (matC ma ra ca qa na ka) 24)) (w.heap.size) 24 (matC ma ra ca qa na ka) from Row.made _ _ (by simp)).alloc _).alloc _).below hb (by simp <;> omega))
  have HBB := Lib.hid (((show Row ((w.alloc (.cells (matC ma ra ca qa na ka) 24)).alloc (.cells (matC mb rb cb qb nb kb) 24)) (w.heap.size + 1) 24 (matC mb rb cb qb nb kb) from Row.made _ _ (by simp)).alloc _).below hb (by simp <;> omega))
  have HBC := Lib.hid ((show Row (((w.alloc (.cells (matC ma ra ca qa na ka) 24)).alloc (.cells (matC mb rb cb qb nb kb) 24)).alloc (.cells (matC mc rc cc qc nc kc) 24)) (w.heap.size + 2) 24 (matC mc rc cc qc nc kc) from Row.made _ _ (by simp)).below hb (by simp <;> omega))
  clear hb hcb
  obtain ⟨c102a, c102b, c102c, c102d⟩ := mbox HBA.out
  obtain ⟨c103a, c103b, c103c, c103d⟩ := mbox HBB.out
  obtain ⟨c104a, c104b, c104c, c104d⟩ := mbox HBC.out
  go_wp2_with fail
  clear c102a c102b c102c c102d c103a c103b c103c c103d c104a c104b c104c c104d
  refine (HSM2.out _).mono ?_
  rintro e v101 ⟨rfl, hb⟩
  have hcb : Below v100.heap.size v100 v101 := below_call (Below.refl _ v100) hb
  have HT := Lib.hid (HT.out.next hcb)
  have HW := Lib.hid (below_call HW.out hcb)
  have HBA := Lib.hid (HBA.out.below hcb HBA.out.lt)
  have HBB := Lib.hid (HBB.out.below hcb HBB.out.lt)
  have HBC := Lib.hid (HBC.out.below hcb HBC.out.lt)
  clear hb hcb
  obtain ⟨c106a, c106b, c106c, c106d⟩ := mbox HBA.out
  obtain ⟨c107a, c107b, c107c, c107d⟩ := mbox HBB.out
  obtain ⟨c108a, c108b, c108c, c108d⟩ := mbox HBC.out
  go_wp2_with fail
  clear c106a c106b c106c c106d c107a c107b c107c c107d c108a c108b c108c c108d
  refine (HSM3.out _).mono ?_
  rintro e v105 ⟨rfl, hb⟩
  have hcb : Below v101.heap.size v101 v105 := below_call (Below.refl _ v101) hb
  have HT := Lib.hid (HT.out.next hcb)
  have HW := Lib.hid (below_call HW.out hcb)
  have HBA := Lib.hid (HBA.out.below hcb HBA.out.lt)
  have HBB := Lib.hid (HBB.out.below hcb HBB.out.lt)
  have HBC := Lib.hid (HBC.out.below hcb HBC.out.lt)
  clear hb hcb
  obtain ⟨c110a, c110b, c110c, c110d⟩ := mbox HBA.out
  obtain ⟨c111a, c111b, c111c, c111d⟩ := mbox HBB.out
  obtain ⟨c112a, c112b, c112c, c112d⟩ := mbox HBC.out
  go_wp2_with fail
  clear c110a c110b c110c c110d c111a c111b c111c c111d c112a c112b c112c c112d
  refine (HM1.out _ HW.out).mono ?_
  rintro e v109 ⟨rfl, hb⟩
  have hcb : Below v105.heap.size v105 v109 := below_call (Below.refl _ v105) hb
  have HT := Lib.hid (HT.out.next hcb)
  have HW := Lib.hid (below_call HW.out hcb)
  have HBA := Lib.hid (HBA.out.below hcb HBA.out.lt)
  have HBB := Lib.hid (HBB.out.below hcb HBB.out.lt)
  have HBC := Lib.hid (HBC.out.below hcb HBC.out.lt)
  clear hb hcb
  obtain ⟨c114a, c114b, c114c, c114d⟩ := mbox HBA.out
  have c114l := HBA.out.lt
  obtain ⟨c115a, c115b, c115c, c115d⟩ := mbox HBB.out
  have c115l := HBB.out.lt
  obtain ⟨c116a, c116b, c116c, c116d⟩ := mbox HBC.out
  have c116l := HBC.out.lt
  go_wp2_with fail
  clear c114a c114b c114c c114d c114l c115a c115b c115c c115d c115l c116a c116b c116c c116d c116l
  refine (HM2.out _ (HW.out.alloc (by first | exact HW.out.size | (have h9 := HW.out.size; simp <;> omega)) _)).mono ?_
  rintro e v113 ⟨hres, hb⟩
  have hcb : Below v109.heap.size v109 v113 := below_call ((Below.refl _ v109).alloc (Nat.le_refl _) _) hb
  have HT := Lib.hid (HT.out.next hcb)
  have HW := Lib.hid (below_call HW.out hcb)
  have HBA := Lib.hid (HBA.out.below hcb HBA.out.lt)
  have HBB := Lib.hid (HBB.out.below hcb HBB.out.lt)
  have HBC := Lib.hid (HBC.out.below hcb HBC.out.lt)
  clear hb hcb
  rcases hres with rfl | ⟨g2x, rfl⟩
  · obtain ⟨c118a, c118b, c118c, c118d⟩ := mbox HBA.out
    have c118l := HBA.out.lt
    obtain ⟨c119a, c119b, c119c, c119d⟩ := mbox HBB.out
    have c119l := HBB.out.lt
    obtain ⟨c120a, c120b, c120c, c120d⟩ := mbox HBC.out
    have c120l := HBC.out.lt
    go_wp2_with fail
    clear c118a c118b c118c c118d c118l c119a c119b c119c c119d c119l c120a c120b c120c c120d c120l
    refine (sanity6_any _ (HT.out.next ((Below.refl _ v113).alloc (Nat.le_refl _) _))).mono ?_
    rintro e v117 ⟨rfl, hb⟩
    have hcb : Below v113.heap.size v113 v117 := below_call ((Below.refl _ v113).alloc (Nat.le_refl _) _) hb
    have HT := Lib.hid (HT.out.next hcb)
    have HW := Lib.hid (below_call HW.out hcb)
    have HBA := Lib.hid (HBA.out.below hcb HBA.out.lt)
    have HBB := Lib.hid (HBB.out.below hcb HBB.out.lt)
    have HBC := Lib.hid (HBC.out.below hcb HBC.out.lt)
    clear hb hcb
    go_wp2
    go_ret
    exact ⟨rfl, HW.out⟩
  · obtain ⟨c122a, c122b, c122c, c122d⟩ := mbox HBA.out
    have c122l := HBA.out.lt
    obtain ⟨c123a, c123b, c123c, c123d⟩ := mbox HBB.out
    have c123l := HBB.out.lt
    obtain ⟨c124a, c124b, c124c, c124d⟩ := mbox HBC.out
    have c124l := HBC.out.lt
    go_wp2_with fail
    clear c122a c122b c122c c122d c122l c123a c123b c123c c123d c123l c124a c124b c124c c124d c124l
    refine (sanity6_any _ (HT.out.next ((Below.refl _ v113).alloc (Nat.le_refl _) _))).mono ?_
    rintro e v121 ⟨rfl, hb⟩
    have hcb : Below v113.heap.size v113 v121 := below_call ((Below.refl _ v113).alloc (Nat.le_refl _) _) hb
    have HT := Lib.hid (HT.out.next hcb)
    have HW := Lib.hid (below_call HW.out hcb)
    have HBA := Lib.hid (HBA.out.below hcb HBA.out.lt)
    have HBB := Lib.hid (HBB.out.below hcb HBB.out.lt)
    have HBC := Lib.hid (HBC.out.below hcb HBC.out.lt)
    clear hb hcb
    go_wp2
    go_ret
    exact ⟨rfl, HW.out⟩
set_option maxRecDepth 100000 in
set_option maxHeartbeats 6400000 in
theorem assoc_e (ma ra ca : Int) (qa : Option Addr) (na ka : Nat) (mb rb cb : Int) (qb : Option Addr) (nb kb : Nat) (mc rc cc : Int) (qc : Option Addr) (nc kc : Nat) (w : World) (ht : Tab w) (hs1 : smallB ra ca na = true) (hs2 : smallB rb cb nb = true) (hs3 : smallB rc cc nc = true) (mp1 rp1 cp1 : Int) (Np1 : Nat) (hm1 : ∀ W, Below w.heap.size w W → Calls Tryd.prog 16 #[matV ma ra ca qa na ka, matV mb rb cb qb nb kb] W fun e w' => ∃ g, e = .returned (outV (matV mp1 rp1 cp1 (some ⟨g, 0, none⟩) Np1 Np1) 0) ∧ Below W.heap.size W w') (hm2 : ∀ W, Below w.heap.size w W → Calls Tryd.prog 16 #[matV mb rb cb qb nb kb, matV mc rc cc qc nc kc] W fun e w' => e = .returned (outV nilM 1) ∧ Below W.heap.size W w') :
    Calls Tryd.prog 6 #[matV ma ra ca qa na ka, matV mb rb cb qb nb kb, matV mc rc cc qc nc kc] w fun e w' => e = .returned (.bool true) ∧ Below w.heap.size w w' := by
  have HT := Lib.hid ht
  have HW := Lib.hid (Below.refl w.heap.size w)
  have hp := ht.lt
  have HSM1 := Lib.hid (fun W => small_any ma ra ca qa na ka W)
  rw [hs1] at HSM1
  have HSM2 := Lib.hid (fun W => small_any mb rb cb qb nb kb W)
  rw [hs2] at HSM2
  have HSM3 := Lib.hid (fun W => small_any mc rc cc qc nc kc W)
  rw [hs3] at HSM3
  have HM1 := Lib.hid hm1
  have HM2 := Lib.hid hm2
  unfold matV at HM1 HM2 HSM1 HSM2 HSM3 ⊢
  clear ht hm1 hm2 hs1 hs2 hs3
  go_enter Tryd.func6, Tryd.ntmps6
  go_wp2_with fail
  refine (HSM1.out _).mono ?_
  rintro e v125 ⟨rfl, hb⟩
  have hcb : Below w.heap.size w v125 := below_call ((((Below.refl _ w).alloc (Nat.le_refl _) _).alloc (by simp) _).alloc (by simp <;> omega) _) hb
  have HT := Lib.hid (HT.out.next hcb)
  have HW := Lib.hid (below_call HW.out hcb)
  have HBA := Lib.hid ((((show Row (w.alloc (.cells (matC ma ra ca qa na ka) 24)) (w.heap.size) 24 (matC ma ra ca qa na ka) from Row.made _ _ (by simp)).alloc _).alloc _).below hb (by simp <;> omega))
  have HBB := Lib.hid (((show Row ((w.alloc (.cells (matC ma ra ca qa na ka) 24)).alloc (.cells (matC mb rb cb qb nb kb) 24)) (w.heap.size + 1) 24 (matC mb rb cb qb nb kb) from Row.made _ _ (by simp)).alloc _).below hb (by simp <;> omega))
  have HBC := Lib.hid ((show Row (((w.alloc (.cells (matC ma ra ca qa na ka) 24)).alloc (.cells (matC mb rb cb qb nb kb) 24)).alloc (.cells (matC mc rc cc qc nc kc) 24)) (w.heap.size + 2) 24 (matC mc rc cc qc nc kc) from Row.made _ _ (by simp)).below hb (by simp <;> omega))
  clear hb hcb
  obtain ⟨c127a, c127b, c127c, c127d⟩ := mbox HBA.out
  obtain ⟨c128a, c128b, c128c, c128d⟩ := mbox HBB.out
  obtain ⟨c129a, c129b, c129c, c129d⟩ := mbox HBC.out
  go_wp2_with fail
  clear c127a c127b c127c c127d c128a c128b c128c c128d c129a c129b c129c c129d
  refine (HSM2.out _).mono ?_
  rintro e v126 ⟨rfl, hb⟩
  have hcb : Below v125.heap.size v125 v126 := below_call (Below.refl _ v125) hb
  have HT := Lib.hid (HT.out.next hcb)
  have HW := Lib.hid (below_call HW.out hcb)
  have HBA := Lib.hid (HBA.out.below hcb HBA.out.lt)
  have HBB := Lib.hid (HBB.out.below hcb HBB.out.lt)
  have HBC := Lib.hid (HBC.out.below hcb HBC.out.lt)
  clear hb hcb
  obtain ⟨c131a, c131b, c131c, c131d⟩ := mbox HBA.out
  obtain ⟨c132a, c132b, c132c, c132d⟩ := mbox HBB.out
  obtain ⟨c133a, c133b, c133c, c133d⟩ := mbox HBC.out
  go_wp2_with fail
  clear c131a c131b c131c c131d c132a c132b c132c c132d c133a c133b c133c c133d
  refine (HSM3.out _).mono ?_
  rintro e v130 ⟨rfl, hb⟩
  have hcb : Below v126.heap.size v126 v130 := below_call (Below.refl _ v126) hb
  have HT := Lib.hid (HT.out.next hcb)
  have HW := Lib.hid (below_call HW.out hcb)
  have HBA := Lib.hid (HBA.out.below hcb HBA.out.lt)
  have HBB := Lib.hid (HBB.out.below hcb HBB.out.lt)
  have HBC := Lib.hid (HBC.out.below hcb HBC.out.lt)
  clear hb hcb
  obtain ⟨c135a, c135b, c135c, c135d⟩ := mbox HBA.out
  obtain ⟨c136a, c136b, c136c, c136d⟩ := mbox HBB.out
  obtain ⟨c137a, c137b, c137c, c137d⟩ := mbox HBC.out
  go_wp2_with fail
  clear c135a c135b c135c c135d c136a c136b c136c c136d c137a c137b c137c c137d
  refine (HM1.out _ HW.out).mono ?_
  rintro e v134 ⟨g1x, rfl, hb⟩
  have hcb : Below v130.heap.size v130 v134 := below_call (Below.refl _ v130) hb
  have HT := Lib.hid (HT.out.next hcb)
  have HW := Lib.hid (below_call HW.out hcb)
  have HBA := Lib.hid (HBA.out.below hcb HBA.out.lt)
  have HBB := Lib.hid (HBB.out.below hcb HBB.out.lt)
  have HBC := Lib.hid (HBC.out.below hcb HBC.out.lt)
  clear hb hcb
  obtain ⟨c139a, c139b, c139c, c139d⟩ := mbox HBA.out
  have c139l := HBA.out.lt
  obtain ⟨c140a, c140b, c140c, c140d⟩ := mbox HBB.out
  have c140l := HBB.out.lt
  obtain ⟨c141a, c141b, c141c, c141d⟩ := mbox HBC.out
  have c141l := HBC.out.lt
  go_wp2_with fail
  clear c139a c139b c139c c139d c139l c140a c140b c140c c140d c140l c141a c141b c141c c141d c141l
  refine (HM2.out _ (HW.out.alloc (by first | exact HW.out.size | (have h9 := HW.out.size; simp <;> omega)) _)).mono ?_
  rintro e v138 ⟨rfl, hb⟩
  have hcb : Below v134.heap.size v134 v138 := below_call ((Below.refl _ v134).alloc (Nat.le_refl _) _) hb
  have HT := Lib.hid (HT.out.next hcb)
  have HW := Lib.hid (below_call HW.out hcb)
  have HBA := Lib.hid (HBA.out.below hcb HBA.out.lt)
  have HBB := Lib.hid (HBB.out.below hcb HBB.out.lt)
  have HBC := Lib.hid (HBC.out.below hcb HBC.out.lt)
  clear hb hcb
  obtain ⟨c143a, c143b, c143c, c143d⟩ := mbox HBA.out
  have c143l := HBA.out.lt
  obtain ⟨c144a, c144b, c144c, c144d⟩ := mbox HBB.out
  have c144l := HBB.out.lt
  obtain ⟨c145a, c145b, c145c, c145d⟩ := mbox HBC.out
  have c145l := HBC.out.lt
  go_wp2_with fail
  clear c143a c143b c143c c143d c143l c144a c144b c144c c144d c144l c145a c145b c145c c145d c145l
  refine (sanity6_any _ (HT.out.next ((Below.refl _ v138).alloc (Nat.le_refl _) _))).mono ?_
  rintro e v142 ⟨rfl, hb⟩
  have hcb : Below v138.heap.size v138 v142 := below_call ((Below.refl _ v138).alloc (Nat.le_refl _) _) hb
  have HT := Lib.hid (HT.out.next hcb)
  have HW := Lib.hid (below_call HW.out hcb)
  have HBA := Lib.hid (HBA.out.below hcb HBA.out.lt)
  have HBB := Lib.hid (HBB.out.below hcb HBB.out.lt)
  have HBC := Lib.hid (HBC.out.below hcb HBC.out.lt)
  clear hb hcb
  go_wp2
  go_ret
  exact ⟨rfl, HW.out⟩
set_option maxRecDepth 100000 in
set_option maxHeartbeats 12800000 in
theorem assoc_f {m r k l n : Nat} {A B C : Nat → Nat → Nat} (qa : Option Addr) (ka : Nat) (qb : Option Addr) (kb : Nat) (qc : Option Addr) (kc : Nat) (w : World) (ht : Tab w) (hA : MatR w w.heap.size m r k qa ka A) (hB : MatR w w.heap.size m k l qb kb B) (hC : MatR w w.heap.size m l n qc kc C) (hk : k ≤ 32) (hl : l ≤ 32) (hn : n ≤ 32)
    (hs1 : smallB r k (r * k) = true) (hs2 : smallB k l (k * l) = true) (hs3 : smallB l n (l * n) = true) :
    Calls Tryd.prog 6 #[matV m r k qa (r * k) ka, matV m k l qb (k * l) kb, matV m l n qc (l * n) kc] w fun e w' => e = .returned (.bool true) ∧ Below w.heap.size w w' := by
  have HT := Lib.hid ht
  have HW := Lib.hid (Below.refl w.heap.size w)
  have hp := ht.lt
  have hr := hA.hr
  have HSM1 := Lib.hid (fun W => small_any m r k qa (r * k) ka W)
  have HSM2 := Lib.hid (fun W => small_any m k l qb (k * l) kb W)
  have HSM3 := Lib.hid (fun W => small_any m l n qc (l * n) kc W)
  rw [hs1] at HSM1
  rw [hs2] at HSM2
  rw [hs3] at HSM3
  have hrn : r * n ≤ 32 * 32 := Nat.mul_le_mul hr hn
  have hlr : l * r ≤ 32 * 32 := Nat.mul_le_mul hl hr
  have okAB := Mat.prod_ok (c := l) (B := B) hA.hm hA.ok
  have okBC := Mat.prod_ok (c := n) (B := C) hA.hm hB.ok
  have HAB := Lib.hid (fun (W : World) (h : Below w.heap.size w W) => mul_yes qa ka qb kb W (ht.next h) ((hA.below h).more h.size) ((hB.below h).more h.size) hk hl)
  have HBCm := Lib.hid (fun (W : World) (h : Below w.heap.size w W) => mul_yes qb kb qc kc W (ht.next h) ((hB.below h).more h.size) ((hC.below h).more h.size) hl hn)
  have HLm := Lib.hid (fun (W : World) (h : Below w.heap.size w W) (ht2 : Tab W) (g : Nat) (hc : Cells W g (r * l) (Mat.flat l (Mat.prod m k A B))) => mul_yes (some ⟨g, 0, none⟩) (r * l) qc kc W ht2 (MatR.of_cells hc hc.lt hA.hm hr (by omega) okAB) ((hC.below h).more h.size) hl hn)
  have HRm := Lib.hid (fun (W : World) (h : Below w.heap.size w W) (ht2 : Tab W) (g : Nat) (hc : Cells W g (k * n) (Mat.flat n (Mat.prod m l B C))) => mul_yes qa ka (some ⟨g, 0, none⟩) (k * n) W ht2 ((hA.below h).more h.size) (MatR.of_cells hc hc.lt hA.hm hk (by omega) okBC) hk hn)
  have HSt := Lib.hid (fun (W : World) (h : Below w.heap.size w W) (g : Nat) (hc : Cells W g (r * l) (Mat.flat l (Mat.prod m k A B))) => transp_yes (some ⟨g, 0, none⟩) (r * l) W (MatR.of_cells hc hc.lt hA.hm hr (by omega) okAB) hl)
  have HAt := Lib.hid (fun (W : World) (h : Below w.heap.size w W) => transp_yes qa ka W ((hA.below h).more h.size) hk)
  have HBt := Lib.hid (fun (W : World) (h : Below w.heap.size w W) => transp_yes qb kb W ((hB.below h).more h.size) hl)
  have HTm := Lib.hid (fun (W : World) (ht2 : Tab W) (g1 g2 : Nat) (hc1 : Cells W g1 (l * k) (Mat.flat k (Mat.tr B))) (hc2 : Cells W g2 (k * r) (Mat.flat r (Mat.tr A))) => mul_yes (some ⟨g1, 0, none⟩) (l * k) (some ⟨g2, 0, none⟩) (k * r) W ht2 (MatR.of_cells hc1 hc1.lt hA.hm hl (by omega) (Mat.tr_ok hB.ok)) (MatR.of_cells hc2 hc2.lt hA.hm hk (by omega) (Mat.tr_ok hA.ok)) hk hr)
  have HSA1 := Lib.hid (fun (W : World) (g1 g2 : Nat) (hc1 : Cells W g1 (r * n) (Mat.flat n (Mat.prod m l (Mat.prod m k A B) C))) (hc2 : Cells W g2 (r * n) (Mat.flat n (Mat.prod m k A (Mat.prod m l B C)))) => same_true (m := m) (r := r) (c := n) (k1 := r * n) (k2 := r * n) (cellsL_length r n _) (cellsL_inj.2 (Mat.prod_assoc hA.hm hA.ok hB.ok hC.ok)) (by omega) (cells_rd hc1) (cells_rd hc2))
  have HSA2 := Lib.hid (fun (W : World) (g1 g2 : Nat) (hc1 : Cells W g1 (l * r) (Mat.flat r (Mat.tr (Mat.prod m k A B)))) (hc2 : Cells W g2 (l * r) (Mat.flat r (Mat.prod m k (Mat.tr B) (Mat.tr A)))) => same_true (m := m) (r := l) (c := r) (k1 := l * r) (k2 := l * r) (cellsL_length l r _) (cellsL_inj.2 (Mat.tr_prod hA.hm hA.ok hB.ok)) (by omega) (cells_rd hc1) (cells_rd hc2))
  obtain ⟨Na, hNa⟩ : ∃ N, r * k = N := ⟨_, rfl⟩
  obtain ⟨Nb, hNb⟩ : ∃ N, k * l = N := ⟨_, rfl⟩
  obtain ⟨Nc, hNc⟩ : ∃ N, l * n = N := ⟨_, rfl⟩
  obtain ⟨Nab, hNab⟩ : ∃ N, r * l = N := ⟨_, rfl⟩
  obtain ⟨Nbc, hNbc⟩ : ∃ N, k * n = N := ⟨_, rfl⟩
  obtain ⟨Nrn, hNrn⟩ : ∃ N, r * n = N := ⟨_, rfl⟩
  obtain ⟨Nlr, hNlr⟩ : ∃ N, l * r = N := ⟨_, rfl⟩
  obtain ⟨Nkr, hNkr⟩ : ∃ N, k * r = N := ⟨_, rfl⟩
  obtain ⟨Nlk, hNlk⟩ : ∃ N, l * k = N := ⟨_, rfl⟩
  rw [hNa] at HSM1 HAB HRm HAt ⊢
  rw [hNb] at HSM2 HAB HBCm HBt ⊢
  rw [hNc] at HSM3 HBCm HLm ⊢
  rw [hNab] at HAB HLm HSt
  rw [hNbc] at HBCm HRm
  rw [hNrn] at HLm HRm HSA1
  rw [hNlr] at HSt HTm HSA2
  rw [hNkr] at HAt HTm
  rw [hNlk] at HBt HTm
  unfold matV at HSM1 HSM2 HSM3 HAB HBCm HLm HRm HSt HAt HBt HTm HSA1 HSA2 ⊢
  clear ht hA hB hC hs1 hs2 hs3 hNa hNb hNc hNab hNbc hNrn hNlr hNkr hNlk hrn hlr okAB okBC
  go_enter Tryd.func6, Tryd.ntmps6
  go_wp2_with fail
  refine (HSM1.out _).mono ?_
  rintro e v146 ⟨rfl, hb⟩
  have hcb : Below w.heap.size w v146 := below_call ((((Below.refl _ w).alloc (Nat.le_refl _) _).alloc (by simp) _).alloc (by simp <;> omega) _) hb
  have HT := Lib.hid (HT.out.next hcb)
  have HW := Lib.hid (below_call HW.out hcb)
  have HBA := Lib.hid ((((show Row (w.alloc (.cells (matC m r k qa Na ka) 24)) (w.heap.size) 24 (matC m r k qa Na ka) from Row.made _ _ (by simp)).alloc _).alloc _).below hb (by simp <;> omega))
  have HBB := Lib.hid (((show Row ((w.alloc (.cells (matC m r k qa Na ka) 24)).alloc (.cells (matC m k l qb Nb kb) 24)) (w.heap.size + 1) 24 (matC m k l qb Nb kb) from Row.made _ _ (by simp)).alloc _).below hb (by simp <;> omega))
  have HBC := Lib.hid ((show Row (((w.alloc (.cells (matC m r k qa Na ka) 24)).alloc (.cells (matC m k l qb Nb kb) 24)).alloc (.cells (matC m l n qc Nc kc) 24)) (w.heap.size + 2) 24 (matC m l n qc Nc kc) from Row.made _ _ (by simp)).below hb (by simp <;> omega))
  clear hb hcb
  obtain ⟨c148a, c148b, c148c, c148d⟩ := mbox HBA.out
  obtain ⟨c149a, c149b, c149c, c149d⟩ := mbox HBB.out
  obtain ⟨c150a, c150b, c150c, c150d⟩ := mbox HBC.out
  go_wp2_with fail
  clear c148a c148b c148c c148d c149a c149b c149c c149d c150a c150b c150c c150d
  refine (HSM2.out _).mono ?_
  rintro e v147 ⟨rfl, hb⟩
  have hcb : Below v146.heap.size v146 v147 := below_call (Below.refl _ v146) hb
  have HT := Lib.hid (HT.out.next hcb)
  have HW := Lib.hid (below_call HW.out hcb)
  have HBA := Lib.hid (HBA.out.below hcb HBA.out.lt)
  have HBB := Lib.hid (HBB.out.below hcb HBB.out.lt)
  have HBC := Lib.hid (HBC.out.below hcb HBC.out.lt)
  clear hb hcb
  obtain ⟨c152a, c152b, c152c, c152d⟩ := mbox HBA.out
  obtain ⟨c153a, c153b, c153c, c153d⟩ := mbox HBB.out
  obtain ⟨c154a, c154b, c154c, c154d⟩ := mbox HBC.out
  go_wp2_with fail
  clear c152a c152b c152c c152d c153a c153b c153c c153d c154a c154b c154c c154d
  refine (HSM3.out _).mono ?_
  rintro e v151 ⟨rfl, hb⟩
  have hcb : Below v147.heap.size v147 v151 := below_call (Below.refl _ v147) hb
  have HT := Lib.hid (HT.out.next hcb)
  have HW := Lib.hid (below_call HW.out hcb)
  have HBA := Lib.hid (HBA.out.below hcb HBA.out.lt)
  have HBB := Lib.hid (HBB.out.below hcb HBB.out.lt)
  have HBC := Lib.hid (HBC.out.below hcb HBC.out.lt)
  clear hb hcb
  obtain ⟨c156a, c156b, c156c, c156d⟩ := mbox HBA.out
  obtain ⟨c157a, c157b, c157c, c157d⟩ := mbox HBB.out
  obtain ⟨c158a, c158b, c158c, c158d⟩ := mbox HBC.out
  go_wp2_with fail
  clear c156a c156b c156c c156d c157a c157b c157c c157d c158a c158b c158c c158d
  refine (HAB.out _ HW.out).mono ?_
  rintro e v155 ⟨gab, rfl, hgab, hcab, hb⟩
  have hcb : Below v151.heap.size v151 v155 := below_call (Below.refl _ v151) hb
  have HT := Lib.hid (HT.out.next hcb)
  have HW := Lib.hid (below_call HW.out hcb)
  have HBA := Lib.hid (HBA.out.below hcb HBA.out.lt)
  have HBB := Lib.hid (HBB.out.below hcb HBB.out.lt)
  have HBC := Lib.hid (HBC.out.below hcb HBC.out.lt)
  have HCab := Lib.hid hcab
  clear hcab
  clear hb hcb
  obtain ⟨c160a, c160b, c160c, c160d⟩ := mbox HBA.out
  have c160l := HBA.out.lt
  obtain ⟨c161a, c161b, c161c, c161d⟩ := mbox HBB.out
  have c161l := HBB.out.lt
  obtain ⟨c162a, c162b, c162c, c162d⟩ := mbox HBC.out
  have c162l := HBC.out.lt
  go_wp2_with fail
  clear c160a c160b c160c c160d c160l c161a c161b c161c c161d c161l c162a c162b c162c c162d c162l
  refine (HBCm.out _ (HW.out.alloc (by first | exact HW.out.size | (have h9 := HW.out.size; simp <;> omega)) _)).mono ?_
  rintro e v159 ⟨gbc, rfl, hgbc, hcbc, hb⟩
  have hcb : Below v155.heap.size v155 v159 := below_call ((Below.refl _ v155).alloc (Nat.le_refl _) _) hb
  have HT := Lib.hid (HT.out.next hcb)
  have HW := Lib.hid (below_call HW.out hcb)
  have HBA := Lib.hid (HBA.out.below hcb HBA.out.lt)
  have HBB := Lib.hid (HBB.out.below hcb HBB.out.lt)
  have HBC := Lib.hid (HBC.out.below hcb HBC.out.lt)
  have HCab := Lib.hid (HCab.out.below hcb HCab.out.lt)
  have HBab := Lib.hid ((show Row (v155.alloc (.cells (matC m r l (some ⟨gab, 0, none⟩) Nab Nab) 24)) (v155.heap.size) 24 (matC m r l (some ⟨gab, 0, none⟩) Nab Nab) from Row.made _ _ (by simp)).below hb (by simp <;> omega))
  have HCbc := Lib.hid hcbc
  clear hcbc
  clear hb hcb
  obtain ⟨c164a, c164b, c164c, c164d⟩ := mbox HBA.out
  have c164l := HBA.out.lt
  obtain ⟨c165a, c165b, c165c, c165d⟩ := mbox HBB.out
  have c165l := HBB.out.lt
  obtain ⟨c166a, c166b, c166c, c166d⟩ := mbox HBC.out
  have c166l := HBC.out.lt
  obtain ⟨c167a, c167b, c167c, c167d⟩ := mbox HBab.out
  have c167l := HBab.out.lt
  go_wp2_with fail
  clear c164a c164b c164c c164d c164l c165a c165b c165c c165d c165l c166a c166b c166c c166d c166l c167a c167b c167c c167d c167l
  refine (HLm.out _ (HW.out.alloc (by first | exact HW.out.size | (have h9 := HW.out.size; simp <;> omega)) _) (HT.out.next ((Below.refl _ v159).alloc (Nat.le_refl _) _)) gab (HCab.out.alloc _)).mono ?_
  rintro e v163 ⟨gl, rfl, hgl, hcl, hb⟩
  have hcb : Below v159.heap.size v159 v163 := below_call ((Below.refl _ v159).alloc (Nat.le_refl _) _) hb
  have HT := Lib.hid (HT.out.next hcb)
  have HW := Lib.hid (below_call HW.out hcb)
  have HBA := Lib.hid (HBA.out.below hcb HBA.out.lt)
  have HBB := Lib.hid (HBB.out.below hcb HBB.out.lt)
  have HBC := Lib.hid (HBC.out.below hcb HBC.out.lt)
  have HCab := Lib.hid (HCab.out.below hcb HCab.out.lt)
  have HBab := Lib.hid (HBab.out.below hcb HBab.out.lt)
  have HCbc := Lib.hid (HCbc.out.below hcb HCbc.out.lt)
  have HBbc := Lib.hid ((show Row (v159.alloc (.cells (matC m k n (some ⟨gbc, 0, none⟩) Nbc Nbc) 24)) (v159.heap.size) 24 (matC m k n (some ⟨gbc, 0, none⟩) Nbc Nbc) from Row.made _ _ (by simp)).below hb (by simp <;> omega))
  have HCl := Lib.hid hcl
  clear hcl
  clear hb hcb
  obtain ⟨c169a, c169b, c169c, c169d⟩ := mbox HBA.out
  have c169l := HBA.out.lt
  obtain ⟨c170a, c170b, c170c, c170d⟩ := mbox HBB.out
  have c170l := HBB.out.lt
  obtain ⟨c171a, c171b, c171c, c171d⟩ := mbox HBC.out
  have c171l := HBC.out.lt
  obtain ⟨c172a, c172b, c172c, c172d⟩ := mbox HBab.out
  have c172l := HBab.out.lt
  obtain ⟨c173a, c173b, c173c, c173d⟩ := mbox HBbc.out
  have c173l := HBbc.out.lt
  go_wp2_with fail
  clear c169a c169b c169c c169d c169l c170a c170b c170c c170d c170l c171a c171b c171c c171d c171l c172a c172b c172c c172d c172l c173a c173b c173c c173d c173l
  refine (HRm.out _ (HW.out.alloc (by first | exact HW.out.size | (have h9 := HW.out.size; simp <;> omega)) _) (HT.out.next ((Below.refl _ v163).alloc (Nat.le_refl _) _)) gbc (HCbc.out.alloc _)).mono ?_
  rintro e v168 ⟨gr, rfl, hgr, hcr, hb⟩
  have hcb : Below v163.heap.size v163 v168 := below_call ((Below.refl _ v163).alloc (Nat.le_refl _) _) hb
  have HT := Lib.hid (HT.out.next hcb)
  have HW := Lib.hid (below_call HW.out hcb)
  have HBA := Lib.hid (HBA.out.below hcb HBA.out.lt)
  have HBB := Lib.hid (HBB.out.below hcb HBB.out.lt)
  have HBC := Lib.hid (HBC.out.below hcb HBC.out.lt)
  have HCab := Lib.hid (HCab.out.below hcb HCab.out.lt)
  have HBab := Lib.hid (HBab.out.below hcb HBab.out.lt)
  have HCbc := Lib.hid (HCbc.out.below hcb HCbc.out.lt)
  have HBbc := Lib.hid (HBbc.out.below hcb HBbc.out.lt)
  have HCl := Lib.hid (HCl.out.below hcb HCl.out.lt)
  have HBl := Lib.hid ((show Row (v163.alloc (.cells (matC m r n (some ⟨gl, 0, none⟩) Nrn Nrn) 24)) (v163.heap.size) 24 (matC m r n (some ⟨gl, 0, none⟩) Nrn Nrn) from Row.made _ _ (by simp)).below hb (by simp <;> omega))
  have HCr := Lib.hid hcr
  clear hcr
  clear hb hcb
  obtain ⟨c175a, c175b, c175c, c175d⟩ := mbox HBA.out
  have c175l := HBA.out.lt
  obtain ⟨c176a, c176b, c176c, c176d⟩ := mbox HBB.out
  have c176l := HBB.out.lt
  obtain ⟨c177a, c177b, c177c, c177d⟩ := mbox HBC.out
  have c177l := HBC.out.lt
  obtain ⟨c178a, c178b, c178c, c178d⟩ := mbox HBab.out
  have c178l := HBab.out.lt
  obtain ⟨c179a, c179b, c179c, c179d⟩ := mbox HBbc.out
  have c179l := HBbc.out.lt
  obtain ⟨c180a, c180b, c180c, c180d⟩ := mbox HBl.out
  have c180l := HBl.out.lt
  go_wp2_with fail
  clear c175a c175b c175c c175d c175l c176a c176b c176c c176d c176l c177a c177b c177c c177d c177l c178a c178b c178c c178d c178l c179a c179b c179c c179d c179l c180a c180b c180c c180d c180l
  refine (HSt.out _ (HW.out.alloc (by first | exact HW.out.size | (have h9 := HW.out.size; simp <;> omega)) _) gab (HCab.out.alloc _)).mono ?_
  rintro e v174 ⟨gs, rfl, hgs, hcs, hb⟩
  have hcb : Below v168.heap.size v168 v174 := below_call ((Below.refl _ v168).alloc (Nat.le_refl _) _) hb
  have HT := Lib.hid (HT.out.next hcb)
  have HW := Lib.hid (below_call HW.out hcb)
  have HBA := Lib.hid (HBA.out.below hcb HBA.out.lt)
  have HBB := Lib.hid (HBB.out.below hcb HBB.out.lt)
  have HBC := Lib.hid (HBC.out.below hcb HBC.out.lt)
  have HCab := Lib.hid (HCab.out.below hcb HCab.out.lt)
  have HBab := Lib.hid (HBab.out.below hcb HBab.out.lt)
  have HCbc := Lib.hid (HCbc.out.below hcb HCbc.out.lt)
  have HBbc := Lib.hid (HBbc.out.below hcb HBbc.out.lt)
  have HCl := Lib.hid (HCl.out.below hcb HCl.out.lt)
  have HBl := Lib.hid (HBl.out.below hcb HBl.out.lt)
  have HCr := Lib.hid (HCr.out.below hcb HCr.out.lt)
  have HBr := Lib.hid ((show Row (v168.alloc (.cells (matC m r n (some ⟨gr, 0, none⟩) Nrn Nrn) 24)) (v168.heap.size) 24 (matC m r n (some ⟨gr, 0, none⟩) Nrn Nrn) from Row.made _ _ (by simp)).below hb (by simp <;> omega))
  have HCs := Lib.hid hcs
  clear hcs
  clear hb hcb
  obtain ⟨c182a, c182b, c182c, c182d⟩ := mbox HBA.out
  have c182l := HBA.out.lt
  obtain ⟨c183a, c183b, c183c, c183d⟩ := mbox HBB.out
  have c183l := HBB.out.lt
  obtain ⟨c184a, c184b, c184c, c184d⟩ := mbox HBC.out
  have c184l := HBC.out.lt
  obtain ⟨c185a, c185b, c185c, c185d⟩ := mbox HBab.out
  have c185l := HBab.out.lt
  obtain ⟨c186a, c186b, c186c, c186d⟩ := mbox HBbc.out
  have c186l := HBbc.out.lt
  obtain ⟨c187a, c187b, c187c, c187d⟩ := mbox HBl.out
  have c187l := HBl.out.lt
  obtain ⟨c188a, c188b, c188c, c188d⟩ := mbox HBr.out
  have c188l := HBr.out.lt
  go_wp2_with fail
  clear c182a c182b c182c c182d c182l c183a c183b c183c c183d c183l c184a c184b c184c c184d c184l c185a c185b c185c c185d c185l c186a c186b c186c c186d c186l c187a c187b c187c c187d c187l c188a c188b c188c c188d c188l
  refine (HAt.out _ (HW.out.alloc (by first | exact HW.out.size | (have h9 := HW.out.size; simp <;> omega)) _)).mono ?_
  rintro e v181 ⟨gat, rfl, hgat, hcat, hb⟩
  have hcb : Below v174.heap.size v174 v181 := below_call ((Below.refl _ v174).alloc (Nat.le_refl _) _) hb
  have HT := Lib.hid (HT.out.next hcb)
  have HW := Lib.hid (below_call HW.out hcb)
  have HBA := Lib.hid (HBA.out.below hcb HBA.out.lt)
  have HBB := Lib.hid (HBB.out.below hcb HBB.out.lt)
  have HBC := Lib.hid (HBC.out.below hcb HBC.out.lt)
  have HCab := Lib.hid (HCab.out.below hcb HCab.out.lt)
  have HBab := Lib.hid (HBab.out.below hcb HBab.out.lt)
  have HCbc := Lib.hid (HCbc.out.below hcb HCbc.out.lt)
  have HBbc := Lib.hid (HBbc.out.below hcb HBbc.out.lt)
  have HCl := Lib.hid (HCl.out.below hcb HCl.out.lt)
  have HBl := Lib.hid (HBl.out.below hcb HBl.out.lt)
  have HCr := Lib.hid (HCr.out.below hcb HCr.out.lt)
  have HBr := Lib.hid (HBr.out.below hcb HBr.out.lt)
  have HCs := Lib.hid (HCs.out.below hcb HCs.out.lt)
  have HBs := Lib.hid ((show Row (v174.alloc (.cells (matC m l r (some ⟨gs, 0, none⟩) Nlr Nlr) 24)) (v174.heap.size) 24 (matC m l r (some ⟨gs, 0, none⟩) Nlr Nlr) from Row.made _ _ (by simp)).below hb (by simp <;> omega))
  have HCat := Lib.hid hcat
  clear hcat
  clear hb hcb
  obtain ⟨c190a, c190b, c190c, c190d⟩ := mbox HBA.out
  have c190l := HBA.out.lt
  obtain ⟨c191a, c191b, c191c, c191d⟩ := mbox HBB.out
  have c191l := HBB.out.lt
  obtain ⟨c192a, c192b, c192c, c192d⟩ := mbox HBC.out
  have c192l := HBC.out.lt
  obtain ⟨c193a, c193b, c193c, c193d⟩ := mbox HBab.out
  have c193l := HBab.out.lt
  obtain ⟨c194a, c194b, c194c, c194d⟩ := mbox HBbc.out
  have c194l := HBbc.out.lt
  obtain ⟨c195a, c195b, c195c, c195d⟩ := mbox HBl.out
  have c195l := HBl.out.lt
  obtain ⟨c196a, c196b, c196c, c196d⟩ := mbox HBr.out
  have c196l := HBr.out.lt
  obtain ⟨c197a, c197b, c197c, c197d⟩ := mbox HBs.out
  have c197l := HBs.out.lt
  go_wp2_with fail
  clear c190a c190b c190c c190d c190l c191a c191b c191c c191d c191l c192a c192b c192c c192d c192l c193a c193b c193c c193d c193l c194a c194b c194c c194d c194l c195a c195b c195c c195d c195l c196a c196b c196c c196d c196l c197a c197b c197c c197d c197l
  refine (HBt.out _ (HW.out.alloc (by first | exact HW.out.size | (have h9 := HW.out.size; simp <;> omega)) _)).mono ?_
  rintro e v189 ⟨gbt, rfl, hgbt, hcbt, hb⟩
  have hcb : Below v181.heap.size v181 v189 := below_call ((Below.refl _ v181).alloc (Nat.le_refl _) _) hb
  have HT := Lib.hid (HT.out.next hcb)
  have HW := Lib.hid (below_call HW.out hcb)
  have HBA := Lib.hid (HBA.out.below hcb HBA.out.lt)
  have HBB := Lib.hid (HBB.out.below hcb HBB.out.lt)
  have HBC := Lib.hid (HBC.out.below hcb HBC.out.lt)
  have HCab := Lib.hid (HCab.out.below hcb HCab.out.lt)
  have HBab := Lib.hid (HBab.out.below hcb HBab.out.lt)
  have HCbc := Lib.hid (HCbc.out.below hcb HCbc.out.lt)
  have HBbc := Lib.hid (HBbc.out.below hcb HBbc.out.lt)
  have HCl := Lib.hid (HCl.out.below hcb HCl.out.lt)
  have HBl := Lib.hid (HBl.out.below hcb HBl.out.lt)
  have HCr := Lib.hid (HCr.out.below hcb HCr.out.lt)
  have HBr := Lib.hid (HBr.out.below hcb HBr.out.lt)
  have HCs := Lib.hid (HCs.out.below hcb HCs.out.lt)
  have HBs := Lib.hid (HBs.out.below hcb HBs.out.lt)
  have HCat := Lib.hid (HCat.out.below hcb HCat.out.lt)
  have HBat := Lib.hid ((show Row (v181.alloc (.cells (matC m k r (some ⟨gat, 0, none⟩) Nkr Nkr) 24)) (v181.heap.size) 24 (matC m k r (some ⟨gat, 0, none⟩) Nkr Nkr) from Row.made _ _ (by simp)).below hb (by simp <;> omega))
  have HCbt := Lib.hid hcbt
  clear hcbt
  clear hb hcb
  obtain ⟨c199a, c199b, c199c, c199d⟩ := mbox HBA.out
  have c199l := HBA.out.lt
  obtain ⟨c200a, c200b, c200c, c200d⟩ := mbox HBB.out
  have c200l := HBB.out.lt
  obtain ⟨c201a, c201b, c201c, c201d⟩ := mbox HBC.out
  have c201l := HBC.out.lt
  obtain ⟨c202a, c202b, c202c, c202d⟩ := mbox HBab.out
  have c202l := HBab.out.lt
  obtain ⟨c203a, c203b, c203c, c203d⟩ := mbox HBbc.out
  have c203l := HBbc.out.lt
  obtain ⟨c204a, c204b, c204c, c204d⟩ := mbox HBl.out
  have c204l := HBl.out.lt
  obtain ⟨c205a, c205b, c205c, c205d⟩ := mbox HBr.out
  have c205l := HBr.out.lt
  obtain ⟨c206a, c206b, c206c, c206d⟩ := mbox HBs.out
  have c206l := HBs.out.lt
  obtain ⟨c207a, c207b, c207c, c207d⟩ := mbox HBat.out
  have c207l := HBat.out.lt
  go_wp2_with fail
  clear c199a c199b c199c c199d c199l c200a c200b c200c c200d c200l c201a c201b c201c c201d c201l c202a c202b c202c c202d c202l c203a c203b c203c c203d c203l c204a c204b c204c c204d c204l c205a c205b c205c c205d c205l c206a c206b c206c c206d c206l c207a c207b c207c c207d c207l
  refine (HTm.out _ (HT.out.next ((Below.refl _ v189).alloc (Nat.le_refl _) _)) gbt gat (HCbt.out.alloc _) (HCat.out.alloc _)).mono ?_
  rintro e v198 ⟨gt, rfl, hgt, hct, hb⟩
  have hcb : Below v189.heap.size v189 v198 := below_call ((Below.refl _ v189).alloc (Nat.le_refl _) _) hb
  have HT := Lib.hid (HT.out.next hcb)
  have HW := Lib.hid (below_call HW.out hcb)
  have HBA := Lib.hid (HBA.out.below hcb HBA.out.lt)
  have HBB := Lib.hid (HBB.out.below hcb HBB.out.lt)
  have HBC := Lib.hid (HBC.out.below hcb HBC.out.lt)
  have HCab := Lib.hid (HCab.out.below hcb HCab.out.lt)
  have HBab := Lib.hid (HBab.out.below hcb HBab.out.lt)
  have HCbc := Lib.hid (HCbc.out.below hcb HCbc.out.lt)
  have HBbc := Lib.hid (HBbc.out.below hcb HBbc.out.lt)
  have HCl := Lib.hid (HCl.out.below hcb HCl.out.lt)
  have HBl := Lib.hid (HBl.out.below hcb HBl.out.lt)
  have HCr := Lib.hid (HCr.out.below hcb HCr.out.lt)
  have HBr := Lib.hid (HBr.out.below hcb HBr.out.lt)
  have HCs := Lib.hid (HCs.out.below hcb HCs.out.lt)
  have HBs := Lib.hid (HBs.out.below hcb HBs.out.lt)
  have HCat := Lib.hid (HCat.out.below hcb HCat.out.lt)
  have HBat := Lib.hid (HBat.out.below hcb HBat.out.lt)
  have HCbt := Lib.hid (HCbt.out.below hcb HCbt.out.lt)
  have HBbt := Lib.hid ((show Row (v189.alloc (.cells (matC m l k (some ⟨gbt, 0, none⟩) Nlk Nlk) 24)) (v189.heap.size) 24 (matC m l k (some ⟨gbt, 0, none⟩) Nlk Nlk) from Row.made _ _ (by simp)).below hb (by simp <;> omega))
  have HCt := Lib.hid hct
  clear hct
  clear hb hcb
  obtain ⟨c209a, c209b, c209c, c209d⟩ := mbox HBA.out
  have c209l := HBA.out.lt
  obtain ⟨c210a, c210b, c210c, c210d⟩ := mbox HBB.out
  have c210l := HBB.out.lt
  obtain ⟨c211a, c211b, c211c, c211d⟩ := mbox HBC.out
  have c211l := HBC.out.lt
  obtain ⟨c212a, c212b, c212c, c212d⟩ := mbox HBab.out
  have c212l := HBab.out.lt
  obtain ⟨c213a, c213b, c213c, c213d⟩ := mbox HBbc.out
  have c213l := HBbc.out.lt
  obtain ⟨c214a, c214b, c214c, c214d⟩ := mbox HBl.out
  have c214l := HBl.out.lt
  obtain ⟨c215a, c215b, c215c, c215d⟩ := mbox HBr.out
  have c215l := HBr.out.lt
  obtain ⟨c216a, c216b, c216c, c216d⟩ := mbox HBs.out
  have c216l := HBs.out.lt
  obtain ⟨c217a, c217b, c217c, c217d⟩ := mbox HBat.out
  have c217l := HBat.out.lt
  obtain ⟨c218a, c218b, c218c, c218d⟩ := mbox HBbt.out
  have c218l := HBbt.out.lt
  go_wp2_with fail
  clear c209a c209b c209c c209d c209l c210a c210b c210c c210d c210l c211a c211b c211c c211d c211l c212a c212b c212c c212d c212l c213a c213b c213c c213d c213l c214a c214b c214c c214d c214l c215a c215b c215c c215d c215l c216a c216b c216c c216d c216l c217a c217b c217c c217d c217l c218a c218b c218c c218d c218l
  refine (sanity6_any _ (HT.out.next ((Below.refl _ v198).alloc (Nat.le_refl _) _))).mono ?_
  rintro e v208 ⟨rfl, hb⟩
  have hcb : Below v198.heap.size v198 v208 := below_call ((Below.refl _ v198).alloc (Nat.le_refl _) _) hb
  have HT := Lib.hid (HT.out.next hcb)
  have HW := Lib.hid (below_call HW.out hcb)
  have HBA := Lib.hid (HBA.out.below hcb HBA.out.lt)
  have HBB := Lib.hid (HBB.out.below hcb HBB.out.lt)
  have HBC := Lib.hid (HBC.out.below hcb HBC.out.lt)
  have HCab := Lib.hid (HCab.out.below hcb HCab.out.lt)
  have HBab := Lib.hid (HBab.out.below hcb HBab.out.lt)
  have HCbc := Lib.hid (HCbc.out.below hcb HCbc.out.lt)
  have HBbc := Lib.hid (HBbc.out.below hcb HBbc.out.lt)
  have HCl := Lib.hid (HCl.out.below hcb HCl.out.lt)
  have HBl := Lib.hid (HBl.out.below hcb HBl.out.lt)
  have HCr := Lib.hid (HCr.out.below hcb HCr.out.lt)
  have HBr := Lib.hid (HBr.out.below hcb HBr.out.lt)
  have HCs := Lib.hid (HCs.out.below hcb HCs.out.lt)
  have HBs := Lib.hid (HBs.out.below hcb HBs.out.lt)
  have HCat := Lib.hid (HCat.out.below hcb HCat.out.lt)
  have HBat := Lib.hid (HBat.out.below hcb HBat.out.lt)
  have HCbt := Lib.hid (HCbt.out.below hcb HCbt.out.lt)
  have HBbt := Lib.hid (HBbt.out.below hcb HBbt.out.lt)
  have HCt := Lib.hid (HCt.out.below hcb HCt.out.lt)
  have HBt2 := Lib.hid ((show Row (v198.alloc (.cells (matC m l r (some ⟨gt, 0, none⟩) Nlr Nlr) 24)) (v198.heap.size) 24 (matC m l r (some ⟨gt, 0, none⟩) Nlr Nlr) from Row.made _ _ (by simp)).below hb (by simp <;> omega))
  clear hb hcb
  obtain ⟨c220a, c220b, c220c, c220d⟩ := mbox HBA.out
  obtain ⟨c221a, c221b, c221c, c221d⟩ := mbox HBB.out
  obtain ⟨c222a, c222b, c222c, c222d⟩ := mbox HBC.out
  obtain ⟨c223a, c223b, c223c, c223d⟩ := mbox HBab.out
  obtain ⟨c224a, c224b, c224c, c224d⟩ := mbox HBbc.out
  obtain ⟨c225a, c225b, c225c, c225d⟩ := mbox HBl.out
  obtain ⟨c226a, c226b, c226c, c226d⟩ := mbox HBr.out
  obtain ⟨c227a, c227b, c227c, c227d⟩ := mbox HBs.out
  obtain ⟨c228a, c228b, c228c, c228d⟩ := mbox HBat.out
  obtain ⟨c229a, c229b, c229c, c229d⟩ := mbox HBbt.out
  obtain ⟨c230a, c230b, c230c, c230d⟩ := mbox HBt2.out
  go_wp2_with fail
  clear c220a c220b c220c c220d c221a c221b c221c c221d c222a c222b c222c c222d c223a c223b c223c c223d c224a c224b c224c c224d c225a c225b c225c c225d c226a c226b c226c c226d c227a c227b c227c c227d c228a c228b c228c c228d c229a c229b c229c c229d c230a c230b c230c c230d
  refine (HSA1.out _ gl gr HCl.out HCr.out).mono ?_
  rintro e v219 ⟨rfl, hb⟩
  have hcb : Below v208.heap.size v208 v219 := below_call (Below.refl _ v208) hb
  have HT := Lib.hid (HT.out.next hcb)
  have HW := Lib.hid (below_call HW.out hcb)
  have HBA := Lib.hid (HBA.out.below hcb HBA.out.lt)
  have HBB := Lib.hid (HBB.out.below hcb HBB.out.lt)
  have HBC := Lib.hid (HBC.out.below hcb HBC.out.lt)
  have HCab := Lib.hid (HCab.out.below hcb HCab.out.lt)
  have HBab := Lib.hid (HBab.out.below hcb HBab.out.lt)
  have HCbc := Lib.hid (HCbc.out.below hcb HCbc.out.lt)
  have HBbc := Lib.hid (HBbc.out.below hcb HBbc.out.lt)
  have HCl := Lib.hid (HCl.out.below hcb HCl.out.lt)
  have HBl := Lib.hid (HBl.out.below hcb HBl.out.lt)
  have HCr := Lib.hid (HCr.out.below hcb HCr.out.lt)
  have HBr := Lib.hid (HBr.out.below hcb HBr.out.lt)
  have HCs := Lib.hid (HCs.out.below hcb HCs.out.lt)
  have HBs := Lib.hid (HBs.out.below hcb HBs.out.lt)
  have HCat := Lib.hid (HCat.out.below hcb HCat.out.lt)
  have HBat := Lib.hid (HBat.out.below hcb HBat.out.lt)
  have HCbt := Lib.hid (HCbt.out.below hcb HCbt.out.lt)
  have HBbt := Lib.hid (HBbt.out.below hcb HBbt.out.lt)
  have HCt := Lib.hid (HCt.out.below hcb HCt.out.lt)
  have HBt2 := Lib.hid (HBt2.out.below hcb HBt2.out.lt)
  clear hb hcb
  obtain ⟨c232a, c232b, c232c, c232d⟩ := mbox HBA.out
  obtain ⟨c233a, c233b, c233c, c233d⟩ := mbox HBB.out
  obtain ⟨c234a, c234b, c234c, c234d⟩ := mbox HBC.out
  obtain ⟨c235a, c235b, c235c, c235d⟩ := mbox HBab.out
  obtain ⟨c236a, c236b, c236c, c236d⟩ := mbox HBbc.out
  obtain ⟨c237a, c237b, c237c, c237d⟩ := mbox HBl.out
  obtain ⟨c238a, c238b, c238c, c238d⟩ := mbox HBr.out
  obtain ⟨c239a, c239b, c239c, c239d⟩ := mbox HBs.out
  obtain ⟨c240a, c240b, c240c, c240d⟩ := mbox HBat.out
  obtain ⟨c241a, c241b, c241c, c241d⟩ := mbox HBbt.out
  obtain ⟨c242a, c242b, c242c, c242d⟩ := mbox HBt2.out
  go_wp2_with fail
  clear c232a c232b c232c c232d c233a c233b c233c c233d c234a c234b c234c c234d c235a c235b c235c c235d c236a c236b c236c c236d c237a c237b c237c c237d c238a c238b c238c c238d c239a c239b c239c c239d c240a c240b c240c c240d c241a c241b c241c c241d c242a c242b c242c c242d
  refine (HSA2.out _ gs gt HCs.out HCt.out).mono ?_
  rintro e v231 ⟨rfl, hb⟩
  have hcb : Below v219.heap.size v219 v231 := below_call (Below.refl _ v219) hb
  have HT := Lib.hid (HT.out.next hcb)
  have HW := Lib.hid (below_call HW.out hcb)
  have HBA := Lib.hid (HBA.out.below hcb HBA.out.lt)
  have HBB := Lib.hid (HBB.out.below hcb HBB.out.lt)
  have HBC := Lib.hid (HBC.out.below hcb HBC.out.lt)
  have HCab := Lib.hid (HCab.out.below hcb HCab.out.lt)
  have HBab := Lib.hid (HBab.out.below hcb HBab.out.lt)
  have HCbc := Lib.hid (HCbc.out.below hcb HCbc.out.lt)
  have HBbc := Lib.hid (HBbc.out.below hcb HBbc.out.lt)
  have HCl := Lib.hid (HCl.out.below hcb HCl.out.lt)
  have HBl := Lib.hid (HBl.out.below hcb HBl.out.lt)
  have HCr := Lib.hid (HCr.out.below hcb HCr.out.lt)
  have HBr := Lib.hid (HBr.out.below hcb HBr.out.lt)
  have HCs := Lib.hid (HCs.out.below hcb HCs.out.lt)
  have HBs := Lib.hid (HBs.out.below hcb HBs.out.lt)
  have HCat := Lib.hid (HCat.out.below hcb HCat.out.lt)
  have HBat := Lib.hid (HBat.out.below hcb HBat.out.lt)
  have HCbt := Lib.hid (HCbt.out.below hcb HCbt.out.lt)
  have HBbt := Lib.hid (HBbt.out.below hcb HBbt.out.lt)
  have HCt := Lib.hid (HCt.out.below hcb HCt.out.lt)
  have HBt2 := Lib.hid (HBt2.out.below hcb HBt2.out.lt)
  clear hb hcb
  go_wp2
  go_ret
  exact ⟨rfl, HW.out⟩
theorem walk_MatrixAssociates (ma ra ca : Int) (qa : Option Addr) (na ka : Nat) (xs : List Int) (mb rb cb : Int) (qb : Option Addr) (nb kb : Nat) (ys : List Int) (mc rc cc : Int) (qc : Option Addr) (nc kc : Nat) (zs : List Int) (w : World) (h1 : IntsIn w qa na ka xs) (h2 : IntsIn w qb nb kb ys) (h3 : IntsIn w qc nc kc zs) (ht : Tab w) :
    Calls Tryd.prog 6 #[matV ma ra ca qa na ka, matV mb rb cb qb nb kb, matV mc rc cc qc nc kc] w fun e w' => e = .returned (.bool true) ∧ Below w.heap.size w w' := by
  obtain ⟨mp1, rp1, cp1, Np1, any1⟩ := any_mul (ma := ma) (ra := ra) (ca := ca) (mb := mb) (rb := rb) (cb := cb) h1 h2 ht
  obtain ⟨mp2, rp2, cp2, Np2, any2⟩ := any_mul (ma := mb) (ra := rb) (ca := cb) (mb := mc) (rb := rc) (cb := cc) h2 h3 ht
  cases hs1 : smallB ra ca na with
  | false => exact assoc_a ma ra ca qa na ka mb rb cb qb nb kb mc rc cc qc nc kc w ht hs1 mp1 rp1 cp1 Np1 any1 mp2 rp2 cp2 Np2 any2
  | true =>
    cases hs2 : smallB rb cb nb with
    | false => exact assoc_b ma ra ca qa na ka mb rb cb qb nb kb mc rc cc qc nc kc w ht hs1 hs2 mp1 rp1 cp1 Np1 any1 mp2 rp2 cp2 Np2 any2
    | true =>
      cases hs3 : smallB rc cc nc with
      | false => exact assoc_c ma ra ca qa na ka mb rb cb qb nb kb mc rc cc qc nc kc w ht hs1 hs2 hs3 mp1 rp1 cp1 Np1 any1 mp2 rp2 cp2 Np2 any2
      | true =>
        cases hmul : (okMat ma ra ca xs && okMat mb rb cb ys && decide (ma = mb) && decide (ca = rb)) with
        | false => exact assoc_d ma ra ca qa na ka mb rb cb qb nb kb mc rc cc qc nc kc w ht hs1 hs2 hs3 (no_mul h1 h2 hmul) mp2 rp2 cp2 Np2 any2
        | true =>
          simp only [Bool.and_eq_true, decide_eq_true_eq] at hmul
          obtain ⟨⟨⟨hoa, hob⟩, e1⟩, e2⟩ := hmul
          have hob' := hob
          obtain ⟨m, r, k, A, rfl, rfl, rfl, rfl, hxs, hk, hA⟩ := matIn h1 hoa
          obtain ⟨m2, k2, l, B, e3, e4, rfl, rfl, hys, hl, hB⟩ := matIn h2 hob
          obtain rfl : m = m2 := by omega
          obtain rfl : k = k2 := by omega
          subst e3; subst e4
          cases hmul2 : (okMat m k l ys && okMat mc rc cc zs && decide ((m : Int) = mc) && decide ((l : Int) = rc)) with
          | false =>
            refine assoc_e m r k qa (r * k) ka m k l qb (k * l) kb mc rc cc qc nc kc w ht hs1 hs2 hs3 m r l (r * l) (fun W hb => (mul_yes qa ka qb kb W (ht.next hb) ((hA.below hb).more hb.size) ((hB.below hb).more hb.size) hk hl).mono ?_) (no_mul h2 h3 hmul2)
            rintro e w' ⟨g, rfl, _, _, hb⟩
            exact ⟨g, rfl, hb⟩
          | true =>
            simp only [Bool.and_eq_true, decide_eq_true_eq] at hmul2
            obtain ⟨⟨⟨_, hoc⟩, e5⟩, e6⟩ := hmul2
            obtain ⟨m3, l3, n, C, e7, e8, rfl, rfl, hzs, hn, hC⟩ := matIn h3 hoc
            obtain rfl : m = m3 := by omega
            obtain rfl : l = l3 := by omega
            subst e7; subst e8
            exact assoc_f qa ka qb kb qc kc w ht hA hB hC hk hl hn hs1 hs2 hs3

/-! ### the frame: the arguments opened and shut -/
theorem contract_MatrixAssociates (H : Type) (enc : TypeId × Value → H) (W : World) (base : Nat) (args : Array Value) (ds gs : List (DataW H)) (before : List MemPlace)
    (hval0 : ∀ (j : Nat) t v, Tryd.f6.params[j]? = some t → args[j]? = some v → Value.okWide Tryd.prog W .any base t v)
    (hW : DataW.Whole enc Tryd.prog Tryd.f6.params.toList Rows.matrixAssociatesSpec.vars false W args.toList ds gs before) (hL : laidMetH Tryd.prog Rows.matrixAssociatesRow.laid W) :
    Calls Tryd.prog 6 args W fun e W' => ∃ v, e = .returned v ∧ Rows.matrixAssociatesSpec.post enc Tryd.prog Tryd.f6 false true false false W args v W' := by
  have hval : ∀ (j : Nat) t v, Tryd.f6.params[j]? = some t → args[j]? = some v → Value.okWide Tryd.prog W .any base t v := hval0
  have hW' := hW
  obtain ⟨p, q, hA0, hV, rfl, hfz, hnd⟩ := hW
  have hA : DataW.TrodAll enc Tryd.prog W 0 (fun _ => true) true Tryd.f6.params.toList args.toList ds p := hA0
  rw [Tryd.params6] at hA hval
  obtain ⟨v0, vs0, d0, ds0, p0, q0, hargs, rfl, rfl, h0, r0⟩ := trodAll_cons hA
  obtain ⟨v1, vs1, d1, ds1, p1, q1, rfl, rfl, rfl, h1, r1⟩ := trodAll_cons r0
  obtain ⟨v2, vs2, d2, ds2, p2, q2, rfl, rfl, rfl, h2, r2⟩ := trodAll_cons r1
  obtain ⟨rfl, rfl, rfl⟩ := trodAll_nil r2
  obtain rfl : args = #[v0, v1, v2] := by cases args; simp_all
  obtain ⟨rfl, rfl⟩ := trodVars_none hV
  have k0 := h0
  have lt0 : ∀ x ∈ p0, x.block < W.heap.size := by obtain ⟨m, hm⟩ := k0; exact DataW.trod_lt m _ _ _ hm
  have k1 := h1
  have lt1 : ∀ x ∈ p1, x.block < W.heap.size := by obtain ⟨m, hm⟩ := k1; exact DataW.trod_lt m _ _ _ hm
  have k2 := h2
  have lt2 : ∀ x ∈ p2, x.block < W.heap.size := by obtain ⟨m, hm⟩ := k2; exact DataW.trod_lt m _ _ _ hm
  obtain ⟨cs0, rfl, _⟩ := okWide_struct Tryd.underlying24 (hval 0 24 v0 rfl rfl)
  obtain ⟨fuel0, hf0⟩ := h0
  obtain ⟨mm0, mr0, mc0, ma0, mn0, mk0, mx0, hcs0, hin0⟩ := open_matrix hf0
  obtain rfl : cs0 = #[.int .i64 mm0, .int .i64 mr0, .int .i64 mc0, .slice ma0 mn0 mk0] := by apply Array.toList_inj.1; simpa [Value.cells] using hcs0
  obtain ⟨cs1, rfl, _⟩ := okWide_struct Tryd.underlying24 (hval 1 24 v1 rfl rfl)
  obtain ⟨fuel1, hf1⟩ := h1
  obtain ⟨mm1, mr1, mc1, ma1, mn1, mk1, mx1, hcs1, hin1⟩ := open_matrix hf1
  obtain rfl : cs1 = #[.int .i64 mm1, .int .i64 mr1, .int .i64 mc1, .slice ma1 mn1 mk1] := by apply Array.toList_inj.1; simpa [Value.cells] using hcs1
  obtain ⟨cs2, rfl, _⟩ := okWide_struct Tryd.underlying24 (hval 2 24 v2 rfl rfl)
  obtain ⟨fuel2, hf2⟩ := h2
  obtain ⟨mm2, mr2, mc2, ma2, mn2, mk2, mx2, hcs2, hin2⟩ := open_matrix hf2
  obtain rfl : cs2 = #[.int .i64 mm2, .int .i64 mr2, .int .i64 mc2, .slice ma2 mn2 mk2] := by apply Array.toList_inj.1; simpa [Value.cells] using hcs2
  refine (walk_MatrixAssociates mm0 mr0 mc0 ma0 mn0 mk0 mx0 mm1 mr1 mc1 ma1 mn1 mk1 mx1 mm2 mr2 mc2 ma2 mn2 mk2 mx2 W hin0 hin1 hin2 (tab_of hL)).mono fun e W' ⟨he, bel⟩ => ?_
  subst he
  exact ⟨_, rfl, _, _, _, [], _, [], hW', trodAll_mk1 (shut_bool Tryd.underlying4 _), (trodAll_cons_mk (Below.trod laidOut (by kernel_rfl) (of_decide_eq_true (by kernel_rfl)) k0 bel lt0) (trodAll_cons_mk (Below.trod laidOut (by kernel_rfl) (of_decide_eq_true (by kernel_rfl)) k1 bel lt1) (trodAll_cons_mk (Below.trod laidOut (by kernel_rfl) (of_decide_eq_true (by kernel_rfl)) k2 bel lt2) trodAll_mk0))), rfl, bel.frame _, fun h => by cases h⟩
theorem laid_MatrixAssociates (os : Os) : laidMet Tryd.prog Rows.matrixAssociatesRow.laid ((laidWorld os).forCall (fun _ _ => 0) ⟨#[], #[.agg #[.int .i64 0, .int .i64 0, .int .i64 0, .slice none 0 0], .agg #[.int .i64 0, .int .i64 0, .int .i64 0, .slice none 0 0], .agg #[.int .i64 0, .int .i64 0, .int .i64 0, .slice none 0 0]], []⟩).memory :=
  laidMet_of_run' 8 (by kernel_rfl) (by kernel_rfl)
theorem reads_MatrixAssociates (os : Os) {H : Type} (enc : TypeId × Value → H) : ∃ places, DataW.whole enc Tryd.prog ((laidWorld os).forCall (fun _ _ => 0) ⟨#[], #[.agg #[.int .i64 0, .int .i64 0, .int .i64 0, .slice none 0 0], .agg #[.int .i64 0, .int .i64 0, .int .i64 0, .slice none 0 0], .agg #[.int .i64 0, .int .i64 0, .int .i64 0, .slice none 0 0]], []⟩).memory Tryd.f6.params.toList Rows.matrixAssociatesSpec.vars false (#[.agg #[.int .i64 0, .int .i64 0, .int .i64 0, .slice none 0 0], .agg #[.int .i64 0, .int .i64 0, .int .i64 0, .slice none 0 0], .agg #[.int .i64 0, .int .i64 0, .int .i64 0, .slice none 0 0]] : Array Value).toList 8 = some ([.agg [.lit (.int .i64 0), .lit (.int .i64 0), .lit (.int .i64 0), .nil], .agg [.lit (.int .i64 0), .lit (.int .i64 0), .lit (.int .i64 0), .nil], .agg [.lit (.int .i64 0), .lit (.int .i64 0), .lit (.int .i64 0), .nil]], [], places) :=
  ⟨[], by kernel_rfl⟩
set_option maxRecDepth 100000 in
theorem lifted_MatrixAssociates (os : Os) (started : os.Started) (H : Type) (enc : TypeId × Value → H) (F : Stop.Interp) :
    ReturnsInHanded {} Tryd.checked os 6 .any ((OpenSpec.ofChange Rows.matrixAssociatesSpec).preRow enc Tryd.prog Tryd.f6 Rows.matrixAssociatesRow.domain false Rows.matrixAssociatesRow.laid) (((OpenSpec.ofChange Rows.matrixAssociatesSpec).at F).post enc Tryd.prog Tryd.f6 false true false false) := by
  obtain ⟨places, hx⟩ := reads_MatrixAssociates os enc
  refine returnsInHanded_of_row (C := Tryd.checked) (s := OpenSpec.ofChange Rows.matrixAssociatesSpec) own started (by kernel_rfl) Tryd.func6
    (witness_row_at (enc := enc) (C := Tryd.checked) false (laidWorld os) #[.agg #[.int .i64 0, .int .i64 0, .int .i64 0, .slice none 0 0], .agg #[.int .i64 0, .int .i64 0, .int .i64 0, .slice none 0 0], .agg #[.int .i64 0, .int .i64 0, .int .i64 0, .slice none 0 0]] rfl (by kernel_rfl) (by kernel_rfl) (by kernel_rfl)
      (OpenSpec.preRow_of_cond 8 hx (by kernel_rfl) (fun k hk => by cases hk) (by kernel_rfl) (laid_MatrixAssociates os))) ?_
  intro W base args ds gs before hval hW _ hcond _ hL _ _
  exact contract_MatrixAssociates H enc W base args ds gs before hval hW hL

theorem said_MatrixAssociates : Rows.MatrixAssociatesSaid :=
  OpenClaim.holds_of_cond 6 Tryd.f6 rfl rfl rfl rfl rfl rfl rfl ⟨rfl, rfl, rfl, rfl, rfl⟩ rfl rfl rfl rfl rfl (by kernel_rfl) Tryd.func6 (by kernel_rfl)
    (of_decide_eq_true (by kernel_rfl)) (by unfold Func.isWrapper; first | (rw [if_pos (by decide +kernel)]; kernel_rfl) | (rw [if_neg (by decide +kernel)]; exact ⟨rfl, rfl⟩))
    (fun os started H enc _ F => by rw [OpenClaim.pre_eq_preRow]; exact lifted_MatrixAssociates os started H enc F)
theorem plain_MatrixAssociates (f : FuncId) (fn : Func) (hf : Tryd.pinned.checked.prog.funcNamed "solvent/solventlaw06.MatrixAssociates" = some f) (hfn : Tryd.pinned.checked.prog.funcs[f]? = some fn) :
    false = Tryd.pinned.checked.prog.looks [] ∧ ∀ (j : Nat) t, fn.params[j]? = some t → Tryd.pinned.checked.prog.wantsStandIn t = false := by
  obtain rfl : f = 6 := Option.some.inj ((show Tryd.prog.funcNamed "solvent/solventlaw06.MatrixAssociates" = some 6 by kernel_rfl).symm.trans hf) |>.symm
  obtain rfl : fn = Tryd.f6 := (Option.some.inj (Tryd.func6.symm.trans hfn)).symm
  refine ⟨by kernel_rfl, fun j t ht => ?_⟩
  rw [Tryd.params6] at ht
  have hm := Array.mem_of_getElem? ht
  simp only [List.mem_toArray, List.mem_cons, List.not_mem_nil, or_false, or_self] at hm
  subst hm
  exact (show Tryd.prog.wantsStandIn 24 = false by kernel_rfl)
theorem proved_MatrixAssociates : Rows.MatrixAssociatesCardSaid :=
  Claim7.holds_tied_plain_at .later [] _ _ _ _ said_MatrixAssociates (fun _ h => by cases h) (by kernel_rfl) (fun _ h => by cases h) matrixAssociates_row_tie rfl ⟨rfl, rfl⟩ (by kernel_rfl) rfl plain_MatrixAssociates (by kernel_rfl)

end Go.Proofs.YtaijjhddgecieaaDoor
