/- This text proves of solventlaw06.MatrixPicks: for every two matrices and every list of row numbers the statement returns true: picking rows of a product is the same as multiplying the picked rows; the arguments read as they did. (Printed by mkpicks.py.) -/
import Derived.Test.YtaijjhddgecieaaDoorM24
import Derived.Test.YtaijjhddgecieaaDoorOpenM
import Derived.Test.YtaijjhddgecieaaDoorFldT
import Derived.Deep.RegionHeld3
namespace Go.Proofs.YtaijjhddgecieaaDoor
set_option linter.unusedSimpArgs false
set_option linter.unusedVariables false
open Go.ChangeShapes Go.WideShapes Go.ChangeAt Go.RowKit Go.Lib

set_option maxRecDepth 100000 in
set_option maxHeartbeats 6400000 in
theorem picks_a (ma ra ca : Int) (qa : Option Addr) (na ka : Nat) (mb rb cb : Int) (qb : Option Addr) (nb kb : Nat) (qr : Option Addr) (L kr : Nat) (w : World) (ht : Tab w) (hs1 : smallB ra ca na = false) (hmul : ∀ W, Below w.heap.size w W → Calls Tryd.prog 16 #[matV ma ra ca qa na ka, matV mb rb cb qb nb kb] W fun e w' => e = .returned (outV nilM 1) ∧ Below W.heap.size W w') (mq rq cq : Int) (Nq : Nat) (hpick : ∀ W, Below w.heap.size w W → Calls Tryd.prog 25 #[matV ma ra ca qa na ka, .slice qr L kr] W fun e w' => (e = .returned (outV nilM 1) ∨ ∃ q k, e = .returned (outV (matV mq rq cq q Nq k) 0)) ∧ Below W.heap.size W w') :
    Calls Tryd.prog 9 #[matV ma ra ca qa na ka, matV mb rb cb qb nb kb, .slice qr L kr] w fun e w' => e = .returned (.bool true) ∧ Below w.heap.size w w' := by
  have HT := Lib.hid ht
  have HW := Lib.hid (Below.refl w.heap.size w)
  have hp := ht.lt
  have HSM1 := Lib.hid (fun W => small_any ma ra ca qa na ka W)
  rw [hs1] at HSM1
  have HMUL := Lib.hid hmul
  have HPICK := Lib.hid hpick
  unfold matV at HMUL HPICK HSM1 ⊢
  clear ht hmul hpick hs1
  go_enter Tryd.func9, Tryd.ntmps9
  go_wp2_with fail
  refine (HSM1.out _).mono ?_
  rintro e v1 ⟨rfl, hb⟩
  have hcb : Below w.heap.size w v1 := below_call (((Below.refl _ w).alloc (Nat.le_refl _) _).alloc (by simp) _) hb
  have HT := Lib.hid (HT.out.next hcb)
  have HW := Lib.hid (below_call HW.out hcb)
  have HBA := Lib.hid (((show Row (w.alloc (.cells (matC ma ra ca qa na ka) 24)) (w.heap.size) 24 (matC ma ra ca qa na ka) from Row.made _ _ (by simp)).alloc _).below hb (by simp <;> omega))
  have HBB := Lib.hid ((show Row ((w.alloc (.cells (matC ma ra ca qa na ka) 24)).alloc (.cells (matC mb rb cb qb nb kb) 24)) (w.heap.size + 1) 24 (matC mb rb cb qb nb kb) from Row.made _ _ (by simp)).below hb (by simp <;> omega))
  clear hb hcb
  obtain ⟨c3a, c3b, c3c, c3d⟩ := mbox HBA.out
  obtain ⟨c4a, c4b, c4c, c4d⟩ := mbox HBB.out
  go_wp2_with fail
  clear c3a c3b c3c c3d c4a c4b c4c c4d
  refine (HMUL.out _ HW.out).mono ?_
  rintro e v2 ⟨rfl, hb⟩
  have hcb : Below v1.heap.size v1 v2 := below_call (Below.refl _ v1) hb
  have HT := Lib.hid (HT.out.next hcb)
  have HW := Lib.hid (below_call HW.out hcb)
  have HBA := Lib.hid (HBA.out.below hcb HBA.out.lt)
  have HBB := Lib.hid (HBB.out.below hcb HBB.out.lt)
  clear hb hcb
  obtain ⟨c6a, c6b, c6c, c6d⟩ := mbox HBA.out
  have c6l := HBA.out.lt
  obtain ⟨c7a, c7b, c7c, c7d⟩ := mbox HBB.out
  have c7l := HBB.out.lt
  go_wp2_with fail
  clear c6a c6b c6c c6d c6l c7a c7b c7c c7d c7l
  refine (HPICK.out _ (HW.out.alloc (by first | exact HW.out.size | (have h9 := HW.out.size; simp <;> omega)) _)).mono ?_
  rintro e v5 ⟨hres, hb⟩
  have hcb : Below v2.heap.size v2 v5 := below_call ((Below.refl _ v2).alloc (Nat.le_refl _) _) hb
  have HT := Lib.hid (HT.out.next hcb)
  have HW := Lib.hid (below_call HW.out hcb)
  have HBA := Lib.hid (HBA.out.below hcb HBA.out.lt)
  have HBB := Lib.hid (HBB.out.below hcb HBB.out.lt)
  clear hb hcb
  rcases hres with rfl | ⟨q9, k9, rfl⟩
  · obtain ⟨c9a, c9b, c9c, c9d⟩ := mbox HBA.out
    have c9l := HBA.out.lt
    obtain ⟨c10a, c10b, c10c, c10d⟩ := mbox HBB.out
    have c10l := HBB.out.lt
    go_wp2_with fail
    clear c9a c9b c9c c9d c9l c10a c10b c10c c10d c10l
    refine (sanity6_any _ (HT.out.next ((Below.refl _ v5).alloc (Nat.le_refl _) _))).mono ?_
    rintro e v8 ⟨rfl, hb⟩
    have hcb : Below v5.heap.size v5 v8 := below_call ((Below.refl _ v5).alloc (Nat.le_refl _) _) hb
    have HT := Lib.hid (HT.out.next hcb)
    have HW := Lib.hid (below_call HW.out hcb)
    have HBA := Lib.hid (HBA.out.below hcb HBA.out.lt)
    have HBB := Lib.hid (HBB.out.below hcb HBB.out.lt)
    clear hb hcb
    go_wp2
    go_ret
    exact ⟨rfl, HW.out⟩
  · obtain ⟨c12a, c12b, c12c, c12d⟩ := mbox HBA.out
    have c12l := HBA.out.lt
    obtain ⟨c13a, c13b, c13c, c13d⟩ := mbox HBB.out
    have c13l := HBB.out.lt
    go_wp2_with fail
    clear c12a c12b c12c c12d c12l c13a c13b c13c c13d c13l
    refine (sanity6_any _ (HT.out.next ((Below.refl _ v5).alloc (Nat.le_refl _) _))).mono ?_
    rintro e v11 ⟨rfl, hb⟩
    have hcb : Below v5.heap.size v5 v11 := below_call ((Below.refl _ v5).alloc (Nat.le_refl _) _) hb
    have HT := Lib.hid (HT.out.next hcb)
    have HW := Lib.hid (below_call HW.out hcb)
    have HBA := Lib.hid (HBA.out.below hcb HBA.out.lt)
    have HBB := Lib.hid (HBB.out.below hcb HBB.out.lt)
    clear hb hcb
    go_wp2
    go_ret
    exact ⟨rfl, HW.out⟩
set_option maxRecDepth 100000 in
set_option maxHeartbeats 6400000 in
theorem picks_b (ma ra ca : Int) (qa : Option Addr) (na ka : Nat) (mb rb cb : Int) (qb : Option Addr) (nb kb : Nat) (qr : Option Addr) (L kr : Nat) (w : World) (ht : Tab w) (hs1 : smallB ra ca na = false) (mp rp cp : Int) (Np : Nat) (hmul : ∀ W, Below w.heap.size w W → Calls Tryd.prog 16 #[matV ma ra ca qa na ka, matV mb rb cb qb nb kb] W fun e w' => ∃ g, e = .returned (outV (matV mp rp cp (some ⟨g, 0, none⟩) Np Np) 0) ∧ Below W.heap.size W w') (mq rq cq : Int) (Nq : Nat) (hpick : ∀ W, Below w.heap.size w W → Calls Tryd.prog 25 #[matV ma ra ca qa na ka, .slice qr L kr] W fun e w' => (e = .returned (outV nilM 1) ∨ ∃ q k, e = .returned (outV (matV mq rq cq q Nq k) 0)) ∧ Below W.heap.size W w') :
    Calls Tryd.prog 9 #[matV ma ra ca qa na ka, matV mb rb cb qb nb kb, .slice qr L kr] w fun e w' => e = .returned (.bool true) ∧ Below w.heap.size w w' := by
  have HT := Lib.hid ht
  have HW := Lib.hid (Below.refl w.heap.size w)
  have hp := ht.lt
  have HSM1 := Lib.hid (fun W => small_any ma ra ca qa na ka W)
  rw [hs1] at HSM1
  have HMUL := Lib.hid hmul
  have HPICK := Lib.hid hpick
  unfold matV at HMUL HPICK HSM1 ⊢
  clear ht hmul hpick hs1
  go_enter Tryd.func9, Tryd.ntmps9
  go_wp2_with fail
  refine (HSM1.out _).mono ?_
  rintro e v14 ⟨rfl, hb⟩
  have hcb : Below w.heap.size w v14 := below_call (((Below.refl _ w).alloc (Nat.le_refl _) _).alloc (by simp) _) hb
  have HT := Lib.hid (HT.out.next hcb)
  have HW := Lib.hid (below_call HW.out hcb)
  have HBA := Lib.hid (((show Row (w.alloc (.cells (matC ma ra ca qa na ka) 24)) (w.heap.size) 24 (matC ma ra ca qa na ka) from Row.made _ _ (by simp)).alloc _).below hb (by simp <;> omega))
  have HBB := Lib.hid ((show Row ((w.alloc (.cells (matC ma ra ca qa na ka) 24)).alloc (.cells (matC mb rb cb qb nb kb) 24)) (w.heap.size + 1) 24 (matC mb rb cb qb nb kb) from Row.made _ _ (by simp)).below hb (by simp <;> omega))
  clear hb hcb
  obtain ⟨c16a, c16b, c16c, c16d⟩ := mbox HBA.out
  obtain ⟨c17a, c17b, c17c, c17d⟩ := mbox HBB.out
  go_wp2_with fail
  clear c16a c16b c16c c16d c17a c17b c17c c17d
  refine (HMUL.out _ HW.out).mono ?_
  rintro e v15 ⟨g9, rfl, hb⟩
  have hcb : Below v14.heap.size v14 v15 := below_call (Below.refl _ v14) hb
  have HT := Lib.hid (HT.out.next hcb)
  have HW := Lib.hid (below_call HW.out hcb)
  have HBA := Lib.hid (HBA.out.below hcb HBA.out.lt)
  have HBB := Lib.hid (HBB.out.below hcb HBB.out.lt)
  clear hb hcb
  obtain ⟨c19a, c19b, c19c, c19d⟩ := mbox HBA.out
  have c19l := HBA.out.lt
  obtain ⟨c20a, c20b, c20c, c20d⟩ := mbox HBB.out
  have c20l := HBB.out.lt
  go_wp2_with fail
  clear c19a c19b c19c c19d c19l c20a c20b c20c c20d c20l
  refine (HPICK.out _ (HW.out.alloc (by first | exact HW.out.size | (have h9 := HW.out.size; simp <;> omega)) _)).mono ?_
  rintro e v18 ⟨hres, hb⟩
  have hcb : Below v15.heap.size v15 v18 := below_call ((Below.refl _ v15).alloc (Nat.le_refl _) _) hb
  have HT := Lib.hid (HT.out.next hcb)
  have HW := Lib.hid (below_call HW.out hcb)
  have HBA := Lib.hid (HBA.out.below hcb HBA.out.lt)
  have HBB := Lib.hid (HBB.out.below hcb HBB.out.lt)
  clear hb hcb
  rcases hres with rfl | ⟨q9, k9, rfl⟩
  · obtain ⟨c22a, c22b, c22c, c22d⟩ := mbox HBA.out
    have c22l := HBA.out.lt
    obtain ⟨c23a, c23b, c23c, c23d⟩ := mbox HBB.out
    have c23l := HBB.out.lt
    go_wp2_with fail
    clear c22a c22b c22c c22d c22l c23a c23b c23c c23d c23l
    refine (sanity6_any _ (HT.out.next ((Below.refl _ v18).alloc (Nat.le_refl _) _))).mono ?_
    rintro e v21 ⟨rfl, hb⟩
    have hcb : Below v18.heap.size v18 v21 := below_call ((Below.refl _ v18).alloc (Nat.le_refl _) _) hb
    have HT := Lib.hid (HT.out.next hcb)
    have HW := Lib.hid (below_call HW.out hcb)
    have HBA := Lib.hid (HBA.out.below hcb HBA.out.lt)
    have HBB := Lib.hid (HBB.out.below hcb HBB.out.lt)
    clear hb hcb
    go_wp2
    go_ret
    exact ⟨rfl, HW.out⟩
  · obtain ⟨c25a, c25b, c25c, c25d⟩ := mbox HBA.out
    have c25l := HBA.out.lt
    obtain ⟨c26a, c26b, c26c, c26d⟩ := mbox HBB.out
    have c26l := HBB.out.lt
    go_wp2_with fail
    clear c25a c25b c25c c25d c25l c26a c26b c26c c26d c26l
    refine (sanity6_any _ (HT.out.next ((Below.refl _ v18).alloc (Nat.le_refl _) _))).mono ?_
    rintro e v24 ⟨rfl, hb⟩
    have hcb : Below v18.heap.size v18 v24 := below_call ((Below.refl _ v18).alloc (Nat.le_refl _) _) hb
    have HT := Lib.hid (HT.out.next hcb)
    have HW := Lib.hid (below_call HW.out hcb)
    have HBA := Lib.hid (HBA.out.below hcb HBA.out.lt)
    have HBB := Lib.hid (HBB.out.below hcb HBB.out.lt)
    clear hb hcb
    go_wp2
    go_ret
    exact ⟨rfl, HW.out⟩
set_option maxRecDepth 100000 in
set_option maxHeartbeats 6400000 in
theorem picks_cf (ma ra ca : Int) (qa : Option Addr) (na ka : Nat) (mb rb cb : Int) (qb : Option Addr) (nb kb : Nat) (qr : Option Addr) (L kr : Nat) (w : World) (ht : Tab w) (hs1 : smallB ra ca na = true) (hs2 : smallB rb cb nb = false) (hmul : ∀ W, Below w.heap.size w W → Calls Tryd.prog 16 #[matV ma ra ca qa na ka, matV mb rb cb qb nb kb] W fun e w' => e = .returned (outV nilM 1) ∧ Below W.heap.size W w') (mq rq cq : Int) (Nq : Nat) (hpick : ∀ W, Below w.heap.size w W → Calls Tryd.prog 25 #[matV ma ra ca qa na ka, .slice qr L kr] W fun e w' => (e = .returned (outV nilM 1) ∨ ∃ q k, e = .returned (outV (matV mq rq cq q Nq k) 0)) ∧ Below W.heap.size W w') :
    Calls Tryd.prog 9 #[matV ma ra ca qa na ka, matV mb rb cb qb nb kb, .slice qr L kr] w fun e w' => e = .returned (.bool true) ∧ Below w.heap.size w w' := by
  have HT := Lib.hid ht
  have HW := Lib.hid (Below.refl w.heap.size w)
  have hp := ht.lt
  have HSM1 := Lib.hid (fun W => small_any ma ra ca qa na ka W)
  rw [hs1] at HSM1
  have HSM2 := Lib.hid (fun W => small_any mb rb cb qb nb kb W)
  rw [hs2] at HSM2
  have HMUL := Lib.hid hmul
  have HPICK := Lib.hid hpick
  unfold matV at HMUL HPICK HSM1 HSM2 ⊢
  clear ht hmul hpick hs1 hs2
  go_enter Tryd.func9, Tryd.ntmps9
  go_wp2_with fail
  refine (HSM1.out _).mono ?_
  rintro e v27 ⟨rfl, hb⟩
  have hcb : Below w.heap.size w v27 := below_call (((Below.refl _ w).alloc (Nat.le_refl _) _).alloc (by simp) _) hb
  have HT := Lib.hid (HT.out.next hcb)
  have HW := Lib.hid (below_call HW.out hcb)
  have HBA := Lib.hid (((show Row (w.alloc (.cells (matC ma ra ca qa na ka) 24)) (w.heap.size) 24 (matC ma ra ca qa na ka) from Row.made _ _ (by simp)).alloc _).below hb (by simp <;> omega))
  have HBB := Lib.hid ((show Row ((w.alloc (.cells (matC ma ra ca qa na ka) 24)).alloc (.cells (matC mb rb cb qb nb kb) 24)) (w.heap.size + 1) 24 (matC mb rb cb qb nb kb) from Row.made _ _ (by simp)).below hb (by simp <;> omega))
  clear hb hcb
  obtain ⟨c29a, c29b, c29c, c29d⟩ := mbox HBA.out
  obtain ⟨c30a, c30b, c30c, c30d⟩ := mbox HBB.out
  go_wp2_with fail
  clear c29a c29b c29c c29d c30a c30b c30c c30d
  refine (HSM2.out _).mono ?_
  rintro e v28 ⟨rfl, hb⟩
  have hcb : Below v27.heap.size v27 v28 := below_call (Below.refl _ v27) hb
  have HT := Lib.hid (HT.out.next hcb)
  have HW := Lib.hid (below_call HW.out hcb)
  have HBA := Lib.hid (HBA.out.below hcb HBA.out.lt)
  have HBB := Lib.hid (HBB.out.below hcb HBB.out.lt)
  clear hb hcb
  obtain ⟨c32a, c32b, c32c, c32d⟩ := mbox HBA.out
  obtain ⟨c33a, c33b, c33c, c33d⟩ := mbox HBB.out
  go_wp2_with fail
  clear c32a c32b c32c c32d c33a c33b c33c c33d
  refine (HMUL.out _ HW.out).mono ?_
  rintro e v31 ⟨rfl, hb⟩
  have hcb : Below v28.heap.size v28 v31 := below_call (Below.refl _ v28) hb
  have HT := Lib.hid (HT.out.next hcb)
  have HW := Lib.hid (below_call HW.out hcb)
  have HBA := Lib.hid (HBA.out.below hcb HBA.out.lt)
  have HBB := Lib.hid (HBB.out.below hcb HBB.out.lt)
  clear hb hcb
  obtain ⟨c35a, c35b, c35c, c35d⟩ := mbox HBA.out
  have c35l := HBA.out.lt
  obtain ⟨c36a, c36b, c36c, c36d⟩ := mbox HBB.out
  have c36l := HBB.out.lt
  go_wp2_with fail
  clear c35a c35b c35c c35d c35l c36a c36b c36c c36d c36l
  refine (HPICK.out _ (HW.out.alloc (by first | exact HW.out.size | (have h9 := HW.out.size; simp <;> omega)) _)).mono ?_
  rintro e v34 ⟨hres, hb⟩
  have hcb : Below v31.heap.size v31 v34 := below_call ((Below.refl _ v31).alloc (Nat.le_refl _) _) hb
  have HT := Lib.hid (HT.out.next hcb)
  have HW := Lib.hid (below_call HW.out hcb)
  have HBA := Lib.hid (HBA.out.below hcb HBA.out.lt)
  have HBB := Lib.hid (HBB.out.below hcb HBB.out.lt)
  clear hb hcb
  rcases hres with rfl | ⟨q9, k9, rfl⟩
  · obtain ⟨c38a, c38b, c38c, c38d⟩ := mbox HBA.out
    have c38l := HBA.out.lt
    obtain ⟨c39a, c39b, c39c, c39d⟩ := mbox HBB.out
    have c39l := HBB.out.lt
    go_wp2_with fail
    clear c38a c38b c38c c38d c38l c39a c39b c39c c39d c39l
    refine (sanity6_any _ (HT.out.next ((Below.refl _ v34).alloc (Nat.le_refl _) _))).mono ?_
    rintro e v37 ⟨rfl, hb⟩
    have hcb : Below v34.heap.size v34 v37 := below_call ((Below.refl _ v34).alloc (Nat.le_refl _) _) hb
    have HT := Lib.hid (HT.out.next hcb)
    have HW := Lib.hid (below_call HW.out hcb)
    have HBA := Lib.hid (HBA.out.below hcb HBA.out.lt)
    have HBB := Lib.hid (HBB.out.below hcb HBB.out.lt)
    clear hb hcb
    go_wp2
    go_ret
    exact ⟨rfl, HW.out⟩
  · obtain ⟨c41a, c41b, c41c, c41d⟩ := mbox HBA.out
    have c41l := HBA.out.lt
    obtain ⟨c42a, c42b, c42c, c42d⟩ := mbox HBB.out
    have c42l := HBB.out.lt
    go_wp2_with fail
    clear c41a c41b c41c c41d c41l c42a c42b c42c c42d c42l
    refine (sanity6_any _ (HT.out.next ((Below.refl _ v34).alloc (Nat.le_refl _) _))).mono ?_
    rintro e v40 ⟨rfl, hb⟩
    have hcb : Below v34.heap.size v34 v40 := below_call ((Below.refl _ v34).alloc (Nat.le_refl _) _) hb
    have HT := Lib.hid (HT.out.next hcb)
    have HW := Lib.hid (below_call HW.out hcb)
    have HBA := Lib.hid (HBA.out.below hcb HBA.out.lt)
    have HBB := Lib.hid (HBB.out.below hcb HBB.out.lt)
    clear hb hcb
    go_wp2
    go_ret
    exact ⟨rfl, HW.out⟩
set_option maxRecDepth 100000 in
set_option maxHeartbeats 6400000 in
theorem picks_df (ma ra ca : Int) (qa : Option Addr) (na ka : Nat) (mb rb cb : Int) (qb : Option Addr) (nb kb : Nat) (qr : Option Addr) (L kr : Nat) (w : World) (ht : Tab w) (hs1 : smallB ra ca na = true) (hs2 : smallB rb cb nb = false) (mp rp cp : Int) (Np : Nat) (hmul : ∀ W, Below w.heap.size w W → Calls Tryd.prog 16 #[matV ma ra ca qa na ka, matV mb rb cb qb nb kb] W fun e w' => ∃ g, e = .returned (outV (matV mp rp cp (some ⟨g, 0, none⟩) Np Np) 0) ∧ Below W.heap.size W w') (hpick : ∀ W, Below w.heap.size w W → Calls Tryd.prog 25 #[matV ma ra ca qa na ka, .slice qr L kr] W fun e w' => e = .returned (outV nilM 1) ∧ Below W.heap.size W w') :
    Calls Tryd.prog 9 #[matV ma ra ca qa na ka, matV mb rb cb qb nb kb, .slice qr L kr] w fun e w' => e = .returned (.bool true) ∧ Below w.heap.size w w' := by
  have HT := Lib.hid ht
  have HW := Lib.hid (Below.refl w.heap.size w)
  have hp := ht.lt
  have HSM1 := Lib.hid (fun W => small_any ma ra ca qa na ka W)
  rw [hs1] at HSM1
  have HSM2 := Lib.hid (fun W => small_any mb rb cb qb nb kb W)
  rw [hs2] at HSM2
  have HMUL := Lib.hid hmul
  have HPICK := Lib.hid hpick
  unfold matV at HMUL HPICK HSM1 HSM2 ⊢
  clear ht hmul hpick hs1 hs2
  go_enter Tryd.func9, Tryd.ntmps9
  go_wp2_with fail
  refine (HSM1.out _).mono ?_
  rintro e v43 ⟨rfl, hb⟩
  have hcb : Below w.heap.size w v43 := below_call (((Below.refl _ w).alloc (Nat.le_refl _) _).alloc (by simp) _) hb
  have HT := Lib.hid (HT.out.next hcb)
  have HW := Lib.hid (below_call HW.out hcb)
  have HBA := Lib.hid (((show Row (w.alloc (.cells (matC ma ra ca qa na ka) 24)) (w.heap.size) 24 (matC ma ra ca qa na ka) from Row.made _ _ (by simp)).alloc _).below hb (by simp <;> omega))
  have HBB := Lib.hid ((show Row ((w.alloc (.cells (matC ma ra ca qa na ka) 24)).alloc (.cells (matC mb rb cb qb nb kb) 24)) (w.heap.size + 1) 24 (matC mb rb cb qb nb kb) from Row.made _ _ (by simp)).below hb (by simp <;> omega))
  clear hb hcb
  obtain ⟨c45a, c45b, c45c, c45d⟩ := mbox HBA.out
  obtain ⟨c46a, c46b, c46c, c46d⟩ := mbox HBB.out
  go_wp2_with fail
  clear c45a c45b c45c c45d c46a c46b c46c c46d
  refine (HSM2.out _).mono ?_
  rintro e v44 ⟨rfl, hb⟩
  have hcb : Below v43.heap.size v43 v44 := below_call (Below.refl _ v43) hb
  have HT := Lib.hid (HT.out.next hcb)
  have HW := Lib.hid (below_call HW.out hcb)
  have HBA := Lib.hid (HBA.out.below hcb HBA.out.lt)
  have HBB := Lib.hid (HBB.out.below hcb HBB.out.lt)
  clear hb hcb
  obtain ⟨c48a, c48b, c48c, c48d⟩ := mbox HBA.out
  obtain ⟨c49a, c49b, c49c, c49d⟩ := mbox HBB.out
  go_wp2_with fail
  clear c48a c48b c48c c48d c49a c49b c49c c49d
  refine (HMUL.out _ HW.out).mono ?_
  rintro e v47 ⟨g9, rfl, hb⟩
  have hcb : Below v44.heap.size v44 v47 := below_call (Below.refl _ v44) hb
  have HT := Lib.hid (HT.out.next hcb)
  have HW := Lib.hid (below_call HW.out hcb)
  have HBA := Lib.hid (HBA.out.below hcb HBA.out.lt)
  have HBB := Lib.hid (HBB.out.below hcb HBB.out.lt)
  clear hb hcb
  obtain ⟨c51a, c51b, c51c, c51d⟩ := mbox HBA.out
  have c51l := HBA.out.lt
  obtain ⟨c52a, c52b, c52c, c52d⟩ := mbox HBB.out
  have c52l := HBB.out.lt
  go_wp2_with fail
  clear c51a c51b c51c c51d c51l c52a c52b c52c c52d c52l
  refine (HPICK.out _ (HW.out.alloc (by first | exact HW.out.size | (have h9 := HW.out.size; simp <;> omega)) _)).mono ?_
  rintro e v50 ⟨rfl, hb⟩
  have hcb : Below v47.heap.size v47 v50 := below_call ((Below.refl _ v47).alloc (Nat.le_refl _) _) hb
  have HT := Lib.hid (HT.out.next hcb)
  have HW := Lib.hid (below_call HW.out hcb)
  have HBA := Lib.hid (HBA.out.below hcb HBA.out.lt)
  have HBB := Lib.hid (HBB.out.below hcb HBB.out.lt)
  clear hb hcb
  obtain ⟨c54a, c54b, c54c, c54d⟩ := mbox HBA.out
  have c54l := HBA.out.lt
  obtain ⟨c55a, c55b, c55c, c55d⟩ := mbox HBB.out
  have c55l := HBB.out.lt
  go_wp2_with fail
  clear c54a c54b c54c c54d c54l c55a c55b c55c c55d c55l
  refine (sanity6_any _ (HT.out.next ((Below.refl _ v50).alloc (Nat.le_refl _) _))).mono ?_
  rintro e v53 ⟨rfl, hb⟩
  have hcb : Below v50.heap.size v50 v53 := below_call ((Below.refl _ v50).alloc (Nat.le_refl _) _) hb
  have HT := Lib.hid (HT.out.next hcb)
  have HW := Lib.hid (below_call HW.out hcb)
  have HBA := Lib.hid (HBA.out.below hcb HBA.out.lt)
  have HBB := Lib.hid (HBB.out.below hcb HBB.out.lt)
  clear hb hcb
  go_wp2
  go_ret
  exact ⟨rfl, HW.out⟩
set_option maxRecDepth 100000 in
set_option maxHeartbeats 6400000 in
theorem picks_ct (ma ra ca : Int) (qa : Option Addr) (na ka : Nat) (mb rb cb : Int) (qb : Option Addr) (nb kb : Nat) (qr : Option Addr) (L kr : Nat) (w : World) (ht : Tab w) (hs1 : smallB ra ca na = true) (hs2 : smallB rb cb nb = true) (hmul : ∀ W, Below w.heap.size w W → Calls Tryd.prog 16 #[matV ma ra ca qa na ka, matV mb rb cb qb nb kb] W fun e w' => e = .returned (outV nilM 1) ∧ Below W.heap.size W w') (mq rq cq : Int) (Nq : Nat) (hpick : ∀ W, Below w.heap.size w W → Calls Tryd.prog 25 #[matV ma ra ca qa na ka, .slice qr L kr] W fun e w' => (e = .returned (outV nilM 1) ∨ ∃ q k, e = .returned (outV (matV mq rq cq q Nq k) 0)) ∧ Below W.heap.size W w') :
    Calls Tryd.prog 9 #[matV ma ra ca qa na ka, matV mb rb cb qb nb kb, .slice qr L kr] w fun e w' => e = .returned (.bool true) ∧ Below w.heap.size w w' := by
  have HT := Lib.hid ht
  have HW := Lib.hid (Below.refl w.heap.size w)
  have hp := ht.lt
  have HSM1 := Lib.hid (fun W => small_any ma ra ca qa na ka W)
  rw [hs1] at HSM1
  have HSM2 := Lib.hid (fun W => small_any mb rb cb qb nb kb W)
  rw [hs2] at HSM2
  have HMUL := Lib.hid hmul
  have HPICK := Lib.hid hpick
  unfold matV at HMUL HPICK HSM1 HSM2 ⊢
  clear ht hmul hpick hs1 hs2
  go_enter Tryd.func9, Tryd.ntmps9
  go_wp2_with fail
  refine (HSM1.out _).mono ?_
  rintro e v56 ⟨rfl, hb⟩
  have hcb : Below w.heap.size w v56 := below_call (((Below.refl _ w).alloc (Nat.le_refl _) _).alloc (by simp) _) hb
  have HT := Lib.hid (HT.out.next hcb)
  have HW := Lib.hid (below_call HW.out hcb)
  have HBA := Lib.hid (((show Row (w.alloc (.cells (matC ma ra ca qa na ka) 24)) (w.heap.size) 24 (matC ma ra ca qa na ka) from Row.made _ _ (by simp)).alloc _).below hb (by simp <;> omega))
  have HBB := Lib.hid ((show Row ((w.alloc (.cells (matC ma ra ca qa na ka) 24)).alloc (.cells (matC mb rb cb qb nb kb) 24)) (w.heap.size + 1) 24 (matC mb rb cb qb nb kb) from Row.made _ _ (by simp)).below hb (by simp <;> omega))
  clear hb hcb
  obtain ⟨c58a, c58b, c58c, c58d⟩ := mbox HBA.out
  obtain ⟨c59a, c59b, c59c, c59d⟩ := mbox HBB.out
  go_wp2_with fail
  clear c58a c58b c58c c58d c59a c59b c59c c59d
  refine (HSM2.out _).mono ?_
  rintro e v57 ⟨rfl, hb⟩
  have hcb : Below v56.heap.size v56 v57 := below_call (Below.refl _ v56) hb
  have HT := Lib.hid (HT.out.next hcb)
  have HW := Lib.hid (below_call HW.out hcb)
  have HBA := Lib.hid (HBA.out.below hcb HBA.out.lt)
  have HBB := Lib.hid (HBB.out.below hcb HBB.out.lt)
  clear hb hcb
  obtain ⟨c61a, c61b, c61c, c61d⟩ := mbox HBA.out
  obtain ⟨c62a, c62b, c62c, c62d⟩ := mbox HBB.out
  go_wp2_with fail
  clear c61a c61b c61c c61d c62a c62b c62c c62d
  refine (HMUL.out _ HW.out).mono ?_
  rintro e v60 ⟨rfl, hb⟩
  have hcb : Below v57.heap.size v57 v60 := below_call (Below.refl _ v57) hb
  have HT := Lib.hid (HT.out.next hcb)
  have HW := Lib.hid (below_call HW.out hcb)
  have HBA := Lib.hid (HBA.out.below hcb HBA.out.lt)
  have HBB := Lib.hid (HBB.out.below hcb HBB.out.lt)
  clear hb hcb
  obtain ⟨c64a, c64b, c64c, c64d⟩ := mbox HBA.out
  have c64l := HBA.out.lt
  obtain ⟨c65a, c65b, c65c, c65d⟩ := mbox HBB.out
  have c65l := HBB.out.lt
  go_wp2_with fail
  clear c64a c64b c64c c64d c64l c65a c65b c65c c65d c65l
  refine (HPICK.out _ (HW.out.alloc (by first | exact HW.out.size | (have h9 := HW.out.size; simp <;> omega)) _)).mono ?_
  rintro e v63 ⟨hres, hb⟩
  have hcb : Below v60.heap.size v60 v63 := below_call ((Below.refl _ v60).alloc (Nat.le_refl _) _) hb
  have HT := Lib.hid (HT.out.next hcb)
  have HW := Lib.hid (below_call HW.out hcb)
  have HBA := Lib.hid (HBA.out.below hcb HBA.out.lt)
  have HBB := Lib.hid (HBB.out.below hcb HBB.out.lt)
  clear hb hcb
  rcases hres with rfl | ⟨q9, k9, rfl⟩
  · obtain ⟨c67a, c67b, c67c, c67d⟩ := mbox HBA.out
    have c67l := HBA.out.lt
    obtain ⟨c68a, c68b, c68c, c68d⟩ := mbox HBB.out
    have c68l := HBB.out.lt
    go_wp2_with fail
    clear c67a c67b c67c c67d c67l c68a c68b c68c c68d c68l
    refine (sanity6_any _ (HT.out.next ((Below.refl _ v63).alloc (Nat.le_refl _) _))).mono ?_
    rintro e v66 ⟨rfl, hb⟩
    have hcb : Below v63.heap.size v63 v66 := below_call ((Below.refl _ v63).alloc (Nat.le_refl _) _) hb
    have HT := Lib.hid (HT.out.next hcb)
    have HW := Lib.hid (below_call HW.out hcb)
    have HBA := Lib.hid (HBA.out.below hcb HBA.out.lt)
    have HBB := Lib.hid (HBB.out.below hcb HBB.out.lt)
    clear hb hcb
    go_wp2
    go_ret
    exact ⟨rfl, HW.out⟩
  · obtain ⟨c70a, c70b, c70c, c70d⟩ := mbox HBA.out
    have c70l := HBA.out.lt
    obtain ⟨c71a, c71b, c71c, c71d⟩ := mbox HBB.out
    have c71l := HBB.out.lt
    go_wp2_with fail
    clear c70a c70b c70c c70d c70l c71a c71b c71c c71d c71l
    refine (sanity6_any _ (HT.out.next ((Below.refl _ v63).alloc (Nat.le_refl _) _))).mono ?_
    rintro e v69 ⟨rfl, hb⟩
    have hcb : Below v63.heap.size v63 v69 := below_call ((Below.refl _ v63).alloc (Nat.le_refl _) _) hb
    have HT := Lib.hid (HT.out.next hcb)
    have HW := Lib.hid (below_call HW.out hcb)
    have HBA := Lib.hid (HBA.out.below hcb HBA.out.lt)
    have HBB := Lib.hid (HBB.out.below hcb HBB.out.lt)
    clear hb hcb
    go_wp2
    go_ret
    exact ⟨rfl, HW.out⟩
set_option maxRecDepth 100000 in
set_option maxHeartbeats 6400000 in
theorem picks_dt (ma ra ca : Int) (qa : Option Addr) (na ka : Nat) (mb rb cb : Int) (qb : Option Addr) (nb kb : Nat) (qr : Option Addr) (L kr : Nat) (w : World) (ht : Tab w) (hs1 : smallB ra ca na = true) (hs2 : smallB rb cb nb = true) (mp rp cp : Int) (Np : Nat) (hmul : ∀ W, Below w.heap.size w W → Calls Tryd.prog 16 #[matV ma ra ca qa na ka, matV mb rb cb qb nb kb] W fun e w' => ∃ g, e = .returned (outV (matV mp rp cp (some ⟨g, 0, none⟩) Np Np) 0) ∧ Below W.heap.size W w') (hpick : ∀ W, Below w.heap.size w W → Calls Tryd.prog 25 #[matV ma ra ca qa na ka, .slice qr L kr] W fun e w' => e = .returned (outV nilM 1) ∧ Below W.heap.size W w') :
    Calls Tryd.prog 9 #[matV ma ra ca qa na ka, matV mb rb cb qb nb kb, .slice qr L kr] w fun e w' => e = .returned (.bool true) ∧ Below w.heap.size w w' := by
  have HT := Lib.hid ht
  have HW := Lib.hid (Below.refl w.heap.size w)
  have hp := ht.lt
  have HSM1 := Lib.hid (fun W => small_any ma ra ca qa na ka W)
  rw [hs1] at HSM1
  have HSM2 := Lib.hid (fun W => small_any mb rb cb qb nb kb W)
  rw [hs2] at HSM2
  have HMUL := Lib.hid hmul
  have HPICK := Lib.hid hpick
  unfold matV at HMUL HPICK HSM1 HSM2 ⊢
  clear ht hmul hpick hs1 hs2
  go_enter Tryd.func9, Tryd.ntmps9
  go_wp2_with fail
  refine (HSM1.out _).mono ?_
  rintro e v72 ⟨rfl, hb⟩
  have hcb : Below w.heap.size w v72 := below_call (((Below.refl _ w).alloc (Nat.le_refl _) _).alloc (by simp) _) hb
  have HT := Lib.hid (HT.out.next hcb)
  have HW := Lib.hid (below_call HW.out hcb)
  have HBA := Lib.hid (((show Row (w.alloc (.cells (matC ma ra ca qa na ka) 24)) (w.heap.size) 24 (matC ma ra ca qa na ka) from Row.made _ _ (by simp)).alloc _).below hb (by simp <;> omega))
  have HBB := Lib.hid ((show Row ((w.alloc (.cells (matC ma ra ca qa na ka) 24)).alloc (.cells (matC mb rb cb qb nb kb) 24)) (w.heap.size + 1) 24 (matC mb rb cb qb nb kb) from Row.made _ _ (by simp)).below hb (by simp <;> omega))
  clear hb hcb
  obtain ⟨c74a, c74b, c74c, c74d⟩ := mbox HBA.out
  obtain ⟨c75a, c75b, c75c, c75d⟩ := mbox HBB.out
  go_wp2_with fail
  clear c74a c74b c74c c74d c75a c75b c75c c75d
  refine (HSM2.out _).mono ?_
  rintro e v73 ⟨rfl, hb⟩
  have hcb : Below v72.heap.size v72 v73 := below_call (Below.refl _ v72) hb
  have HT := Lib.hid (HT.out.next hcb)
  have HW := Lib.hid (below_call HW.out hcb)
  have HBA := Lib.hid (HBA.out.below hcb HBA.out.lt)
  have HBB := Lib.hid (HBB.out.below hcb HBB.out.lt)
  clear hb hcb
  obtain ⟨c77a, c77b, c77c, c77d⟩ := mbox HBA.out
  obtain ⟨c78a, c78b, c78c, c78d⟩ := mbox HBB.out
  go_wp2_with fail
  clear c77a c77b c77c c77d c78a c78b c78c c78d
  refine (HMUL.out _ HW.out).mono ?_
  rintro e v76 ⟨g9, rfl, hb⟩
  have hcb : Below v73.heap.size v73 v76 := below_call (Below.refl _ v73) hb
  have HT := Lib.hid (HT.out.next hcb)
  have HW := Lib.hid (below_call HW.out hcb)
  have HBA := Lib.hid (HBA.out.below hcb HBA.out.lt)
  have HBB := Lib.hid (HBB.out.below hcb HBB.out.lt)
  clear hb hcb
  obtain ⟨c80a, c80b, c80c, c80d⟩ := mbox HBA.out
  have c80l := HBA.out.lt
  obtain ⟨c81a, c81b, c81c, c81d⟩ := mbox HBB.out
  have c81l := HBB.out.lt
  go_wp2_with fail
  clear c80a c80b c80c c80d c80l c81a c81b c81c c81d c81l
  refine (HPICK.out _ (HW.out.alloc (by first | exact HW.out.size | (have h9 := HW.out.size; simp <;> omega)) _)).mono ?_
  rintro e v79 ⟨rfl, hb⟩
  have hcb : Below v76.heap.size v76 v79 := below_call ((Below.refl _ v76).alloc (Nat.le_refl _) _) hb
  have HT := Lib.hid (HT.out.next hcb)
  have HW := Lib.hid (below_call HW.out hcb)
  have HBA := Lib.hid (HBA.out.below hcb HBA.out.lt)
  have HBB := Lib.hid (HBB.out.below hcb HBB.out.lt)
  clear hb hcb
  obtain ⟨c83a, c83b, c83c, c83d⟩ := mbox HBA.out
  have c83l := HBA.out.lt
  obtain ⟨c84a, c84b, c84c, c84d⟩ := mbox HBB.out
  have c84l := HBB.out.lt
  go_wp2_with fail
  clear c83a c83b c83c c83d c83l c84a c84b c84c c84d c84l
  refine (sanity6_any _ (HT.out.next ((Below.refl _ v79).alloc (Nat.le_refl _) _))).mono ?_
  rintro e v82 ⟨rfl, hb⟩
  have hcb : Below v79.heap.size v79 v82 := below_call ((Below.refl _ v79).alloc (Nat.le_refl _) _) hb
  have HT := Lib.hid (HT.out.next hcb)
  have HW := Lib.hid (below_call HW.out hcb)
  have HBA := Lib.hid (HBA.out.below hcb HBA.out.lt)
  have HBB := Lib.hid (HBB.out.below hcb HBB.out.lt)
  clear hb hcb
  go_wp2
  go_ret
  exact ⟨rfl, HW.out⟩
set_option maxRecDepth 100000 in
set_option maxHeartbeats 6400000 in
theorem picks_e (ma ra ca : Int) (qa : Option Addr) (na ka : Nat) (mb rb cb : Int) (qb : Option Addr) (nb kb : Nat) (qr : Option Addr) (L kr : Nat) (w : World) (ht : Tab w) (hs1 : smallB ra ca na = true) (hs2 : smallB rb cb nb = false) (mp rp cp : Int) (Np : Nat) (hmul : ∀ W, Below w.heap.size w W → Calls Tryd.prog 16 #[matV ma ra ca qa na ka, matV mb rb cb qb nb kb] W fun e w' => ∃ g, e = .returned (outV (matV mp rp cp (some ⟨g, 0, none⟩) Np Np) 0) ∧ Below W.heap.size W w') (mq rq cq : Int) (Nq : Nat) (hpick : ∀ W, Below w.heap.size w W → Calls Tryd.prog 25 #[matV ma ra ca qa na ka, .slice qr L kr] W fun e w' => (e = .returned (outV nilM 1) ∨ ∃ q k, e = .returned (outV (matV mq rq cq q Nq k) 0)) ∧ Below W.heap.size W w') :
    Calls Tryd.prog 9 #[matV ma ra ca qa na ka, matV mb rb cb qb nb kb, .slice qr L kr] w fun e w' => e = .returned (.bool true) ∧ Below w.heap.size w w' := by
  have HT := Lib.hid ht
  have HW := Lib.hid (Below.refl w.heap.size w)
  have hp := ht.lt
  have HSM1 := Lib.hid (fun W => small_any ma ra ca qa na ka W)
  rw [hs1] at HSM1
  have HSM2 := Lib.hid (fun W => small_any mb rb cb qb nb kb W)
  rw [hs2] at HSM2
  have HMUL := Lib.hid hmul
  have HPICK := Lib.hid hpick
  unfold matV at HMUL HPICK HSM1 HSM2 ⊢
  clear ht hmul hpick hs1 hs2
  go_enter Tryd.func9, Tryd.ntmps9
  go_wp2_with fail
  refine (HSM1.out _).mono ?_
  rintro e v85 ⟨rfl, hb⟩
  have hcb : Below w.heap.size w v85 := below_call (((Below.refl _ w).alloc (Nat.le_refl _) _).alloc (by simp) _) hb
  have HT := Lib.hid (HT.out.next hcb)
  have HW := Lib.hid (below_call HW.out hcb)
  have HBA := Lib.hid (((show Row (w.alloc (.cells (matC ma ra ca qa na ka) 24)) (w.heap.size) 24 (matC ma ra ca qa na ka) from Row.made _ _ (by simp)).alloc _).below hb (by simp <;> omega))
  have HBB := Lib.hid ((show Row ((w.alloc (.cells (matC ma ra ca qa na ka) 24)).alloc (.cells (matC mb rb cb qb nb kb) 24)) (w.heap.size + 1) 24 (matC mb rb cb qb nb kb) from Row.made _ _ (by simp)).below hb (by simp <;> omega))
  clear hb hcb
  obtain ⟨c87a, c87b, c87c, c87d⟩ := mbox HBA.out
  obtain ⟨c88a, c88b, c88c, c88d⟩ := mbox HBB.out
  go_wp2_with fail
  clear c87a c87b c87c c87d c88a c88b c88c c88d
  refine (HSM2.out _).mono ?_
  rintro e v86 ⟨rfl, hb⟩
  have hcb : Below v85.heap.size v85 v86 := below_call (Below.refl _ v85) hb
  have HT := Lib.hid (HT.out.next hcb)
  have HW := Lib.hid (below_call HW.out hcb)
  have HBA := Lib.hid (HBA.out.below hcb HBA.out.lt)
  have HBB := Lib.hid (HBB.out.below hcb HBB.out.lt)
  clear hb hcb
  obtain ⟨c90a, c90b, c90c, c90d⟩ := mbox HBA.out
  obtain ⟨c91a, c91b, c91c, c91d⟩ := mbox HBB.out
  go_wp2_with fail
  clear c90a c90b c90c c90d c91a c91b c91c c91d
  refine (HMUL.out _ HW.out).mono ?_
  rintro e v89 ⟨g9, rfl, hb⟩
  have hcb : Below v86.heap.size v86 v89 := below_call (Below.refl _ v86) hb
  have HT := Lib.hid (HT.out.next hcb)
  have HW := Lib.hid (below_call HW.out hcb)
  have HBA := Lib.hid (HBA.out.below hcb HBA.out.lt)
  have HBB := Lib.hid (HBB.out.below hcb HBB.out.lt)
  clear hb hcb
  obtain ⟨c93a, c93b, c93c, c93d⟩ := mbox HBA.out
  have c93l := HBA.out.lt
  obtain ⟨c94a, c94b, c94c, c94d⟩ := mbox HBB.out
  have c94l := HBB.out.lt
  go_wp2_with fail
  clear c93a c93b c93c c93d c93l c94a c94b c94c c94d c94l
  refine (HPICK.out _ (HW.out.alloc (by first | exact HW.out.size | (have h9 := HW.out.size; simp <;> omega)) _)).mono ?_
  rintro e v92 ⟨hres, hb⟩
  have hcb : Below v89.heap.size v89 v92 := below_call ((Below.refl _ v89).alloc (Nat.le_refl _) _) hb
  have HT := Lib.hid (HT.out.next hcb)
  have HW := Lib.hid (below_call HW.out hcb)
  have HBA := Lib.hid (HBA.out.below hcb HBA.out.lt)
  have HBB := Lib.hid (HBB.out.below hcb HBB.out.lt)
  clear hb hcb
  rcases hres with rfl | ⟨q9, k9, rfl⟩
  · obtain ⟨c96a, c96b, c96c, c96d⟩ := mbox HBA.out
    have c96l := HBA.out.lt
    obtain ⟨c97a, c97b, c97c, c97d⟩ := mbox HBB.out
    have c97l := HBB.out.lt
    go_wp2_with fail
    clear c96a c96b c96c c96d c96l c97a c97b c97c c97d c97l
    refine (sanity6_any _ (HT.out.next ((Below.refl _ v92).alloc (Nat.le_refl _) _))).mono ?_
    rintro e v95 ⟨rfl, hb⟩
    have hcb : Below v92.heap.size v92 v95 := below_call ((Below.refl _ v92).alloc (Nat.le_refl _) _) hb
    have HT := Lib.hid (HT.out.next hcb)
    have HW := Lib.hid (below_call HW.out hcb)
    have HBA := Lib.hid (HBA.out.below hcb HBA.out.lt)
    have HBB := Lib.hid (HBB.out.below hcb HBB.out.lt)
    clear hb hcb
    go_wp2
    go_ret
    exact ⟨rfl, HW.out⟩
  · obtain ⟨c99a, c99b, c99c, c99d⟩ := mbox HBA.out
    have c99l := HBA.out.lt
    obtain ⟨c100a, c100b, c100c, c100d⟩ := mbox HBB.out
    have c100l := HBB.out.lt
    go_wp2_with fail
    clear c99a c99b c99c c99d c99l c100a c100b c100c c100d c100l
    refine (sanity6_any _ (HT.out.next ((Below.refl _ v92).alloc (Nat.le_refl _) _))).mono ?_
    rintro e v98 ⟨rfl, hb⟩
    have hcb : Below v92.heap.size v92 v98 := below_call ((Below.refl _ v92).alloc (Nat.le_refl _) _) hb
    have HT := Lib.hid (HT.out.next hcb)
    have HW := Lib.hid (below_call HW.out hcb)
    have HBA := Lib.hid (HBA.out.below hcb HBA.out.lt)
    have HBB := Lib.hid (HBB.out.below hcb HBB.out.lt)
    clear hb hcb
    go_wp2
    go_ret
    exact ⟨rfl, HW.out⟩
set_option maxRecDepth 100000 in
set_option maxHeartbeats 12800000 in
theorem picks_f {m r k c : Nat} {A B : Nat → Nat → Nat} (qa : Option Addr) (ka : Nat) (qb : Option Addr) (kb : Nat) (qr : Option Addr) (L kr : Nat) (is : List Int) (w : World) (ht : Tab w) (hA : MatR w w.heap.size m r k qa ka A) (hB : MatR w w.heap.size m k c qb kb B) (hk : k ≤ 32) (hc : c ≤ 32) (hL : L ≤ 32) (hil : is.length = L) (hri : Rd w w.heap.size qr (ints is))
    (hs1 : smallB r k (r * k) = true) (hs2 : smallB k c (k * c) = true) :
    Calls Tryd.prog 9 #[matV m r k qa (r * k) ka, matV m k c qb (k * c) kb, .slice qr L kr] w fun e w' => e = .returned (.bool true) ∧ Below w.heap.size w w' := by
  have HT := Lib.hid ht
  have HW := Lib.hid (Below.refl w.heap.size w)
  have hp := ht.lt
  have hr := hA.hr
  have HSM1 := Lib.hid (fun W => small_any m r k qa (r * k) ka W)
  have HSM2 := Lib.hid (fun W => small_any m k c qb (k * c) kb W)
  rw [hs1] at HSM1
  rw [hs2] at HSM2
  have hpl : L * c ≤ 32 * 32 := Nat.mul_le_mul hL hc
  have HMUL := Lib.hid (fun (W : World) (h : Below w.heap.size w W) => mul_yes qa ka qb kb W (ht.next h) ((hA.below h).more h.size) ((hB.below h).more h.size) hk hc)
  have HPICK := Lib.hid (fun (W : World) (h : Below w.heap.size w W) => pick_yes qa qr L kr is W ((hA.below h).more h.size) hk hL hil ((hri.below h).more h.size))
  have HPP := Lib.hid (fun (W : World) (h : Below w.heap.size w W) (g : Nat) (hc1 : Cells W g (r * c) (Mat.flat c (Mat.prod m k A B))) => pick_yes (some ⟨g, 0, none⟩) qr L kr is W (MatR.of_cells hc1 hc1.lt hA.hm hr (by omega) (Mat.prod_ok hA.hm hA.ok)) hc hL hil ((hri.below h).more h.size))
  have HMM := Lib.hid (fun (W : World) (h : Below w.heap.size w W) (ht2 : Tab W) (q : Option Addr) (k9 B9 : Nat) (ho : Own W B9 3 q (L * k) k9 (ints (cellsL L k (pick A is)))) (hpk : badRow r is = false) => mul_yes q k9 qb kb W ht2 (own_matR ho hA.hm hL (by omega) (pick_ok hA.ok hpk hil)) ((hB.below h).more h.size) hk hc)
  have HSAME := Lib.hid (fun (W : World) (q : Option Addr) (k9 g B9 : Nat) (ho : Own W B9 3 q (L * c) k9 (ints (cellsL L c (pick (Mat.prod m k A B) is)))) (hc4 : Cells W g (L * c) (Mat.flat c (Mat.prod m k (pick A is) B))) => same_true (m := m) (r := L) (c := c) (k1 := k9) (k2 := L * c) (cellsL_length L c _) rfl (by omega) ho.rd (cells_rd hc4))
  obtain ⟨Na, hNa⟩ : ∃ N, r * k = N := ⟨_, rfl⟩
  obtain ⟨Nb, hNb⟩ : ∃ N, k * c = N := ⟨_, rfl⟩
  obtain ⟨Np, hNp⟩ : ∃ N, r * c = N := ⟨_, rfl⟩
  obtain ⟨Nq, hNq⟩ : ∃ N, L * k = N := ⟨_, rfl⟩
  obtain ⟨Nx, hNx⟩ : ∃ N, L * c = N := ⟨_, rfl⟩
  rw [hNa] at HSM1 HMUL HPICK ⊢
  rw [hNb] at HSM2 HMUL HMM ⊢
  rw [hNp] at HMUL HPP
  rw [hNq] at HPICK HMM
  rw [hNx] at HPP HMM HSAME
  unfold matV at HSM1 HSM2 HMUL HPICK HPP HMM HSAME ⊢
  clear ht hA hB hil hri hs1 hs2 hNa hNb hNp hNq hNx hpl
  go_enter Tryd.func9, Tryd.ntmps9
  go_wp2_with fail
  refine (HSM1.out _).mono ?_
  rintro e v101 ⟨rfl, hb⟩
  have hcb : Below w.heap.size w v101 := below_call (((Below.refl _ w).alloc (Nat.le_refl _) _).alloc (by simp) _) hb
  have HT := Lib.hid (HT.out.next hcb)
  have HW := Lib.hid (below_call HW.out hcb)
  have HBA := Lib.hid (((show Row (w.alloc (.cells (matC m r k qa Na ka) 24)) (w.heap.size) 24 (matC m r k qa Na ka) from Row.made _ _ (by simp)).alloc _).below hb (by simp <;> omega))
  have HBB := Lib.hid ((show Row ((w.alloc (.cells (matC m r k qa Na ka) 24)).alloc (.cells (matC m k c qb Nb kb) 24)) (w.heap.size + 1) 24 (matC m k c qb Nb kb) from Row.made _ _ (by simp)).below hb (by simp <;> omega))
  clear hb hcb
  obtain ⟨c103a, c103b, c103c, c103d⟩ := mbox HBA.out
  obtain ⟨c104a, c104b, c104c, c104d⟩ := mbox HBB.out
  go_wp2_with fail
  clear c103a c103b c103c c103d c104a c104b c104c c104d
  refine (HSM2.out _).mono ?_
  rintro e v102 ⟨rfl, hb⟩
  have hcb : Below v101.heap.size v101 v102 := below_call (Below.refl _ v101) hb
  have HT := Lib.hid (HT.out.next hcb)
  have HW := Lib.hid (below_call HW.out hcb)
  have HBA := Lib.hid (HBA.out.below hcb HBA.out.lt)
  have HBB := Lib.hid (HBB.out.below hcb HBB.out.lt)
  clear hb hcb
  obtain ⟨c106a, c106b, c106c, c106d⟩ := mbox HBA.out
  obtain ⟨c107a, c107b, c107c, c107d⟩ := mbox HBB.out
  go_wp2_with fail
  clear c106a c106b c106c c106d c107a c107b c107c c107d
  refine (HMUL.out _ HW.out).mono ?_
  rintro e v105 ⟨g1, rfl, hg1, hc1, hb⟩
  have hcb : Below v102.heap.size v102 v105 := below_call (Below.refl _ v102) hb
  have HT := Lib.hid (HT.out.next hcb)
  have HW := Lib.hid (below_call HW.out hcb)
  have HBA := Lib.hid (HBA.out.below hcb HBA.out.lt)
  have HBB := Lib.hid (HBB.out.below hcb HBB.out.lt)
  have HC1 := Lib.hid hc1
  clear hc1
  clear hb hcb
  obtain ⟨c109a, c109b, c109c, c109d⟩ := mbox HBA.out
  have c109l := HBA.out.lt
  obtain ⟨c110a, c110b, c110c, c110d⟩ := mbox HBB.out
  have c110l := HBB.out.lt
  go_wp2_with fail
  clear c109a c109b c109c c109d c109l c110a c110b c110c c110d c110l
  refine (HPICK.out _ (HW.out.alloc (by first | exact HW.out.size | (have h9 := HW.out.size; simp <;> omega)) _)).mono ?_
  rintro e v108 ⟨hres, hb⟩
  have hcb : Below v105.heap.size v105 v108 := below_call ((Below.refl _ v105).alloc (Nat.le_refl _) _) hb
  have HT := Lib.hid (HT.out.next hcb)
  have HW := Lib.hid (below_call HW.out hcb)
  have HBA := Lib.hid (HBA.out.below hcb HBA.out.lt)
  have HBB := Lib.hid (HBB.out.below hcb HBB.out.lt)
  have HC1 := Lib.hid (HC1.out.below hcb HC1.out.lt)
  have HBP := Lib.hid ((show Row (v105.alloc (.cells (matC m r c (some ⟨g1, 0, none⟩) Np Np) 24)) (v105.heap.size) 24 (matC m r c (some ⟨g1, 0, none⟩) Np Np) from Row.made _ _ (by simp)).below hb (by simp <;> omega))
  clear hb hcb
  rcases hres with ⟨hbad, rfl⟩ | ⟨hbad, q2, k2, rfl, ho2⟩
  · clear hbad
    obtain ⟨c112a, c112b, c112c, c112d⟩ := mbox HBA.out
    have c112l := HBA.out.lt
    obtain ⟨c113a, c113b, c113c, c113d⟩ := mbox HBB.out
    have c113l := HBB.out.lt
    obtain ⟨c114a, c114b, c114c, c114d⟩ := mbox HBP.out
    have c114l := HBP.out.lt
    go_wp2_with fail
    clear c112a c112b c112c c112d c112l c113a c113b c113c c113d c113l c114a c114b c114c c114d c114l
    refine (sanity6_any _ (HT.out.next ((Below.refl _ v108).alloc (Nat.le_refl _) _))).mono ?_
    rintro e v111 ⟨rfl, hb⟩
    have hcb : Below v108.heap.size v108 v111 := below_call ((Below.refl _ v108).alloc (Nat.le_refl _) _) hb
    have HT := Lib.hid (HT.out.next hcb)
    have HW := Lib.hid (below_call HW.out hcb)
    have HBA := Lib.hid (HBA.out.below hcb HBA.out.lt)
    have HBB := Lib.hid (HBB.out.below hcb HBB.out.lt)
    have HC1 := Lib.hid (HC1.out.below hcb HC1.out.lt)
    have HBP := Lib.hid (HBP.out.below hcb HBP.out.lt)
    clear hb hcb
    go_wp2
    go_ret
    exact ⟨rfl, HW.out⟩
  · have HBAD := Lib.hid hbad
    have HO2 := Lib.hid ho2
    clear hbad ho2
    have HC1a := Lib.hid (HC1.out.alloc (.cells (matC m L k q2 Nq k2) 24))
    obtain ⟨c116a, c116b, c116c, c116d⟩ := mbox HBA.out
    have c116l := HBA.out.lt
    obtain ⟨c117a, c117b, c117c, c117d⟩ := mbox HBB.out
    have c117l := HBB.out.lt
    obtain ⟨c118a, c118b, c118c, c118d⟩ := mbox HBP.out
    have c118l := HBP.out.lt
    go_wp2_with fail
    clear c116a c116b c116c c116d c116l c117a c117b c117c c117d c117l c118a c118b c118c c118d c118l
    refine (HPP.out _ (HW.out.alloc (by first | exact HW.out.size | (have h9 := HW.out.size; simp <;> omega)) _) g1 HC1a.out).mono ?_
    rintro e v115 ⟨hres, hb⟩
    have hcb : Below v108.heap.size v108 v115 := below_call ((Below.refl _ v108).alloc (Nat.le_refl _) _) hb
    have HT := Lib.hid (HT.out.next hcb)
    have HW := Lib.hid (below_call HW.out hcb)
    have HBA := Lib.hid (HBA.out.below hcb HBA.out.lt)
    have HBB := Lib.hid (HBB.out.below hcb HBB.out.lt)
    have HC1 := Lib.hid (HC1.out.below hcb HC1.out.lt)
    have HBP := Lib.hid (HBP.out.below hcb HBP.out.lt)
    have HO2 := Lib.hid (HO2.out.below hcb)
    have HBQ := Lib.hid ((show Row (v108.alloc (.cells (matC m L k q2 Nq k2) 24)) (v108.heap.size) 24 (matC m L k q2 Nq k2) from Row.made _ _ (by simp)).below hb (by simp <;> omega))
    clear hb hcb
    rcases hres with ⟨h9, _⟩ | ⟨_, q3, k3, rfl, ho3⟩
    · exact absurd h9 (by rw [HBAD.out]; exact fun h => by cases h)
    have HO3 := Lib.hid ho3
    clear ho3 HC1a
    have HO2a := Lib.hid (HO2.out.alloc (.cells (matC m L c q3 Nx k3) 24))
    obtain ⟨c120a, c120b, c120c, c120d⟩ := mbox HBA.out
    have c120l := HBA.out.lt
    obtain ⟨c121a, c121b, c121c, c121d⟩ := mbox HBB.out
    have c121l := HBB.out.lt
    obtain ⟨c122a, c122b, c122c, c122d⟩ := mbox HBP.out
    have c122l := HBP.out.lt
    obtain ⟨c123a, c123b, c123c, c123d⟩ := mbox HBQ.out
    have c123l := HBQ.out.lt
    go_wp2_with fail
    clear c120a c120b c120c c120d c120l c121a c121b c121c c121d c121l c122a c122b c122c c122d c122l c123a c123b c123c c123d c123l
    refine (HMM.out _ (HW.out.alloc (by first | exact HW.out.size | (have h9 := HW.out.size; simp <;> omega)) _) (HT.out.next ((Below.refl _ v115).alloc (Nat.le_refl _) _)) q2 k2 _ HO2a.out HBAD.out).mono ?_
    rintro e v119 ⟨g4, rfl, hg4, hc4, hb⟩
    have hcb : Below v115.heap.size v115 v119 := below_call ((Below.refl _ v115).alloc (Nat.le_refl _) _) hb
    have HT := Lib.hid (HT.out.next hcb)
    have HW := Lib.hid (below_call HW.out hcb)
    have HBA := Lib.hid (HBA.out.below hcb HBA.out.lt)
    have HBB := Lib.hid (HBB.out.below hcb HBB.out.lt)
    have HC1 := Lib.hid (HC1.out.below hcb HC1.out.lt)
    have HBP := Lib.hid (HBP.out.below hcb HBP.out.lt)
    have HO2 := Lib.hid (HO2.out.below hcb)
    have HBQ := Lib.hid (HBQ.out.below hcb HBQ.out.lt)
    have HO3 := Lib.hid (HO3.out.below hcb)
    have HBX := Lib.hid ((show Row (v115.alloc (.cells (matC m L c q3 Nx k3) 24)) (v115.heap.size) 24 (matC m L c q3 Nx k3) from Row.made _ _ (by simp)).below hb (by simp <;> omega))
    have HC4 := Lib.hid hc4
    clear hc4 HO2a
    clear hb hcb
    obtain ⟨c125a, c125b, c125c, c125d⟩ := mbox HBA.out
    have c125l := HBA.out.lt
    obtain ⟨c126a, c126b, c126c, c126d⟩ := mbox HBB.out
    have c126l := HBB.out.lt
    obtain ⟨c127a, c127b, c127c, c127d⟩ := mbox HBP.out
    have c127l := HBP.out.lt
    obtain ⟨c128a, c128b, c128c, c128d⟩ := mbox HBQ.out
    have c128l := HBQ.out.lt
    obtain ⟨c129a, c129b, c129c, c129d⟩ := mbox HBX.out
    have c129l := HBX.out.lt
    go_wp2_with fail
    clear c125a c125b c125c c125d c125l c126a c126b c126c c126d c126l c127a c127b c127c c127d c127l c128a c128b c128c c128d c128l c129a c129b c129c c129d c129l
    refine (sanity6_any _ (HT.out.next ((Below.refl _ v119).alloc (Nat.le_refl _) _))).mono ?_
    rintro e v124 ⟨rfl, hb⟩
    have hcb : Below v119.heap.size v119 v124 := below_call ((Below.refl _ v119).alloc (Nat.le_refl _) _) hb
    have HT := Lib.hid (HT.out.next hcb)
    have HW := Lib.hid (below_call HW.out hcb)
    have HBA := Lib.hid (HBA.out.below hcb HBA.out.lt)
    have HBB := Lib.hid (HBB.out.below hcb HBB.out.lt)
    have HC1 := Lib.hid (HC1.out.below hcb HC1.out.lt)
    have HBP := Lib.hid (HBP.out.below hcb HBP.out.lt)
    have HO2 := Lib.hid (HO2.out.below hcb)
    have HBQ := Lib.hid (HBQ.out.below hcb HBQ.out.lt)
    have HO3 := Lib.hid (HO3.out.below hcb)
    have HBX := Lib.hid (HBX.out.below hcb HBX.out.lt)
    have HC4 := Lib.hid (HC4.out.below hcb HC4.out.lt)
    have HBY := Lib.hid ((show Row (v119.alloc (.cells (matC m L c (some ⟨g4, 0, none⟩) Nx Nx) 24)) (v119.heap.size) 24 (matC m L c (some ⟨g4, 0, none⟩) Nx Nx) from Row.made _ _ (by simp)).below hb (by simp <;> omega))
    clear hb hcb
    obtain ⟨c131a, c131b, c131c, c131d⟩ := mbox HBA.out
    obtain ⟨c132a, c132b, c132c, c132d⟩ := mbox HBB.out
    obtain ⟨c133a, c133b, c133c, c133d⟩ := mbox HBP.out
    obtain ⟨c134a, c134b, c134c, c134d⟩ := mbox HBQ.out
    obtain ⟨c135a, c135b, c135c, c135d⟩ := mbox HBX.out
    obtain ⟨c136a, c136b, c136c, c136d⟩ := mbox HBY.out
    go_wp2_with fail
    clear c131a c131b c131c c131d c132a c132b c132c c132d c133a c133b c133c c133d c134a c134b c134c c134d c135a c135b c135c c135d c136a c136b c136c c136d
    refine (HSAME.out _ q3 k3 g4 _ HO3.out HC4.out).mono ?_
    rintro e v130 ⟨rfl, hb⟩
    have hcb : Below v124.heap.size v124 v130 := below_call (Below.refl _ v124) hb
    have HT := Lib.hid (HT.out.next hcb)
    have HW := Lib.hid (below_call HW.out hcb)
    have HBA := Lib.hid (HBA.out.below hcb HBA.out.lt)
    have HBB := Lib.hid (HBB.out.below hcb HBB.out.lt)
    have HC1 := Lib.hid (HC1.out.below hcb HC1.out.lt)
    have HBP := Lib.hid (HBP.out.below hcb HBP.out.lt)
    have HO2 := Lib.hid (HO2.out.below hcb)
    have HBQ := Lib.hid (HBQ.out.below hcb HBQ.out.lt)
    have HO3 := Lib.hid (HO3.out.below hcb)
    have HBX := Lib.hid (HBX.out.below hcb HBX.out.lt)
    have HC4 := Lib.hid (HC4.out.below hcb HC4.out.lt)
    have HBY := Lib.hid (HBY.out.below hcb HBY.out.lt)
    clear hb hcb
    go_wp2
    go_ret
    exact ⟨rfl, HW.out⟩
theorem walk_MatrixPicks (ma ra ca : Int) (qa : Option Addr) (na ka : Nat) (xs : List Int) (mb rb cb : Int) (qb : Option Addr) (nb kb : Nat) (ys : List Int) (qr : Option Addr) (L kr : Nat) (is : List Int) (w : World) (h1 : IntsIn w qa na ka xs) (h2 : IntsIn w qb nb kb ys) (h3 : IntsIn w qr L kr is) (ht : Tab w) :
    Calls Tryd.prog 9 #[matV ma ra ca qa na ka, matV mb rb cb qb nb kb, .slice qr L kr] w fun e w' => e = .returned (.bool true) ∧ Below w.heap.size w w' := by
  have hnopick : (okMat ma ra ca xs && decide (L ≤ 32)) = false → ∀ W, Below w.heap.size w W → Calls Tryd.prog 25 #[matV ma ra ca qa na ka, .slice qr L kr] W fun e w' => e = .returned (outV nilM 1) ∧ Below W.heap.size W w' :=
    fun h W hb => pick_no ma ra ca qa na ka xs qr L kr W h1.1 h1.le ((h1.2.2.2.2.below hb).more hb.size) h
  have hanypick : ∃ (mq rq cq : Int) (Nq : Nat), ∀ W, Below w.heap.size w W → Calls Tryd.prog 25 #[matV ma ra ca qa na ka, .slice qr L kr] W fun e w' => (e = .returned (outV nilM 1) ∨ ∃ q k, e = .returned (outV (matV mq rq cq q Nq k) 0)) ∧ Below W.heap.size W w' := by
    cases hp : (okMat ma ra ca xs && decide (L ≤ 32)) with
    | false =>
      refine ⟨0, 0, 0, 0, fun W hb => (hnopick hp W hb).mono ?_⟩
      rintro e w' ⟨rfl, hb⟩
      exact ⟨.inl rfl, hb⟩
    | true =>
      rw [Bool.and_eq_true, decide_eq_true_eq] at hp
      obtain ⟨m, r, c, A, rfl, rfl, rfl, rfl, rfl, hc, hA⟩ := matIn h1 hp.1
      refine ⟨m, L, c, L * c, fun W hb => (pick_yes qa qr L kr is W ((hA.below hb).more hb.size) hc hp.2 h3.1 ((h3.2.2.2.2.below hb).more hb.size)).mono ?_⟩
      rintro e w' ⟨⟨_, rfl⟩ | ⟨_, q', k', rfl, _⟩, hb⟩
      · exact ⟨.inl rfl, hb⟩
      · exact ⟨.inr ⟨q', k', rfl⟩, hb⟩
  obtain ⟨mq, rq, cq, Nq, hany⟩ := hanypick
  cases hmul : (okMat ma ra ca xs && okMat mb rb cb ys && decide (ma = mb) && decide (ca = rb)) with
  | false =>
    have hno : ∀ W, Below w.heap.size w W → Calls Tryd.prog 16 #[matV ma ra ca qa na ka, matV mb rb cb qb nb kb] W fun e w' => e = .returned (outV nilM 1) ∧ Below W.heap.size W w' :=
      fun W hb => mul_no ma ra ca qa na ka xs mb rb cb qb nb kb ys W h1.1 h1.le ((h1.2.2.2.2.below hb).more hb.size) h2.1 h2.le ((h2.2.2.2.2.below hb).more hb.size) hmul
    cases hs1 : smallB ra ca na with
    | false => exact picks_a ma ra ca qa na ka mb rb cb qb nb kb qr L kr w ht hs1 hno mq rq cq Nq hany
    | true =>
      cases hs2 : smallB rb cb nb with
      | false => exact picks_cf ma ra ca qa na ka mb rb cb qb nb kb qr L kr w ht hs1 hs2 hno mq rq cq Nq hany
      | true => exact picks_ct ma ra ca qa na ka mb rb cb qb nb kb qr L kr w ht hs1 hs2 hno mq rq cq Nq hany
  | true =>
    simp only [Bool.and_eq_true, decide_eq_true_eq] at hmul
    obtain ⟨⟨⟨hoa, hob⟩, e1⟩, e2⟩ := hmul
    have hoa' := hoa
    obtain ⟨m, r, k, A, rfl, rfl, rfl, rfl, hxs, hk, hA⟩ := matIn h1 hoa
    obtain ⟨m2, k2, c, B, e3, e4, rfl, rfl, rfl, hc, hB⟩ := matIn h2 hob
    obtain rfl : m = m2 := by omega
    obtain rfl : k = k2 := by omega
    subst e3; subst e4
    have hyes : ∀ W, Below w.heap.size w W → Calls Tryd.prog 16 #[matV m r k qa (r * k) ka, matV m k c qb (k * c) kb] W fun e w' => ∃ g, e = .returned (outV (matV m r c (some ⟨g, 0, none⟩) (r * c) (r * c)) 0) ∧ Below W.heap.size W w' :=
      fun W hb => (mul_yes qa ka qb kb W (ht.next hb) ((hA.below hb).more hb.size) ((hB.below hb).more hb.size) hk hc).mono (by
        rintro e w' ⟨g, rfl, _, _, hb⟩
        exact ⟨g, rfl, hb⟩)
    cases hs1 : smallB r k (r * k) with
    | false => exact picks_b m r k qa (r * k) ka m k c qb (k * c) kb qr L kr w ht hs1 m r c (r * c) hyes mq rq cq Nq hany
    | true =>
      by_cases hL : L ≤ 32
      · cases hs2 : smallB k c (k * c) with
        | false => exact picks_e m r k qa (r * k) ka m k c qb (k * c) kb qr L kr w ht hs1 hs2 m r c (r * c) hyes mq rq cq Nq hany
        | true => exact picks_f qa ka qb kb qr L kr is w ht hA hB hk hc hL h3.1 h3.2.2.2.2 hs1 hs2
      · have hnp := hnopick (by rw [hoa', decide_eq_false hL]; rfl)
        cases hs2 : smallB k c (k * c) with
        | false => exact picks_df m r k qa (r * k) ka m k c qb (k * c) kb qr L kr w ht hs1 hs2 m r c (r * c) hyes hnp
        | true => exact picks_dt m r k qa (r * k) ka m k c qb (k * c) kb qr L kr w ht hs1 hs2 m r c (r * c) hyes hnp

/-! ### the frame: the arguments opened and shut -/
theorem contract_MatrixPicks (H : Type) (enc : TypeId × Value → H) (W : World) (base : Nat) (args : Array Value) (ds gs : List (DataW H)) (before : List MemPlace)
    (hval0 : ∀ (j : Nat) t v, Tryd.f9.params[j]? = some t → args[j]? = some v → Value.okWide Tryd.prog W .any base t v)
    (hW : DataW.Whole enc Tryd.prog Tryd.f9.params.toList Rows.matrixPicksSpec.vars false W args.toList ds gs before) (hL : laidMetH Tryd.prog Rows.matrixPicksRow.laid W) :
    Calls Tryd.prog 9 args W fun e W' => ∃ v, e = .returned v ∧ Rows.matrixPicksSpec.post enc Tryd.prog Tryd.f9 false true false false W args v W' := by
  have hval : ∀ (j : Nat) t v, Tryd.f9.params[j]? = some t → args[j]? = some v → Value.okWide Tryd.prog W .any base t v := hval0
  have hW' := hW
  obtain ⟨p, q, hA0, hV, rfl, hfz, hnd⟩ := hW
  have hA : DataW.TrodAll enc Tryd.prog W 0 (fun _ => true) true Tryd.f9.params.toList args.toList ds p := hA0
  rw [Tryd.params9] at hA hval
  obtain ⟨v0, vs0, d0, ds0, p0, q0, hargs, rfl, rfl, h0, r0⟩ := trodAll_cons hA
  obtain ⟨v1, vs1, d1, ds1, p1, q1, rfl, rfl, rfl, h1, r1⟩ := trodAll_cons r0
  obtain ⟨v2, vs2, d2, ds2, p2, q2, rfl, rfl, rfl, h2, r2⟩ := trodAll_cons r1
  obtain ⟨rfl, rfl, rfl⟩ := trodAll_nil r2
  obtain rfl : args = #[v0, v1, v2] := by cases args; simp_all
  obtain ⟨rfl, rfl⟩ := trodVars_none hV
  have k0 := h0
  have lt0 : ∀ x ∈ p0, x.block < W.heap.size := by obtain ⟨m, hm⟩ := k0; exact DataW.trod_lt m _ _ _ hm
  have k1 := h1
  have lt1 : ∀ x ∈ p1, x.block < W.heap.size := by obtain ⟨m, hm⟩ := k1; exact DataW.trod_lt m _ _ _ hm
  have k2 := h2
  have lt2 : ∀ x ∈ p2, x.block < W.heap.size := by obtain ⟨m, hm⟩ := k2; exact DataW.trod_lt m _ _ _ hm
  obtain ⟨cs0, rfl, _⟩ := okWide_struct Tryd.underlying24 (hval 0 24 v0 rfl rfl)
  obtain ⟨fuel0, hf0⟩ := h0
  obtain ⟨mm0, mr0, mc0, ma0, mn0, mk0, mx0, hcs0, hin0⟩ := open_matrix hf0
  obtain rfl : cs0 = #[.int .i64 mm0, .int .i64 mr0, .int .i64 mc0, .slice ma0 mn0 mk0] := by apply Array.toList_inj.1; simpa [Value.cells] using hcs0
  obtain ⟨cs1, rfl, _⟩ := okWide_struct Tryd.underlying24 (hval 1 24 v1 rfl rfl)
  obtain ⟨fuel1, hf1⟩ := h1
  obtain ⟨mm1, mr1, mc1, ma1, mn1, mk1, mx1, hcs1, hin1⟩ := open_matrix hf1
  obtain rfl : cs1 = #[.int .i64 mm1, .int .i64 mr1, .int .i64 mc1, .slice ma1 mn1 mk1] := by apply Array.toList_inj.1; simpa [Value.cells] using hcs1
  obtain ⟨aa2, an2, ak2, az2, rfl, hin2⟩ := got_intsIn Tryd.underlying22 Tryd.underlying3 (by kernel_rfl) (show Got enc Tryd.prog W 22 v2 from by
    obtain ⟨ga2, gn2, gk2, rfl⟩ := okWide_slice Tryd.underlying22 (hval 2 22 v2 rfl rfl)
    obtain ⟨fuel2, hf2⟩ := h2
    exact ⟨fuel2, _, hf2⟩)
  refine (walk_MatrixPicks mm0 mr0 mc0 ma0 mn0 mk0 mx0 mm1 mr1 mc1 ma1 mn1 mk1 mx1 aa2 an2 ak2 az2 W hin0 hin1 hin2 (tab_of hL)).mono fun e W' ⟨he, bel⟩ => ?_
  subst he
  exact ⟨_, rfl, _, _, _, [], _, [], hW', trodAll_mk1 (shut_bool Tryd.underlying4 _), (trodAll_cons_mk (Below.trod laidOut (by kernel_rfl) (of_decide_eq_true (by kernel_rfl)) k0 bel lt0) (trodAll_cons_mk (Below.trod laidOut (by kernel_rfl) (of_decide_eq_true (by kernel_rfl)) k1 bel lt1) (trodAll_cons_mk (Below.trod laidOut (by kernel_rfl) (of_decide_eq_true (by kernel_rfl)) k2 bel lt2) trodAll_mk0))), rfl, bel.frame _, fun h => by cases h⟩
theorem laid_MatrixPicks (os : Os) : laidMet Tryd.prog Rows.matrixPicksRow.laid ((laidWorld os).forCall (fun _ _ => 0) ⟨#[], #[.agg #[.int .i64 0, .int .i64 0, .int .i64 0, .slice none 0 0], .agg #[.int .i64 0, .int .i64 0, .int .i64 0, .slice none 0 0], .slice none 0 0], []⟩).memory :=
  laidMet_of_run' 8 (by kernel_rfl) (by kernel_rfl)
theorem reads_MatrixPicks (os : Os) {H : Type} (enc : TypeId × Value → H) : ∃ places, DataW.whole enc Tryd.prog ((laidWorld os).forCall (fun _ _ => 0) ⟨#[], #[.agg #[.int .i64 0, .int .i64 0, .int .i64 0, .slice none 0 0], .agg #[.int .i64 0, .int .i64 0, .int .i64 0, .slice none 0 0], .slice none 0 0], []⟩).memory Tryd.f9.params.toList Rows.matrixPicksSpec.vars false (#[.agg #[.int .i64 0, .int .i64 0, .int .i64 0, .slice none 0 0], .agg #[.int .i64 0, .int .i64 0, .int .i64 0, .slice none 0 0], .slice none 0 0] : Array Value).toList 8 = some ([.agg [.lit (.int .i64 0), .lit (.int .i64 0), .lit (.int .i64 0), .nil], .agg [.lit (.int .i64 0), .lit (.int .i64 0), .lit (.int .i64 0), .nil], .nil], [], places) :=
  ⟨[], by kernel_rfl⟩
set_option maxRecDepth 100000 in
theorem lifted_MatrixPicks (os : Os) (started : os.Started) (H : Type) (enc : TypeId × Value → H) (F : Stop.Interp) :
    ReturnsInHanded {} Tryd.checked os 9 .any ((OpenSpec.ofChange Rows.matrixPicksSpec).preRow enc Tryd.prog Tryd.f9 Rows.matrixPicksRow.domain false Rows.matrixPicksRow.laid) (((OpenSpec.ofChange Rows.matrixPicksSpec).at F).post enc Tryd.prog Tryd.f9 false true false false) := by
  obtain ⟨places, hx⟩ := reads_MatrixPicks os enc
  refine returnsInHanded_of_row (C := Tryd.checked) (s := OpenSpec.ofChange Rows.matrixPicksSpec) own started (by kernel_rfl) Tryd.func9
    (witness_row_at (enc := enc) (C := Tryd.checked) false (laidWorld os) #[.agg #[.int .i64 0, .int .i64 0, .int .i64 0, .slice none 0 0], .agg #[.int .i64 0, .int .i64 0, .int .i64 0, .slice none 0 0], .slice none 0 0] rfl (by kernel_rfl) (by kernel_rfl) (by kernel_rfl)
      (OpenSpec.preRow_of_cond 8 hx (by kernel_rfl) (fun k hk => by cases hk) (by kernel_rfl) (laid_MatrixPicks os))) ?_
  intro W base args ds gs before hval hW _ hcond _ hL _ _
  exact contract_MatrixPicks H enc W base args ds gs before hval hW hL

theorem said_MatrixPicks : Rows.MatrixPicksSaid :=
  OpenClaim.holds_of_cond 9 Tryd.f9 rfl rfl rfl rfl rfl rfl rfl ⟨rfl, rfl, rfl, rfl, rfl⟩ rfl rfl rfl rfl rfl (by kernel_rfl) Tryd.func9 (by kernel_rfl)
    (of_decide_eq_true (by kernel_rfl)) (by unfold Func.isWrapper; first | (rw [if_pos (by decide +kernel)]; kernel_rfl) | (rw [if_neg (by decide +kernel)]; exact ⟨rfl, rfl⟩))
    (fun os started H enc _ F => by rw [OpenClaim.pre_eq_preRow]; exact lifted_MatrixPicks os started H enc F)
theorem plain_MatrixPicks (f : FuncId) (fn : Func) (hf : Tryd.pinned.checked.prog.funcNamed "solvent/solventlaw06.MatrixPicks" = some f) (hfn : Tryd.pinned.checked.prog.funcs[f]? = some fn) :
    false = Tryd.pinned.checked.prog.looks [] ∧ ∀ (j : Nat) t, fn.params[j]? = some t → Tryd.pinned.checked.prog.wantsStandIn t = false := by
  obtain rfl : f = 9 := Option.some.inj ((show Tryd.prog.funcNamed "solvent/solventlaw06.MatrixPicks" = some 9 by kernel_rfl).symm.trans hf) |>.symm
  obtain rfl : fn = Tryd.f9 := (Option.some.inj (Tryd.func9.symm.trans hfn)).symm
  refine ⟨by kernel_rfl, fun j t ht => ?_⟩
  rw [Tryd.params9] at ht
  have hm := Array.mem_of_getElem? ht
  simp only [List.mem_toArray, List.mem_cons, List.not_mem_nil, or_false, or_self] at hm
  rcases hm with rfl | rfl | rfl
  all_goals first | exact (show Tryd.prog.wantsStandIn 24 = false by kernel_rfl) | exact (show Tryd.prog.wantsStandIn 22 = false by kernel_rfl)
theorem proved_MatrixPicks : Rows.MatrixPicksCardSaid :=
  Claim7.holds_tied_plain_at .later [] _ _ _ _ said_MatrixPicks (fun _ h => by cases h) (by kernel_rfl) (fun _ h => by cases h) matrixPicks_row_tie rfl ⟨rfl, rfl⟩ (by kernel_rfl) rfl plain_MatrixPicks (by kernel_rfl)

end Go.Proofs.YtaijjhddgecieaaDoor
