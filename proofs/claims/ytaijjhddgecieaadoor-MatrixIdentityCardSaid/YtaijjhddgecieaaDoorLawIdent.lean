/- This text proves of solventlaw06.MatrixIdentity: for every matrix, field and size the statement returns true: the identity or the error is that of the specification, and multiplying by the identity changes nothing; the arguments read as they did. (Printed by mkident.py.) -/
import Derived.Test.YtaijjhddgecieaaDoorM25
import Derived.Test.YtaijjhddgecieaaDoorOpenM
import Derived.Test.YtaijjhddgecieaaDoorFldT
import Derived.Deep.RegionHeld3
namespace Go.Proofs.YtaijjhddgecieaaDoor
set_option linter.unusedSimpArgs false
set_option linter.unusedVariables false
open Go.ChangeShapes Go.WideShapes Go.ChangeAt Go.RowKit Go.Lib

set_option maxRecDepth 100000 in
set_option maxHeartbeats 6400000 in
theorem ident_no0 (ma ra ca : Int) (qa : Option Addr) (na ka : Nat) (xs : List Int) (m n : Int) (w : World) (ht : Tab w) (h1 : IntsIn w qa na ka xs) (h : okM m = false ∨ n < 0 ∨ 32 < n) (hs : smallB ra ca na = false) :
    Calls Tryd.prog 3 #[matV ma ra ca qa na ka, .int .i64 m, .int .i64 n] w fun e w' => e = .returned (.bool true) ∧ Below w.heap.size w w' := by
  have HT := Lib.hid ht
  have HW := Lib.hid (Below.refl w.heap.size w)
  have hp := ht.lt
  have HSM := Lib.hid (fun W => small_any ma ra ca qa na ka W)
  rw [hs] at HSM
  have HI := Lib.hid (fun W => ident_no m n W h)
  have HJ := Lib.hid (fun W => rident_no m n W h)
  have HSA := Lib.hid (fun (W : World) => same_true (m := 0) (r := 0) (c := 0) (q1 := none) (q2 := none) (n := 0) (k1 := 0) (k2 := 0) (xs := []) (ys := []) (w := W) rfl rfl (by omega) (Rd.nil _ _ _) (Rd.nil _ _ _))
  unfold matV at HSM HSA ⊢
  clear ht h1 hs h
  go_enter Tryd.func3, Tryd.ntmps3
  go_wp2_with fail
  refine (HI.out _).mono ?_
  rintro e v1 ⟨rfl, hb⟩
  have hcb : Below w.heap.size w v1 := below_call ((Below.refl _ w).alloc (Nat.le_refl _) _) hb
  have HT := Lib.hid (HT.out.next hcb)
  have HW := Lib.hid (below_call HW.out hcb)
  have HBA := Lib.hid ((show Row (w.alloc (.cells (matC ma ra ca qa na ka) 24)) (w.heap.size) 24 (matC ma ra ca qa na ka) from Row.made _ _ (by simp)).below hb (by simp <;> omega))
  clear hb hcb
  obtain ⟨c3a, c3b, c3c, c3d⟩ := mbox HBA.out
  have c3l := HBA.out.lt
  go_wp2_with fail
  clear c3a c3b c3c c3d c3l
  refine (HJ.out _).mono ?_
  rintro e v2 ⟨rfl, hb⟩
  have hcb : Below v1.heap.size v1 v2 := below_call ((Below.refl _ v1).alloc (Nat.le_refl _) _) hb
  have HT := Lib.hid (HT.out.next hcb)
  have HW := Lib.hid (below_call HW.out hcb)
  have HBA := Lib.hid (HBA.out.below hcb HBA.out.lt)
  have HBI := Lib.hid ((show Row (v1.alloc (.cells (matC 0 0 0 none 0 0) 24)) (v1.heap.size) 24 (matC 0 0 0 none 0 0) from Row.made _ _ (by simp)).below hb (by simp <;> omega))
  clear hb hcb
  obtain ⟨c5a, c5b, c5c, c5d⟩ := mbox HBA.out
  have c5l := HBA.out.lt
  obtain ⟨c6a, c6b, c6c, c6d⟩ := mbox HBI.out
  have c6l := HBI.out.lt
  go_wp2_with fail
  clear c5a c5b c5c c5d c5l c6a c6b c6c c6d c6l
  refine (HSM.out _).mono ?_
  rintro e v4 ⟨rfl, hb⟩
  have hcb : Below v2.heap.size v2 v4 := below_call ((Below.refl _ v2).alloc (Nat.le_refl _) _) hb
  have HT := Lib.hid (HT.out.next hcb)
  have HW := Lib.hid (below_call HW.out hcb)
  have HBA := Lib.hid (HBA.out.below hcb HBA.out.lt)
  have HBI := Lib.hid (HBI.out.below hcb HBI.out.lt)
  have HBJ := Lib.hid ((show Row (v2.alloc (.cells (matC 0 0 0 none 0 0) 24)) (v2.heap.size) 24 (matC 0 0 0 none 0 0) from Row.made _ _ (by simp)).below hb (by simp <;> omega))
  clear hb hcb
  obtain ⟨c8a, c8b, c8c, c8d⟩ := mbox HBA.out
  obtain ⟨c9a, c9b, c9c, c9d⟩ := mbox HBI.out
  obtain ⟨c10a, c10b, c10c, c10d⟩ := mbox HBJ.out
  go_wp2_with fail
  clear c8a c8b c8c c8d c9a c9b c9c c9d c10a c10b c10c c10d
  refine (sanity6_any _ HT.out).mono ?_
  rintro e v7 ⟨rfl, hb⟩
  have hcb : Below v4.heap.size v4 v7 := below_call (Below.refl _ v4) hb
  have HT := Lib.hid (HT.out.next hcb)
  have HW := Lib.hid (below_call HW.out hcb)
  have HBA := Lib.hid (HBA.out.below hcb HBA.out.lt)
  have HBI := Lib.hid (HBI.out.below hcb HBI.out.lt)
  have HBJ := Lib.hid (HBJ.out.below hcb HBJ.out.lt)
  clear hb hcb
  obtain ⟨c12a, c12b, c12c, c12d⟩ := mbox HBA.out
  obtain ⟨c13a, c13b, c13c, c13d⟩ := mbox HBI.out
  obtain ⟨c14a, c14b, c14c, c14d⟩ := mbox HBJ.out
  go_wp2_with fail
  clear c12a c12b c12c c12d c13a c13b c13c c13d c14a c14b c14c c14d
  refine (HSA.out _).mono ?_
  rintro e v11 ⟨rfl, hb⟩
  have hcb : Below v7.heap.size v7 v11 := below_call (Below.refl _ v7) hb
  have HT := Lib.hid (HT.out.next hcb)
  have HW := Lib.hid (below_call HW.out hcb)
  have HBA := Lib.hid (HBA.out.below hcb HBA.out.lt)
  have HBI := Lib.hid (HBI.out.below hcb HBI.out.lt)
  have HBJ := Lib.hid (HBJ.out.below hcb HBJ.out.lt)
  clear hb hcb
  go_wp2
  go_ret
  exact ⟨rfl, HW.out⟩
set_option maxRecDepth 100000 in
set_option maxHeartbeats 6400000 in
theorem ident_no1 (ma ra ca : Int) (qa : Option Addr) (na ka : Nat) (xs : List Int) (m n : Int) (w : World) (ht : Tab w) (h1 : IntsIn w qa na ka xs) (h : okM m = false ∨ n < 0 ∨ 32 < n) (hs : smallB ra ca na = true) (hv : okMat ma ra ca xs = false) :
    Calls Tryd.prog 3 #[matV ma ra ca qa na ka, .int .i64 m, .int .i64 n] w fun e w' => e = .returned (.bool true) ∧ Below w.heap.size w w' := by
  have HT := Lib.hid ht
  have HW := Lib.hid (Below.refl w.heap.size w)
  have hp := ht.lt
  have HSM := Lib.hid (fun W => small_any ma ra ca qa na ka W)
  rw [hs] at HSM
  have HVL := Lib.hid (fun (W : World) (hb : Below w.heap.size w W) => rvalid6_any ma ra ca qa na ka xs W h1.1 h1.le ((h1.2.2.2.2.below hb).more hb.size))
  rw [hv] at HVL
  have HI := Lib.hid (fun W => ident_no m n W h)
  have HJ := Lib.hid (fun W => rident_no m n W h)
  have HSA := Lib.hid (fun (W : World) => same_true (m := 0) (r := 0) (c := 0) (q1 := none) (q2 := none) (n := 0) (k1 := 0) (k2 := 0) (xs := []) (ys := []) (w := W) rfl rfl (by omega) (Rd.nil _ _ _) (Rd.nil _ _ _))
  unfold matV at HSM HVL HSA ⊢
  clear ht h1 hs hv h
  go_enter Tryd.func3, Tryd.ntmps3
  go_wp2_with fail
  refine (HI.out _).mono ?_
  rintro e v15 ⟨rfl, hb⟩
  have hcb : Below w.heap.size w v15 := below_call ((Below.refl _ w).alloc (Nat.le_refl _) _) hb
  have HT := Lib.hid (HT.out.next hcb)
  have HW := Lib.hid (below_call HW.out hcb)
  have HBA := Lib.hid ((show Row (w.alloc (.cells (matC ma ra ca qa na ka) 24)) (w.heap.size) 24 (matC ma ra ca qa na ka) from Row.made _ _ (by simp)).below hb (by simp <;> omega))
  clear hb hcb
  obtain ⟨c17a, c17b, c17c, c17d⟩ := mbox HBA.out
  have c17l := HBA.out.lt
  go_wp2_with fail
  clear c17a c17b c17c c17d c17l
  refine (HJ.out _).mono ?_
  rintro e v16 ⟨rfl, hb⟩
  have hcb : Below v15.heap.size v15 v16 := below_call ((Below.refl _ v15).alloc (Nat.le_refl _) _) hb
  have HT := Lib.hid (HT.out.next hcb)
  have HW := Lib.hid (below_call HW.out hcb)
  have HBA := Lib.hid (HBA.out.below hcb HBA.out.lt)
  have HBI := Lib.hid ((show Row (v15.alloc (.cells (matC 0 0 0 none 0 0) 24)) (v15.heap.size) 24 (matC 0 0 0 none 0 0) from Row.made _ _ (by simp)).below hb (by simp <;> omega))
  clear hb hcb
  obtain ⟨c19a, c19b, c19c, c19d⟩ := mbox HBA.out
  have c19l := HBA.out.lt
  obtain ⟨c20a, c20b, c20c, c20d⟩ := mbox HBI.out
  have c20l := HBI.out.lt
  go_wp2_with fail
  clear c19a c19b c19c c19d c19l c20a c20b c20c c20d c20l
  refine (HSM.out _).mono ?_
  rintro e v18 ⟨rfl, hb⟩
  have hcb : Below v16.heap.size v16 v18 := below_call ((Below.refl _ v16).alloc (Nat.le_refl _) _) hb
  have HT := Lib.hid (HT.out.next hcb)
  have HW := Lib.hid (below_call HW.out hcb)
  have HBA := Lib.hid (HBA.out.below hcb HBA.out.lt)
  have HBI := Lib.hid (HBI.out.below hcb HBI.out.lt)
  have HBJ := Lib.hid ((show Row (v16.alloc (.cells (matC 0 0 0 none 0 0) 24)) (v16.heap.size) 24 (matC 0 0 0 none 0 0) from Row.made _ _ (by simp)).below hb (by simp <;> omega))
  clear hb hcb
  obtain ⟨c22a, c22b, c22c, c22d⟩ := mbox HBA.out
  obtain ⟨c23a, c23b, c23c, c23d⟩ := mbox HBI.out
  obtain ⟨c24a, c24b, c24c, c24d⟩ := mbox HBJ.out
  go_wp2_with fail
  clear c22a c22b c22c c22d c23a c23b c23c c23d c24a c24b c24c c24d
  refine (HVL.out _ HW.out).mono ?_
  rintro e v21 ⟨rfl, hb⟩
  have hcb : Below v18.heap.size v18 v21 := below_call (Below.refl _ v18) hb
  have HT := Lib.hid (HT.out.next hcb)
  have HW := Lib.hid (below_call HW.out hcb)
  have HBA := Lib.hid (HBA.out.below hcb HBA.out.lt)
  have HBI := Lib.hid (HBI.out.below hcb HBI.out.lt)
  have HBJ := Lib.hid (HBJ.out.below hcb HBJ.out.lt)
  clear hb hcb
  obtain ⟨c26a, c26b, c26c, c26d⟩ := mbox HBA.out
  obtain ⟨c27a, c27b, c27c, c27d⟩ := mbox HBI.out
  obtain ⟨c28a, c28b, c28c, c28d⟩ := mbox HBJ.out
  go_wp2_with fail
  clear c26a c26b c26c c26d c27a c27b c27c c27d c28a c28b c28c c28d
  refine (sanity6_any _ HT.out).mono ?_
  rintro e v25 ⟨rfl, hb⟩
  have hcb : Below v21.heap.size v21 v25 := below_call (Below.refl _ v21) hb
  have HT := Lib.hid (HT.out.next hcb)
  have HW := Lib.hid (below_call HW.out hcb)
  have HBA := Lib.hid (HBA.out.below hcb HBA.out.lt)
  have HBI := Lib.hid (HBI.out.below hcb HBI.out.lt)
  have HBJ := Lib.hid (HBJ.out.below hcb HBJ.out.lt)
  clear hb hcb
  obtain ⟨c30a, c30b, c30c, c30d⟩ := mbox HBA.out
  obtain ⟨c31a, c31b, c31c, c31d⟩ := mbox HBI.out
  obtain ⟨c32a, c32b, c32c, c32d⟩ := mbox HBJ.out
  go_wp2_with fail
  clear c30a c30b c30c c30d c31a c31b c31c c31d c32a c32b c32c c32d
  refine (HSA.out _).mono ?_
  rintro e v29 ⟨rfl, hb⟩
  have hcb : Below v25.heap.size v25 v29 := below_call (Below.refl _ v25) hb
  have HT := Lib.hid (HT.out.next hcb)
  have HW := Lib.hid (below_call HW.out hcb)
  have HBA := Lib.hid (HBA.out.below hcb HBA.out.lt)
  have HBI := Lib.hid (HBI.out.below hcb HBI.out.lt)
  have HBJ := Lib.hid (HBJ.out.below hcb HBJ.out.lt)
  clear hb hcb
  go_wp2
  go_ret
  exact ⟨rfl, HW.out⟩
set_option maxRecDepth 100000 in
set_option maxHeartbeats 6400000 in
theorem ident_no2 (ma ra ca : Int) (qa : Option Addr) (na ka : Nat) (xs : List Int) (m n : Int) (w : World) (ht : Tab w) (h1 : IntsIn w qa na ka xs) (h : okM m = false ∨ n < 0 ∨ 32 < n) (hs : smallB ra ca na = true) (hv : okMat ma ra ca xs = true) (hd1 : (m != ma) = true) :
    Calls Tryd.prog 3 #[matV ma ra ca qa na ka, .int .i64 m, .int .i64 n] w fun e w' => e = .returned (.bool true) ∧ Below w.heap.size w w' := by
  have HT := Lib.hid ht
  have HW := Lib.hid (Below.refl w.heap.size w)
  have hp := ht.lt
  have HSM := Lib.hid (fun W => small_any ma ra ca qa na ka W)
  rw [hs] at HSM
  have HVL := Lib.hid (fun (W : World) (hb : Below w.heap.size w W) => rvalid6_any ma ra ca qa na ka xs W h1.1 h1.le ((h1.2.2.2.2.below hb).more hb.size))
  rw [hv] at HVL
  have HI := Lib.hid (fun W => ident_no m n W h)
  have HJ := Lib.hid (fun W => rident_no m n W h)
  have HSA := Lib.hid (fun (W : World) => same_true (m := 0) (r := 0) (c := 0) (q1 := none) (q2 := none) (n := 0) (k1 := 0) (k2 := 0) (xs := []) (ys := []) (w := W) rfl rfl (by omega) (Rd.nil _ _ _) (Rd.nil _ _ _))
  unfold matV at HSM HVL HSA ⊢
  clear ht h1 hs hv h
  go_enter Tryd.func3, Tryd.ntmps3
  go_wp2_with fail
  refine (HI.out _).mono ?_
  rintro e v33 ⟨rfl, hb⟩
  have hcb : Below w.heap.size w v33 := below_call ((Below.refl _ w).alloc (Nat.le_refl _) _) hb
  have HT := Lib.hid (HT.out.next hcb)
  have HW := Lib.hid (below_call HW.out hcb)
  have HBA := Lib.hid ((show Row (w.alloc (.cells (matC ma ra ca qa na ka) 24)) (w.heap.size) 24 (matC ma ra ca qa na ka) from Row.made _ _ (by simp)).below hb (by simp <;> omega))
  clear hb hcb
  obtain ⟨c35a, c35b, c35c, c35d⟩ := mbox HBA.out
  have c35l := HBA.out.lt
  go_wp2_with fail
  clear c35a c35b c35c c35d c35l
  refine (HJ.out _).mono ?_
  rintro e v34 ⟨rfl, hb⟩
  have hcb : Below v33.heap.size v33 v34 := below_call ((Below.refl _ v33).alloc (Nat.le_refl _) _) hb
  have HT := Lib.hid (HT.out.next hcb)
  have HW := Lib.hid (below_call HW.out hcb)
  have HBA := Lib.hid (HBA.out.below hcb HBA.out.lt)
  have HBI := Lib.hid ((show Row (v33.alloc (.cells (matC 0 0 0 none 0 0) 24)) (v33.heap.size) 24 (matC 0 0 0 none 0 0) from Row.made _ _ (by simp)).below hb (by simp <;> omega))
  clear hb hcb
  obtain ⟨c37a, c37b, c37c, c37d⟩ := mbox HBA.out
  have c37l := HBA.out.lt
  obtain ⟨c38a, c38b, c38c, c38d⟩ := mbox HBI.out
  have c38l := HBI.out.lt
  go_wp2_with fail
  clear c37a c37b c37c c37d c37l c38a c38b c38c c38d c38l
  refine (HSM.out _).mono ?_
  rintro e v36 ⟨rfl, hb⟩
  have hcb : Below v34.heap.size v34 v36 := below_call ((Below.refl _ v34).alloc (Nat.le_refl _) _) hb
  have HT := Lib.hid (HT.out.next hcb)
  have HW := Lib.hid (below_call HW.out hcb)
  have HBA := Lib.hid (HBA.out.below hcb HBA.out.lt)
  have HBI := Lib.hid (HBI.out.below hcb HBI.out.lt)
  have HBJ := Lib.hid ((show Row (v34.alloc (.cells (matC 0 0 0 none 0 0) 24)) (v34.heap.size) 24 (matC 0 0 0 none 0 0) from Row.made _ _ (by simp)).below hb (by simp <;> omega))
  clear hb hcb
  obtain ⟨c40a, c40b, c40c, c40d⟩ := mbox HBA.out
  obtain ⟨c41a, c41b, c41c, c41d⟩ := mbox HBI.out
  obtain ⟨c42a, c42b, c42c, c42d⟩ := mbox HBJ.out
  go_wp2_with fail
  clear c40a c40b c40c c40d c41a c41b c41c c41d c42a c42b c42c c42d
  refine (HVL.out _ HW.out).mono ?_
  rintro e v39 ⟨rfl, hb⟩
  have hcb : Below v36.heap.size v36 v39 := below_call (Below.refl _ v36) hb
  have HT := Lib.hid (HT.out.next hcb)
  have HW := Lib.hid (below_call HW.out hcb)
  have HBA := Lib.hid (HBA.out.below hcb HBA.out.lt)
  have HBI := Lib.hid (HBI.out.below hcb HBI.out.lt)
  have HBJ := Lib.hid (HBJ.out.below hcb HBJ.out.lt)
  clear hb hcb
  obtain ⟨c44a, c44b, c44c, c44d⟩ := mbox HBA.out
  obtain ⟨c45a, c45b, c45c, c45d⟩ := mbox HBI.out
  obtain ⟨c46a, c46b, c46c, c46d⟩ := mbox HBJ.out
  go_wp2_with fail
  clear c44a c44b c44c c44d c45a c45b c45c c45d c46a c46b c46c c46d
  refine (sanity6_any _ HT.out).mono ?_
  rintro e v43 ⟨rfl, hb⟩
  have hcb : Below v39.heap.size v39 v43 := below_call (Below.refl _ v39) hb
  have HT := Lib.hid (HT.out.next hcb)
  have HW := Lib.hid (below_call HW.out hcb)
  have HBA := Lib.hid (HBA.out.below hcb HBA.out.lt)
  have HBI := Lib.hid (HBI.out.below hcb HBI.out.lt)
  have HBJ := Lib.hid (HBJ.out.below hcb HBJ.out.lt)
  clear hb hcb
  obtain ⟨c48a, c48b, c48c, c48d⟩ := mbox HBA.out
  obtain ⟨c49a, c49b, c49c, c49d⟩ := mbox HBI.out
  obtain ⟨c50a, c50b, c50c, c50d⟩ := mbox HBJ.out
  go_wp2_with fail
  clear c48a c48b c48c c48d c49a c49b c49c c49d c50a c50b c50c c50d
  refine (HSA.out _).mono ?_
  rintro e v47 ⟨rfl, hb⟩
  have hcb : Below v43.heap.size v43 v47 := below_call (Below.refl _ v43) hb
  have HT := Lib.hid (HT.out.next hcb)
  have HW := Lib.hid (below_call HW.out hcb)
  have HBA := Lib.hid (HBA.out.below hcb HBA.out.lt)
  have HBI := Lib.hid (HBI.out.below hcb HBI.out.lt)
  have HBJ := Lib.hid (HBJ.out.below hcb HBJ.out.lt)
  clear hb hcb
  go_wp2
  go_ret
  exact ⟨rfl, HW.out⟩
set_option maxRecDepth 100000 in
set_option maxHeartbeats 6400000 in
theorem ident_no3 (ma ra ca : Int) (qa : Option Addr) (na ka : Nat) (xs : List Int) (m n : Int) (w : World) (ht : Tab w) (h1 : IntsIn w qa na ka xs) (h : okM m = false ∨ n < 0 ∨ 32 < n) (hs : smallB ra ca na = true) (hv : okMat ma ra ca xs = true) (hd1 : (m != ma) = false) (hd2 : (n != ra) = true) :
    Calls Tryd.prog 3 #[matV ma ra ca qa na ka, .int .i64 m, .int .i64 n] w fun e w' => e = .returned (.bool true) ∧ Below w.heap.size w w' := by
  have HT := Lib.hid ht
  have HW := Lib.hid (Below.refl w.heap.size w)
  have hp := ht.lt
  have HSM := Lib.hid (fun W => small_any ma ra ca qa na ka W)
  rw [hs] at HSM
  have HVL := Lib.hid (fun (W : World) (hb : Below w.heap.size w W) => rvalid6_any ma ra ca qa na ka xs W h1.1 h1.le ((h1.2.2.2.2.below hb).more hb.size))
  rw [hv] at HVL
  have HI := Lib.hid (fun W => ident_no m n W h)
  have HJ := Lib.hid (fun W => rident_no m n W h)
  have HSA := Lib.hid (fun (W : World) => same_true (m := 0) (r := 0) (c := 0) (q1 := none) (q2 := none) (n := 0) (k1 := 0) (k2 := 0) (xs := []) (ys := []) (w := W) rfl rfl (by omega) (Rd.nil _ _ _) (Rd.nil _ _ _))
  unfold matV at HSM HVL HSA ⊢
  clear ht h1 hs hv h
  go_enter Tryd.func3, Tryd.ntmps3
  go_wp2_with fail
  refine (HI.out _).mono ?_
  rintro e v51 ⟨rfl, hb⟩
  have hcb : Below w.heap.size w v51 := below_call ((Below.refl _ w).alloc (Nat.le_refl _) _) hb
  have HT := Lib.hid (HT.out.next hcb)
  have HW := Lib.hid (below_call HW.out hcb)
  have HBA := Lib.hid ((show Row (w.alloc (.cells (matC ma ra ca qa na ka) 24)) (w.heap.size) 24 (matC ma ra ca qa na ka) from Row.made _ _ (by simp)).below hb (by simp <;> omega))
  clear hb hcb
  obtain ⟨c53a, c53b, c53c, c53d⟩ := mbox HBA.out
  have c53l := HBA.out.lt
  go_wp2_with fail
  clear c53a c53b c53c c53d c53l
  refine (HJ.out _).mono ?_
  rintro e v52 ⟨rfl, hb⟩
  have hcb : Below v51.heap.size v51 v52 := below_call ((Below.refl _ v51).alloc (Nat.le_refl _) _) hb
  have HT := Lib.hid (HT.out.next hcb)
  have HW := Lib.hid (below_call HW.out hcb)
  have HBA := Lib.hid (HBA.out.below hcb HBA.out.lt)
  have HBI := Lib.hid ((show Row (v51.alloc (.cells (matC 0 0 0 none 0 0) 24)) (v51.heap.size) 24 (matC 0 0 0 none 0 0) from Row.made _ _ (by simp)).below hb (by simp <;> omega))
  clear hb hcb
  obtain ⟨c55a, c55b, c55c, c55d⟩ := mbox HBA.out
  have c55l := HBA.out.lt
  obtain ⟨c56a, c56b, c56c, c56d⟩ := mbox HBI.out
  have c56l := HBI.out.lt
  go_wp2_with fail
  clear c55a c55b c55c c55d c55l c56a c56b c56c c56d c56l
  refine (HSM.out _).mono ?_
  rintro e v54 ⟨rfl, hb⟩
  have hcb : Below v52.heap.size v52 v54 := below_call ((Below.refl _ v52).alloc (Nat.le_refl _) _) hb
  have HT := Lib.hid (HT.out.next hcb)
  have HW := Lib.hid (below_call HW.out hcb)
  have HBA := Lib.hid (HBA.out.below hcb HBA.out.lt)
  have HBI := Lib.hid (HBI.out.below hcb HBI.out.lt)
  have HBJ := Lib.hid ((show Row (v52.alloc (.cells (matC 0 0 0 none 0 0) 24)) (v52.heap.size) 24 (matC 0 0 0 none 0 0) from Row.made _ _ (by simp)).below hb (by simp <;> omega))
  clear hb hcb
  obtain ⟨c58a, c58b, c58c, c58d⟩ := mbox HBA.out
  obtain ⟨c59a, c59b, c59c, c59d⟩ := mbox HBI.out
  obtain ⟨c60a, c60b, c60c, c60d⟩ := mbox HBJ.out
  go_wp2_with fail
  clear c58a c58b c58c c58d c59a c59b c59c c59d c60a c60b c60c c60d
  refine (HVL.out _ HW.out).mono ?_
  rintro e v57 ⟨rfl, hb⟩
  have hcb : Below v54.heap.size v54 v57 := below_call (Below.refl _ v54) hb
  have HT := Lib.hid (HT.out.next hcb)
  have HW := Lib.hid (below_call HW.out hcb)
  have HBA := Lib.hid (HBA.out.below hcb HBA.out.lt)
  have HBI := Lib.hid (HBI.out.below hcb HBI.out.lt)
  have HBJ := Lib.hid (HBJ.out.below hcb HBJ.out.lt)
  clear hb hcb
  obtain ⟨c62a, c62b, c62c, c62d⟩ := mbox HBA.out
  obtain ⟨c63a, c63b, c63c, c63d⟩ := mbox HBI.out
  obtain ⟨c64a, c64b, c64c, c64d⟩ := mbox HBJ.out
  go_wp2_with fail
  clear c62a c62b c62c c62d c63a c63b c63c c63d c64a c64b c64c c64d
  refine (sanity6_any _ HT.out).mono ?_
  rintro e v61 ⟨rfl, hb⟩
  have hcb : Below v57.heap.size v57 v61 := below_call (Below.refl _ v57) hb
  have HT := Lib.hid (HT.out.next hcb)
  have HW := Lib.hid (below_call HW.out hcb)
  have HBA := Lib.hid (HBA.out.below hcb HBA.out.lt)
  have HBI := Lib.hid (HBI.out.below hcb HBI.out.lt)
  have HBJ := Lib.hid (HBJ.out.below hcb HBJ.out.lt)
  clear hb hcb
  obtain ⟨c66a, c66b, c66c, c66d⟩ := mbox HBA.out
  obtain ⟨c67a, c67b, c67c, c67d⟩ := mbox HBI.out
  obtain ⟨c68a, c68b, c68c, c68d⟩ := mbox HBJ.out
  go_wp2_with fail
  clear c66a c66b c66c c66d c67a c67b c67c c67d c68a c68b c68c c68d
  refine (HSA.out _).mono ?_
  rintro e v65 ⟨rfl, hb⟩
  have hcb : Below v61.heap.size v61 v65 := below_call (Below.refl _ v61) hb
  have HT := Lib.hid (HT.out.next hcb)
  have HW := Lib.hid (below_call HW.out hcb)
  have HBA := Lib.hid (HBA.out.below hcb HBA.out.lt)
  have HBI := Lib.hid (HBI.out.below hcb HBI.out.lt)
  have HBJ := Lib.hid (HBJ.out.below hcb HBJ.out.lt)
  clear hb hcb
  go_wp2
  go_ret
  exact ⟨rfl, HW.out⟩
set_option maxRecDepth 100000 in
set_option maxHeartbeats 6400000 in
theorem ident_yes0 (ma ra ca : Int) (qa : Option Addr) (na ka : Nat) (xs : List Int) (m n : Nat) (w : World) (ht : Tab w) (h1 : IntsIn w qa na ka xs) (hm : Fld.IsM m) (hn : n ≤ 32) (hs : smallB ra ca na = false) :
    Calls Tryd.prog 3 #[matV ma ra ca qa na ka, .int .i64 (m : Int), .int .i64 (n : Int)] w fun e w' => e = .returned (.bool true) ∧ Below w.heap.size w w' := by
  have HT := Lib.hid ht
  have HW := Lib.hid (Below.refl w.heap.size w)
  have hp := ht.lt
  have HSM := Lib.hid (fun W => small_any ma ra ca qa na ka W)
  rw [hs] at HSM
  have hnn : n * n ≤ 32 * 32 := Nat.mul_le_mul hn hn
  have HI := Lib.hid (fun W => ident_yes m n hm hn W)
  have HJ := Lib.hid (fun W => rident_yes m n hm hn W)
  have HSA := Lib.hid (fun (W : World) (g1 g2 : Nat) (hc1 : Cells W g1 (n * n) (Mat.flat n Mat.one)) (hc2 : Cells W g2 (n * n) (Mat.flat n Mat.one)) => same_true (m := m) (r := n) (c := n) (k1 := n * n) (k2 := n * n) (cellsL_length n n Mat.one) rfl (by omega) (cells_rd hc1) (cells_rd hc2))
  obtain ⟨Nn, hNn⟩ : ∃ N, n * n = N := ⟨_, rfl⟩
  rw [hNn] at HI HJ HSA
  clear hNn hnn
  unfold matV at HSM HSA ⊢
  clear ht h1 hs hm
  go_enter Tryd.func3, Tryd.ntmps3
  go_wp2_with fail
  refine (HI.out _).mono ?_
  rintro e v69 ⟨gi, rfl, hgi, hci, hb⟩
  have hcb : Below w.heap.size w v69 := below_call ((Below.refl _ w).alloc (Nat.le_refl _) _) hb
  have HT := Lib.hid (HT.out.next hcb)
  have HW := Lib.hid (below_call HW.out hcb)
  have HBA := Lib.hid ((show Row (w.alloc (.cells (matC ma ra ca qa na ka) 24)) (w.heap.size) 24 (matC ma ra ca qa na ka) from Row.made _ _ (by simp)).below hb (by simp <;> omega))
  have HCI := Lib.hid hci
  clear hci
  clear hb hcb
  obtain ⟨c71a, c71b, c71c, c71d⟩ := mbox HBA.out
  have c71l := HBA.out.lt
  go_wp2_with fail
  clear c71a c71b c71c c71d c71l
  refine (HJ.out _).mono ?_
  rintro e v70 ⟨gj, rfl, hgj, hcj, hb⟩
  have hcb : Below v69.heap.size v69 v70 := below_call ((Below.refl _ v69).alloc (Nat.le_refl _) _) hb
  have HT := Lib.hid (HT.out.next hcb)
  have HW := Lib.hid (below_call HW.out hcb)
  have HBA := Lib.hid (HBA.out.below hcb HBA.out.lt)
  have HCI := Lib.hid (HCI.out.below hcb HCI.out.lt)
  have HBI := Lib.hid ((show Row (v69.alloc (.cells (matC m n n (some ⟨gi, 0, none⟩) Nn Nn) 24)) (v69.heap.size) 24 (matC m n n (some ⟨gi, 0, none⟩) Nn Nn) from Row.made _ _ (by simp)).below hb (by simp <;> omega))
  have HCJ := Lib.hid hcj
  clear hcj
  clear hb hcb
  obtain ⟨c73a, c73b, c73c, c73d⟩ := mbox HBA.out
  have c73l := HBA.out.lt
  obtain ⟨c74a, c74b, c74c, c74d⟩ := mbox HBI.out
  have c74l := HBI.out.lt
  go_wp2_with fail
  clear c73a c73b c73c c73d c73l c74a c74b c74c c74d c74l
  refine (HSM.out _).mono ?_
  rintro e v72 ⟨rfl, hb⟩
  have hcb : Below v70.heap.size v70 v72 := below_call ((Below.refl _ v70).alloc (Nat.le_refl _) _) hb
  have HT := Lib.hid (HT.out.next hcb)
  have HW := Lib.hid (below_call HW.out hcb)
  have HBA := Lib.hid (HBA.out.below hcb HBA.out.lt)
  have HCI := Lib.hid (HCI.out.below hcb HCI.out.lt)
  have HBI := Lib.hid (HBI.out.below hcb HBI.out.lt)
  have HCJ := Lib.hid (HCJ.out.below hcb HCJ.out.lt)
  have HBJ := Lib.hid ((show Row (v70.alloc (.cells (matC m n n (some ⟨gj, 0, none⟩) Nn Nn) 24)) (v70.heap.size) 24 (matC m n n (some ⟨gj, 0, none⟩) Nn Nn) from Row.made _ _ (by simp)).below hb (by simp <;> omega))
  clear hb hcb
  obtain ⟨c76a, c76b, c76c, c76d⟩ := mbox HBA.out
  obtain ⟨c77a, c77b, c77c, c77d⟩ := mbox HBI.out
  obtain ⟨c78a, c78b, c78c, c78d⟩ := mbox HBJ.out
  go_wp2_with fail
  clear c76a c76b c76c c76d c77a c77b c77c c77d c78a c78b c78c c78d
  refine (sanity6_any _ HT.out).mono ?_
  rintro e v75 ⟨rfl, hb⟩
  have hcb : Below v72.heap.size v72 v75 := below_call (Below.refl _ v72) hb
  have HT := Lib.hid (HT.out.next hcb)
  have HW := Lib.hid (below_call HW.out hcb)
  have HBA := Lib.hid (HBA.out.below hcb HBA.out.lt)
  have HCI := Lib.hid (HCI.out.below hcb HCI.out.lt)
  have HBI := Lib.hid (HBI.out.below hcb HBI.out.lt)
  have HCJ := Lib.hid (HCJ.out.below hcb HCJ.out.lt)
  have HBJ := Lib.hid (HBJ.out.below hcb HBJ.out.lt)
  clear hb hcb
  obtain ⟨c80a, c80b, c80c, c80d⟩ := mbox HBA.out
  obtain ⟨c81a, c81b, c81c, c81d⟩ := mbox HBI.out
  obtain ⟨c82a, c82b, c82c, c82d⟩ := mbox HBJ.out
  go_wp2_with fail
  clear c80a c80b c80c c80d c81a c81b c81c c81d c82a c82b c82c c82d
  refine (HSA.out _ gi gj HCI.out HCJ.out).mono ?_
  rintro e v79 ⟨rfl, hb⟩
  have hcb : Below v75.heap.size v75 v79 := below_call (Below.refl _ v75) hb
  have HT := Lib.hid (HT.out.next hcb)
  have HW := Lib.hid (below_call HW.out hcb)
  have HBA := Lib.hid (HBA.out.below hcb HBA.out.lt)
  have HCI := Lib.hid (HCI.out.below hcb HCI.out.lt)
  have HBI := Lib.hid (HBI.out.below hcb HBI.out.lt)
  have HCJ := Lib.hid (HCJ.out.below hcb HCJ.out.lt)
  have HBJ := Lib.hid (HBJ.out.below hcb HBJ.out.lt)
  clear hb hcb
  go_wp2
  go_ret
  exact ⟨rfl, HW.out⟩
set_option maxRecDepth 100000 in
set_option maxHeartbeats 6400000 in
theorem ident_yes1 (ma ra ca : Int) (qa : Option Addr) (na ka : Nat) (xs : List Int) (m n : Nat) (w : World) (ht : Tab w) (h1 : IntsIn w qa na ka xs) (hm : Fld.IsM m) (hn : n ≤ 32) (hs : smallB ra ca na = true) (hv : okMat ma ra ca xs = false) :
    Calls Tryd.prog 3 #[matV ma ra ca qa na ka, .int .i64 (m : Int), .int .i64 (n : Int)] w fun e w' => e = .returned (.bool true) ∧ Below w.heap.size w w' := by
  have HT := Lib.hid ht
  have HW := Lib.hid (Below.refl w.heap.size w)
  have hp := ht.lt
  have HSM := Lib.hid (fun W => small_any ma ra ca qa na ka W)
  rw [hs] at HSM
  have HVL := Lib.hid (fun (W : World) (hb : Below w.heap.size w W) => rvalid6_any ma ra ca qa na ka xs W h1.1 h1.le ((h1.2.2.2.2.below hb).more hb.size))
  rw [hv] at HVL
  have hnn : n * n ≤ 32 * 32 := Nat.mul_le_mul hn hn
  have HI := Lib.hid (fun W => ident_yes m n hm hn W)
  have HJ := Lib.hid (fun W => rident_yes m n hm hn W)
  have HSA := Lib.hid (fun (W : World) (g1 g2 : Nat) (hc1 : Cells W g1 (n * n) (Mat.flat n Mat.one)) (hc2 : Cells W g2 (n * n) (Mat.flat n Mat.one)) => same_true (m := m) (r := n) (c := n) (k1 := n * n) (k2 := n * n) (cellsL_length n n Mat.one) rfl (by omega) (cells_rd hc1) (cells_rd hc2))
  obtain ⟨Nn, hNn⟩ : ∃ N, n * n = N := ⟨_, rfl⟩
  rw [hNn] at HI HJ HSA
  clear hNn hnn
  unfold matV at HSM HVL HSA ⊢
  clear ht h1 hs hv hm
  go_enter Tryd.func3, Tryd.ntmps3
  go_wp2_with fail
  refine (HI.out _).mono ?_
  rintro e v83 ⟨gi, rfl, hgi, hci, hb⟩
  have hcb : Below w.heap.size w v83 := below_call ((Below.refl _ w).alloc (Nat.le_refl _) _) hb
  have HT := Lib.hid (HT.out.next hcb)
  have HW := Lib.hid (below_call HW.out hcb)
  have HBA := Lib.hid ((show Row (w.alloc (.cells (matC ma ra ca qa na ka) 24)) (w.heap.size) 24 (matC ma ra ca qa na ka) from Row.made _ _ (by simp)).below hb (by simp <;> omega))
  have HCI := Lib.hid hci
  clear hci
  clear hb hcb
  obtain ⟨c85a, c85b, c85c, c85d⟩ := mbox HBA.out
  have c85l := HBA.out.lt
  go_wp2_with fail
  clear c85a c85b c85c c85d c85l
  refine (HJ.out _).mono ?_
  rintro e v84 ⟨gj, rfl, hgj, hcj, hb⟩
  have hcb : Below v83.heap.size v83 v84 := below_call ((Below.refl _ v83).alloc (Nat.le_refl _) _) hb
  have HT := Lib.hid (HT.out.next hcb)
  have HW := Lib.hid (below_call HW.out hcb)
  have HBA := Lib.hid (HBA.out.below hcb HBA.out.lt)
  have HCI := Lib.hid (HCI.out.below hcb HCI.out.lt)
  have HBI := Lib.hid ((show Row (v83.alloc (.cells (matC m n n (some ⟨gi, 0, none⟩) Nn Nn) 24)) (v83.heap.size) 24 (matC m n n (some ⟨gi, 0, none⟩) Nn Nn) from Row.made _ _ (by simp)).below hb (by simp <;> omega))
  have HCJ := Lib.hid hcj
  clear hcj
  clear hb hcb
  obtain ⟨c87a, c87b, c87c, c87d⟩ := mbox HBA.out
  have c87l := HBA.out.lt
  obtain ⟨c88a, c88b, c88c, c88d⟩ := mbox HBI.out
  have c88l := HBI.out.lt
  go_wp2_with fail
  clear c87a c87b c87c c87d c87l c88a c88b c88c c88d c88l
  refine (HSM.out _).mono ?_
  rintro e v86 ⟨rfl, hb⟩
  have hcb : Below v84.heap.size v84 v86 := below_call ((Below.refl _ v84).alloc (Nat.le_refl _) _) hb
  have HT := Lib.hid (HT.out.next hcb)
  have HW := Lib.hid (below_call HW.out hcb)
  have HBA := Lib.hid (HBA.out.below hcb HBA.out.lt)
  have HCI := Lib.hid (HCI.out.below hcb HCI.out.lt)
  have HBI := Lib.hid (HBI.out.below hcb HBI.out.lt)
  have HCJ := Lib.hid (HCJ.out.below hcb HCJ.out.lt)
  have HBJ := Lib.hid ((show Row (v84.alloc (.cells (matC m n n (some ⟨gj, 0, none⟩) Nn Nn) 24)) (v84.heap.size) 24 (matC m n n (some ⟨gj, 0, none⟩) Nn Nn) from Row.made _ _ (by simp)).below hb (by simp <;> omega))
  clear hb hcb
  obtain ⟨c90a, c90b, c90c, c90d⟩ := mbox HBA.out
  obtain ⟨c91a, c91b, c91c, c91d⟩ := mbox HBI.out
  obtain ⟨c92a, c92b, c92c, c92d⟩ := mbox HBJ.out
  go_wp2_with fail
  clear c90a c90b c90c c90d c91a c91b c91c c91d c92a c92b c92c c92d
  refine (HVL.out _ HW.out).mono ?_
  rintro e v89 ⟨rfl, hb⟩
  have hcb : Below v86.heap.size v86 v89 := below_call (Below.refl _ v86) hb
  have HT := Lib.hid (HT.out.next hcb)
  have HW := Lib.hid (below_call HW.out hcb)
  have HBA := Lib.hid (HBA.out.below hcb HBA.out.lt)
  have HCI := Lib.hid (HCI.out.below hcb HCI.out.lt)
  have HBI := Lib.hid (HBI.out.below hcb HBI.out.lt)
  have HCJ := Lib.hid (HCJ.out.below hcb HCJ.out.lt)
  have HBJ := Lib.hid (HBJ.out.below hcb HBJ.out.lt)
  clear hb hcb
  obtain ⟨c94a, c94b, c94c, c94d⟩ := mbox HBA.out
  obtain ⟨c95a, c95b, c95c, c95d⟩ := mbox HBI.out
  obtain ⟨c96a, c96b, c96c, c96d⟩ := mbox HBJ.out
  go_wp2_with fail
  clear c94a c94b c94c c94d c95a c95b c95c c95d c96a c96b c96c c96d
  refine (sanity6_any _ HT.out).mono ?_
  rintro e v93 ⟨rfl, hb⟩
  have hcb : Below v89.heap.size v89 v93 := below_call (Below.refl _ v89) hb
  have HT := Lib.hid (HT.out.next hcb)
  have HW := Lib.hid (below_call HW.out hcb)
  have HBA := Lib.hid (HBA.out.below hcb HBA.out.lt)
  have HCI := Lib.hid (HCI.out.below hcb HCI.out.lt)
  have HBI := Lib.hid (HBI.out.below hcb HBI.out.lt)
  have HCJ := Lib.hid (HCJ.out.below hcb HCJ.out.lt)
  have HBJ := Lib.hid (HBJ.out.below hcb HBJ.out.lt)
  clear hb hcb
  obtain ⟨c98a, c98b, c98c, c98d⟩ := mbox HBA.out
  obtain ⟨c99a, c99b, c99c, c99d⟩ := mbox HBI.out
  obtain ⟨c100a, c100b, c100c, c100d⟩ := mbox HBJ.out
  go_wp2_with fail
  clear c98a c98b c98c c98d c99a c99b c99c c99d c100a c100b c100c c100d
  refine (HSA.out _ gi gj HCI.out HCJ.out).mono ?_
  rintro e v97 ⟨rfl, hb⟩
  have hcb : Below v93.heap.size v93 v97 := below_call (Below.refl _ v93) hb
  have HT := Lib.hid (HT.out.next hcb)
  have HW := Lib.hid (below_call HW.out hcb)
  have HBA := Lib.hid (HBA.out.below hcb HBA.out.lt)
  have HCI := Lib.hid (HCI.out.below hcb HCI.out.lt)
  have HBI := Lib.hid (HBI.out.below hcb HBI.out.lt)
  have HCJ := Lib.hid (HCJ.out.below hcb HCJ.out.lt)
  have HBJ := Lib.hid (HBJ.out.below hcb HBJ.out.lt)
  clear hb hcb
  go_wp2
  go_ret
  exact ⟨rfl, HW.out⟩
set_option maxRecDepth 100000 in
set_option maxHeartbeats 6400000 in
theorem ident_yes2 (ma ra ca : Int) (qa : Option Addr) (na ka : Nat) (xs : List Int) (m n : Nat) (w : World) (ht : Tab w) (h1 : IntsIn w qa na ka xs) (hm : Fld.IsM m) (hn : n ≤ 32) (hs : smallB ra ca na = true) (hv : okMat ma ra ca xs = true) (hd1 : ((m : Int) != ma) = true) :
    Calls Tryd.prog 3 #[matV ma ra ca qa na ka, .int .i64 (m : Int), .int .i64 (n : Int)] w fun e w' => e = .returned (.bool true) ∧ Below w.heap.size w w' := by
  have HT := Lib.hid ht
  have HW := Lib.hid (Below.refl w.heap.size w)
  have hp := ht.lt
  have HSM := Lib.hid (fun W => small_any ma ra ca qa na ka W)
  rw [hs] at HSM
  have HVL := Lib.hid (fun (W : World) (hb : Below w.heap.size w W) => rvalid6_any ma ra ca qa na ka xs W h1.1 h1.le ((h1.2.2.2.2.below hb).more hb.size))
  rw [hv] at HVL
  have hnn : n * n ≤ 32 * 32 := Nat.mul_le_mul hn hn
  have HI := Lib.hid (fun W => ident_yes m n hm hn W)
  have HJ := Lib.hid (fun W => rident_yes m n hm hn W)
  have HSA := Lib.hid (fun (W : World) (g1 g2 : Nat) (hc1 : Cells W g1 (n * n) (Mat.flat n Mat.one)) (hc2 : Cells W g2 (n * n) (Mat.flat n Mat.one)) => same_true (m := m) (r := n) (c := n) (k1 := n * n) (k2 := n * n) (cellsL_length n n Mat.one) rfl (by omega) (cells_rd hc1) (cells_rd hc2))
  obtain ⟨Nn, hNn⟩ : ∃ N, n * n = N := ⟨_, rfl⟩
  rw [hNn] at HI HJ HSA
  clear hNn hnn
  unfold matV at HSM HVL HSA ⊢
  clear ht h1 hs hv hm
  go_enter Tryd.func3, Tryd.ntmps3
  go_wp2_with fail
  refine (HI.out _).mono ?_
  rintro e v101 ⟨gi, rfl, hgi, hci, hb⟩
  have hcb : Below w.heap.size w v101 := below_call ((Below.refl _ w).alloc (Nat.le_refl _) _) hb
  have HT := Lib.hid (HT.out.next hcb)
  have HW := Lib.hid (below_call HW.out hcb)
  have HBA := Lib.hid ((show Row (w.alloc (.cells (matC ma ra ca qa na ka) 24)) (w.heap.size) 24 (matC ma ra ca qa na ka) from Row.made _ _ (by simp)).below hb (by simp <;> omega))
  have HCI := Lib.hid hci
  clear hci
  clear hb hcb
  obtain ⟨c103a, c103b, c103c, c103d⟩ := mbox HBA.out
  have c103l := HBA.out.lt
  go_wp2_with fail
  clear c103a c103b c103c c103d c103l
  refine (HJ.out _).mono ?_
  rintro e v102 ⟨gj, rfl, hgj, hcj, hb⟩
  have hcb : Below v101.heap.size v101 v102 := below_call ((Below.refl _ v101).alloc (Nat.le_refl _) _) hb
  have HT := Lib.hid (HT.out.next hcb)
  have HW := Lib.hid (below_call HW.out hcb)
  have HBA := Lib.hid (HBA.out.below hcb HBA.out.lt)
  have HCI := Lib.hid (HCI.out.below hcb HCI.out.lt)
  have HBI := Lib.hid ((show Row (v101.alloc (.cells (matC m n n (some ⟨gi, 0, none⟩) Nn Nn) 24)) (v101.heap.size) 24 (matC m n n (some ⟨gi, 0, none⟩) Nn Nn) from Row.made _ _ (by simp)).below hb (by simp <;> omega))
  have HCJ := Lib.hid hcj
  clear hcj
  clear hb hcb
  obtain ⟨c105a, c105b, c105c, c105d⟩ := mbox HBA.out
  have c105l := HBA.out.lt
  obtain ⟨c106a, c106b, c106c, c106d⟩ := mbox HBI.out
  have c106l := HBI.out.lt
  go_wp2_with fail
  clear c105a c105b c105c c105d c105l c106a c106b c106c c106d c106l
  refine (HSM.out _).mono ?_
  rintro e v104 ⟨rfl, hb⟩
  have hcb : Below v102.heap.size v102 v104 := below_call ((Below.refl _ v102).alloc (Nat.le_refl _) _) hb
  have HT := Lib.hid (HT.out.next hcb)
  have HW := Lib.hid (below_call HW.out hcb)
  have HBA := Lib.hid (HBA.out.below hcb HBA.out.lt)
  have HCI := Lib.hid (HCI.out.below hcb HCI.out.lt)
  have HBI := Lib.hid (HBI.out.below hcb HBI.out.lt)
  have HCJ := Lib.hid (HCJ.out.below hcb HCJ.out.lt)
  have HBJ := Lib.hid ((show Row (v102.alloc (.cells (matC m n n (some ⟨gj, 0, none⟩) Nn Nn) 24)) (v102.heap.size) 24 (matC m n n (some ⟨gj, 0, none⟩) Nn Nn) from Row.made _ _ (by simp)).below hb (by simp <;> omega))
  clear hb hcb
  obtain ⟨c108a, c108b, c108c, c108d⟩ := mbox HBA.out
  obtain ⟨c109a, c109b, c109c, c109d⟩ := mbox HBI.out
  obtain ⟨c110a, c110b, c110c, c110d⟩ := mbox HBJ.out
  go_wp2_with fail
  clear c108a c108b c108c c108d c109a c109b c109c c109d c110a c110b c110c c110d
  refine (HVL.out _ HW.out).mono ?_
  rintro e v107 ⟨rfl, hb⟩
  have hcb : Below v104.heap.size v104 v107 := below_call (Below.refl _ v104) hb
  have HT := Lib.hid (HT.out.next hcb)
  have HW := Lib.hid (below_call HW.out hcb)
  have HBA := Lib.hid (HBA.out.below hcb HBA.out.lt)
  have HCI := Lib.hid (HCI.out.below hcb HCI.out.lt)
  have HBI := Lib.hid (HBI.out.below hcb HBI.out.lt)
  have HCJ := Lib.hid (HCJ.out.below hcb HCJ.out.lt)
  have HBJ := Lib.hid (HBJ.out.below hcb HBJ.out.lt)
  clear hb hcb
  obtain ⟨c112a, c112b, c112c, c112d⟩ := mbox HBA.out
  obtain ⟨c113a, c113b, c113c, c113d⟩ := mbox HBI.out
  obtain ⟨c114a, c114b, c114c, c114d⟩ := mbox HBJ.out
  go_wp2_with fail
  clear c112a c112b c112c c112d c113a c113b c113c c113d c114a c114b c114c c114d
  refine (sanity6_any _ HT.out).mono ?_
  rintro e v111 ⟨rfl, hb⟩
  have hcb : Below v107.heap.size v107 v111 := below_call (Below.refl _ v107) hb
  have HT := Lib.hid (HT.out.next hcb)
  have HW := Lib.hid (below_call HW.out hcb)
  have HBA := Lib.hid (HBA.out.below hcb HBA.out.lt)
  have HCI := Lib.hid (HCI.out.below hcb HCI.out.lt)
  have HBI := Lib.hid (HBI.out.below hcb HBI.out.lt)
  have HCJ := Lib.hid (HCJ.out.below hcb HCJ.out.lt)
  have HBJ := Lib.hid (HBJ.out.below hcb HBJ.out.lt)
  clear hb hcb
  obtain ⟨c116a, c116b, c116c, c116d⟩ := mbox HBA.out
  obtain ⟨c117a, c117b, c117c, c117d⟩ := mbox HBI.out
  obtain ⟨c118a, c118b, c118c, c118d⟩ := mbox HBJ.out
  go_wp2_with fail
  clear c116a c116b c116c c116d c117a c117b c117c c117d c118a c118b c118c c118d
  refine (HSA.out _ gi gj HCI.out HCJ.out).mono ?_
  rintro e v115 ⟨rfl, hb⟩
  have hcb : Below v111.heap.size v111 v115 := below_call (Below.refl _ v111) hb
  have HT := Lib.hid (HT.out.next hcb)
  have HW := Lib.hid (below_call HW.out hcb)
  have HBA := Lib.hid (HBA.out.below hcb HBA.out.lt)
  have HCI := Lib.hid (HCI.out.below hcb HCI.out.lt)
  have HBI := Lib.hid (HBI.out.below hcb HBI.out.lt)
  have HCJ := Lib.hid (HCJ.out.below hcb HCJ.out.lt)
  have HBJ := Lib.hid (HBJ.out.below hcb HBJ.out.lt)
  clear hb hcb
  go_wp2
  go_ret
  exact ⟨rfl, HW.out⟩
set_option maxRecDepth 100000 in
set_option maxHeartbeats 6400000 in
theorem ident_yes3 (ma ra ca : Int) (qa : Option Addr) (na ka : Nat) (xs : List Int) (m n : Nat) (w : World) (ht : Tab w) (h1 : IntsIn w qa na ka xs) (hm : Fld.IsM m) (hn : n ≤ 32) (hs : smallB ra ca na = true) (hv : okMat ma ra ca xs = true) (hd1 : ((m : Int) != ma) = false) (hd2 : ((n : Int) != ra) = true) :
    Calls Tryd.prog 3 #[matV ma ra ca qa na ka, .int .i64 (m : Int), .int .i64 (n : Int)] w fun e w' => e = .returned (.bool true) ∧ Below w.heap.size w w' := by
  have HT := Lib.hid ht
  have HW := Lib.hid (Below.refl w.heap.size w)
  have hp := ht.lt
  have HSM := Lib.hid (fun W => small_any ma ra ca qa na ka W)
  rw [hs] at HSM
  have HVL := Lib.hid (fun (W : World) (hb : Below w.heap.size w W) => rvalid6_any ma ra ca qa na ka xs W h1.1 h1.le ((h1.2.2.2.2.below hb).more hb.size))
  rw [hv] at HVL
  have hnn : n * n ≤ 32 * 32 := Nat.mul_le_mul hn hn
  have HI := Lib.hid (fun W => ident_yes m n hm hn W)
  have HJ := Lib.hid (fun W => rident_yes m n hm hn W)
  have HSA := Lib.hid (fun (W : World) (g1 g2 : Nat) (hc1 : Cells W g1 (n * n) (Mat.flat n Mat.one)) (hc2 : Cells W g2 (n * n) (Mat.flat n Mat.one)) => same_true (m := m) (r := n) (c := n) (k1 := n * n) (k2 := n * n) (cellsL_length n n Mat.one) rfl (by omega) (cells_rd hc1) (cells_rd hc2))
  obtain ⟨Nn, hNn⟩ : ∃ N, n * n = N := ⟨_, rfl⟩
  rw [hNn] at HI HJ HSA
  clear hNn hnn
  unfold matV at HSM HVL HSA ⊢
  clear ht h1 hs hv hm
  go_enter Tryd.func3, Tryd.ntmps3
  go_wp2_with fail
  refine (HI.out _).mono ?_
  rintro e v119 ⟨gi, rfl, hgi, hci, hb⟩
  have hcb : Below w.heap.size w v119 := below_call ((Below.refl _ w).alloc (Nat.le_refl _) _) hb
  have HT := Lib.hid (HT.out.next hcb)
  have HW := Lib.hid (below_call HW.out hcb)
  have HBA := Lib.hid ((show Row (w.alloc (.cells (matC ma ra ca qa na ka) 24)) (w.heap.size) 24 (matC ma ra ca qa na ka) from Row.made _ _ (by simp)).below hb (by simp <;> omega))
  have HCI := Lib.hid hci
  clear hci
  clear hb hcb
  obtain ⟨c121a, c121b, c121c, c121d⟩ := mbox HBA.out
  have c121l := HBA.out.lt
  go_wp2_with fail
  clear c121a c121b c121c c121d c121l
  refine (HJ.out _).mono ?_
  rintro e v120 ⟨gj, rfl, hgj, hcj, hb⟩
  have hcb : Below v119.heap.size v119 v120 := below_call ((Below.refl _ v119).alloc (Nat.le_refl _) _) hb
  have HT := Lib.hid (HT.out.next hcb)
  have HW := Lib.hid (below_call HW.out hcb)
  have HBA := Lib.hid (HBA.out.below hcb HBA.out.lt)
  have HCI := Lib.hid (HCI.out.below hcb HCI.out.lt)
  have HBI := Lib.hid ((show Row (v119.alloc (.cells (matC m n n (some ⟨gi, 0, none⟩) Nn Nn) 24)) (v119.heap.size) 24 (matC m n n (some ⟨gi, 0, none⟩) Nn Nn) from Row.made _ _ (by simp)).below hb (by simp <;> omega))
  have HCJ := Lib.hid hcj
  clear hcj
  clear hb hcb
  obtain ⟨c123a, c123b, c123c, c123d⟩ := mbox HBA.out
  have c123l := HBA.out.lt
  obtain ⟨c124a, c124b, c124c, c124d⟩ := mbox HBI.out
  have c124l := HBI.out.lt
  go_wp2_with fail
  clear c123a c123b c123c c123d c123l c124a c124b c124c c124d c124l
  refine (HSM.out _).mono ?_
  rintro e v122 ⟨rfl, hb⟩
  have hcb : Below v120.heap.size v120 v122 := below_call ((Below.refl _ v120).alloc (Nat.le_refl _) _) hb
  have HT := Lib.hid (HT.out.next hcb)
  have HW := Lib.hid (below_call HW.out hcb)
  have HBA := Lib.hid (HBA.out.below hcb HBA.out.lt)
  have HCI := Lib.hid (HCI.out.below hcb HCI.out.lt)
  have HBI := Lib.hid (HBI.out.below hcb HBI.out.lt)
  have HCJ := Lib.hid (HCJ.out.below hcb HCJ.out.lt)
  have HBJ := Lib.hid ((show Row (v120.alloc (.cells (matC m n n (some ⟨gj, 0, none⟩) Nn Nn) 24)) (v120.heap.size) 24 (matC m n n (some ⟨gj, 0, none⟩) Nn Nn) from Row.made _ _ (by simp)).below hb (by simp <;> omega))
  clear hb hcb
  obtain ⟨c126a, c126b, c126c, c126d⟩ := mbox HBA.out
  obtain ⟨c127a, c127b, c127c, c127d⟩ := mbox HBI.out
  obtain ⟨c128a, c128b, c128c, c128d⟩ := mbox HBJ.out
  go_wp2_with fail
  clear c126a c126b c126c c126d c127a c127b c127c c127d c128a c128b c128c c128d
  refine (HVL.out _ HW.out).mono ?_
  rintro e v125 ⟨rfl, hb⟩
  have hcb : Below v122.heap.size v122 v125 := below_call (Below.refl _ v122) hb
  have HT := Lib.hid (HT.out.next hcb)
  have HW := Lib.hid (below_call HW.out hcb)
  have HBA := Lib.hid (HBA.out.below hcb HBA.out.lt)
  have HCI := Lib.hid (HCI.out.below hcb HCI.out.lt)
  have HBI := Lib.hid (HBI.out.below hcb HBI.out.lt)
  have HCJ := Lib.hid (HCJ.out.below hcb HCJ.out.lt)
  have HBJ := Lib.hid (HBJ.out.below hcb HBJ.out.lt)
  clear hb hcb
  obtain ⟨c130a, c130b, c130c, c130d⟩ := mbox HBA.out
  obtain ⟨c131a, c131b, c131c, c131d⟩ := mbox HBI.out
  obtain ⟨c132a, c132b, c132c, c132d⟩ := mbox HBJ.out
  go_wp2_with fail
  clear c130a c130b c130c c130d c131a c131b c131c c131d c132a c132b c132c c132d
  refine (sanity6_any _ HT.out).mono ?_
  rintro e v129 ⟨rfl, hb⟩
  have hcb : Below v125.heap.size v125 v129 := below_call (Below.refl _ v125) hb
  have HT := Lib.hid (HT.out.next hcb)
  have HW := Lib.hid (below_call HW.out hcb)
  have HBA := Lib.hid (HBA.out.below hcb HBA.out.lt)
  have HCI := Lib.hid (HCI.out.below hcb HCI.out.lt)
  have HBI := Lib.hid (HBI.out.below hcb HBI.out.lt)
  have HCJ := Lib.hid (HCJ.out.below hcb HCJ.out.lt)
  have HBJ := Lib.hid (HBJ.out.below hcb HBJ.out.lt)
  clear hb hcb
  obtain ⟨c134a, c134b, c134c, c134d⟩ := mbox HBA.out
  obtain ⟨c135a, c135b, c135c, c135d⟩ := mbox HBI.out
  obtain ⟨c136a, c136b, c136c, c136d⟩ := mbox HBJ.out
  go_wp2_with fail
  clear c134a c134b c134c c134d c135a c135b c135c c135d c136a c136b c136c c136d
  refine (HSA.out _ gi gj HCI.out HCJ.out).mono ?_
  rintro e v133 ⟨rfl, hb⟩
  have hcb : Below v129.heap.size v129 v133 := below_call (Below.refl _ v129) hb
  have HT := Lib.hid (HT.out.next hcb)
  have HW := Lib.hid (below_call HW.out hcb)
  have HBA := Lib.hid (HBA.out.below hcb HBA.out.lt)
  have HCI := Lib.hid (HCI.out.below hcb HCI.out.lt)
  have HBI := Lib.hid (HBI.out.below hcb HBI.out.lt)
  have HCJ := Lib.hid (HCJ.out.below hcb HCJ.out.lt)
  have HBJ := Lib.hid (HBJ.out.below hcb HBJ.out.lt)
  clear hb hcb
  go_wp2
  go_ret
  exact ⟨rfl, HW.out⟩
set_option maxRecDepth 100000 in
set_option maxHeartbeats 6400000 in
theorem ident_main {m n c : Nat} {A : Nat → Nat → Nat} (qa : Option Addr) (ka : Nat) (w : World) (ht : Tab w) (hA : MatR w w.heap.size m n c qa ka A) (hc : c ≤ 32) (hs : smallB n c (n * c) = true) :
    Calls Tryd.prog 3 #[matV m n c qa (n * c) ka, .int .i64 (m : Int), .int .i64 (n : Int)] w fun e w' => e = .returned (.bool true) ∧ Below w.heap.size w w' := by
  have HT := Lib.hid ht
  have HW := Lib.hid (Below.refl w.heap.size w)
  have hp := ht.lt
  have hn := hA.hr
  have HSM := Lib.hid (fun W => small_any m n c qa (n * c) ka W)
  rw [hs] at HSM
  have hnn : n * n ≤ 32 * 32 := Nat.mul_le_mul hn hn
  have hnc : n * c ≤ 32 * 32 := Nat.mul_le_mul hn hc
  have HVL := Lib.hid (fun (W : World) (hb : Below w.heap.size w W) => rvalid_yes hA hc W hb hb.size)
  have HI := Lib.hid (fun W => ident_yes m n hA.hm hn W)
  have HJ := Lib.hid (fun W => rident_yes m n hA.hm hn W)
  have HSA := Lib.hid (fun (W : World) (g1 g2 : Nat) (hc1 : Cells W g1 (n * n) (Mat.flat n Mat.one)) (hc2 : Cells W g2 (n * n) (Mat.flat n Mat.one)) => same_true (m := m) (r := n) (c := n) (k1 := n * n) (k2 := n * n) (cellsL_length n n Mat.one) rfl (by omega) (cells_rd hc1) (cells_rd hc2))
  have HMU := Lib.hid (fun (W : World) (hb : Below w.heap.size w W) (ht2 : Tab W) (g : Nat) (hc1 : Cells W g (n * n) (Mat.flat n Mat.one)) => mul_yes (some ⟨g, 0, none⟩) (n * n) qa ka W ht2 (MatR.of_cells hc1 hc1.lt hA.hm hn (by omega) (Mat.one_ok hA.hm)) ((hA.below hb).more hb.size) hn hc)
  have HSP := Lib.hid (fun (W : World) (hb : Below w.heap.size w W) (g : Nat) (hc1 : Cells W g (n * c) (Mat.flat c (Mat.prod m n Mat.one A))) => same_true (m := m) (r := n) (c := c) (k1 := n * c) (k2 := ka) (cellsL_length n c _) (cellsL_inj.2 (Mat.one_prod hA.hm hA.ok)) (by omega) (cells_rd hc1) ((hA.rd.below hb).more hb.size))
  obtain ⟨Nn, hNn⟩ : ∃ N, n * n = N := ⟨_, rfl⟩
  obtain ⟨Na, hNa⟩ : ∃ N, n * c = N := ⟨_, rfl⟩
  rw [hNn] at HI HJ HSA HMU
  rw [hNa] at HSM HVL HMU HSP ⊢
  unfold matV at HSM HVL HSA HMU HSP ⊢
  clear ht hA hs hNn hNa hnn hnc
  go_enter Tryd.func3, Tryd.ntmps3
  go_wp2_with fail
  refine (HI.out _).mono ?_
  rintro e v137 ⟨gi, rfl, hgi, hci, hb⟩
  have hcb : Below w.heap.size w v137 := below_call ((Below.refl _ w).alloc (Nat.le_refl _) _) hb
  have HT := Lib.hid (HT.out.next hcb)
  have HW := Lib.hid (below_call HW.out hcb)
  have HBA := Lib.hid ((show Row (w.alloc (.cells (matC m n c qa Na ka) 24)) (w.heap.size) 24 (matC m n c qa Na ka) from Row.made _ _ (by simp)).below hb (by simp <;> omega))
  have HCI := Lib.hid hci
  clear hci
  clear hb hcb
  obtain ⟨c139a, c139b, c139c, c139d⟩ := mbox HBA.out
  have c139l := HBA.out.lt
  go_wp2_with fail
  clear c139a c139b c139c c139d c139l
  refine (HJ.out _).mono ?_
  rintro e v138 ⟨gj, rfl, hgj, hcj, hb⟩
  have hcb : Below v137.heap.size v137 v138 := below_call ((Below.refl _ v137).alloc (Nat.le_refl _) _) hb
  have HT := Lib.hid (HT.out.next hcb)
  have HW := Lib.hid (below_call HW.out hcb)
  have HBA := Lib.hid (HBA.out.below hcb HBA.out.lt)
  have HCI := Lib.hid (HCI.out.below hcb HCI.out.lt)
  have HBI := Lib.hid ((show Row (v137.alloc (.cells (matC m n n (some ⟨gi, 0, none⟩) Nn Nn) 24)) (v137.heap.size) 24 (matC m n n (some ⟨gi, 0, none⟩) Nn Nn) from Row.made _ _ (by simp)).below hb (by simp <;> omega))
  have HCJ := Lib.hid hcj
  clear hcj
  clear hb hcb
  obtain ⟨c141a, c141b, c141c, c141d⟩ := mbox HBA.out
  have c141l := HBA.out.lt
  obtain ⟨c142a, c142b, c142c, c142d⟩ := mbox HBI.out
  have c142l := HBI.out.lt
  go_wp2_with fail
  clear c141a c141b c141c c141d c141l c142a c142b c142c c142d c142l
  refine (HSM.out _).mono ?_
  rintro e v140 ⟨rfl, hb⟩
  have hcb : Below v138.heap.size v138 v140 := below_call ((Below.refl _ v138).alloc (Nat.le_refl _) _) hb
  have HT := Lib.hid (HT.out.next hcb)
  have HW := Lib.hid (below_call HW.out hcb)
  have HBA := Lib.hid (HBA.out.below hcb HBA.out.lt)
  have HCI := Lib.hid (HCI.out.below hcb HCI.out.lt)
  have HBI := Lib.hid (HBI.out.below hcb HBI.out.lt)
  have HCJ := Lib.hid (HCJ.out.below hcb HCJ.out.lt)
  have HBJ := Lib.hid ((show Row (v138.alloc (.cells (matC m n n (some ⟨gj, 0, none⟩) Nn Nn) 24)) (v138.heap.size) 24 (matC m n n (some ⟨gj, 0, none⟩) Nn Nn) from Row.made _ _ (by simp)).below hb (by simp <;> omega))
  clear hb hcb
  obtain ⟨c144a, c144b, c144c, c144d⟩ := mbox HBA.out
  obtain ⟨c145a, c145b, c145c, c145d⟩ := mbox HBI.out
  obtain ⟨c146a, c146b, c146c, c146d⟩ := mbox HBJ.out
  go_wp2_with fail
  clear c144a c144b c144c c144d c145a c145b c145c c145d c146a c146b c146c c146d
  refine (HVL.out _ HW.out).mono ?_
  rintro e v143 ⟨rfl, hb⟩
  have hcb : Below v140.heap.size v140 v143 := below_call (Below.refl _ v140) hb
  have HT := Lib.hid (HT.out.next hcb)
  have HW := Lib.hid (below_call HW.out hcb)
  have HBA := Lib.hid (HBA.out.below hcb HBA.out.lt)
  have HCI := Lib.hid (HCI.out.below hcb HCI.out.lt)
  have HBI := Lib.hid (HBI.out.below hcb HBI.out.lt)
  have HCJ := Lib.hid (HCJ.out.below hcb HCJ.out.lt)
  have HBJ := Lib.hid (HBJ.out.below hcb HBJ.out.lt)
  clear hb hcb
  obtain ⟨c148a, c148b, c148c, c148d⟩ := mbox HBA.out
  obtain ⟨c149a, c149b, c149c, c149d⟩ := mbox HBI.out
  obtain ⟨c150a, c150b, c150c, c150d⟩ := mbox HBJ.out
  go_wp2_with fail
  clear c148a c148b c148c c148d c149a c149b c149c c149d c150a c150b c150c c150d
  refine (HMU.out _ HW.out HT.out gi HCI.out).mono ?_
  rintro e v147 ⟨gp, rfl, hgp, hcp, hb⟩
  have hcb : Below v143.heap.size v143 v147 := below_call (Below.refl _ v143) hb
  have HT := Lib.hid (HT.out.next hcb)
  have HW := Lib.hid (below_call HW.out hcb)
  have HBA := Lib.hid (HBA.out.below hcb HBA.out.lt)
  have HCI := Lib.hid (HCI.out.below hcb HCI.out.lt)
  have HBI := Lib.hid (HBI.out.below hcb HBI.out.lt)
  have HCJ := Lib.hid (HCJ.out.below hcb HCJ.out.lt)
  have HBJ := Lib.hid (HBJ.out.below hcb HBJ.out.lt)
  have HCP := Lib.hid hcp
  clear hcp
  clear hb hcb
  obtain ⟨c152a, c152b, c152c, c152d⟩ := mbox HBA.out
  have c152l := HBA.out.lt
  obtain ⟨c153a, c153b, c153c, c153d⟩ := mbox HBI.out
  have c153l := HBI.out.lt
  obtain ⟨c154a, c154b, c154c, c154d⟩ := mbox HBJ.out
  have c154l := HBJ.out.lt
  go_wp2_with fail
  clear c152a c152b c152c c152d c152l c153a c153b c153c c153d c153l c154a c154b c154c c154d c154l
  refine (sanity6_any _ (HT.out.next ((Below.refl _ v147).alloc (Nat.le_refl _) _))).mono ?_
  rintro e v151 ⟨rfl, hb⟩
  have hcb : Below v147.heap.size v147 v151 := below_call ((Below.refl _ v147).alloc (Nat.le_refl _) _) hb
  have HT := Lib.hid (HT.out.next hcb)
  have HW := Lib.hid (below_call HW.out hcb)
  have HBA := Lib.hid (HBA.out.below hcb HBA.out.lt)
  have HCI := Lib.hid (HCI.out.below hcb HCI.out.lt)
  have HBI := Lib.hid (HBI.out.below hcb HBI.out.lt)
  have HCJ := Lib.hid (HCJ.out.below hcb HCJ.out.lt)
  have HBJ := Lib.hid (HBJ.out.below hcb HBJ.out.lt)
  have HCP := Lib.hid (HCP.out.below hcb HCP.out.lt)
  have HBP := Lib.hid ((show Row (v147.alloc (.cells (matC m n c (some ⟨gp, 0, none⟩) Na Na) 24)) (v147.heap.size) 24 (matC m n c (some ⟨gp, 0, none⟩) Na Na) from Row.made _ _ (by simp)).below hb (by simp <;> omega))
  clear hb hcb
  obtain ⟨c156a, c156b, c156c, c156d⟩ := mbox HBA.out
  obtain ⟨c157a, c157b, c157c, c157d⟩ := mbox HBI.out
  obtain ⟨c158a, c158b, c158c, c158d⟩ := mbox HBJ.out
  obtain ⟨c159a, c159b, c159c, c159d⟩ := mbox HBP.out
  go_wp2_with fail
  clear c156a c156b c156c c156d c157a c157b c157c c157d c158a c158b c158c c158d c159a c159b c159c c159d
  refine (HSA.out _ gi gj HCI.out HCJ.out).mono ?_
  rintro e v155 ⟨rfl, hb⟩
  have hcb : Below v151.heap.size v151 v155 := below_call (Below.refl _ v151) hb
  have HT := Lib.hid (HT.out.next hcb)
  have HW := Lib.hid (below_call HW.out hcb)
  have HBA := Lib.hid (HBA.out.below hcb HBA.out.lt)
  have HCI := Lib.hid (HCI.out.below hcb HCI.out.lt)
  have HBI := Lib.hid (HBI.out.below hcb HBI.out.lt)
  have HCJ := Lib.hid (HCJ.out.below hcb HCJ.out.lt)
  have HBJ := Lib.hid (HBJ.out.below hcb HBJ.out.lt)
  have HCP := Lib.hid (HCP.out.below hcb HCP.out.lt)
  have HBP := Lib.hid (HBP.out.below hcb HBP.out.lt)
  clear hb hcb
  obtain ⟨c161a, c161b, c161c, c161d⟩ := mbox HBA.out
  obtain ⟨c162a, c162b, c162c, c162d⟩ := mbox HBI.out
  obtain ⟨c163a, c163b, c163c, c163d⟩ := mbox HBJ.out
  obtain ⟨c164a, c164b, c164c, c164d⟩ := mbox HBP.out
  go_wp2_with fail
  clear c161a c161b c161c c161d c162a c162b c162c c162d c163a c163b c163c c163d c164a c164b c164c c164d
  refine (HSP.out _ HW.out gp HCP.out).mono ?_
  rintro e v160 ⟨rfl, hb⟩
  have hcb : Below v155.heap.size v155 v160 := below_call (Below.refl _ v155) hb
  have HT := Lib.hid (HT.out.next hcb)
  have HW := Lib.hid (below_call HW.out hcb)
  have HBA := Lib.hid (HBA.out.below hcb HBA.out.lt)
  have HCI := Lib.hid (HCI.out.below hcb HCI.out.lt)
  have HBI := Lib.hid (HBI.out.below hcb HBI.out.lt)
  have HCJ := Lib.hid (HCJ.out.below hcb HCJ.out.lt)
  have HBJ := Lib.hid (HBJ.out.below hcb HBJ.out.lt)
  have HCP := Lib.hid (HCP.out.below hcb HCP.out.lt)
  have HBP := Lib.hid (HBP.out.below hcb HBP.out.lt)
  clear hb hcb
  go_wp2
  go_ret
  exact ⟨rfl, HW.out⟩
theorem walk_MatrixIdentity (ma ra ca : Int) (qa : Option Addr) (na ka : Nat) (xs : List Int) (m n : Int) (w : World) {H1 H2 H3 H4 : Prop} (h1 : IntsIn w qa na ka xs) (_a : H1) (_b : H2) (_c : H3) (_d : H4) (ht : Tab w) :
    Calls Tryd.prog 3 #[matV ma ra ca qa na ka, .int .i64 m, .int .i64 n] w fun e w' => e = .returned (.bool true) ∧ Below w.heap.size w w' := by
  by_cases hid : okM m = false ∨ n < 0 ∨ 32 < n
  · cases hs : smallB ra ca na with
    | false => exact ident_no0 ma ra ca qa na ka xs m n w ht h1 hid hs
    | true =>
      cases hv : okMat ma ra ca xs with
      | false => exact ident_no1 ma ra ca qa na ka xs m n w ht h1 hid hs hv
      | true =>
        cases hd1 : (m != ma) with
        | true => exact ident_no2 ma ra ca qa na ka xs m n w ht h1 hid hs hv hd1
        | false =>
          cases hd2 : (n != ra) with
          | true => exact ident_no3 ma ra ca qa na ka xs m n w ht h1 hid hs hv hd1 hd2
          | false =>
            exfalso
            rw [bne_eq_false_iff_eq] at hd1 hd2
            subst hd1; subst hd2
            obtain ⟨m', r', c', A, rfl, rfl, rfl, hm, hr, hc, _, _⟩ := okMat_get hv
            rw [okM_iff.2 ⟨m', hm, rfl⟩] at hid
            rcases hid with h | h | h
            · cases h
            · omega
            · omega
  · have hid2 : okM m = true ∧ 0 ≤ n ∧ n ≤ 32 := by
      refine ⟨?_, ?_, ?_⟩
      · cases h : okM m with
        | true => rfl
        | false => exact absurd (.inl h) hid
      · by_cases h : n < 0
        · exact absurd (.inr (.inl h)) hid
        · omega
      · by_cases h : 32 < n
        · exact absurd (.inr (.inr h)) hid
        · omega
    obtain ⟨hm, hn0, hn⟩ := hid2
    obtain ⟨m', hm', rfl⟩ := okM_iff.1 hm
    obtain ⟨n', rfl⟩ : ∃ n' : Nat, n = n' := ⟨n.toNat, by omega⟩
    cases hs : smallB ra ca na with
    | false => exact ident_yes0 ma ra ca qa na ka xs m' n' w ht h1 hm' (by omega) hs
    | true =>
      cases hv : okMat ma ra ca xs with
      | false => exact ident_yes1 ma ra ca qa na ka xs m' n' w ht h1 hm' (by omega) hs hv
      | true =>
        cases hd1 : ((m' : Int) != ma) with
        | true => exact ident_yes2 ma ra ca qa na ka xs m' n' w ht h1 hm' (by omega) hs hv hd1
        | false =>
          cases hd2 : ((n' : Int) != ra) with
          | true => exact ident_yes3 ma ra ca qa na ka xs m' n' w ht h1 hm' (by omega) hs hv hd1 hd2
          | false =>
            rw [bne_eq_false_iff_eq] at hd1 hd2
            obtain ⟨m2, r2, c, A, e1, e2, rfl, rfl, hxs, hc, hA⟩ := matIn h1 hv
            obtain rfl : m' = m2 := by omega
            obtain rfl : n' = r2 := by omega
            subst e1; subst e2
            exact ident_main qa ka w ht hA hc hs

/-! ### the frame: the arguments opened and shut -/
theorem contract_MatrixIdentity (H : Type) (enc : TypeId × Value → H) (W : World) (base : Nat) (args : Array Value) (ds gs : List (DataW H)) (before : List MemPlace)
    (hval0 : ∀ (j : Nat) t v, Tryd.f3.params[j]? = some t → args[j]? = some v → Value.okWide Tryd.prog W .any base t v)
    (hW : DataW.Whole enc Tryd.prog Tryd.f3.params.toList Rows.matrixIdentitySpec.vars false W args.toList ds gs before) (hL : laidMetH Tryd.prog Rows.matrixIdentityRow.laid W) :
    Calls Tryd.prog 3 args W fun e W' => ∃ v, e = .returned v ∧ Rows.matrixIdentitySpec.post enc Tryd.prog Tryd.f3 false true false false W args v W' := by
  have hval : ∀ (j : Nat) t v, Tryd.f3.params[j]? = some t → args[j]? = some v → Value.okWide Tryd.prog W .any base t v := hval0
  have hW' := hW
  obtain ⟨p, q, hA0, hV, rfl, hfz, hnd⟩ := hW
  have hA : DataW.TrodAll enc Tryd.prog W 0 (fun _ => true) true Tryd.f3.params.toList args.toList ds p := hA0
  rw [Tryd.params3] at hA hval
  obtain ⟨v0, vs0, d0, ds0, p0, q0, hargs, rfl, rfl, h0, r0⟩ := trodAll_cons hA
  obtain ⟨v1, vs1, d1, ds1, p1, q1, rfl, rfl, rfl, h1, r1⟩ := trodAll_cons r0
  obtain ⟨v2, vs2, d2, ds2, p2, q2, rfl, rfl, rfl, h2, r2⟩ := trodAll_cons r1
  obtain ⟨rfl, rfl, rfl⟩ := trodAll_nil r2
  obtain rfl : args = #[v0, v1, v2] := by cases args; simp_all
  obtain ⟨rfl, rfl⟩ := trodVars_none hV
  have k0 := h0
  have lt0 : ∀ x ∈ p0, x.block < W.heap.size := by obtain ⟨m, hm⟩ := k0; exact DataW.trod_lt m _ _ _ hm
  have k1 := h1
  have lt1 : ∀ x ∈ p1, x.block < W.heap.size := by obtain ⟨m, hm⟩ := k1; exact DataW.trod_lt m _ _ _ hm
  have k2 := h2
  have lt2 : ∀ x ∈ p2, x.block < W.heap.size := by obtain ⟨m, hm⟩ := k2; exact DataW.trod_lt m _ _ _ hm
  obtain ⟨cs0, rfl, _⟩ := okWide_struct Tryd.underlying24 (hval 0 24 v0 rfl rfl)
  obtain ⟨fuel0, hf0⟩ := h0
  obtain ⟨mm0, mr0, mc0, ma0, mn0, mk0, mx0, hcs0, hin0⟩ := open_matrix hf0
  obtain rfl : cs0 = #[.int .i64 mm0, .int .i64 mr0, .int .i64 mc0, .slice ma0 mn0 mk0] := by apply Array.toList_inj.1; simpa [Value.cells] using hcs0
  obtain ⟨n1, rfl, rfl, rfl, w1⟩ := open_int Tryd.underlying3 (hval 1 3 v1 rfl rfl) h1
  obtain ⟨n2, rfl, rfl, rfl, w2⟩ := open_int Tryd.underlying3 (hval 2 3 v2 rfl rfl) h2
  refine (walk_MatrixIdentity mm0 mr0 mc0 ma0 mn0 mk0 mx0 n1 n2 W hin0 (wf_i64 w1).1 (wf_i64 w1).2 (wf_i64 w2).1 (wf_i64 w2).2 (tab_of hL)).mono fun e W' ⟨he, bel⟩ => ?_
  subst he
  exact ⟨_, rfl, _, _, _, [], _, [], hW', trodAll_mk1 (shut_bool Tryd.underlying4 _), (trodAll_cons_mk (Below.trod laidOut (by kernel_rfl) (of_decide_eq_true (by kernel_rfl)) k0 bel lt0) (trodAll_cons_mk (Below.trod laidOut (by kernel_rfl) (of_decide_eq_true (by kernel_rfl)) k1 bel lt1) (trodAll_cons_mk (Below.trod laidOut (by kernel_rfl) (of_decide_eq_true (by kernel_rfl)) k2 bel lt2) trodAll_mk0))), rfl, bel.frame _, fun h => by cases h⟩
theorem laid_MatrixIdentity (os : Os) : laidMet Tryd.prog Rows.matrixIdentityRow.laid ((laidWorld os).forCall (fun _ _ => 0) ⟨#[], #[.agg #[.int .i64 0, .int .i64 0, .int .i64 0, .slice none 0 0], .int .i64 0, .int .i64 0], []⟩).memory :=
  laidMet_of_run' 8 (by kernel_rfl) (by kernel_rfl)
theorem reads_MatrixIdentity (os : Os) {H : Type} (enc : TypeId × Value → H) : ∃ places, DataW.whole enc Tryd.prog ((laidWorld os).forCall (fun _ _ => 0) ⟨#[], #[.agg #[.int .i64 0, .int .i64 0, .int .i64 0, .slice none 0 0], .int .i64 0, .int .i64 0], []⟩).memory Tryd.f3.params.toList Rows.matrixIdentitySpec.vars false (#[.agg #[.int .i64 0, .int .i64 0, .int .i64 0, .slice none 0 0], .int .i64 0, .int .i64 0] : Array Value).toList 8 = some ([.agg [.lit (.int .i64 0), .lit (.int .i64 0), .lit (.int .i64 0), .nil], .lit (.int .i64 0), .lit (.int .i64 0)], [], places) :=
  ⟨[], by kernel_rfl⟩
set_option maxRecDepth 100000 in
theorem lifted_MatrixIdentity (os : Os) (started : os.Started) (H : Type) (enc : TypeId × Value → H) (F : Stop.Interp) :
    ReturnsInHanded {} Tryd.checked os 3 .any ((OpenSpec.ofChange Rows.matrixIdentitySpec).preRow enc Tryd.prog Tryd.f3 Rows.matrixIdentityRow.domain false Rows.matrixIdentityRow.laid) (((OpenSpec.ofChange Rows.matrixIdentitySpec).at F).post enc Tryd.prog Tryd.f3 false true false false) := by
  obtain ⟨places, hx⟩ := reads_MatrixIdentity os enc
  refine returnsInHanded_of_row (C := Tryd.checked) (s := OpenSpec.ofChange Rows.matrixIdentitySpec) own started (by kernel_rfl) Tryd.func3
    (witness_row_at (enc := enc) (C := Tryd.checked) false (laidWorld os) #[.agg #[.int .i64 0, .int .i64 0, .int .i64 0, .slice none 0 0], .int .i64 0, .int .i64 0] rfl (by kernel_rfl) (by kernel_rfl) (by kernel_rfl)
      (OpenSpec.preRow_of_cond 8 hx (by kernel_rfl) (fun k hk => by cases hk) (by kernel_rfl) (laid_MatrixIdentity os))) ?_
  intro W base args ds gs before hval hW _ hcond _ hL _ _
  exact contract_MatrixIdentity H enc W base args ds gs before hval hW hL

theorem said_MatrixIdentity : Rows.MatrixIdentitySaid :=
  OpenClaim.holds_of_cond 3 Tryd.f3 rfl rfl rfl rfl rfl rfl rfl ⟨rfl, rfl, rfl, rfl, rfl⟩ rfl rfl rfl rfl rfl (by kernel_rfl) Tryd.func3 (by kernel_rfl)
    (of_decide_eq_true (by kernel_rfl)) (by unfold Func.isWrapper; first | (rw [if_pos (by decide +kernel)]; kernel_rfl) | (rw [if_neg (by decide +kernel)]; exact ⟨rfl, rfl⟩))
    (fun os started H enc _ F => by rw [OpenClaim.pre_eq_preRow]; exact lifted_MatrixIdentity os started H enc F)
theorem plain_MatrixIdentity (f : FuncId) (fn : Func) (hf : Tryd.pinned.checked.prog.funcNamed "solvent/solventlaw06.MatrixIdentity" = some f) (hfn : Tryd.pinned.checked.prog.funcs[f]? = some fn) :
    false = Tryd.pinned.checked.prog.looks [] ∧ ∀ (j : Nat) t, fn.params[j]? = some t → Tryd.pinned.checked.prog.wantsStandIn t = false := by
  obtain rfl : f = 3 := Option.some.inj ((show Tryd.prog.funcNamed "solvent/solventlaw06.MatrixIdentity" = some 3 by kernel_rfl).symm.trans hf) |>.symm
  obtain rfl : fn = Tryd.f3 := (Option.some.inj (Tryd.func3.symm.trans hfn)).symm
  refine ⟨by kernel_rfl, fun j t ht => ?_⟩
  rw [Tryd.params3] at ht
  have hm := Array.mem_of_getElem? ht
  simp only [List.mem_toArray, List.mem_cons, List.not_mem_nil, or_false, or_self] at hm
  rcases hm with rfl | rfl | rfl
  all_goals first | exact (show Tryd.prog.wantsStandIn 24 = false by kernel_rfl) | exact (show Tryd.prog.wantsStandIn 3 = false by kernel_rfl)
theorem proved_MatrixIdentity : Rows.MatrixIdentityCardSaid :=
  Claim7.holds_tied_plain_at .later [] _ _ _ _ said_MatrixIdentity (fun _ h => by cases h) (by kernel_rfl) (fun _ h => by cases h) matrixIdentity_row_tie rfl ⟨rfl, rfl⟩ (by kernel_rfl) rfl plain_MatrixIdentity (by kernel_rfl)

end Go.Proofs.YtaijjhddgecieaaDoor
