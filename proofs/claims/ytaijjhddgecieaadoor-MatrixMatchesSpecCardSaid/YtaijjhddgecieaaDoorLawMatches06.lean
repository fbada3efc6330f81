/- This text proves of solventlaw06.MatrixMatchesSpec: for every two matrices, every list of row numbers and every position the statement returns true: validity, an element, the product, the transposed matrix, the picked rows, the rank, the independent rows and the inverse are those of the specification; the arguments read as they did. (Printed by mkmatches06.py.) -/
import Derived.Test.YtaijjhddgecieaaDoorM36
import Derived.Test.YtaijjhddgecieaaDoorOpenM
import Derived.Test.YtaijjhddgecieaaDoorFldT
import Derived.Deep.RegionHeld3
namespace Go.Proofs.YtaijjhddgecieaaDoor
set_option linter.unusedSimpArgs false
set_option linter.unusedVariables false
open Go.ChangeShapes Go.WideShapes Go.ChangeAt Go.RowKit Go.Lib

set_option maxRecDepth 100000 in
set_option maxHeartbeats 6400000 in
theorem matches_0 (ma ra ca : Int) (qa : Option Addr) (na ka : Nat) (mb rb cb : Int) (qb : Option Addr) (nb kb : Nat) (qr : Option Addr) (L kr : Nat) (i j : Int) (w : World) (ht : Tab w) (hs1 : smallB ra ca na = false) :
    Calls Tryd.prog 7 #[matV ma ra ca qa na ka, matV mb rb cb qb nb kb, .slice qr L kr, .int .i64 i, .int .i64 j] w fun e w' => e = .returned (.bool true) ∧ Below w.heap.size w w' := by
  have HT := Lib.hid ht
  have HW := Lib.hid (Below.refl w.heap.size w)
  have hp := ht.lt
  have HSM1 := Lib.hid (fun W => small_any ma ra ca qa na ka W)
  rw [hs1] at HSM1
  unfold matV at HSM1 ⊢
  clear ht hs1
  go_enter Tryd.func7, Tryd.ntmps7
  go_wp2_with fail
  refine (HSM1.out _).mono ?_
  rintro e v1 ⟨rfl, hb⟩
  have hcb : Below w.heap.size w v1 := below_call (((Below.refl _ w).alloc (Nat.le_refl _) _).alloc (by simp) _) hb
  have HT := Lib.hid (HT.out.next hcb)
  have HW := Lib.hid (below_call HW.out hcb)
  have HBA := Lib.hid (((show Row (w.alloc (.cells (matC ma ra ca qa na ka) 24)) (w.heap.size) 24 (matC ma ra ca qa na ka) from Row.made _ _ (by simp)).alloc _).below hb (by simp <;> omega))
  have HBB := Lib.hid ((show Row ((w.alloc (.cells (matC ma ra ca qa na ka) 24)).alloc (.cells (matC mb rb cb qb nb kb) 24)) (w.heap.size + 1) 24 (matC mb rb cb qb nb kb) from Row.made _ _ (by simp)).below hb (by simp <;> omega))
  clear hb hcb
  obtain ⟨c3a, c3b, c3c, c3d⟩ := mbox HBA.out
  obtain ⟨c4a, c4b, c4c, c4d⟩ := mbox HBB.out
  go_wp2_with fail
  clear c3a c3b c3c c3d c4a c4b c4c c4d
  refine (sanity6_any _ HT.out).mono ?_
  rintro e v2 ⟨rfl, hb⟩
  have hcb : Below v1.heap.size v1 v2 := below_call (Below.refl _ v1) hb
  have HT := Lib.hid (HT.out.next hcb)
  have HW := Lib.hid (below_call HW.out hcb)
  have HBA := Lib.hid (HBA.out.below hcb HBA.out.lt)
  have HBB := Lib.hid (HBB.out.below hcb HBB.out.lt)
  clear hb hcb
  go_wp2
  go_ret
  exact ⟨rfl, HW.out⟩
set_option maxRecDepth 100000 in
set_option maxHeartbeats 6400000 in
theorem matches_1 (ma ra ca : Int) (qa : Option Addr) (na ka : Nat) (mb rb cb : Int) (qb : Option Addr) (nb kb : Nat) (qr : Option Addr) (L kr : Nat) (i j : Int) (w : World) (ht : Tab w) (hs1 : smallB ra ca na = true) (hs2 : smallB rb cb nb = false) :
    Calls Tryd.prog 7 #[matV ma ra ca qa na ka, matV mb rb cb qb nb kb, .slice qr L kr, .int .i64 i, .int .i64 j] w fun e w' => e = .returned (.bool true) ∧ Below w.heap.size w w' := by
  have HT := Lib.hid ht
  have HW := Lib.hid (Below.refl w.heap.size w)
  have hp := ht.lt
  have HSM1 := Lib.hid (fun W => small_any ma ra ca qa na ka W)
  rw [hs1] at HSM1
  have HSM2 := Lib.hid (fun W => small_any mb rb cb qb nb kb W)
  rw [hs2] at HSM2
  unfold matV at HSM1 HSM2 ⊢
  clear ht hs1 hs2
  go_enter Tryd.func7, Tryd.ntmps7
  go_wp2_with fail
  refine (HSM1.out _).mono ?_
  rintro e v5 ⟨rfl, hb⟩
  have hcb : Below w.heap.size w v5 := below_call (((Below.refl _ w).alloc (Nat.le_refl _) _).alloc (by simp) _) hb
  have HT := Lib.hid (HT.out.next hcb)
  have HW := Lib.hid (below_call HW.out hcb)
  have HBA := Lib.hid (((show Row (w.alloc (.cells (matC ma ra ca qa na ka) 24)) (w.heap.size) 24 (matC ma ra ca qa na ka) from Row.made _ _ (by simp)).alloc _).below hb (by simp <;> omega))
  have HBB := Lib.hid ((show Row ((w.alloc (.cells (matC ma ra ca qa na ka) 24)).alloc (.cells (matC mb rb cb qb nb kb) 24)) (w.heap.size + 1) 24 (matC mb rb cb qb nb kb) from Row.made _ _ (by simp)).below hb (by simp <;> omega))
  clear hb hcb
  obtain ⟨c7a, c7b, c7c, c7d⟩ := mbox HBA.out
  obtain ⟨c8a, c8b, c8c, c8d⟩ := mbox HBB.out
  go_wp2_with fail
  clear c7a c7b c7c c7d c8a c8b c8c c8d
  refine (HSM2.out _).mono ?_
  rintro e v6 ⟨rfl, hb⟩
  have hcb : Below v5.heap.size v5 v6 := below_call (Below.refl _ v5) hb
  have HT := Lib.hid (HT.out.next hcb)
  have HW := Lib.hid (below_call HW.out hcb)
  have HBA := Lib.hid (HBA.out.below hcb HBA.out.lt)
  have HBB := Lib.hid (HBB.out.below hcb HBB.out.lt)
  clear hb hcb
  obtain ⟨c10a, c10b, c10c, c10d⟩ := mbox HBA.out
  obtain ⟨c11a, c11b, c11c, c11d⟩ := mbox HBB.out
  go_wp2_with fail
  clear c10a c10b c10c c10d c11a c11b c11c c11d
  refine (sanity6_any _ HT.out).mono ?_
  rintro e v9 ⟨rfl, hb⟩
  have hcb : Below v6.heap.size v6 v9 := below_call (Below.refl _ v6) hb
  have HT := Lib.hid (HT.out.next hcb)
  have HW := Lib.hid (below_call HW.out hcb)
  have HBA := Lib.hid (HBA.out.below hcb HBA.out.lt)
  have HBB := Lib.hid (HBB.out.below hcb HBB.out.lt)
  clear hb hcb
  go_wp2
  go_ret
  exact ⟨rfl, HW.out⟩
set_option maxRecDepth 100000 in
set_option maxHeartbeats 6400000 in
theorem matches_2 (ma ra ca : Int) (qa : Option Addr) (na ka : Nat) (mb rb cb : Int) (qb : Option Addr) (nb kb : Nat) (qr : Option Addr) (L kr : Nat) (i j : Int) (w : World) (ht : Tab w) (hs1 : smallB ra ca na = true) (hs2 : smallB rb cb nb = true) (hL : 40 < L) :
    Calls Tryd.prog 7 #[matV ma ra ca qa na ka, matV mb rb cb qb nb kb, .slice qr L kr, .int .i64 i, .int .i64 j] w fun e w' => e = .returned (.bool true) ∧ Below w.heap.size w w' := by
  have HT := Lib.hid ht
  have HW := Lib.hid (Below.refl w.heap.size w)
  have hp := ht.lt
  have HSM1 := Lib.hid (fun W => small_any ma ra ca qa na ka W)
  rw [hs1] at HSM1
  have HSM2 := Lib.hid (fun W => small_any mb rb cb qb nb kb W)
  rw [hs2] at HSM2
  have hdL : decide (40 < (L : Int)) = true := decide_eq_true (by omega)
  unfold matV at HSM1 HSM2 ⊢
  clear ht hs1 hs2 hL
  go_enter Tryd.func7, Tryd.ntmps7
  go_wp2_with fail
  refine (HSM1.out _).mono ?_
  rintro e v12 ⟨rfl, hb⟩
  have hcb : Below w.heap.size w v12 := below_call (((Below.refl _ w).alloc (Nat.le_refl _) _).alloc (by simp) _) hb
  have HT := Lib.hid (HT.out.next hcb)
  have HW := Lib.hid (below_call HW.out hcb)
  have HBA := Lib.hid (((show Row (w.alloc (.cells (matC ma ra ca qa na ka) 24)) (w.heap.size) 24 (matC ma ra ca qa na ka) from Row.made _ _ (by simp)).alloc _).below hb (by simp <;> omega))
  have HBB := Lib.hid ((show Row ((w.alloc (.cells (matC ma ra ca qa na ka) 24)).alloc (.cells (matC mb rb cb qb nb kb) 24)) (w.heap.size + 1) 24 (matC mb rb cb qb nb kb) from Row.made _ _ (by simp)).below hb (by simp <;> omega))
  clear hb hcb
  obtain ⟨c14a, c14b, c14c, c14d⟩ := mbox HBA.out
  obtain ⟨c15a, c15b, c15c, c15d⟩ := mbox HBB.out
  go_wp2_with fail
  clear c14a c14b c14c c14d c15a c15b c15c c15d
  refine (HSM2.out _).mono ?_
  rintro e v13 ⟨rfl, hb⟩
  have hcb : Below v12.heap.size v12 v13 := below_call (Below.refl _ v12) hb
  have HT := Lib.hid (HT.out.next hcb)
  have HW := Lib.hid (below_call HW.out hcb)
  have HBA := Lib.hid (HBA.out.below hcb HBA.out.lt)
  have HBB := Lib.hid (HBB.out.below hcb HBB.out.lt)
  clear hb hcb
  obtain ⟨c17a, c17b, c17c, c17d⟩ := mbox HBA.out
  obtain ⟨c18a, c18b, c18c, c18d⟩ := mbox HBB.out
  go_wp2_with fail
  clear c17a c17b c17c c17d c18a c18b c18c c18d
  refine (sanity6_any _ HT.out).mono ?_
  rintro e v16 ⟨rfl, hb⟩
  have hcb : Below v13.heap.size v13 v16 := below_call (Below.refl _ v13) hb
  have HT := Lib.hid (HT.out.next hcb)
  have HW := Lib.hid (below_call HW.out hcb)
  have HBA := Lib.hid (HBA.out.below hcb HBA.out.lt)
  have HBB := Lib.hid (HBB.out.below hcb HBB.out.lt)
  clear hb hcb
  go_wp2
  go_ret
  exact ⟨rfl, HW.out⟩
set_option maxRecDepth 100000 in
set_option maxHeartbeats 25600000 in
theorem matches_3 (ma ra ca : Int) (qa : Option Addr) (na ka : Nat) (mb rb cb : Int) (qb : Option Addr) (nb kb : Nat) (qr : Option Addr) (L kr : Nat) (i j : Int) (w : World) (ht : Tab w) (xs : List Int) (h1 : IntsIn w qa na ka xs) (hs1 : smallB ra ca na = true) (hs2 : smallB rb cb nb = true) (hL : L ≤ 40)
    (t1 : Twin 16 23 #[matV ma ra ca qa na ka, matV mb rb cb qb nb kb] w) (t2 : Twin 19 24 #[matV ma ra ca qa na ka] w) (t3 : Twin 25 26 #[matV ma ra ca qa na ka, .slice qr L kr] w) (t4 : Twin 22 27 #[matV ma ra ca qa na ka] w) :
    Calls Tryd.prog 7 #[matV ma ra ca qa na ka, matV mb rb cb qb nb kb, .slice qr L kr, .int .i64 i, .int .i64 j] w fun e w' => e = .returned (.bool true) ∧ Below w.heap.size w w' := by
  have HT := Lib.hid ht
  have HW := Lib.hid (Below.refl w.heap.size w)
  have hp := ht.lt
  have HSM1 := Lib.hid (fun W => small_any ma ra ca qa na ka W)
  have HSM2 := Lib.hid (fun W => small_any mb rb cb qb nb kb W)
  rw [hs1] at HSM1
  rw [hs2] at HSM2
  have hdL : decide (40 < (L : Int)) = false := decide_eq_false (by omega)
  obtain ⟨m1, r1, c1, n1, zs1, er1, hl1, hle1, hp1, hr1⟩ := t1
  have HP1 := Lib.hid hp1
  have HR1 := Lib.hid hr1
  have HS1 := Lib.hid (fun (W : World) (q q' : Option Addr) (k k' : Nat) (a : Rd W W.heap.size q (ints zs1)) (b : Rd W W.heap.size q' (ints zs1)) => same_true (m := m1) (r := r1) (c := c1) (k1 := k) (k2 := k') hl1 rfl hle1 a b)
  obtain ⟨m2, r2, c2, n2, zs2, er2, hl2, hle2, hp2, hr2⟩ := t2
  have HP2 := Lib.hid hp2
  have HR2 := Lib.hid hr2
  have HS2 := Lib.hid (fun (W : World) (q q' : Option Addr) (k k' : Nat) (a : Rd W W.heap.size q (ints zs2)) (b : Rd W W.heap.size q' (ints zs2)) => same_true (m := m2) (r := r2) (c := c2) (k1 := k) (k2 := k') hl2 rfl hle2 a b)
  obtain ⟨m3, r3, c3, n3, zs3, er3, hl3, hle3, hp3, hr3⟩ := t3
  have HP3 := Lib.hid hp3
  have HR3 := Lib.hid hr3
  have HS3 := Lib.hid (fun (W : World) (q q' : Option Addr) (k k' : Nat) (a : Rd W W.heap.size q (ints zs3)) (b : Rd W W.heap.size q' (ints zs3)) => same_true (m := m3) (r := r3) (c := c3) (k1 := k) (k2 := k') hl3 rfl hle3 a b)
  obtain ⟨m4, r4, c4, n4, zs4, er4, hl4, hle4, hp4, hr4⟩ := t4
  have HP4 := Lib.hid hp4
  have HR4 := Lib.hid hr4
  have HS4 := Lib.hid (fun (W : World) (q q' : Option Addr) (k k' : Nat) (a : Rd W W.heap.size q (ints zs4)) (b : Rd W W.heap.size q' (ints zs4)) => same_true (m := m4) (r := r4) (c := c4) (k1 := k) (k2 := k') hl4 rfl hle4 a b)
  have HVP := Lib.hid (fun (W : World) (hb : Below w.heap.size w W) => mvalid_any ma ra ca qa na ka xs W h1.1 h1.le ((h1.2.2.2.2.below hb).more hb.size))
  have HVR := Lib.hid (fun (W : World) (hb : Below w.heap.size w W) => rvalid6_any ma ra ca qa na ka xs W h1.1 h1.le ((h1.2.2.2.2.below hb).more hb.size))
  generalize okMat ma ra ca xs = vb at HVP HVR
  obtain ⟨za, hap, har⟩ := at_twin (ma := ma) (ra := ra) (ca := ca) i j h1
  obtain ⟨zk, hkp, hkr⟩ := rank_twin (ma := ma) (ra := ra) (ca := ca) h1 ht
  obtain ⟨ni, zi, hil, hin, hip, hir⟩ := indep_twin (ma := ma) (ra := ra) (ca := ca) h1 ht
  have HAP := Lib.hid hap
  have HAR := Lib.hid har
  have HKP := Lib.hid hkp
  have HKR := Lib.hid hkr
  have HIP := Lib.hid hip
  have HIR := Lib.hid hir
  have HLI := Lib.hid (fun (W : World) (q q' : Option Addr) (k k' : Nat) (a : Rd W W.heap.size q (ints zi)) (b : Rd W W.heap.size q' (ints zi)) => show Calls Tryd.prog 32 #[.slice q ni k, .slice q' ni k'] W fun e w' => e = .returned (.bool true) ∧ Below W.heap.size W w' from by
    have := lints_any q q' ni k ni k' zi zi W hil hil (by omega) a b
    simpa using this)
  unfold matV at HSM1 HSM2 HP1 HR1 HS1 HP2 HR2 HS2 HP3 HR3 HS3 HP4 HR4 HS4 HVP HVR HAP HAR HKP HKR HIP HIR ⊢
  clear ht h1 hs1 hs2 hL hl1 hle1 hp1 hr1 hl2 hle2 hp2 hr2 hl3 hle3 hp3 hr3 hl4 hle4 hp4 hr4 hap har hkp hkr hil hin hip hir
  go_enter Tryd.func7, Tryd.ntmps7
  go_wp2_with fail
  refine (HSM1.out _).mono ?_
  rintro e v19 ⟨rfl, hb⟩
  have hcb : Below w.heap.size w v19 := below_call (((Below.refl _ w).alloc (Nat.le_refl _) _).alloc (by simp) _) hb
  have HT := Lib.hid (HT.out.next hcb)
  have HW := Lib.hid (below_call HW.out hcb)
  have HBA := Lib.hid (((show Row (w.alloc (.cells (matC ma ra ca qa na ka) 24)) (w.heap.size) 24 (matC ma ra ca qa na ka) from Row.made _ _ (by simp)).alloc _).below hb (by simp <;> omega))
  have HBB := Lib.hid ((show Row ((w.alloc (.cells (matC ma ra ca qa na ka) 24)).alloc (.cells (matC mb rb cb qb nb kb) 24)) (w.heap.size + 1) 24 (matC mb rb cb qb nb kb) from Row.made _ _ (by simp)).below hb (by simp <;> omega))
  clear hb hcb
  obtain ⟨c21a, c21b, c21c, c21d⟩ := mbox HBA.out
  obtain ⟨c22a, c22b, c22c, c22d⟩ := mbox HBB.out
  go_wp2_with fail
  clear c21a c21b c21c c21d c22a c22b c22c c22d
  refine (HSM2.out _).mono ?_
  rintro e v20 ⟨rfl, hb⟩
  have hcb : Below v19.heap.size v19 v20 := below_call (Below.refl _ v19) hb
  have HT := Lib.hid (HT.out.next hcb)
  have HW := Lib.hid (below_call HW.out hcb)
  have HBA := Lib.hid (HBA.out.below hcb HBA.out.lt)
  have HBB := Lib.hid (HBB.out.below hcb HBB.out.lt)
  clear hb hcb
  obtain ⟨c24a, c24b, c24c, c24d⟩ := mbox HBA.out
  obtain ⟨c25a, c25b, c25c, c25d⟩ := mbox HBB.out
  go_wp2_with fail
  clear c24a c24b c24c c24d c25a c25b c25c c25d
  refine (HP1.out _ HW.out).mono ?_
  rintro e v23 ⟨qp1, kp1, rfl, hrp1, hb⟩
  have hcb : Below v20.heap.size v20 v23 := below_call (Below.refl _ v20) hb
  have HT := Lib.hid (HT.out.next hcb)
  have HW := Lib.hid (below_call HW.out hcb)
  have HBA := Lib.hid (HBA.out.below hcb HBA.out.lt)
  have HBB := Lib.hid (HBB.out.below hcb HBB.out.lt)
  have HRp1 := Lib.hid hrp1
  clear hrp1
  clear hb hcb
  obtain ⟨c27a, c27b, c27c, c27d⟩ := mbox HBA.out
  have c27l := HBA.out.lt
  obtain ⟨c28a, c28b, c28c, c28d⟩ := mbox HBB.out
  have c28l := HBB.out.lt
  go_wp2_with fail
  clear c27a c27b c27c c27d c27l c28a c28b c28c c28d c28l
  refine (HR1.out _ (HW.out.alloc (by first | exact HW.out.size | (have h9 := HW.out.size; simp <;> omega)) _)).mono ?_
  rintro e v26 ⟨qr1, kr1, rfl, hrr1, hb⟩
  have hcb : Below v23.heap.size v23 v26 := below_call ((Below.refl _ v23).alloc (Nat.le_refl _) _) hb
  have HT := Lib.hid (HT.out.next hcb)
  have HW := Lib.hid (below_call HW.out hcb)
  have HBA := Lib.hid (HBA.out.below hcb HBA.out.lt)
  have HBB := Lib.hid (HBB.out.below hcb HBB.out.lt)
  have HRp1 := Lib.hid ((HRp1.out.below hcb).more hcb.size)
  have HBp1 := Lib.hid ((show Row (v23.alloc (.cells (matC m1 r1 c1 qp1 n1 kp1) 24)) (v23.heap.size) 24 (matC m1 r1 c1 qp1 n1 kp1) from Row.made _ _ (by simp)).below hb (by simp <;> omega))
  have HRr1 := Lib.hid hrr1
  clear hrr1
  clear hb hcb
  obtain ⟨c30a, c30b, c30c, c30d⟩ := mbox HBA.out
  have c30l := HBA.out.lt
  obtain ⟨c31a, c31b, c31c, c31d⟩ := mbox HBB.out
  have c31l := HBB.out.lt
  obtain ⟨c32a, c32b, c32c, c32d⟩ := mbox HBp1.out
  have c32l := HBp1.out.lt
  go_wp2_with fail
  clear c30a c30b c30c c30d c30l c31a c31b c31c c31d c31l c32a c32b c32c c32d c32l
  refine (HP2.out _ (HW.out.alloc (by first | exact HW.out.size | (have h9 := HW.out.size; simp <;> omega)) _)).mono ?_
  rintro e v29 ⟨qp2, kp2, rfl, hrp2, hb⟩
  have hcb : Below v26.heap.size v26 v29 := below_call ((Below.refl _ v26).alloc (Nat.le_refl _) _) hb
  have HT := Lib.hid (HT.out.next hcb)
  have HW := Lib.hid (below_call HW.out hcb)
  have HBA := Lib.hid (HBA.out.below hcb HBA.out.lt)
  have HBB := Lib.hid (HBB.out.below hcb HBB.out.lt)
  have HRp1 := Lib.hid ((HRp1.out.below hcb).more hcb.size)
  have HBp1 := Lib.hid (HBp1.out.below hcb HBp1.out.lt)
  have HRr1 := Lib.hid ((HRr1.out.below hcb).more hcb.size)
  have HBr1 := Lib.hid ((show Row (v26.alloc (.cells (matC m1 r1 c1 qr1 n1 kr1) 24)) (v26.heap.size) 24 (matC m1 r1 c1 qr1 n1 kr1) from Row.made _ _ (by simp)).below hb (by simp <;> omega))
  have HRp2 := Lib.hid hrp2
  clear hrp2
  clear hb hcb
  obtain ⟨c34a, c34b, c34c, c34d⟩ := mbox HBA.out
  have c34l := HBA.out.lt
  obtain ⟨c35a, c35b, c35c, c35d⟩ := mbox HBB.out
  have c35l := HBB.out.lt
  obtain ⟨c36a, c36b, c36c, c36d⟩ := mbox HBp1.out
  have c36l := HBp1.out.lt
  obtain ⟨c37a, c37b, c37c, c37d⟩ := mbox HBr1.out
  have c37l := HBr1.out.lt
  go_wp2_with fail
  clear c34a c34b c34c c34d c34l c35a c35b c35c c35d c35l c36a c36b c36c c36d c36l c37a c37b c37c c37d c37l
  refine (HR2.out _ (HW.out.alloc (by first | exact HW.out.size | (have h9 := HW.out.size; simp <;> omega)) _)).mono ?_
  rintro e v33 ⟨qr2, kr2, rfl, hrr2, hb⟩
  have hcb : Below v29.heap.size v29 v33 := below_call ((Below.refl _ v29).alloc (Nat.le_refl _) _) hb
  have HT := Lib.hid (HT.out.next hcb)
  have HW := Lib.hid (below_call HW.out hcb)
  have HBA := Lib.hid (HBA.out.below hcb HBA.out.lt)
  have HBB := Lib.hid (HBB.out.below hcb HBB.out.lt)
  have HRp1 := Lib.hid ((HRp1.out.below hcb).more hcb.size)
  have HBp1 := Lib.hid (HBp1.out.below hcb HBp1.out.lt)
  have HRr1 := Lib.hid ((HRr1.out.below hcb).more hcb.size)
  have HBr1 := Lib.hid (HBr1.out.below hcb HBr1.out.lt)
  have HRp2 := Lib.hid ((HRp2.out.below hcb).more hcb.size)
  have HBp2 := Lib.hid ((show Row (v29.alloc (.cells (matC m2 r2 c2 qp2 n2 kp2) 24)) (v29.heap.size) 24 (matC m2 r2 c2 qp2 n2 kp2) from Row.made _ _ (by simp)).below hb (by simp <;> omega))
  have HRr2 := Lib.hid hrr2
  clear hrr2
  clear hb hcb
  obtain ⟨c39a, c39b, c39c, c39d⟩ := mbox HBA.out
  have c39l := HBA.out.lt
  obtain ⟨c40a, c40b, c40c, c40d⟩ := mbox HBB.out
  have c40l := HBB.out.lt
  obtain ⟨c41a, c41b, c41c, c41d⟩ := mbox HBp1.out
  have c41l := HBp1.out.lt
  obtain ⟨c42a, c42b, c42c, c42d⟩ := mbox HBr1.out
  have c42l := HBr1.out.lt
  obtain ⟨c43a, c43b, c43c, c43d⟩ := mbox HBp2.out
  have c43l := HBp2.out.lt
  go_wp2_with fail
  clear c39a c39b c39c c39d c39l c40a c40b c40c c40d c40l c41a c41b c41c c41d c41l c42a c42b c42c c42d c42l c43a c43b c43c c43d c43l
  refine (HP3.out _ (HW.out.alloc (by first | exact HW.out.size | (have h9 := HW.out.size; simp <;> omega)) _)).mono ?_
  rintro e v38 ⟨qp3, kp3, rfl, hrp3, hb⟩
  have hcb : Below v33.heap.size v33 v38 := below_call ((Below.refl _ v33).alloc (Nat.le_refl _) _) hb
  have HT := Lib.hid (HT.out.next hcb)
  have HW := Lib.hid (below_call HW.out hcb)
  have HBA := Lib.hid (HBA.out.below hcb HBA.out.lt)
  have HBB := Lib.hid (HBB.out.below hcb HBB.out.lt)
  have HRp1 := Lib.hid ((HRp1.out.below hcb).more hcb.size)
  have HBp1 := Lib.hid (HBp1.out.below hcb HBp1.out.lt)
  have HRr1 := Lib.hid ((HRr1.out.below hcb).more hcb.size)
  have HBr1 := Lib.hid (HBr1.out.below hcb HBr1.out.lt)
  have HRp2 := Lib.hid ((HRp2.out.below hcb).more hcb.size)
  have HBp2 := Lib.hid (HBp2.out.below hcb HBp2.out.lt)
  have HRr2 := Lib.hid ((HRr2.out.below hcb).more hcb.size)
  have HBr2 := Lib.hid ((show Row (v33.alloc (.cells (matC m2 r2 c2 qr2 n2 kr2) 24)) (v33.heap.size) 24 (matC m2 r2 c2 qr2 n2 kr2) from Row.made _ _ (by simp)).below hb (by simp <;> omega))
  have HRp3 := Lib.hid hrp3
  clear hrp3
  clear hb hcb
  obtain ⟨c45a, c45b, c45c, c45d⟩ := mbox HBA.out
  have c45l := HBA.out.lt
  obtain ⟨c46a, c46b, c46c, c46d⟩ := mbox HBB.out
  have c46l := HBB.out.lt
  obtain ⟨c47a, c47b, c47c, c47d⟩ := mbox HBp1.out
  have c47l := HBp1.out.lt
  obtain ⟨c48a, c48b, c48c, c48d⟩ := mbox HBr1.out
  have c48l := HBr1.out.lt
  obtain ⟨c49a, c49b, c49c, c49d⟩ := mbox HBp2.out
  have c49l := HBp2.out.lt
  obtain ⟨c50a, c50b, c50c, c50d⟩ := mbox HBr2.out
  have c50l := HBr2.out.lt
  go_wp2_with fail
  clear c45a c45b c45c c45d c45l c46a c46b c46c c46d c46l c47a c47b c47c c47d c47l c48a c48b c48c c48d c48l c49a c49b c49c c49d c49l c50a c50b c50c c50d c50l
  refine (HR3.out _ (HW.out.alloc (by first | exact HW.out.size | (have h9 := HW.out.size; simp <;> omega)) _)).mono ?_
  rintro e v44 ⟨qr3, kr3, rfl, hrr3, hb⟩
  have hcb : Below v38.heap.size v38 v44 := below_call ((Below.refl _ v38).alloc (Nat.le_refl _) _) hb
  have HT := Lib.hid (HT.out.next hcb)
  have HW := Lib.hid (below_call HW.out hcb)
  have HBA := Lib.hid (HBA.out.below hcb HBA.out.lt)
  have HBB := Lib.hid (HBB.out.below hcb HBB.out.lt)
  have HRp1 := Lib.hid ((HRp1.out.below hcb).more hcb.size)
  have HBp1 := Lib.hid (HBp1.out.below hcb HBp1.out.lt)
  have HRr1 := Lib.hid ((HRr1.out.below hcb).more hcb.size)
  have HBr1 := Lib.hid (HBr1.out.below hcb HBr1.out.lt)
  have HRp2 := Lib.hid ((HRp2.out.below hcb).more hcb.size)
  have HBp2 := Lib.hid (HBp2.out.below hcb HBp2.out.lt)
  have HRr2 := Lib.hid ((HRr2.out.below hcb).more hcb.size)
  have HBr2 := Lib.hid (HBr2.out.below hcb HBr2.out.lt)
  have HRp3 := Lib.hid ((HRp3.out.below hcb).more hcb.size)
  have HBp3 := Lib.hid ((show Row (v38.alloc (.cells (matC m3 r3 c3 qp3 n3 kp3) 24)) (v38.heap.size) 24 (matC m3 r3 c3 qp3 n3 kp3) from Row.made _ _ (by simp)).below hb (by simp <;> omega))
  have HRr3 := Lib.hid hrr3
  clear hrr3
  clear hb hcb
  obtain ⟨c52a, c52b, c52c, c52d⟩ := mbox HBA.out
  have c52l := HBA.out.lt
  obtain ⟨c53a, c53b, c53c, c53d⟩ := mbox HBB.out
  have c53l := HBB.out.lt
  obtain ⟨c54a, c54b, c54c, c54d⟩ := mbox HBp1.out
  have c54l := HBp1.out.lt
  obtain ⟨c55a, c55b, c55c, c55d⟩ := mbox HBr1.out
  have c55l := HBr1.out.lt
  obtain ⟨c56a, c56b, c56c, c56d⟩ := mbox HBp2.out
  have c56l := HBp2.out.lt
  obtain ⟨c57a, c57b, c57c, c57d⟩ := mbox HBr2.out
  have c57l := HBr2.out.lt
  obtain ⟨c58a, c58b, c58c, c58d⟩ := mbox HBp3.out
  have c58l := HBp3.out.lt
  go_wp2_with fail
  clear c52a c52b c52c c52d c52l c53a c53b c53c c53d c53l c54a c54b c54c c54d c54l c55a c55b c55c c55d c55l c56a c56b c56c c56d c56l c57a c57b c57c c57d c57l c58a c58b c58c c58d c58l
  refine (HP4.out _ (HW.out.alloc (by first | exact HW.out.size | (have h9 := HW.out.size; simp <;> omega)) _)).mono ?_
  rintro e v51 ⟨qp4, kp4, rfl, hrp4, hb⟩
  have hcb : Below v44.heap.size v44 v51 := below_call ((Below.refl _ v44).alloc (Nat.le_refl _) _) hb
  have HT := Lib.hid (HT.out.next hcb)
  have HW := Lib.hid (below_call HW.out hcb)
  have HBA := Lib.hid (HBA.out.below hcb HBA.out.lt)
  have HBB := Lib.hid (HBB.out.below hcb HBB.out.lt)
  have HRp1 := Lib.hid ((HRp1.out.below hcb).more hcb.size)
  have HBp1 := Lib.hid (HBp1.out.below hcb HBp1.out.lt)
  have HRr1 := Lib.hid ((HRr1.out.below hcb).more hcb.size)
  have HBr1 := Lib.hid (HBr1.out.below hcb HBr1.out.lt)
  have HRp2 := Lib.hid ((HRp2.out.below hcb).more hcb.size)
  have HBp2 := Lib.hid (HBp2.out.below hcb HBp2.out.lt)
  have HRr2 := Lib.hid ((HRr2.out.below hcb).more hcb.size)
  have HBr2 := Lib.hid (HBr2.out.below hcb HBr2.out.lt)
  have HRp3 := Lib.hid ((HRp3.out.below hcb).more hcb.size)
  have HBp3 := Lib.hid (HBp3.out.below hcb HBp3.out.lt)
  have HRr3 := Lib.hid ((HRr3.out.below hcb).more hcb.size)
  have HBr3 := Lib.hid ((show Row (v44.alloc (.cells (matC m3 r3 c3 qr3 n3 kr3) 24)) (v44.heap.size) 24 (matC m3 r3 c3 qr3 n3 kr3) from Row.made _ _ (by simp)).below hb (by simp <;> omega))
  have HRp4 := Lib.hid hrp4
  clear hrp4
  clear hb hcb
  obtain ⟨c60a, c60b, c60c, c60d⟩ := mbox HBA.out
  have c60l := HBA.out.lt
  obtain ⟨c61a, c61b, c61c, c61d⟩ := mbox HBB.out
  have c61l := HBB.out.lt
  obtain ⟨c62a, c62b, c62c, c62d⟩ := mbox HBp1.out
  have c62l := HBp1.out.lt
  obtain ⟨c63a, c63b, c63c, c63d⟩ := mbox HBr1.out
  have c63l := HBr1.out.lt
  obtain ⟨c64a, c64b, c64c, c64d⟩ := mbox HBp2.out
  have c64l := HBp2.out.lt
  obtain ⟨c65a, c65b, c65c, c65d⟩ := mbox HBr2.out
  have c65l := HBr2.out.lt
  obtain ⟨c66a, c66b, c66c, c66d⟩ := mbox HBp3.out
  have c66l := HBp3.out.lt
  obtain ⟨c67a, c67b, c67c, c67d⟩ := mbox HBr3.out
  have c67l := HBr3.out.lt
  go_wp2_with fail
  clear c60a c60b c60c c60d c60l c61a c61b c61c c61d c61l c62a c62b c62c c62d c62l c63a c63b c63c c63d c63l c64a c64b c64c c64d c64l c65a c65b c65c c65d c65l c66a c66b c66c c66d c66l c67a c67b c67c c67d c67l
  refine (HR4.out _ (HW.out.alloc (by first | exact HW.out.size | (have h9 := HW.out.size; simp <;> omega)) _)).mono ?_
  rintro e v59 ⟨qr4, kr4, rfl, hrr4, hb⟩
  have hcb : Below v51.heap.size v51 v59 := below_call ((Below.refl _ v51).alloc (Nat.le_refl _) _) hb
  have HT := Lib.hid (HT.out.next hcb)
  have HW := Lib.hid (below_call HW.out hcb)
  have HBA := Lib.hid (HBA.out.below hcb HBA.out.lt)
  have HBB := Lib.hid (HBB.out.below hcb HBB.out.lt)
  have HRp1 := Lib.hid ((HRp1.out.below hcb).more hcb.size)
  have HBp1 := Lib.hid (HBp1.out.below hcb HBp1.out.lt)
  have HRr1 := Lib.hid ((HRr1.out.below hcb).more hcb.size)
  have HBr1 := Lib.hid (HBr1.out.below hcb HBr1.out.lt)
  have HRp2 := Lib.hid ((HRp2.out.below hcb).more hcb.size)
  have HBp2 := Lib.hid (HBp2.out.below hcb HBp2.out.lt)
  have HRr2 := Lib.hid ((HRr2.out.below hcb).more hcb.size)
  have HBr2 := Lib.hid (HBr2.out.below hcb HBr2.out.lt)
  have HRp3 := Lib.hid ((HRp3.out.below hcb).more hcb.size)
  have HBp3 := Lib.hid (HBp3.out.below hcb HBp3.out.lt)
  have HRr3 := Lib.hid ((HRr3.out.below hcb).more hcb.size)
  have HBr3 := Lib.hid (HBr3.out.below hcb HBr3.out.lt)
  have HRp4 := Lib.hid ((HRp4.out.below hcb).more hcb.size)
  have HBp4 := Lib.hid ((show Row (v51.alloc (.cells (matC m4 r4 c4 qp4 n4 kp4) 24)) (v51.heap.size) 24 (matC m4 r4 c4 qp4 n4 kp4) from Row.made _ _ (by simp)).below hb (by simp <;> omega))
  have HRr4 := Lib.hid hrr4
  clear hrr4
  clear hb hcb
  obtain ⟨c69a, c69b, c69c, c69d⟩ := mbox HBA.out
  have c69l := HBA.out.lt
  obtain ⟨c70a, c70b, c70c, c70d⟩ := mbox HBB.out
  have c70l := HBB.out.lt
  obtain ⟨c71a, c71b, c71c, c71d⟩ := mbox HBp1.out
  have c71l := HBp1.out.lt
  obtain ⟨c72a, c72b, c72c, c72d⟩ := mbox HBr1.out
  have c72l := HBr1.out.lt
  obtain ⟨c73a, c73b, c73c, c73d⟩ := mbox HBp2.out
  have c73l := HBp2.out.lt
  obtain ⟨c74a, c74b, c74c, c74d⟩ := mbox HBr2.out
  have c74l := HBr2.out.lt
  obtain ⟨c75a, c75b, c75c, c75d⟩ := mbox HBp3.out
  have c75l := HBp3.out.lt
  obtain ⟨c76a, c76b, c76c, c76d⟩ := mbox HBr3.out
  have c76l := HBr3.out.lt
  obtain ⟨c77a, c77b, c77c, c77d⟩ := mbox HBp4.out
  have c77l := HBp4.out.lt
  go_wp2_with fail
  clear c69a c69b c69c c69d c69l c70a c70b c70c c70d c70l c71a c71b c71c c71d c71l c72a c72b c72c c72d c72l c73a c73b c73c c73d c73l c74a c74b c74c c74d c74l c75a c75b c75c c75d c75l c76a c76b c76c c76d c76l c77a c77b c77c c77d c77l
  refine (HS1.out _ _ _ _ _ ((HRp1.out.below ((Below.refl _ v59).alloc (Nat.le_refl _) _)).more (by simp <;> omega)) ((HRr1.out.below ((Below.refl _ v59).alloc (Nat.le_refl _) _)).more (by simp <;> omega))).mono ?_
  rintro e v68 ⟨rfl, hb⟩
  have hcb : Below v59.heap.size v59 v68 := below_call ((Below.refl _ v59).alloc (Nat.le_refl _) _) hb
  have HT := Lib.hid (HT.out.next hcb)
  have HW := Lib.hid (below_call HW.out hcb)
  have HBA := Lib.hid (HBA.out.below hcb HBA.out.lt)
  have HBB := Lib.hid (HBB.out.below hcb HBB.out.lt)
  have HRp1 := Lib.hid ((HRp1.out.below hcb).more hcb.size)
  have HBp1 := Lib.hid (HBp1.out.below hcb HBp1.out.lt)
  have HRr1 := Lib.hid ((HRr1.out.below hcb).more hcb.size)
  have HBr1 := Lib.hid (HBr1.out.below hcb HBr1.out.lt)
  have HRp2 := Lib.hid ((HRp2.out.below hcb).more hcb.size)
  have HBp2 := Lib.hid (HBp2.out.below hcb HBp2.out.lt)
  have HRr2 := Lib.hid ((HRr2.out.below hcb).more hcb.size)
  have HBr2 := Lib.hid (HBr2.out.below hcb HBr2.out.lt)
  have HRp3 := Lib.hid ((HRp3.out.below hcb).more hcb.size)
  have HBp3 := Lib.hid (HBp3.out.below hcb HBp3.out.lt)
  have HRr3 := Lib.hid ((HRr3.out.below hcb).more hcb.size)
  have HBr3 := Lib.hid (HBr3.out.below hcb HBr3.out.lt)
  have HRp4 := Lib.hid ((HRp4.out.below hcb).more hcb.size)
  have HBp4 := Lib.hid (HBp4.out.below hcb HBp4.out.lt)
  have HRr4 := Lib.hid ((HRr4.out.below hcb).more hcb.size)
  have HBr4 := Lib.hid ((show Row (v59.alloc (.cells (matC m4 r4 c4 qr4 n4 kr4) 24)) (v59.heap.size) 24 (matC m4 r4 c4 qr4 n4 kr4) from Row.made _ _ (by simp)).below hb (by simp <;> omega))
  clear hb hcb
  obtain ⟨c79a, c79b, c79c, c79d⟩ := mbox HBA.out
  obtain ⟨c80a, c80b, c80c, c80d⟩ := mbox HBB.out
  obtain ⟨c81a, c81b, c81c, c81d⟩ := mbox HBp1.out
  obtain ⟨c82a, c82b, c82c, c82d⟩ := mbox HBr1.out
  obtain ⟨c83a, c83b, c83c, c83d⟩ := mbox HBp2.out
  obtain ⟨c84a, c84b, c84c, c84d⟩ := mbox HBr2.out
  obtain ⟨c85a, c85b, c85c, c85d⟩ := mbox HBp3.out
  obtain ⟨c86a, c86b, c86c, c86d⟩ := mbox HBr3.out
  obtain ⟨c87a, c87b, c87c, c87d⟩ := mbox HBp4.out
  obtain ⟨c88a, c88b, c88c, c88d⟩ := mbox HBr4.out
  go_wp2_with fail
  clear c79a c79b c79c c79d c80a c80b c80c c80d c81a c81b c81c c81d c82a c82b c82c c82d c83a c83b c83c c83d c84a c84b c84c c84d c85a c85b c85c c85d c86a c86b c86c c86d c87a c87b c87c c87d c88a c88b c88c c88d
  refine (HS2.out _ _ _ _ _ HRp2.out HRr2.out).mono ?_
  rintro e v78 ⟨rfl, hb⟩
  have hcb : Below v68.heap.size v68 v78 := below_call (Below.refl _ v68) hb
  have HT := Lib.hid (HT.out.next hcb)
  have HW := Lib.hid (below_call HW.out hcb)
  have HBA := Lib.hid (HBA.out.below hcb HBA.out.lt)
  have HBB := Lib.hid (HBB.out.below hcb HBB.out.lt)
  have HRp1 := Lib.hid ((HRp1.out.below hcb).more hcb.size)
  have HBp1 := Lib.hid (HBp1.out.below hcb HBp1.out.lt)
  have HRr1 := Lib.hid ((HRr1.out.below hcb).more hcb.size)
  have HBr1 := Lib.hid (HBr1.out.below hcb HBr1.out.lt)
  have HRp2 := Lib.hid ((HRp2.out.below hcb).more hcb.size)
  have HBp2 := Lib.hid (HBp2.out.below hcb HBp2.out.lt)
  have HRr2 := Lib.hid ((HRr2.out.below hcb).more hcb.size)
  have HBr2 := Lib.hid (HBr2.out.below hcb HBr2.out.lt)
  have HRp3 := Lib.hid ((HRp3.out.below hcb).more hcb.size)
  have HBp3 := Lib.hid (HBp3.out.below hcb HBp3.out.lt)
  have HRr3 := Lib.hid ((HRr3.out.below hcb).more hcb.size)
  have HBr3 := Lib.hid (HBr3.out.below hcb HBr3.out.lt)
  have HRp4 := Lib.hid ((HRp4.out.below hcb).more hcb.size)
  have HBp4 := Lib.hid (HBp4.out.below hcb HBp4.out.lt)
  have HRr4 := Lib.hid ((HRr4.out.below hcb).more hcb.size)
  have HBr4 := Lib.hid (HBr4.out.below hcb HBr4.out.lt)
  clear hb hcb
  obtain ⟨c90a, c90b, c90c, c90d⟩ := mbox HBA.out
  obtain ⟨c91a, c91b, c91c, c91d⟩ := mbox HBB.out
  obtain ⟨c92a, c92b, c92c, c92d⟩ := mbox HBp1.out
  obtain ⟨c93a, c93b, c93c, c93d⟩ := mbox HBr1.out
  obtain ⟨c94a, c94b, c94c, c94d⟩ := mbox HBp2.out
  obtain ⟨c95a, c95b, c95c, c95d⟩ := mbox HBr2.out
  obtain ⟨c96a, c96b, c96c, c96d⟩ := mbox HBp3.out
  obtain ⟨c97a, c97b, c97c, c97d⟩ := mbox HBr3.out
  obtain ⟨c98a, c98b, c98c, c98d⟩ := mbox HBp4.out
  obtain ⟨c99a, c99b, c99c, c99d⟩ := mbox HBr4.out
  go_wp2_with fail
  clear c90a c90b c90c c90d c91a c91b c91c c91d c92a c92b c92c c92d c93a c93b c93c c93d c94a c94b c94c c94d c95a c95b c95c c95d c96a c96b c96c c96d c97a c97b c97c c97d c98a c98b c98c c98d c99a c99b c99c c99d
  refine (HS3.out _ _ _ _ _ HRp3.out HRr3.out).mono ?_
  rintro e v89 ⟨rfl, hb⟩
  have hcb : Below v78.heap.size v78 v89 := below_call (Below.refl _ v78) hb
  have HT := Lib.hid (HT.out.next hcb)
  have HW := Lib.hid (below_call HW.out hcb)
  have HBA := Lib.hid (HBA.out.below hcb HBA.out.lt)
  have HBB := Lib.hid (HBB.out.below hcb HBB.out.lt)
  have HRp1 := Lib.hid ((HRp1.out.below hcb).more hcb.size)
  have HBp1 := Lib.hid (HBp1.out.below hcb HBp1.out.lt)
  have HRr1 := Lib.hid ((HRr1.out.below hcb).more hcb.size)
  have HBr1 := Lib.hid (HBr1.out.below hcb HBr1.out.lt)
  have HRp2 := Lib.hid ((HRp2.out.below hcb).more hcb.size)
  have HBp2 := Lib.hid (HBp2.out.below hcb HBp2.out.lt)
  have HRr2 := Lib.hid ((HRr2.out.below hcb).more hcb.size)
  have HBr2 := Lib.hid (HBr2.out.below hcb HBr2.out.lt)
  have HRp3 := Lib.hid ((HRp3.out.below hcb).more hcb.size)
  have HBp3 := Lib.hid (HBp3.out.below hcb HBp3.out.lt)
  have HRr3 := Lib.hid ((HRr3.out.below hcb).more hcb.size)
  have HBr3 := Lib.hid (HBr3.out.below hcb HBr3.out.lt)
  have HRp4 := Lib.hid ((HRp4.out.below hcb).more hcb.size)
  have HBp4 := Lib.hid (HBp4.out.below hcb HBp4.out.lt)
  have HRr4 := Lib.hid ((HRr4.out.below hcb).more hcb.size)
  have HBr4 := Lib.hid (HBr4.out.below hcb HBr4.out.lt)
  clear hb hcb
  obtain ⟨c101a, c101b, c101c, c101d⟩ := mbox HBA.out
  obtain ⟨c102a, c102b, c102c, c102d⟩ := mbox HBB.out
  obtain ⟨c103a, c103b, c103c, c103d⟩ := mbox HBp1.out
  obtain ⟨c104a, c104b, c104c, c104d⟩ := mbox HBr1.out
  obtain ⟨c105a, c105b, c105c, c105d⟩ := mbox HBp2.out
  obtain ⟨c106a, c106b, c106c, c106d⟩ := mbox HBr2.out
  obtain ⟨c107a, c107b, c107c, c107d⟩ := mbox HBp3.out
  obtain ⟨c108a, c108b, c108c, c108d⟩ := mbox HBr3.out
  obtain ⟨c109a, c109b, c109c, c109d⟩ := mbox HBp4.out
  obtain ⟨c110a, c110b, c110c, c110d⟩ := mbox HBr4.out
  go_wp2_with fail
  clear c101a c101b c101c c101d c102a c102b c102c c102d c103a c103b c103c c103d c104a c104b c104c c104d c105a c105b c105c c105d c106a c106b c106c c106d c107a c107b c107c c107d c108a c108b c108c c108d c109a c109b c109c c109d c110a c110b c110c c110d
  refine (HS4.out _ _ _ _ _ HRp4.out HRr4.out).mono ?_
  rintro e v100 ⟨rfl, hb⟩
  have hcb : Below v89.heap.size v89 v100 := below_call (Below.refl _ v89) hb
  have HT := Lib.hid (HT.out.next hcb)
  have HW := Lib.hid (below_call HW.out hcb)
  have HBA := Lib.hid (HBA.out.below hcb HBA.out.lt)
  have HBB := Lib.hid (HBB.out.below hcb HBB.out.lt)
  have HRp1 := Lib.hid ((HRp1.out.below hcb).more hcb.size)
  have HBp1 := Lib.hid (HBp1.out.below hcb HBp1.out.lt)
  have HRr1 := Lib.hid ((HRr1.out.below hcb).more hcb.size)
  have HBr1 := Lib.hid (HBr1.out.below hcb HBr1.out.lt)
  have HRp2 := Lib.hid ((HRp2.out.below hcb).more hcb.size)
  have HBp2 := Lib.hid (HBp2.out.below hcb HBp2.out.lt)
  have HRr2 := Lib.hid ((HRr2.out.below hcb).more hcb.size)
  have HBr2 := Lib.hid (HBr2.out.below hcb HBr2.out.lt)
  have HRp3 := Lib.hid ((HRp3.out.below hcb).more hcb.size)
  have HBp3 := Lib.hid (HBp3.out.below hcb HBp3.out.lt)
  have HRr3 := Lib.hid ((HRr3.out.below hcb).more hcb.size)
  have HBr3 := Lib.hid (HBr3.out.below hcb HBr3.out.lt)
  have HRp4 := Lib.hid ((HRp4.out.below hcb).more hcb.size)
  have HBp4 := Lib.hid (HBp4.out.below hcb HBp4.out.lt)
  have HRr4 := Lib.hid ((HRr4.out.below hcb).more hcb.size)
  have HBr4 := Lib.hid (HBr4.out.below hcb HBr4.out.lt)
  clear hb hcb
  obtain ⟨c111a, c111b, c111c, c111d⟩ := mbox HBA.out
  go_wp2_with fail
  clear c111a c111b c111c c111d
  obtain ⟨v112, hE⟩ : ∃ wE, wE = v100 := ⟨_, rfl⟩
  rw [← hE]
  have hcb : Below v100.heap.size v100 v112 := by rw [hE]; exact (Below.refl _ v100)
  have HT := Lib.hid (HT.out.next hcb)
  have HW := Lib.hid (below_call HW.out hcb)
  have HBA := Lib.hid (HBA.out.below hcb HBA.out.lt)
  have HBB := Lib.hid (HBB.out.below hcb HBB.out.lt)
  have HRp1 := Lib.hid ((HRp1.out.below hcb).more hcb.size)
  have HBp1 := Lib.hid (HBp1.out.below hcb HBp1.out.lt)
  have HRr1 := Lib.hid ((HRr1.out.below hcb).more hcb.size)
  have HBr1 := Lib.hid (HBr1.out.below hcb HBr1.out.lt)
  have HRp2 := Lib.hid ((HRp2.out.below hcb).more hcb.size)
  have HBp2 := Lib.hid (HBp2.out.below hcb HBp2.out.lt)
  have HRr2 := Lib.hid ((HRr2.out.below hcb).more hcb.size)
  have HBr2 := Lib.hid (HBr2.out.below hcb HBr2.out.lt)
  have HRp3 := Lib.hid ((HRp3.out.below hcb).more hcb.size)
  have HBp3 := Lib.hid (HBp3.out.below hcb HBp3.out.lt)
  have HRr3 := Lib.hid ((HRr3.out.below hcb).more hcb.size)
  have HBr3 := Lib.hid (HBr3.out.below hcb HBr3.out.lt)
  have HRp4 := Lib.hid ((HRp4.out.below hcb).more hcb.size)
  have HBp4 := Lib.hid (HBp4.out.below hcb HBp4.out.lt)
  have HRr4 := Lib.hid ((HRr4.out.below hcb).more hcb.size)
  have HBr4 := Lib.hid (HBr4.out.below hcb HBr4.out.lt)
  clear hcb hE
  have HXS := Lib.hid (fun (wn : World) (h : Below v112.heap.size v112 wn) => (mbox (HBA.out.below h HBA.out.lt) : (wn.cell? ⟨w.heap.size, 0, none⟩ = some (.int .i64 ma) ∧ wn.cell? ⟨w.heap.size, 1, none⟩ = some (.int .i64 ra) ∧ wn.cell? ⟨w.heap.size, 2, none⟩ = some (.int .i64 ca) ∧ wn.cell? ⟨w.heap.size, 3, none⟩ = some (.slice qa na ka))))
  go_region_held3 (fun wn => (wn.cell? ⟨w.heap.size, 0, none⟩ = some (.int .i64 ma) ∧ wn.cell? ⟨w.heap.size, 1, none⟩ = some (.int .i64 ra) ∧ wn.cell? ⟨w.heap.size, 2, none⟩ = some (.int .i64 ca) ∧ wn.cell? ⟨w.heap.size, 3, none⟩ = some (.slice qa na ka))) (first | with_reducible exact HXS.out _ K10.out | with_reducible exact HXS.out _ K9.out | with_reducible exact HXS.out _ K8.out | with_reducible exact HXS.out _ K7.out | with_reducible exact HXS.out _ K6.out | with_reducible exact HXS.out _ K5.out | with_reducible exact HXS.out _ K4.out | with_reducible exact HXS.out _ K3.out | with_reducible exact HXS.out _ K2.out | with_reducible exact HXS.out _ K1.out | with_reducible exact HXS.out _ (Below.refl _ _).drew) (first
    | (go_at_call 14; (with_reducible refine (sanity6_any _ (HT.out.next (Below.refl _ _).drew)).mono ?_); rintro e1 x1 ⟨rfl, hx1⟩; have K1 := Lib.hid (show Below v112.heap.size v112 x1 from below_call (Below.refl _ _).drew hx1); clear hx1)
    | (go_at_call 28; (with_reducible refine (HVP.out _ (below_call HW.out K1.out)).mono ?_); rintro e2 x2 ⟨rfl, hx2⟩; have K2 := Lib.hid (show Below v112.heap.size v112 x2 from below_call K1.out hx2); clear hx2)
    | (go_at_call 13; (with_reducible refine (HVR.out _ (below_call HW.out K2.out)).mono ?_); rintro e3 x3 ⟨rfl, hx3⟩; have K3 := Lib.hid (show Below v112.heap.size v112 x3 from below_call K2.out hx3); clear hx3)
    | (go_at_call 29; (with_reducible refine (HAP.out _ (below_call HW.out K3.out)).mono ?_); rintro e4 x4 ⟨rfl, hx4⟩; have K4 := Lib.hid (show Below v112.heap.size v112 x4 from below_call K3.out hx4); clear hx4)
    | (go_at_call 30; (with_reducible refine (HAR.out _ (below_call HW.out K4.out)).mono ?_); rintro e5 x5 ⟨rfl, hx5⟩; have K5 := Lib.hid (show Below v112.heap.size v112 x5 from below_call K4.out hx5); clear hx5)
    | (go_at_call 20; (with_reducible refine (HKP.out _ (below_call HW.out K5.out)).mono ?_); rintro e6 x6 ⟨rfl, hx6⟩; have K6 := Lib.hid (show Below v112.heap.size v112 x6 from below_call K5.out hx6); clear hx6)
    | (go_at_call 31; (with_reducible refine (HKR.out _ (below_call HW.out K6.out)).mono ?_); rintro e7 x7 ⟨rfl, hx7⟩; have K7 := Lib.hid (show Below v112.heap.size v112 x7 from below_call K6.out hx7); clear hx7)
    | (go_at_call 33; (with_reducible refine (HIP.out _ (below_call HW.out K7.out)).mono ?_); rintro e8 x8 ⟨q8, k8, rfl, hrd8, hx8⟩; have K8 := Lib.hid (show Below v112.heap.size v112 x8 from below_call K7.out hx8); have HRD8 := Lib.hid hrd8; clear hrd8; clear hx8)
    | (go_at_call 34; (with_reducible refine (HIR.out _ (below_call HW.out K8.out)).mono ?_); rintro e9 x9 ⟨q9, k9, rfl, hrd9, hx9⟩; have K9 := Lib.hid (show Below v112.heap.size v112 x9 from below_call K8.out hx9); have HRD9 := Lib.hid hrd9; have HRD8 := Lib.hid ((HRD8.out.below hx9).more hx9.size); clear hrd9; clear hx9)
    | (go_at_call 32; (with_reducible refine (HLI.out _ _ _ _ _ HRD8.out HRD9.out).mono ?_); rintro e10 x10 ⟨rfl, hx10⟩; have K10 := Lib.hid (show Below v112.heap.size v112 x10 from below_call K9.out hx10); clear hx10))
  go_wp2
  go_ret
  exact ⟨rfl, below_call HW.out K10.out⟩
theorem walk_MatrixMatchesSpec (ma ra ca : Int) (qa : Option Addr) (na ka : Nat) (xs : List Int) (mb rb cb : Int) (qb : Option Addr) (nb kb : Nat) (ys : List Int) (qr : Option Addr) (L kr : Nat) (is : List Int) (i j : Int) (w : World) (h1 : IntsIn w qa na ka xs) (h2 : IntsIn w qb nb kb ys) (h3 : IntsIn w qr L kr is) (_hi1 : -9223372036854775808 ≤ i) (_hi2 : i ≤ 9223372036854775807) (_hj1 : -9223372036854775808 ≤ j) (_hj2 : j ≤ 9223372036854775807) (ht : Tab w) :
    Calls Tryd.prog 7 #[matV ma ra ca qa na ka, matV mb rb cb qb nb kb, .slice qr L kr, .int .i64 i, .int .i64 j] w fun e w' => e = .returned (.bool true) ∧ Below w.heap.size w w' := by
  cases hs1 : smallB ra ca na with
  | false => exact matches_0 ma ra ca qa na ka mb rb cb qb nb kb qr L kr i j w ht hs1
  | true =>
    cases hs2 : smallB rb cb nb with
    | false => exact matches_1 ma ra ca qa na ka mb rb cb qb nb kb qr L kr i j w ht hs1 hs2
    | true =>
      by_cases hL : 40 < L
      · exact matches_2 ma ra ca qa na ka mb rb cb qb nb kb qr L kr i j w ht hs1 hs2 hL
      · exact matches_3 ma ra ca qa na ka mb rb cb qb nb kb qr L kr i j w ht xs h1 hs1 hs2 (by omega) (mul_twin h1 h2 ht) (transp_twin h1) (pick_twin h1 h3) (inverse_twin h1 ht)

/-! ### the frame: the arguments opened and shut -/
theorem contract_MatrixMatchesSpec (H : Type) (enc : TypeId × Value → H) (W : World) (base : Nat) (args : Array Value) (ds gs : List (DataW H)) (before : List MemPlace)
    (hval0 : ∀ (j : Nat) t v, Tryd.f7.params[j]? = some t → args[j]? = some v → Value.okWide Tryd.prog W .any base t v)
    (hW : DataW.Whole enc Tryd.prog Tryd.f7.params.toList Rows.matrixMatchesSpecSpec.vars false W args.toList ds gs before) (hL : laidMetH Tryd.prog Rows.matrixMatchesSpecRow.laid W) :
    Calls Tryd.prog 7 args W fun e W' => ∃ v, e = .returned v ∧ Rows.matrixMatchesSpecSpec.post enc Tryd.prog Tryd.f7 false true false false W args v W' := by
  have hval : ∀ (j : Nat) t v, Tryd.f7.params[j]? = some t → args[j]? = some v → Value.okWide Tryd.prog W .any base t v := hval0
  have hW' := hW
  obtain ⟨p, q, hA0, hV, rfl, hfz, hnd⟩ := hW
  have hA : DataW.TrodAll enc Tryd.prog W 0 (fun _ => true) true Tryd.f7.params.toList args.toList ds p := hA0
  rw [Tryd.params7] at hA hval
  obtain ⟨v0, vs0, d0, ds0, p0, q0, hargs, rfl, rfl, h0, r0⟩ := trodAll_cons hA
  obtain ⟨v1, vs1, d1, ds1, p1, q1, rfl, rfl, rfl, h1, r1⟩ := trodAll_cons r0
  obtain ⟨v2, vs2, d2, ds2, p2, q2, rfl, rfl, rfl, h2, r2⟩ := trodAll_cons r1
  obtain ⟨v3, vs3, d3, ds3, p3, q3, rfl, rfl, rfl, h3, r3⟩ := trodAll_cons r2
  obtain ⟨v4, vs4, d4, ds4, p4, q4, rfl, rfl, rfl, h4, r4⟩ := trodAll_cons r3
  obtain ⟨rfl, rfl, rfl⟩ := trodAll_nil r4
  obtain rfl : args = #[v0, v1, v2, v3, v4] := by cases args; simp_all
  obtain ⟨rfl, rfl⟩ := trodVars_none hV
  have k0 := h0
  have lt0 : ∀ x ∈ p0, x.block < W.heap.size := by obtain ⟨m, hm⟩ := k0; exact DataW.trod_lt m _ _ _ hm
  have k1 := h1
  have lt1 : ∀ x ∈ p1, x.block < W.heap.size := by obtain ⟨m, hm⟩ := k1; exact DataW.trod_lt m _ _ _ hm
  have k2 := h2
  have lt2 : ∀ x ∈ p2, x.block < W.heap.size := by obtain ⟨m, hm⟩ := k2; exact DataW.trod_lt m _ _ _ hm
  have k3 := h3
  have lt3 : ∀ x ∈ p3, x.block < W.heap.size := by obtain ⟨m, hm⟩ := k3; exact DataW.trod_lt m _ _ _ hm
  have k4 := h4
  have lt4 : ∀ x ∈ p4, x.block < W.heap.size := by obtain ⟨m, hm⟩ := k4; exact DataW.trod_lt m _ _ _ hm
  obtain ⟨cs0, rfl, _⟩ := okWide_struct Tryd.underlying24 (hval 0 24 v0 rfl rfl)
  obtain ⟨fuel0, hf0⟩ := h0
  obtain ⟨mm0, mr0, mc0, ma0, mn0, mk0, mx0, hcs0, hin0⟩ := open_matrix hf0
  obtain rfl : cs0 = #[.int .i64 mm0, .int .i64 mr0, .int .i64 mc0, .slice ma0 mn0 mk0] := by apply Array.toList_inj.1; simpa [Value.cells] using hcs0
  obtain ⟨cs1, rfl, _⟩ := okWide_struct Tryd.underlying24 (hval 1 24 v1 rfl rfl)
  obtain ⟨fuel1, hf1⟩ := h1
  obtain ⟨mm1, mr1, mc1, ma1, mn1, mk1, mx1, hcs1, hin1⟩ := open_matrix hf1
  obtain rfl : cs1 = #[.int .i64 mm1, .int .i64 mr1, .int .i64 mc1, .slice ma1 mn1 mk1] := by apply Array.toList_inj.1; simpa [Value.cells] using hcs1
  obtain ⟨aa2, an2, ak2, az2, rfl, hin2⟩ := got_intsIn Tryd.underlying22 Tryd.underlying3 (by kernel_rfl) (show Got enc Tryd.prog W 22 v2 from by
    obtain ⟨ga2, gn2, gk2, rfl⟩ := okWide_slice Tryd.underlying22 (hval 2 22 v2 rfl rfl)
    obtain ⟨fuel2, hf2⟩ := h2
    exact ⟨fuel2, _, hf2⟩)
  obtain ⟨n3, rfl, rfl, rfl, w3⟩ := open_int Tryd.underlying3 (hval 3 3 v3 rfl rfl) h3
  obtain ⟨n4, rfl, rfl, rfl, w4⟩ := open_int Tryd.underlying3 (hval 4 3 v4 rfl rfl) h4
  refine (walk_MatrixMatchesSpec mm0 mr0 mc0 ma0 mn0 mk0 mx0 mm1 mr1 mc1 ma1 mn1 mk1 mx1 aa2 an2 ak2 az2 n3 n4 W hin0 hin1 hin2 (wf_i64 w3).1 (wf_i64 w3).2 (wf_i64 w4).1 (wf_i64 w4).2 (tab_of hL)).mono fun e W' ⟨he, bel⟩ => ?_
  subst he
  exact ⟨_, rfl, _, _, _, [], _, [], hW', trodAll_mk1 (shut_bool Tryd.underlying4 _), (trodAll_cons_mk (Below.trod laidOut (by kernel_rfl) (of_decide_eq_true (by kernel_rfl)) k0 bel lt0) (trodAll_cons_mk (Below.trod laidOut (by kernel_rfl) (of_decide_eq_true (by kernel_rfl)) k1 bel lt1) (trodAll_cons_mk (Below.trod laidOut (by kernel_rfl) (of_decide_eq_true (by kernel_rfl)) k2 bel lt2) (trodAll_cons_mk (Below.trod laidOut (by kernel_rfl) (of_decide_eq_true (by kernel_rfl)) k3 bel lt3) (trodAll_cons_mk (Below.trod laidOut (by kernel_rfl) (of_decide_eq_true (by kernel_rfl)) k4 bel lt4) trodAll_mk0))))), rfl, bel.frame _, fun h => by cases h⟩
theorem laid_MatrixMatchesSpec (os : Os) : laidMet Tryd.prog Rows.matrixMatchesSpecRow.laid ((laidWorld os).forCall (fun _ _ => 0) ⟨#[], #[.agg #[.int .i64 0, .int .i64 0, .int .i64 0, .slice none 0 0], .agg #[.int .i64 0, .int .i64 0, .int .i64 0, .slice none 0 0], .slice none 0 0, .int .i64 0, .int .i64 0], []⟩).memory :=
  laidMet_of_run' 8 (by kernel_rfl) (by kernel_rfl)
theorem reads_MatrixMatchesSpec (os : Os) {H : Type} (enc : TypeId × Value → H) : ∃ places, DataW.whole enc Tryd.prog ((laidWorld os).forCall (fun _ _ => 0) ⟨#[], #[.agg #[.int .i64 0, .int .i64 0, .int .i64 0, .slice none 0 0], .agg #[.int .i64 0, .int .i64 0, .int .i64 0, .slice none 0 0], .slice none 0 0, .int .i64 0, .int .i64 0], []⟩).memory Tryd.f7.params.toList Rows.matrixMatchesSpecSpec.vars false (#[.agg #[.int .i64 0, .int .i64 0, .int .i64 0, .slice none 0 0], .agg #[.int .i64 0, .int .i64 0, .int .i64 0, .slice none 0 0], .slice none 0 0, .int .i64 0, .int .i64 0] : Array Value).toList 8 = some ([.agg [.lit (.int .i64 0), .lit (.int .i64 0), .lit (.int .i64 0), .nil], .agg [.lit (.int .i64 0), .lit (.int .i64 0), .lit (.int .i64 0), .nil], .nil, .lit (.int .i64 0), .lit (.int .i64 0)], [], places) :=
  ⟨[], by kernel_rfl⟩
set_option maxRecDepth 100000 in
theorem lifted_MatrixMatchesSpec (os : Os) (started : os.Started) (H : Type) (enc : TypeId × Value → H) (F : Stop.Interp) :
    ReturnsInHanded {} Tryd.checked os 7 .any ((OpenSpec.ofChange Rows.matrixMatchesSpecSpec).preRow enc Tryd.prog Tryd.f7 Rows.matrixMatchesSpecRow.domain false Rows.matrixMatchesSpecRow.laid) (((OpenSpec.ofChange Rows.matrixMatchesSpecSpec).at F).post enc Tryd.prog Tryd.f7 false true false false) := by
  obtain ⟨places, hx⟩ := reads_MatrixMatchesSpec os enc
  refine returnsInHanded_of_row (C := Tryd.checked) (s := OpenSpec.ofChange Rows.matrixMatchesSpecSpec) own started (by kernel_rfl) Tryd.func7
    (witness_row_at (enc := enc) (C := Tryd.checked) false (laidWorld os) #[.agg #[.int .i64 0, .int .i64 0, .int .i64 0, .slice none 0 0], .agg #[.int .i64 0, .int .i64 0, .int .i64 0, .slice none 0 0], .slice none 0 0, .int .i64 0, .int .i64 0] rfl (by kernel_rfl) (by kernel_rfl) (by kernel_rfl)
      (OpenSpec.preRow_of_cond 8 hx (by kernel_rfl) (fun k hk => by cases hk) (by kernel_rfl) (laid_MatrixMatchesSpec os))) ?_
  intro W base args ds gs before hval hW _ hcond _ hL _ _
  exact contract_MatrixMatchesSpec H enc W base args ds gs before hval hW hL

theorem said_MatrixMatchesSpec : Rows.MatrixMatchesSpecSaid :=
  OpenClaim.holds_of_cond 7 Tryd.f7 rfl rfl rfl rfl rfl rfl rfl ⟨rfl, rfl, rfl, rfl, rfl⟩ rfl rfl rfl rfl rfl (by kernel_rfl) Tryd.func7 (by kernel_rfl)
    (of_decide_eq_true (by kernel_rfl)) (by unfold Func.isWrapper; first | (rw [if_pos (by decide +kernel)]; kernel_rfl) | (rw [if_neg (by decide +kernel)]; exact ⟨rfl, rfl⟩))
    (fun os started H enc _ F => by rw [OpenClaim.pre_eq_preRow]; exact lifted_MatrixMatchesSpec os started H enc F)
theorem plain_MatrixMatchesSpec (f : FuncId) (fn : Func) (hf : Tryd.pinned.checked.prog.funcNamed "solvent/solventlaw06.MatrixMatchesSpec" = some f) (hfn : Tryd.pinned.checked.prog.funcs[f]? = some fn) :
    false = Tryd.pinned.checked.prog.looks [] ∧ ∀ (j : Nat) t, fn.params[j]? = some t → Tryd.pinned.checked.prog.wantsStandIn t = false := by
  obtain rfl : f = 7 := Option.some.inj ((show Tryd.prog.funcNamed "solvent/solventlaw06.MatrixMatchesSpec" = some 7 by kernel_rfl).symm.trans hf) |>.symm
  obtain rfl : fn = Tryd.f7 := (Option.some.inj (Tryd.func7.symm.trans hfn)).symm
  refine ⟨by kernel_rfl, fun j t ht => ?_⟩
  rw [Tryd.params7] at ht
  have hm := Array.mem_of_getElem? ht
  simp only [List.mem_toArray, List.mem_cons, List.not_mem_nil, or_false, or_self] at hm
  rcases hm with rfl | rfl | rfl | rfl | rfl
  all_goals first | exact (show Tryd.prog.wantsStandIn 24 = false by kernel_rfl) | exact (show Tryd.prog.wantsStandIn 22 = false by kernel_rfl) | exact (show Tryd.prog.wantsStandIn 3 = false by kernel_rfl)
theorem proved_MatrixMatchesSpec : Rows.MatrixMatchesSpecCardSaid :=
  Claim7.holds_tied_plain_at .later [] _ _ _ _ said_MatrixMatchesSpec (fun _ h => by cases h) (by kernel_rfl) (fun _ h => by cases h) matrixMatchesSpec_row_tie rfl ⟨rfl, rfl⟩ (by kernel_rfl) rfl plain_MatrixMatchesSpec (by kernel_rfl)

end Go.Proofs.YtaijjhddgecieaaDoor
