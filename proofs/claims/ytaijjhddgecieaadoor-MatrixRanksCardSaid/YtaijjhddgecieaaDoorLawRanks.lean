/- This text proves of solventlaw06.MatrixRanks: for every two matrices the statement returns true: the rank of a valid matrix is that of its transpose and the number of its independent rows, which have this rank by themselves; the rank of a product is at most that of each factor; the arguments read as they did. (Printed by mkranks.py.) -/
import Derived.Test.YtaijjhddgecieaaDoorM25
import Derived.Test.YtaijjhddgecieaaDoorMatJ
import Derived.Test.YtaijjhddgecieaaDoorOpenM
import Derived.Test.YtaijjhddgecieaaDoorFldT
import Derived.Deep.RegionHeld3
namespace Go.Proofs.YtaijjhddgecieaaDoor
set_option linter.unusedSimpArgs false
set_option linter.unusedVariables false
open Go.ChangeShapes Go.WideShapes Go.ChangeAt Go.RowKit Go.Lib

set_option maxRecDepth 100000 in
set_option maxHeartbeats 6400000 in
theorem ranks_0 (ma ra ca : Int) (qa : Option Addr) (na ka : Nat) (xs : List Int) (mb rb cb : Int) (qb : Option Addr) (nb kb : Nat) (w : World) (ht : Tab w) (h1 : IntsIn w qa na ka xs) (hs1 : smallB ra ca na = false) :
    Calls Tryd.prog 8 #[matV ma ra ca qa na ka, matV mb rb cb qb nb kb] w fun e w' => e = .returned (.bool true) ∧ Below w.heap.size w w' := by
  have HT := Lib.hid ht
  have HW := Lib.hid (Below.refl w.heap.size w)
  have hp := ht.lt
  have HSM1 := Lib.hid (fun W => small_any ma ra ca qa na ka W)
  rw [hs1] at HSM1
  unfold matV at HSM1 ⊢
  clear ht h1 hs1
  go_enter Tryd.func8, Tryd.ntmps8
  go_wp2_with fail
  refine (HSM1.out _).mono ?_
  rintro e v1 ⟨rfl, hb⟩
  have hcb : Below w.heap.size w v1 := below_call (((Below.refl _ w).alloc (Nat.le_refl _) _).alloc (by simp) _) hb
  have HT := Lib.hid (HT.out.next hcb)
  have HW := Lib.hid (below_call HW.out hcb)
  have HBA := Lib.hid (((show Row (w.alloc (.cells (matC ma ra ca qa na ka) 24)) (w.heap.size) 24 (matC ma ra ca qa na ka) from Row.made _ _ (by simp)).alloc _).below hb (by simp <;> omega))
  have HBB := Lib.hid ((show Row ((w.alloc (.cells (matC ma ra ca qa na ka) 24)).alloc (.cells (matC mb rb cb qb nb kb) 24)) (w.heap.size + 1) 24 (matC mb rb cb qb nb kb) from Row.made _ _ (by simp)).below hb (by simp <;> omega))
  clear hb hcb
  obtain ⟨c3a, c3b, c3c, c3d⟩ := mbox HBA.out
  obtain ⟨c4a, c4b, c4c, c4d⟩ := mbox HBB.out
  go_wp2_with fail
  clear c3a c3b c3c c3d c4a c4b c4c c4d
  refine (sanity6_any _ HT.out).mono ?_
  rintro e v2 ⟨rfl, hb⟩
  have hcb : Below v1.heap.size v1 v2 := below_call (Below.refl _ v1) hb
  have HT := Lib.hid (HT.out.next hcb)
  have HW := Lib.hid (below_call HW.out hcb)
  have HBA := Lib.hid (HBA.out.below hcb HBA.out.lt)
  have HBB := Lib.hid (HBB.out.below hcb HBB.out.lt)
  clear hb hcb
  go_wp2
  go_ret
  exact ⟨rfl, HW.out⟩
set_option maxRecDepth 100000 in
set_option maxHeartbeats 6400000 in
theorem ranks_1 (ma ra ca : Int) (qa : Option Addr) (na ka : Nat) (xs : List Int) (mb rb cb : Int) (qb : Option Addr) (nb kb : Nat) (w : World) (ht : Tab w) (h1 : IntsIn w qa na ka xs) (hs1 : smallB ra ca na = true) (hs2 : smallB rb cb nb = false) :
    Calls Tryd.prog 8 #[matV ma ra ca qa na ka, matV mb rb cb qb nb kb] w fun e w' => e = .returned (.bool true) ∧ Below w.heap.size w w' := by
  have HT := Lib.hid ht
  have HW := Lib.hid (Below.refl w.heap.size w)
  have hp := ht.lt
  have HSM1 := Lib.hid (fun W => small_any ma ra ca qa na ka W)
  rw [hs1] at HSM1
  have HSM2 := Lib.hid (fun W => small_any mb rb cb qb nb kb W)
  rw [hs2] at HSM2
  unfold matV at HSM1 HSM2 ⊢
  clear ht h1 hs1 hs2
  go_enter Tryd.func8, Tryd.ntmps8
  go_wp2_with fail
  refine (HSM1.out _).mono ?_
  rintro e v5 ⟨rfl, hb⟩
  have hcb : Below w.heap.size w v5 := below_call (((Below.refl _ w).alloc (Nat.le_refl _) _).alloc (by simp) _) hb
  have HT := Lib.hid (HT.out.next hcb)
  have HW := Lib.hid (below_call HW.out hcb)
  have HBA := Lib.hid (((show Row (w.alloc (.cells (matC ma ra ca qa na ka) 24)) (w.heap.size) 24 (matC ma ra ca qa na ka) from Row.made _ _ (by simp)).alloc _).below hb (by simp <;> omega))
  have HBB := Lib.hid ((show Row ((w.alloc (.cells (matC ma ra ca qa na ka) 24)).alloc (.cells (matC mb rb cb qb nb kb) 24)) (w.heap.size + 1) 24 (matC mb rb cb qb nb kb) from Row.made _ _ (by simp)).below hb (by simp <;> omega))
  clear hb hcb
  obtain ⟨c7a, c7b, c7c, c7d⟩ := mbox HBA.out
  obtain ⟨c8a, c8b, c8c, c8d⟩ := mbox HBB.out
  go_wp2_with fail
  clear c7a c7b c7c c7d c8a c8b c8c c8d
  refine (HSM2.out _).mono ?_
  rintro e v6 ⟨rfl, hb⟩
  have hcb : Below v5.heap.size v5 v6 := below_call (Below.refl _ v5) hb
  have HT := Lib.hid (HT.out.next hcb)
  have HW := Lib.hid (below_call HW.out hcb)
  have HBA := Lib.hid (HBA.out.below hcb HBA.out.lt)
  have HBB := Lib.hid (HBB.out.below hcb HBB.out.lt)
  clear hb hcb
  obtain ⟨c10a, c10b, c10c, c10d⟩ := mbox HBA.out
  obtain ⟨c11a, c11b, c11c, c11d⟩ := mbox HBB.out
  go_wp2_with fail
  clear c10a c10b c10c c10d c11a c11b c11c c11d
  refine (sanity6_any _ HT.out).mono ?_
  rintro e v9 ⟨rfl, hb⟩
  have hcb : Below v6.heap.size v6 v9 := below_call (Below.refl _ v6) hb
  have HT := Lib.hid (HT.out.next hcb)
  have HW := Lib.hid (below_call HW.out hcb)
  have HBA := Lib.hid (HBA.out.below hcb HBA.out.lt)
  have HBB := Lib.hid (HBB.out.below hcb HBB.out.lt)
  clear hb hcb
  go_wp2
  go_ret
  exact ⟨rfl, HW.out⟩
set_option maxRecDepth 100000 in
set_option maxHeartbeats 6400000 in
theorem ranks_2 (ma ra ca : Int) (qa : Option Addr) (na ka : Nat) (xs : List Int) (mb rb cb : Int) (qb : Option Addr) (nb kb : Nat) (w : World) (ht : Tab w) (h1 : IntsIn w qa na ka xs) (hs1 : smallB ra ca na = true) (hs2 : smallB rb cb nb = true) (hv : okMat ma ra ca xs = false) :
    Calls Tryd.prog 8 #[matV ma ra ca qa na ka, matV mb rb cb qb nb kb] w fun e w' => e = .returned (.bool true) ∧ Below w.heap.size w w' := by
  have HT := Lib.hid ht
  have HW := Lib.hid (Below.refl w.heap.size w)
  have hp := ht.lt
  have HSM1 := Lib.hid (fun W => small_any ma ra ca qa na ka W)
  rw [hs1] at HSM1
  have HSM2 := Lib.hid (fun W => small_any mb rb cb qb nb kb W)
  rw [hs2] at HSM2
  have HVL := Lib.hid (fun (W : World) (hb : Below w.heap.size w W) => rvalid6_any ma ra ca qa na ka xs W h1.1 h1.le ((h1.2.2.2.2.below hb).more hb.size))
  rw [hv] at HVL
  unfold matV at HSM1 HSM2 HVL ⊢
  clear ht h1 hs1 hs2 hv
  go_enter Tryd.func8, Tryd.ntmps8
  go_wp2_with fail
  refine (HSM1.out _).mono ?_
  rintro e v12 ⟨rfl, hb⟩
  have hcb : Below w.heap.size w v12 := below_call (((Below.refl _ w).alloc (Nat.le_refl _) _).alloc (by simp) _) hb
  have HT := Lib.hid (HT.out.next hcb)
  have HW := Lib.hid (below_call HW.out hcb)
  have HBA := Lib.hid (((show Row (w.alloc (.cells (matC ma ra ca qa na ka) 24)) (w.heap.size) 24 (matC ma ra ca qa na ka) from Row.made _ _ (by simp)).alloc _).below hb (by simp <;> omega))
  have HBB := Lib.hid ((show Row ((w.alloc (.cells (matC ma ra ca qa na ka) 24)).alloc (.cells (matC mb rb cb qb nb kb) 24)) (w.heap.size + 1) 24 (matC mb rb cb qb nb kb) from Row.made _ _ (by simp)).below hb (by simp <;> omega))
  clear hb hcb
  obtain ⟨c14a, c14b, c14c, c14d⟩ := mbox HBA.out
  obtain ⟨c15a, c15b, c15c, c15d⟩ := mbox HBB.out
  go_wp2_with fail
  clear c14a c14b c14c c14d c15a c15b c15c c15d
  refine (HSM2.out _).mono ?_
  rintro e v13 ⟨rfl, hb⟩
  have hcb : Below v12.heap.size v12 v13 := below_call (Below.refl _ v12) hb
  have HT := Lib.hid (HT.out.next hcb)
  have HW := Lib.hid (below_call HW.out hcb)
  have HBA := Lib.hid (HBA.out.below hcb HBA.out.lt)
  have HBB := Lib.hid (HBB.out.below hcb HBB.out.lt)
  clear hb hcb
  obtain ⟨c17a, c17b, c17c, c17d⟩ := mbox HBA.out
  obtain ⟨c18a, c18b, c18c, c18d⟩ := mbox HBB.out
  go_wp2_with fail
  clear c17a c17b c17c c17d c18a c18b c18c c18d
  refine (HVL.out _ HW.out).mono ?_
  rintro e v16 ⟨rfl, hb⟩
  have hcb : Below v13.heap.size v13 v16 := below_call (Below.refl _ v13) hb
  have HT := Lib.hid (HT.out.next hcb)
  have HW := Lib.hid (below_call HW.out hcb)
  have HBA := Lib.hid (HBA.out.below hcb HBA.out.lt)
  have HBB := Lib.hid (HBB.out.below hcb HBB.out.lt)
  clear hb hcb
  obtain ⟨c20a, c20b, c20c, c20d⟩ := mbox HBA.out
  obtain ⟨c21a, c21b, c21c, c21d⟩ := mbox HBB.out
  go_wp2_with fail
  clear c20a c20b c20c c20d c21a c21b c21c c21d
  refine (sanity6_any _ HT.out).mono ?_
  rintro e v19 ⟨rfl, hb⟩
  have hcb : Below v16.heap.size v16 v19 := below_call (Below.refl _ v16) hb
  have HT := Lib.hid (HT.out.next hcb)
  have HW := Lib.hid (below_call HW.out hcb)
  have HBA := Lib.hid (HBA.out.below hcb HBA.out.lt)
  have HBB := Lib.hid (HBB.out.below hcb HBB.out.lt)
  clear hb hcb
  go_wp2
  go_ret
  exact ⟨rfl, HW.out⟩
/-- the independent rows, as numbers -/
theorem badRow_nats {r : Nat} {pv : List Nat} (h : ∀ x ∈ pv, x < r) : badRow r (natsL pv) = false := badRow_all fun t x hx => by
  unfold natsL at hx
  rw [List.getElem?_map] at hx
  obtain ⟨y, hy, rfl⟩ := Option.map_eq_some_iff.1 hx
  have := h y (List.mem_of_getElem? hy)
  omega
theorem pick_nats {A : Nat → Nat → Nat} {pv : List Nat} {t y q : Nat} (h : pv[t]? = some y) : pick A (natsL pv) t q = A y q := by
  unfold pick natsL
  rw [List.getElem?_map, h]
  rfl

set_option maxRecDepth 100000 in
set_option maxHeartbeats 12800000 in
theorem ranks_3 {m r c : Nat} {A : Nat → Nat → Nat} (qa : Option Addr) (ka : Nat) (mb rb cb : Int) (qb : Option Addr) (nb kb : Nat) (w : World) (ht : Tab w) (hA : MatR w w.heap.size m r c qa ka A) (hc : c ≤ 32)
    (hs1 : smallB r c (r * c) = true) (hs2 : smallB rb cb nb = true) (hmul : ∀ W, Below w.heap.size w W → Calls Tryd.prog 16 #[matV m r c qa (r * c) ka, matV mb rb cb qb nb kb] W fun e w' => e = .returned (outV nilM 1) ∧ Below W.heap.size W w') :
    Calls Tryd.prog 8 #[matV m r c qa (r * c) ka, matV mb rb cb qb nb kb] w fun e w' => e = .returned (.bool true) ∧ Below w.heap.size w w' := by
  have HT := Lib.hid ht
  have HW := Lib.hid (Below.refl w.heap.size w)
  have hp := ht.lt
  have hr := hA.hr
  have HSM1 := Lib.hid (fun W => small_any m r c qa (r * c) ka W)
  have HSM2 := Lib.hid (fun W => small_any mb rb cb qb nb kb W)
  rw [hs1] at HSM1
  rw [hs2] at HSM2
  have hrt := Mat.rk_tr hA.hm hA.ok
  have hrr := Mat.rk_rows hA.hm hA.ok (pick A (natsL (Mat.red m c (Mat.tr A) r).2)) (fun t y q h => pick_nats h)
  have hrf := Mat.red_facts hA.hm (Mat.tr_ok hA.ok) r (Nat.le_refl _)
  unfold Mat.rk at hrt hrr
  have HVL := Lib.hid (fun (W : World) (hb : Below w.heap.size w W) => rvalid_yes hA hc W hb hb.size)
  have HRK := Lib.hid (fun (W : World) (hb : Below w.heap.size w W) => rank_yes qa W (ht.next hb) ((hA.below hb).more hb.size) hc)
  have HTR := Lib.hid (fun (W : World) (hb : Below w.heap.size w W) => transp_yes qa ka W ((hA.below hb).more hb.size) hc)
  have HIND := Lib.hid (fun (W : World) (hb : Below w.heap.size w W) => show Calls Tryd.prog 33 #[matV m r c qa (r * c) ka] W fun e w' => ∃ q k, e = .returned (.slice q (Mat.red m c (Mat.tr A) r).2.length k) ∧ Rd w' w'.heap.size q (ints (natsL (Mat.red m c (Mat.tr A) r).2)) ∧ Below W.heap.size W w' from (indep_yes qa W (ht.next hb) ((hA.below hb).more hb.size) hc).mono (by
    rintro e w' ⟨⟨q, k, rfl, _, _, _, h⟩, hb⟩
    exact ⟨q, k, rfl, h, hb⟩))
  have hbad := badRow_nats (r := r) (pv := (Mat.red m c (Mat.tr A) r).2) hrf.2.2.1
  have HPK := Lib.hid (fun (W : World) (hb : Below w.heap.size w W) (q : Option Addr) (k : Nat) (hrd : Rd W W.heap.size q (ints (natsL (Mat.red m c (Mat.tr A) r).2))) => show Calls Tryd.prog 25 #[matV m r c qa (r * c) ka, .slice q (Mat.red m c (Mat.tr A) r).2.length k] W fun e w' => ∃ q' k', e = .returned (outV (matV m (Mat.red m c (Mat.tr A) r).2.length c q' ((Mat.red m c (Mat.tr A) r).2.length * c) k') 0) ∧ Own w' W.heap.size 3 q' ((Mat.red m c (Mat.tr A) r).2.length * c) k' (ints (cellsL (Mat.red m c (Mat.tr A) r).2.length c (pick A (natsL (Mat.red m c (Mat.tr A) r).2)))) ∧ Below W.heap.size W w' from (pick_yes qa q _ k _ W ((hA.below hb).more hb.size) hc (by have := hrf.2.2.2; omega) (by simp [natsL]) hrd).mono (by
    rintro e w' ⟨⟨h, _⟩ | ⟨_, q', k', rfl, ho⟩, hb⟩
    · rw [hbad] at h; cases h
    · exact ⟨q', k', rfl, ho, hb⟩))
  have HRT := Lib.hid (fun (W : World) (ht2 : Tab W) (g : Nat) (hc1 : Cells W g (c * r) (Mat.flat r (Mat.tr A))) => rank_yes (some ⟨g, 0, none⟩) W ht2 (MatR.of_cells hc1 hc1.lt hA.hm hc (by omega) (Mat.tr_ok hA.ok)) hr)
  have opk : Mat.Ok m (Mat.red m c (Mat.tr A) r).2.length c (pick A (natsL (Mat.red m c (Mat.tr A) r).2)) := pick_ok hA.ok hbad (by simp [natsL])
  have HRP := Lib.hid (fun (W : World) (ht2 : Tab W) (q : Option Addr) (k B9 : Nat) (ho : Own W B9 3 q ((Mat.red m c (Mat.tr A) r).2.length * c) k (ints (cellsL (Mat.red m c (Mat.tr A) r).2.length c (pick A (natsL (Mat.red m c (Mat.tr A) r).2))))) => rank_yes q W ht2 (own_matR ho hA.hm (by have := hrf.2.2.2; omega) (by omega) opk) hc)
  rw [hrt] at HIND HPK HRP HRT
  rw [hrr] at HRP
  have HMU := Lib.hid hmul
  obtain ⟨R, hR⟩ : ∃ R, (Mat.red m r A c).2.length = R := ⟨_, rfl⟩
  rw [hR] at HRK HIND HPK HRP HRT
  generalize pick A (natsL (Mat.red m c (Mat.tr A) r).2) = PK at HPK HRP
  generalize (Mat.red m c (Mat.tr A) r).2 = pv at HIND HPK
  obtain ⟨Na, hNa⟩ : ∃ N, r * c = N := ⟨_, rfl⟩
  obtain ⟨Nt, hNt⟩ : ∃ N, c * r = N := ⟨_, rfl⟩
  obtain ⟨Np, hNp⟩ : ∃ N, R * c = N := ⟨_, rfl⟩
  rw [hNa] at HSM1 HVL HRK HTR HIND HPK HMU ⊢
  rw [hNt] at HTR HRT
  rw [hNp] at HPK HRP
  unfold matV at HSM1 HSM2 HVL HRK HTR HIND HPK HRT HRP HMU ⊢
  clear ht hA hs1 hs2 hmul hrt hrr hrf hbad opk hNa hNt hNp hR
  go_enter Tryd.func8, Tryd.ntmps8
  go_wp2_with fail
  refine (HSM1.out _).mono ?_
  rintro e v22 ⟨rfl, hb⟩
  have hcb : Below w.heap.size w v22 := below_call (((Below.refl _ w).alloc (Nat.le_refl _) _).alloc (by simp) _) hb
  have HT := Lib.hid (HT.out.next hcb)
  have HW := Lib.hid (below_call HW.out hcb)
  have HBA := Lib.hid (((show Row (w.alloc (.cells (matC m r c qa Na ka) 24)) (w.heap.size) 24 (matC m r c qa Na ka) from Row.made _ _ (by simp)).alloc _).below hb (by simp <;> omega))
  have HBB := Lib.hid ((show Row ((w.alloc (.cells (matC m r c qa Na ka) 24)).alloc (.cells (matC mb rb cb qb nb kb) 24)) (w.heap.size + 1) 24 (matC mb rb cb qb nb kb) from Row.made _ _ (by simp)).below hb (by simp <;> omega))
  clear hb hcb
  obtain ⟨c24a, c24b, c24c, c24d⟩ := mbox HBA.out
  obtain ⟨c25a, c25b, c25c, c25d⟩ := mbox HBB.out
  go_wp2_with fail
  clear c24a c24b c24c c24d c25a c25b c25c c25d
  refine (HSM2.out _).mono ?_
  rintro e v23 ⟨rfl, hb⟩
  have hcb : Below v22.heap.size v22 v23 := below_call (Below.refl _ v22) hb
  have HT := Lib.hid (HT.out.next hcb)
  have HW := Lib.hid (below_call HW.out hcb)
  have HBA := Lib.hid (HBA.out.below hcb HBA.out.lt)
  have HBB := Lib.hid (HBB.out.below hcb HBB.out.lt)
  clear hb hcb
  obtain ⟨c27a, c27b, c27c, c27d⟩ := mbox HBA.out
  obtain ⟨c28a, c28b, c28c, c28d⟩ := mbox HBB.out
  go_wp2_with fail
  clear c27a c27b c27c c27d c28a c28b c28c c28d
  refine (HVL.out _ HW.out).mono ?_
  rintro e v26 ⟨rfl, hb⟩
  have hcb : Below v23.heap.size v23 v26 := below_call (Below.refl _ v23) hb
  have HT := Lib.hid (HT.out.next hcb)
  have HW := Lib.hid (below_call HW.out hcb)
  have HBA := Lib.hid (HBA.out.below hcb HBA.out.lt)
  have HBB := Lib.hid (HBB.out.below hcb HBB.out.lt)
  clear hb hcb
  obtain ⟨c30a, c30b, c30c, c30d⟩ := mbox HBA.out
  obtain ⟨c31a, c31b, c31c, c31d⟩ := mbox HBB.out
  go_wp2_with fail
  clear c30a c30b c30c c30d c31a c31b c31c c31d
  refine (HRK.out _ HW.out).mono ?_
  rintro e v29 ⟨rfl, hb⟩
  have hcb : Below v26.heap.size v26 v29 := below_call (Below.refl _ v26) hb
  have HT := Lib.hid (HT.out.next hcb)
  have HW := Lib.hid (below_call HW.out hcb)
  have HBA := Lib.hid (HBA.out.below hcb HBA.out.lt)
  have HBB := Lib.hid (HBB.out.below hcb HBB.out.lt)
  clear hb hcb
  obtain ⟨c33a, c33b, c33c, c33d⟩ := mbox HBA.out
  obtain ⟨c34a, c34b, c34c, c34d⟩ := mbox HBB.out
  go_wp2_with fail
  clear c33a c33b c33c c33d c34a c34b c34c c34d
  refine (HTR.out _ HW.out).mono ?_
  rintro e v32 ⟨gt, rfl, hgt, hct, hb⟩
  have hcb : Below v29.heap.size v29 v32 := below_call (Below.refl _ v29) hb
  have HT := Lib.hid (HT.out.next hcb)
  have HW := Lib.hid (below_call HW.out hcb)
  have HBA := Lib.hid (HBA.out.below hcb HBA.out.lt)
  have HBB := Lib.hid (HBB.out.below hcb HBB.out.lt)
  have HCT := Lib.hid hct
  clear hct
  clear hb hcb
  obtain ⟨c36a, c36b, c36c, c36d⟩ := mbox HBA.out
  have c36l := HBA.out.lt
  obtain ⟨c37a, c37b, c37c, c37d⟩ := mbox HBB.out
  have c37l := HBB.out.lt
  go_wp2_with fail
  clear c36a c36b c36c c36d c36l c37a c37b c37c c37d c37l
  refine (HIND.out _ (HW.out.alloc (by first | exact HW.out.size | (have h9 := HW.out.size; simp <;> omega)) _)).mono ?_
  rintro e v35 ⟨ql, kl, rfl, hrl, hb⟩
  have hcb : Below v32.heap.size v32 v35 := below_call ((Below.refl _ v32).alloc (Nat.le_refl _) _) hb
  have HT := Lib.hid (HT.out.next hcb)
  have HW := Lib.hid (below_call HW.out hcb)
  have HBA := Lib.hid (HBA.out.below hcb HBA.out.lt)
  have HBB := Lib.hid (HBB.out.below hcb HBB.out.lt)
  have HCT := Lib.hid (HCT.out.below hcb HCT.out.lt)
  have HBT := Lib.hid ((show Row (v32.alloc (.cells (matC m c r (some ⟨gt, 0, none⟩) Nt Nt) 24)) (v32.heap.size) 24 (matC m c r (some ⟨gt, 0, none⟩) Nt Nt) from Row.made _ _ (by simp)).below hb (by simp <;> omega))
  have HRL := Lib.hid hrl
  clear hrl
  clear hb hcb
  obtain ⟨c39a, c39b, c39c, c39d⟩ := mbox HBA.out
  obtain ⟨c40a, c40b, c40c, c40d⟩ := mbox HBB.out
  obtain ⟨c41a, c41b, c41c, c41d⟩ := mbox HBT.out
  go_wp2_with fail
  clear c39a c39b c39c c39d c40a c40b c40c c40d c41a c41b c41c c41d
  refine (HPK.out _ HW.out ql kl HRL.out).mono ?_
  rintro e v38 ⟨qp, kp, rfl, hop, hb⟩
  have hcb : Below v35.heap.size v35 v38 := below_call (Below.refl _ v35) hb
  have HT := Lib.hid (HT.out.next hcb)
  have HW := Lib.hid (below_call HW.out hcb)
  have HBA := Lib.hid (HBA.out.below hcb HBA.out.lt)
  have HBB := Lib.hid (HBB.out.below hcb HBB.out.lt)
  have HCT := Lib.hid (HCT.out.below hcb HCT.out.lt)
  have HBT := Lib.hid (HBT.out.below hcb HBT.out.lt)
  have HRL := Lib.hid ((HRL.out.below hcb).more hcb.size)
  have HOP := Lib.hid hop
  clear hop
  clear hb hcb
  obtain ⟨c43a, c43b, c43c, c43d⟩ := mbox HBA.out
  have c43l := HBA.out.lt
  obtain ⟨c44a, c44b, c44c, c44d⟩ := mbox HBB.out
  have c44l := HBB.out.lt
  obtain ⟨c45a, c45b, c45c, c45d⟩ := mbox HBT.out
  have c45l := HBT.out.lt
  go_wp2_with fail
  clear c43a c43b c43c c43d c43l c44a c44b c44c c44d c44l c45a c45b c45c c45d c45l
  refine (HRT.out _ (HT.out.next ((Below.refl _ v38).alloc (Nat.le_refl _) _)) gt (HCT.out.alloc _)).mono ?_
  rintro e v42 ⟨rfl, hb⟩
  have hcb : Below v38.heap.size v38 v42 := below_call ((Below.refl _ v38).alloc (Nat.le_refl _) _) hb
  have HT := Lib.hid (HT.out.next hcb)
  have HW := Lib.hid (below_call HW.out hcb)
  have HBA := Lib.hid (HBA.out.below hcb HBA.out.lt)
  have HBB := Lib.hid (HBB.out.below hcb HBB.out.lt)
  have HCT := Lib.hid (HCT.out.below hcb HCT.out.lt)
  have HBT := Lib.hid (HBT.out.below hcb HBT.out.lt)
  have HRL := Lib.hid ((HRL.out.below hcb).more hcb.size)
  have HOP := Lib.hid (HOP.out.below hcb)
  have HBP := Lib.hid ((show Row (v38.alloc (.cells (matC m R c qp Np kp) 24)) (v38.heap.size) 24 (matC m R c qp Np kp) from Row.made _ _ (by simp)).below hb (by simp <;> omega))
  clear hb hcb
  obtain ⟨c47a, c47b, c47c, c47d⟩ := mbox HBA.out
  obtain ⟨c48a, c48b, c48c, c48d⟩ := mbox HBB.out
  obtain ⟨c49a, c49b, c49c, c49d⟩ := mbox HBT.out
  obtain ⟨c50a, c50b, c50c, c50d⟩ := mbox HBP.out
  go_wp2_with fail
  clear c47a c47b c47c c47d c48a c48b c48c c48d c49a c49b c49c c49d c50a c50b c50c c50d
  refine (HRP.out _ HT.out qp kp _ HOP.out).mono ?_
  rintro e v46 ⟨rfl, hb⟩
  have hcb : Below v42.heap.size v42 v46 := below_call (Below.refl _ v42) hb
  have HT := Lib.hid (HT.out.next hcb)
  have HW := Lib.hid (below_call HW.out hcb)
  have HBA := Lib.hid (HBA.out.below hcb HBA.out.lt)
  have HBB := Lib.hid (HBB.out.below hcb HBB.out.lt)
  have HCT := Lib.hid (HCT.out.below hcb HCT.out.lt)
  have HBT := Lib.hid (HBT.out.below hcb HBT.out.lt)
  have HRL := Lib.hid ((HRL.out.below hcb).more hcb.size)
  have HOP := Lib.hid (HOP.out.below hcb)
  have HBP := Lib.hid (HBP.out.below hcb HBP.out.lt)
  clear hb hcb
  obtain ⟨c52a, c52b, c52c, c52d⟩ := mbox HBA.out
  obtain ⟨c53a, c53b, c53c, c53d⟩ := mbox HBB.out
  obtain ⟨c54a, c54b, c54c, c54d⟩ := mbox HBT.out
  obtain ⟨c55a, c55b, c55c, c55d⟩ := mbox HBP.out
  go_wp2_with fail
  clear c52a c52b c52c c52d c53a c53b c53c c53d c54a c54b c54c c54d c55a c55b c55c c55d
  refine (HMU.out _ HW.out).mono ?_
  rintro e v51 ⟨rfl, hb⟩
  have hcb : Below v46.heap.size v46 v51 := below_call (Below.refl _ v46) hb
  have HT := Lib.hid (HT.out.next hcb)
  have HW := Lib.hid (below_call HW.out hcb)
  have HBA := Lib.hid (HBA.out.below hcb HBA.out.lt)
  have HBB := Lib.hid (HBB.out.below hcb HBB.out.lt)
  have HCT := Lib.hid (HCT.out.below hcb HCT.out.lt)
  have HBT := Lib.hid (HBT.out.below hcb HBT.out.lt)
  have HRL := Lib.hid ((HRL.out.below hcb).more hcb.size)
  have HOP := Lib.hid (HOP.out.below hcb)
  have HBP := Lib.hid (HBP.out.below hcb HBP.out.lt)
  clear hb hcb
  obtain ⟨c57a, c57b, c57c, c57d⟩ := mbox HBA.out
  have c57l := HBA.out.lt
  obtain ⟨c58a, c58b, c58c, c58d⟩ := mbox HBB.out
  have c58l := HBB.out.lt
  obtain ⟨c59a, c59b, c59c, c59d⟩ := mbox HBT.out
  have c59l := HBT.out.lt
  obtain ⟨c60a, c60b, c60c, c60d⟩ := mbox HBP.out
  have c60l := HBP.out.lt
  go_wp2_with fail
  clear c57a c57b c57c c57d c57l c58a c58b c58c c58d c58l c59a c59b c59c c59d c59l c60a c60b c60c c60d c60l
  refine (sanity6_any _ (HT.out.next ((Below.refl _ v51).alloc (Nat.le_refl _) _))).mono ?_
  rintro e v56 ⟨rfl, hb⟩
  have hcb : Below v51.heap.size v51 v56 := below_call ((Below.refl _ v51).alloc (Nat.le_refl _) _) hb
  have HT := Lib.hid (HT.out.next hcb)
  have HW := Lib.hid (below_call HW.out hcb)
  have HBA := Lib.hid (HBA.out.below hcb HBA.out.lt)
  have HBB := Lib.hid (HBB.out.below hcb HBB.out.lt)
  have HCT := Lib.hid (HCT.out.below hcb HCT.out.lt)
  have HBT := Lib.hid (HBT.out.below hcb HBT.out.lt)
  have HRL := Lib.hid ((HRL.out.below hcb).more hcb.size)
  have HOP := Lib.hid (HOP.out.below hcb)
  have HBP := Lib.hid (HBP.out.below hcb HBP.out.lt)
  clear hb hcb
  go_wp2
  go_ret
  exact ⟨rfl, HW.out⟩
set_option maxRecDepth 100000 in
set_option maxHeartbeats 12800000 in
theorem ranks_4 {m r c l : Nat} {A B : Nat → Nat → Nat} (qa : Option Addr) (ka : Nat) (qb : Option Addr) (kb : Nat) (w : World) (ht : Tab w) (hA : MatR w w.heap.size m r c qa ka A) (hc : c ≤ 32) (hB : MatR w w.heap.size m c l qb kb B) (hl : l ≤ 32)
    (hs1 : smallB r c (r * c) = true) (hs2 : smallB c l (c * l) = true) :
    Calls Tryd.prog 8 #[matV m r c qa (r * c) ka, matV m c l qb (c * l) kb] w fun e w' => e = .returned (.bool true) ∧ Below w.heap.size w w' := by
  have HT := Lib.hid ht
  have HW := Lib.hid (Below.refl w.heap.size w)
  have hp := ht.lt
  have hr := hA.hr
  have HSM1 := Lib.hid (fun W => small_any m r c qa (r * c) ka W)
  have HSM2 := Lib.hid (fun W => small_any m c l qb (c * l) kb W)
  rw [hs1] at HSM1
  rw [hs2] at HSM2
  have hrt := Mat.rk_tr hA.hm hA.ok
  have hrr := Mat.rk_rows hA.hm hA.ok (pick A (natsL (Mat.red m c (Mat.tr A) r).2)) (fun t y q h => pick_nats h)
  have hrf := Mat.red_facts hA.hm (Mat.tr_ok hA.ok) r (Nat.le_refl _)
  unfold Mat.rk at hrt hrr
  have HVL := Lib.hid (fun (W : World) (hb : Below w.heap.size w W) => rvalid_yes hA hc W hb hb.size)
  have HRK := Lib.hid (fun (W : World) (hb : Below w.heap.size w W) => rank_yes qa W (ht.next hb) ((hA.below hb).more hb.size) hc)
  have HTR := Lib.hid (fun (W : World) (hb : Below w.heap.size w W) => transp_yes qa ka W ((hA.below hb).more hb.size) hc)
  have HIND := Lib.hid (fun (W : World) (hb : Below w.heap.size w W) => show Calls Tryd.prog 33 #[matV m r c qa (r * c) ka] W fun e w' => ∃ q k, e = .returned (.slice q (Mat.red m c (Mat.tr A) r).2.length k) ∧ Rd w' w'.heap.size q (ints (natsL (Mat.red m c (Mat.tr A) r).2)) ∧ Below W.heap.size W w' from (indep_yes qa W (ht.next hb) ((hA.below hb).more hb.size) hc).mono (by
    rintro e w' ⟨⟨q, k, rfl, _, _, _, h⟩, hb⟩
    exact ⟨q, k, rfl, h, hb⟩))
  have hbad := badRow_nats (r := r) (pv := (Mat.red m c (Mat.tr A) r).2) hrf.2.2.1
  have HPK := Lib.hid (fun (W : World) (hb : Below w.heap.size w W) (q : Option Addr) (k : Nat) (hrd : Rd W W.heap.size q (ints (natsL (Mat.red m c (Mat.tr A) r).2))) => show Calls Tryd.prog 25 #[matV m r c qa (r * c) ka, .slice q (Mat.red m c (Mat.tr A) r).2.length k] W fun e w' => ∃ q' k', e = .returned (outV (matV m (Mat.red m c (Mat.tr A) r).2.length c q' ((Mat.red m c (Mat.tr A) r).2.length * c) k') 0) ∧ Own w' W.heap.size 3 q' ((Mat.red m c (Mat.tr A) r).2.length * c) k' (ints (cellsL (Mat.red m c (Mat.tr A) r).2.length c (pick A (natsL (Mat.red m c (Mat.tr A) r).2)))) ∧ Below W.heap.size W w' from (pick_yes qa q _ k _ W ((hA.below hb).more hb.size) hc (by have := hrf.2.2.2; omega) (by simp [natsL]) hrd).mono (by
    rintro e w' ⟨⟨h, _⟩ | ⟨_, q', k', rfl, ho⟩, hb⟩
    · rw [hbad] at h; cases h
    · exact ⟨q', k', rfl, ho, hb⟩))
  have HRT := Lib.hid (fun (W : World) (ht2 : Tab W) (g : Nat) (hc1 : Cells W g (c * r) (Mat.flat r (Mat.tr A))) => rank_yes (some ⟨g, 0, none⟩) W ht2 (MatR.of_cells hc1 hc1.lt hA.hm hc (by omega) (Mat.tr_ok hA.ok)) hr)
  have opk : Mat.Ok m (Mat.red m c (Mat.tr A) r).2.length c (pick A (natsL (Mat.red m c (Mat.tr A) r).2)) := pick_ok hA.ok hbad (by simp [natsL])
  have HRP := Lib.hid (fun (W : World) (ht2 : Tab W) (q : Option Addr) (k B9 : Nat) (ho : Own W B9 3 q ((Mat.red m c (Mat.tr A) r).2.length * c) k (ints (cellsL (Mat.red m c (Mat.tr A) r).2.length c (pick A (natsL (Mat.red m c (Mat.tr A) r).2))))) => rank_yes q W ht2 (own_matR ho hA.hm (by have := hrf.2.2.2; omega) (by omega) opk) hc)
  rw [hrt] at HIND HPK HRP HRT
  rw [hrr] at HRP
  have HMU := Lib.hid (fun (W : World) (hb : Below w.heap.size w W) (ht2 : Tab W) => mul_yes qa ka qb kb W ht2 ((hA.below hb).more hb.size) ((hB.below hb).more hb.size) hc hl)
  have HRB := Lib.hid (fun (W : World) (hb : Below w.heap.size w W) => rank_yes qb W (ht.next hb) ((hB.below hb).more hb.size) hl)
  have HRQ := Lib.hid (fun (W : World) (ht2 : Tab W) (g : Nat) (hc1 : Cells W g (r * l) (Mat.flat l (Mat.prod m c A B))) => rank_yes (some ⟨g, 0, none⟩) W ht2 (MatR.of_cells hc1 hc1.lt hA.hm hA.hr (by omega) (Mat.prod_ok hA.hm hA.ok)) hl)
  have hle1 := Mat.rk_prod_left hA.hm hA.ok hB.ok
  have hle2 := Mat.rk_prod_right hA.hm hA.ok hB.ok
  unfold Mat.rk at hle1 hle2
  obtain ⟨R2, hR2⟩ : ∃ R, (Mat.red m r (Mat.prod m c A B) l).2.length = R := ⟨_, rfl⟩
  obtain ⟨R3, hR3⟩ : ∃ R, (Mat.red m c B l).2.length = R := ⟨_, rfl⟩
  rw [hR2] at HRQ hle1 hle2
  rw [hR3] at HRB hle2
  obtain ⟨R, hR⟩ : ∃ R, (Mat.red m r A c).2.length = R := ⟨_, rfl⟩
  rw [hR] at HRK HIND HPK HRP HRT hle1
  generalize pick A (natsL (Mat.red m c (Mat.tr A) r).2) = PK at HPK HRP
  generalize (Mat.red m c (Mat.tr A) r).2 = pv at HIND HPK
  obtain ⟨Na, hNa⟩ : ∃ N, r * c = N := ⟨_, rfl⟩
  obtain ⟨Nt, hNt⟩ : ∃ N, c * r = N := ⟨_, rfl⟩
  obtain ⟨Np, hNp⟩ : ∃ N, R * c = N := ⟨_, rfl⟩
  rw [hNa] at HSM1 HVL HRK HTR HIND HPK HMU ⊢
  rw [hNt] at HTR HRT
  rw [hNp] at HPK HRP
  have HD1 := Lib.hid (show decide (R2 ≤ R) = true from decide_eq_true hle1)
  have HD2 := Lib.hid (show decide (R2 ≤ R3) = true from decide_eq_true hle2)
  have hd1 : decide ((R2 : Int) ≤ R) = true := decide_eq_true (by omega)
  have hd2 : decide ((R2 : Int) ≤ R3) = true := decide_eq_true (by omega)
  have hd3 : decide (R2 ≤ R) = true := decide_eq_true hle1
  obtain ⟨Nb, hNb⟩ : ∃ N, c * l = N := ⟨_, rfl⟩
  obtain ⟨Nq, hNq⟩ : ∃ N, r * l = N := ⟨_, rfl⟩
  rw [hNb] at HSM2 HMU HRB ⊢
  rw [hNq] at HMU HRQ
  unfold matV at HSM1 HSM2 HVL HRK HTR HIND HPK HRT HRP HMU HRB HRQ ⊢
  clear ht hA hB hs1 hs2 hrt hrr hrf hbad opk hNa hNt hNp hR hR2 hR3 hNb hNq hle1 hle2
  go_enter Tryd.func8, Tryd.ntmps8
  go_wp2_with fail
  refine (HSM1.out _).mono ?_
  rintro e v61 ⟨rfl, hb⟩
  have hcb : Below w.heap.size w v61 := below_call (((Below.refl _ w).alloc (Nat.le_refl _) _).alloc (by simp) _) hb
  have HT := Lib.hid (HT.out.next hcb)
  have HW := Lib.hid (below_call HW.out hcb)
  have HBA := Lib.hid (((show Row (w.alloc (.cells (matC m r c qa Na ka) 24)) (w.heap.size) 24 (matC m r c qa Na ka) from Row.made _ _ (by simp)).alloc _).below hb (by simp <;> omega))
  have HBB := Lib.hid ((show Row ((w.alloc (.cells (matC m r c qa Na ka) 24)).alloc (.cells (matC m c l qb Nb kb) 24)) (w.heap.size + 1) 24 (matC m c l qb Nb kb) from Row.made _ _ (by simp)).below hb (by simp <;> omega))
  clear hb hcb
  obtain ⟨c63a, c63b, c63c, c63d⟩ := mbox HBA.out
  obtain ⟨c64a, c64b, c64c, c64d⟩ := mbox HBB.out
  go_wp2_with fail
  clear c63a c63b c63c c63d c64a c64b c64c c64d
  refine (HSM2.out _).mono ?_
  rintro e v62 ⟨rfl, hb⟩
  have hcb : Below v61.heap.size v61 v62 := below_call (Below.refl _ v61) hb
  have HT := Lib.hid (HT.out.next hcb)
  have HW := Lib.hid (below_call HW.out hcb)
  have HBA := Lib.hid (HBA.out.below hcb HBA.out.lt)
  have HBB := Lib.hid (HBB.out.below hcb HBB.out.lt)
  clear hb hcb
  obtain ⟨c66a, c66b, c66c, c66d⟩ := mbox HBA.out
  obtain ⟨c67a, c67b, c67c, c67d⟩ := mbox HBB.out
  go_wp2_with fail
  clear c66a c66b c66c c66d c67a c67b c67c c67d
  refine (HVL.out _ HW.out).mono ?_
  rintro e v65 ⟨rfl, hb⟩
  have hcb : Below v62.heap.size v62 v65 := below_call (Below.refl _ v62) hb
  have HT := Lib.hid (HT.out.next hcb)
  have HW := Lib.hid (below_call HW.out hcb)
  have HBA := Lib.hid (HBA.out.below hcb HBA.out.lt)
  have HBB := Lib.hid (HBB.out.below hcb HBB.out.lt)
  clear hb hcb
  obtain ⟨c69a, c69b, c69c, c69d⟩ := mbox HBA.out
  obtain ⟨c70a, c70b, c70c, c70d⟩ := mbox HBB.out
  go_wp2_with fail
  clear c69a c69b c69c c69d c70a c70b c70c c70d
  refine (HRK.out _ HW.out).mono ?_
  rintro e v68 ⟨rfl, hb⟩
  have hcb : Below v65.heap.size v65 v68 := below_call (Below.refl _ v65) hb
  have HT := Lib.hid (HT.out.next hcb)
  have HW := Lib.hid (below_call HW.out hcb)
  have HBA := Lib.hid (HBA.out.below hcb HBA.out.lt)
  have HBB := Lib.hid (HBB.out.below hcb HBB.out.lt)
  clear hb hcb
  obtain ⟨c72a, c72b, c72c, c72d⟩ := mbox HBA.out
  obtain ⟨c73a, c73b, c73c, c73d⟩ := mbox HBB.out
  go_wp2_with fail
  clear c72a c72b c72c c72d c73a c73b c73c c73d
  refine (HTR.out _ HW.out).mono ?_
  rintro e v71 ⟨gt, rfl, hgt, hct, hb⟩
  have hcb : Below v68.heap.size v68 v71 := below_call (Below.refl _ v68) hb
  have HT := Lib.hid (HT.out.next hcb)
  have HW := Lib.hid (below_call HW.out hcb)
  have HBA := Lib.hid (HBA.out.below hcb HBA.out.lt)
  have HBB := Lib.hid (HBB.out.below hcb HBB.out.lt)
  have HCT := Lib.hid hct
  clear hct
  clear hb hcb
  obtain ⟨c75a, c75b, c75c, c75d⟩ := mbox HBA.out
  have c75l := HBA.out.lt
  obtain ⟨c76a, c76b, c76c, c76d⟩ := mbox HBB.out
  have c76l := HBB.out.lt
  go_wp2_with fail
  clear c75a c75b c75c c75d c75l c76a c76b c76c c76d c76l
  refine (HIND.out _ (HW.out.alloc (by first | exact HW.out.size | (have h9 := HW.out.size; simp <;> omega)) _)).mono ?_
  rintro e v74 ⟨ql, kl, rfl, hrl, hb⟩
  have hcb : Below v71.heap.size v71 v74 := below_call ((Below.refl _ v71).alloc (Nat.le_refl _) _) hb
  have HT := Lib.hid (HT.out.next hcb)
  have HW := Lib.hid (below_call HW.out hcb)
  have HBA := Lib.hid (HBA.out.below hcb HBA.out.lt)
  have HBB := Lib.hid (HBB.out.below hcb HBB.out.lt)
  have HCT := Lib.hid (HCT.out.below hcb HCT.out.lt)
  have HBT := Lib.hid ((show Row (v71.alloc (.cells (matC m c r (some ⟨gt, 0, none⟩) Nt Nt) 24)) (v71.heap.size) 24 (matC m c r (some ⟨gt, 0, none⟩) Nt Nt) from Row.made _ _ (by simp)).below hb (by simp <;> omega))
  have HRL := Lib.hid hrl
  clear hrl
  clear hb hcb
  obtain ⟨c78a, c78b, c78c, c78d⟩ := mbox HBA.out
  obtain ⟨c79a, c79b, c79c, c79d⟩ := mbox HBB.out
  obtain ⟨c80a, c80b, c80c, c80d⟩ := mbox HBT.out
  go_wp2_with fail
  clear c78a c78b c78c c78d c79a c79b c79c c79d c80a c80b c80c c80d
  refine (HPK.out _ HW.out ql kl HRL.out).mono ?_
  rintro e v77 ⟨qp, kp, rfl, hop, hb⟩
  have hcb : Below v74.heap.size v74 v77 := below_call (Below.refl _ v74) hb
  have HT := Lib.hid (HT.out.next hcb)
  have HW := Lib.hid (below_call HW.out hcb)
  have HBA := Lib.hid (HBA.out.below hcb HBA.out.lt)
  have HBB := Lib.hid (HBB.out.below hcb HBB.out.lt)
  have HCT := Lib.hid (HCT.out.below hcb HCT.out.lt)
  have HBT := Lib.hid (HBT.out.below hcb HBT.out.lt)
  have HRL := Lib.hid ((HRL.out.below hcb).more hcb.size)
  have HOP := Lib.hid hop
  clear hop
  clear hb hcb
  obtain ⟨c82a, c82b, c82c, c82d⟩ := mbox HBA.out
  have c82l := HBA.out.lt
  obtain ⟨c83a, c83b, c83c, c83d⟩ := mbox HBB.out
  have c83l := HBB.out.lt
  obtain ⟨c84a, c84b, c84c, c84d⟩ := mbox HBT.out
  have c84l := HBT.out.lt
  go_wp2_with fail
  clear c82a c82b c82c c82d c82l c83a c83b c83c c83d c83l c84a c84b c84c c84d c84l
  refine (HRT.out _ (HT.out.next ((Below.refl _ v77).alloc (Nat.le_refl _) _)) gt (HCT.out.alloc _)).mono ?_
  rintro e v81 ⟨rfl, hb⟩
  have hcb : Below v77.heap.size v77 v81 := below_call ((Below.refl _ v77).alloc (Nat.le_refl _) _) hb
  have HT := Lib.hid (HT.out.next hcb)
  have HW := Lib.hid (below_call HW.out hcb)
  have HBA := Lib.hid (HBA.out.below hcb HBA.out.lt)
  have HBB := Lib.hid (HBB.out.below hcb HBB.out.lt)
  have HCT := Lib.hid (HCT.out.below hcb HCT.out.lt)
  have HBT := Lib.hid (HBT.out.below hcb HBT.out.lt)
  have HRL := Lib.hid ((HRL.out.below hcb).more hcb.size)
  have HOP := Lib.hid (HOP.out.below hcb)
  have HBP := Lib.hid ((show Row (v77.alloc (.cells (matC m R c qp Np kp) 24)) (v77.heap.size) 24 (matC m R c qp Np kp) from Row.made _ _ (by simp)).below hb (by simp <;> omega))
  clear hb hcb
  obtain ⟨c86a, c86b, c86c, c86d⟩ := mbox HBA.out
  obtain ⟨c87a, c87b, c87c, c87d⟩ := mbox HBB.out
  obtain ⟨c88a, c88b, c88c, c88d⟩ := mbox HBT.out
  obtain ⟨c89a, c89b, c89c, c89d⟩ := mbox HBP.out
  go_wp2_with fail
  clear c86a c86b c86c c86d c87a c87b c87c c87d c88a c88b c88c c88d c89a c89b c89c c89d
  refine (HRP.out _ HT.out qp kp _ HOP.out).mono ?_
  rintro e v85 ⟨rfl, hb⟩
  have hcb : Below v81.heap.size v81 v85 := below_call (Below.refl _ v81) hb
  have HT := Lib.hid (HT.out.next hcb)
  have HW := Lib.hid (below_call HW.out hcb)
  have HBA := Lib.hid (HBA.out.below hcb HBA.out.lt)
  have HBB := Lib.hid (HBB.out.below hcb HBB.out.lt)
  have HCT := Lib.hid (HCT.out.below hcb HCT.out.lt)
  have HBT := Lib.hid (HBT.out.below hcb HBT.out.lt)
  have HRL := Lib.hid ((HRL.out.below hcb).more hcb.size)
  have HOP := Lib.hid (HOP.out.below hcb)
  have HBP := Lib.hid (HBP.out.below hcb HBP.out.lt)
  clear hb hcb
  obtain ⟨c91a, c91b, c91c, c91d⟩ := mbox HBA.out
  obtain ⟨c92a, c92b, c92c, c92d⟩ := mbox HBB.out
  obtain ⟨c93a, c93b, c93c, c93d⟩ := mbox HBT.out
  obtain ⟨c94a, c94b, c94c, c94d⟩ := mbox HBP.out
  go_wp2_with fail
  clear c91a c91b c91c c91d c92a c92b c92c c92d c93a c93b c93c c93d c94a c94b c94c c94d
  refine (HMU.out _ HW.out HT.out).mono ?_
  rintro e v90 ⟨gq, rfl, hgq, hcq, hb⟩
  have hcb : Below v85.heap.size v85 v90 := below_call (Below.refl _ v85) hb
  have HT := Lib.hid (HT.out.next hcb)
  have HW := Lib.hid (below_call HW.out hcb)
  have HBA := Lib.hid (HBA.out.below hcb HBA.out.lt)
  have HBB := Lib.hid (HBB.out.below hcb HBB.out.lt)
  have HCT := Lib.hid (HCT.out.below hcb HCT.out.lt)
  have HBT := Lib.hid (HBT.out.below hcb HBT.out.lt)
  have HRL := Lib.hid ((HRL.out.below hcb).more hcb.size)
  have HOP := Lib.hid (HOP.out.below hcb)
  have HBP := Lib.hid (HBP.out.below hcb HBP.out.lt)
  have HCQ := Lib.hid hcq
  clear hcq
  clear hb hcb
  obtain ⟨c96a, c96b, c96c, c96d⟩ := mbox HBA.out
  have c96l := HBA.out.lt
  obtain ⟨c97a, c97b, c97c, c97d⟩ := mbox HBB.out
  have c97l := HBB.out.lt
  obtain ⟨c98a, c98b, c98c, c98d⟩ := mbox HBT.out
  have c98l := HBT.out.lt
  obtain ⟨c99a, c99b, c99c, c99d⟩ := mbox HBP.out
  have c99l := HBP.out.lt
  go_wp2_with fail
  clear c96a c96b c96c c96d c96l c97a c97b c97c c97d c97l c98a c98b c98c c98d c98l c99a c99b c99c c99d c99l
  refine (HRQ.out _ (HT.out.next ((Below.refl _ v90).alloc (Nat.le_refl _) _)) gq (HCQ.out.alloc _)).mono ?_
  rintro e v95 ⟨rfl, hb⟩
  have hcb : Below v90.heap.size v90 v95 := below_call ((Below.refl _ v90).alloc (Nat.le_refl _) _) hb
  have HT := Lib.hid (HT.out.next hcb)
  have HW := Lib.hid (below_call HW.out hcb)
  have HBA := Lib.hid (HBA.out.below hcb HBA.out.lt)
  have HBB := Lib.hid (HBB.out.below hcb HBB.out.lt)
  have HCT := Lib.hid (HCT.out.below hcb HCT.out.lt)
  have HBT := Lib.hid (HBT.out.below hcb HBT.out.lt)
  have HRL := Lib.hid ((HRL.out.below hcb).more hcb.size)
  have HOP := Lib.hid (HOP.out.below hcb)
  have HBP := Lib.hid (HBP.out.below hcb HBP.out.lt)
  have HCQ := Lib.hid (HCQ.out.below hcb HCQ.out.lt)
  have HBQ := Lib.hid ((show Row (v90.alloc (.cells (matC m r l (some ⟨gq, 0, none⟩) Nq Nq) 24)) (v90.heap.size) 24 (matC m r l (some ⟨gq, 0, none⟩) Nq Nq) from Row.made _ _ (by simp)).below hb (by simp <;> omega))
  clear hb hcb
  obtain ⟨c101a, c101b, c101c, c101d⟩ := mbox HBA.out
  obtain ⟨c102a, c102b, c102c, c102d⟩ := mbox HBB.out
  obtain ⟨c103a, c103b, c103c, c103d⟩ := mbox HBT.out
  obtain ⟨c104a, c104b, c104c, c104d⟩ := mbox HBP.out
  obtain ⟨c105a, c105b, c105c, c105d⟩ := mbox HBQ.out
  go_wp2_with fail
  clear c101a c101b c101c c101d c102a c102b c102c c102d c103a c103b c103c c103d c104a c104b c104c c104d c105a c105b c105c c105d
  refine (sanity6_any _ HT.out).mono ?_
  rintro e v100 ⟨rfl, hb⟩
  have hcb : Below v95.heap.size v95 v100 := below_call (Below.refl _ v95) hb
  have HT := Lib.hid (HT.out.next hcb)
  have HW := Lib.hid (below_call HW.out hcb)
  have HBA := Lib.hid (HBA.out.below hcb HBA.out.lt)
  have HBB := Lib.hid (HBB.out.below hcb HBB.out.lt)
  have HCT := Lib.hid (HCT.out.below hcb HCT.out.lt)
  have HBT := Lib.hid (HBT.out.below hcb HBT.out.lt)
  have HRL := Lib.hid ((HRL.out.below hcb).more hcb.size)
  have HOP := Lib.hid (HOP.out.below hcb)
  have HBP := Lib.hid (HBP.out.below hcb HBP.out.lt)
  have HCQ := Lib.hid (HCQ.out.below hcb HCQ.out.lt)
  have HBQ := Lib.hid (HBQ.out.below hcb HBQ.out.lt)
  clear hb hcb
  obtain ⟨c107a, c107b, c107c, c107d⟩ := mbox HBA.out
  obtain ⟨c108a, c108b, c108c, c108d⟩ := mbox HBB.out
  obtain ⟨c109a, c109b, c109c, c109d⟩ := mbox HBT.out
  obtain ⟨c110a, c110b, c110c, c110d⟩ := mbox HBP.out
  obtain ⟨c111a, c111b, c111c, c111d⟩ := mbox HBQ.out
  go_wp2_with fail
  clear c107a c107b c107c c107d c108a c108b c108c c108d c109a c109b c109c c109d c110a c110b c110c c110d c111a c111b c111c c111d
  refine (HRB.out _ HW.out).mono ?_
  rintro e v106 ⟨rfl, hb⟩
  have hcb : Below v100.heap.size v100 v106 := below_call (Below.refl _ v100) hb
  have HT := Lib.hid (HT.out.next hcb)
  have HW := Lib.hid (below_call HW.out hcb)
  have HBA := Lib.hid (HBA.out.below hcb HBA.out.lt)
  have HBB := Lib.hid (HBB.out.below hcb HBB.out.lt)
  have HCT := Lib.hid (HCT.out.below hcb HCT.out.lt)
  have HBT := Lib.hid (HBT.out.below hcb HBT.out.lt)
  have HRL := Lib.hid ((HRL.out.below hcb).more hcb.size)
  have HOP := Lib.hid (HOP.out.below hcb)
  have HBP := Lib.hid (HBP.out.below hcb HBP.out.lt)
  have HCQ := Lib.hid (HCQ.out.below hcb HCQ.out.lt)
  have HBQ := Lib.hid (HBQ.out.below hcb HBQ.out.lt)
  clear hb hcb
  go_wp2
  go_ret
  exact ⟨by first | rfl | exact ret_bool HD2.out | (simp only [HD1.out, HD2.out]; rfl), HW.out⟩
theorem walk_MatrixRanks (ma ra ca : Int) (qa : Option Addr) (na ka : Nat) (xs : List Int) (mb rb cb : Int) (qb : Option Addr) (nb kb : Nat) (ys : List Int) (w : World) (h1 : IntsIn w qa na ka xs) (h2 : IntsIn w qb nb kb ys) (ht : Tab w) :
    Calls Tryd.prog 8 #[matV ma ra ca qa na ka, matV mb rb cb qb nb kb] w fun e w' => e = .returned (.bool true) ∧ Below w.heap.size w w' := by
  cases hs1 : smallB ra ca na with
  | false => exact ranks_0 ma ra ca qa na ka xs mb rb cb qb nb kb w ht h1 hs1
  | true =>
    cases hs2 : smallB rb cb nb with
    | false => exact ranks_1 ma ra ca qa na ka xs mb rb cb qb nb kb w ht h1 hs1 hs2
    | true =>
      cases hv : okMat ma ra ca xs with
      | false => exact ranks_2 ma ra ca qa na ka xs mb rb cb qb nb kb w ht h1 hs1 hs2 hv
      | true =>
        cases hmul : (okMat ma ra ca xs && okMat mb rb cb ys && decide (ma = mb) && decide (ca = rb)) with
        | false =>
          have hno := no_mul h1 h2 hmul
          obtain ⟨m, r, c, A, rfl, rfl, rfl, rfl, hxs, hc, hA⟩ := matIn h1 hv
          exact ranks_3 qa ka mb rb cb qb nb kb w ht hA hc hs1 hs2 hno
        | true =>
          simp only [Bool.and_eq_true, decide_eq_true_eq] at hmul
          obtain ⟨⟨⟨hoa, hob⟩, e1⟩, e2⟩ := hmul
          obtain ⟨m, r, c, A, rfl, rfl, rfl, rfl, hxs, hc, hA⟩ := matIn h1 hoa
          obtain ⟨m2, c2, l, B, e3, e4, rfl, rfl, hys, hl, hB⟩ := matIn h2 hob
          obtain rfl : m = m2 := by omega
          obtain rfl : c = c2 := by omega
          subst e3; subst e4
          exact ranks_4 qa ka qb kb w ht hA hc hB hl hs1 hs2

/-! ### the frame: the arguments opened and shut -/
theorem contract_MatrixRanks (H : Type) (enc : TypeId × Value → H) (W : World) (base : Nat) (args : Array Value) (ds gs : List (DataW H)) (before : List MemPlace)
    (hval0 : ∀ (j : Nat) t v, Tryd.f8.params[j]? = some t → args[j]? = some v → Value.okWide Tryd.prog W .any base t v)
    (hW : DataW.Whole enc Tryd.prog Tryd.f8.params.toList Rows.matrixRanksSpec.vars false W args.toList ds gs before) (hL : laidMetH Tryd.prog Rows.matrixRanksRow.laid W) :
    Calls Tryd.prog 8 args W fun e W' => ∃ v, e = .returned v ∧ Rows.matrixRanksSpec.post enc Tryd.prog Tryd.f8 false true false false W args v W' := by
  have hval : ∀ (j : Nat) t v, Tryd.f8.params[j]? = some t → args[j]? = some v → Value.okWide Tryd.prog W .any base t v := hval0
  have hW' := hW
  obtain ⟨p, q, hA0, hV, rfl, hfz, hnd⟩ := hW
  have hA : DataW.TrodAll enc Tryd.prog W 0 (fun _ => true) true Tryd.f8.params.toList args.toList ds p := hA0
  rw [Tryd.params8] at hA hval
  obtain ⟨v0, vs0, d0, ds0, p0, q0, hargs, rfl, rfl, h0, r0⟩ := trodAll_cons hA
  obtain ⟨v1, vs1, d1, ds1, p1, q1, rfl, rfl, rfl, h1, r1⟩ := trodAll_cons r0
  obtain ⟨rfl, rfl, rfl⟩ := trodAll_nil r1
  obtain rfl : args = #[v0, v1] := by cases args; simp_all
  obtain ⟨rfl, rfl⟩ := trodVars_none hV
  have k0 := h0
  have lt0 : ∀ x ∈ p0, x.block < W.heap.size := by obtain ⟨m, hm⟩ := k0; exact DataW.trod_lt m _ _ _ hm
  have k1 := h1
  have lt1 : ∀ x ∈ p1, x.block < W.heap.size := by obtain ⟨m, hm⟩ := k1; exact DataW.trod_lt m _ _ _ hm
  obtain ⟨cs0, rfl, _⟩ := okWide_struct Tryd.underlying24 (hval 0 24 v0 rfl rfl)
  obtain ⟨fuel0, hf0⟩ := h0
  obtain ⟨mm0, mr0, mc0, ma0, mn0, mk0, mx0, hcs0, hin0⟩ := open_matrix hf0
  obtain rfl : cs0 = #[.int .i64 mm0, .int .i64 mr0, .int .i64 mc0, .slice ma0 mn0 mk0] := by apply Array.toList_inj.1; simpa [Value.cells] using hcs0
  obtain ⟨cs1, rfl, _⟩ := okWide_struct Tryd.underlying24 (hval 1 24 v1 rfl rfl)
  obtain ⟨fuel1, hf1⟩ := h1
  obtain ⟨mm1, mr1, mc1, ma1, mn1, mk1, mx1, hcs1, hin1⟩ := open_matrix hf1
  obtain rfl : cs1 = #[.int .i64 mm1, .int .i64 mr1, .int .i64 mc1, .slice ma1 mn1 mk1] := by apply Array.toList_inj.1; simpa [Value.cells] using hcs1
  refine (walk_MatrixRanks mm0 mr0 mc0 ma0 mn0 mk0 mx0 mm1 mr1 mc1 ma1 mn1 mk1 mx1 W hin0 hin1 (tab_of hL)).mono fun e W' ⟨he, bel⟩ => ?_
  subst he
  exact ⟨_, rfl, _, _, _, [], _, [], hW', trodAll_mk1 (shut_bool Tryd.underlying4 _), (trodAll_cons_mk (Below.trod laidOut (by kernel_rfl) (of_decide_eq_true (by kernel_rfl)) k0 bel lt0) (trodAll_cons_mk (Below.trod laidOut (by kernel_rfl) (of_decide_eq_true (by kernel_rfl)) k1 bel lt1) trodAll_mk0)), rfl, bel.frame _, fun h => by cases h⟩
theorem laid_MatrixRanks (os : Os) : laidMet Tryd.prog Rows.matrixRanksRow.laid ((laidWorld os).forCall (fun _ _ => 0) ⟨#[], #[.agg #[.int .i64 0, .int .i64 0, .int .i64 0, .slice none 0 0], .agg #[.int .i64 0, .int .i64 0, .int .i64 0, .slice none 0 0]], []⟩).memory :=
  laidMet_of_run' 8 (by kernel_rfl) (by kernel_rfl)
theorem reads_MatrixRanks (os : Os) {H : Type} (enc : TypeId × Value → H) : ∃ places, DataW.whole enc Tryd.prog ((laidWorld os).forCall (fun _ _ => 0) ⟨#[], #[.agg #[.int .i64 0, .int .i64 0, .int .i64 0, .slice none 0 0], .agg #[.int .i64 0, .int .i64 0, .int .i64 0, .slice none 0 0]], []⟩).memory Tryd.f8.params.toList Rows.matrixRanksSpec.vars false (#[.agg #[.int .i64 0, .int .i64 0, .int .i64 0, .slice none 0 0], .agg #[.int .i64 0, .int .i64 0, .int .i64 0, .slice none 0 0]] : Array Value).toList 8 = some ([.agg [.lit (.int .i64 0), .lit (.int .i64 0), .lit (.int .i64 0), .nil], .agg [.lit (.int .i64 0), .lit (.int .i64 0), .lit (.int .i64 0), .nil]], [], places) :=
  ⟨[], by kernel_rfl⟩
set_option maxRecDepth 100000 in
theorem lifted_MatrixRanks (os : Os) (started : os.Started) (H : Type) (enc : TypeId × Value → H) (F : Stop.Interp) :
    ReturnsInHanded {} Tryd.checked os 8 .any ((OpenSpec.ofChange Rows.matrixRanksSpec).preRow enc Tryd.prog Tryd.f8 Rows.matrixRanksRow.domain false Rows.matrixRanksRow.laid) (((OpenSpec.ofChange Rows.matrixRanksSpec).at F).post enc Tryd.prog Tryd.f8 false true false false) := by
  obtain ⟨places, hx⟩ := reads_MatrixRanks os enc
  refine returnsInHanded_of_row (C := Tryd.checked) (s := OpenSpec.ofChange Rows.matrixRanksSpec) own started (by kernel_rfl) Tryd.func8
    (witness_row_at (enc := enc) (C := Tryd.checked) false (laidWorld os) #[.agg #[.int .i64 0, .int .i64 0, .int .i64 0, .slice none 0 0], .agg #[.int .i64 0, .int .i64 0, .int .i64 0, .slice none 0 0]] rfl (by kernel_rfl) (by kernel_rfl) (by kernel_rfl)
      (OpenSpec.preRow_of_cond 8 hx (by kernel_rfl) (fun k hk => by cases hk) (by kernel_rfl) (laid_MatrixRanks os))) ?_
  intro W base args ds gs before hval hW _ hcond _ hL _ _
  exact contract_MatrixRanks H enc W base args ds gs before hval hW hL

theorem said_MatrixRanks : Rows.MatrixRanksSaid :=
  OpenClaim.holds_of_cond 8 Tryd.f8 rfl rfl rfl rfl rfl rfl rfl ⟨rfl, rfl, rfl, rfl, rfl⟩ rfl rfl rfl rfl rfl (by kernel_rfl) Tryd.func8 (by kernel_rfl)
    (of_decide_eq_true (by kernel_rfl)) (by unfold Func.isWrapper; first | (rw [if_pos (by decide +kernel)]; kernel_rfl) | (rw [if_neg (by decide +kernel)]; exact ⟨rfl, rfl⟩))
    (fun os started H enc _ F => by rw [OpenClaim.pre_eq_preRow]; exact lifted_MatrixRanks os started H enc F)
theorem plain_MatrixRanks (f : FuncId) (fn : Func) (hf : Tryd.pinned.checked.prog.funcNamed "solvent/solventlaw06.MatrixRanks" = some f) (hfn : Tryd.pinned.checked.prog.funcs[f]? = some fn) :
    false = Tryd.pinned.checked.prog.looks [] ∧ ∀ (j : Nat) t, fn.params[j]? = some t → Tryd.pinned.checked.prog.wantsStandIn t = false := by
  obtain rfl : f = 8 := Option.some.inj ((show Tryd.prog.funcNamed "solvent/solventlaw06.MatrixRanks" = some 8 by kernel_rfl).symm.trans hf) |>.symm
  obtain rfl : fn = Tryd.f8 := (Option.some.inj (Tryd.func8.symm.trans hfn)).symm
  refine ⟨by kernel_rfl, fun j t ht => ?_⟩
  rw [Tryd.params8] at ht
  have hm := Array.mem_of_getElem? ht
  simp only [List.mem_toArray, List.mem_cons, List.not_mem_nil, or_false, or_self] at hm
  subst hm
  exact (show Tryd.prog.wantsStandIn 24 = false by kernel_rfl)
theorem proved_MatrixRanks : Rows.MatrixRanksCardSaid :=
  Claim7.holds_tied_plain_at .later [] _ _ _ _ said_MatrixRanks (fun _ h => by cases h) (by kernel_rfl) (fun _ h => by cases h) matrixRanks_row_tie rfl ⟨rfl, rfl⟩ (by kernel_rfl) rfl plain_MatrixRanks (by kernel_rfl)

end Go.Proofs.YtaijjhddgecieaaDoor
