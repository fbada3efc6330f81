/- Matrices: Rank and Independent. -/
import Derived.Test.YtaijjhddgecieaaDoorM14
namespace Go.Proofs.YtaijjhddgecieaaDoor
set_option linter.unusedSimpArgs false
set_option linter.unusedVariables false
open Go.RowKit Go.Lib

set_option maxRecDepth 100000 in
theorem rank_no (ma ra ca : Int) (qa : Option Addr) (na ka : Nat) (xs : List Int) (w : World) (hla : xs.length = na) (hna : na ≤ 9223372036854775807) (hra : Rd w w.heap.size qa (ints xs)) (h : okMat ma ra ca xs = false) :
    Calls Tryd.prog 20 #[matV ma ra ca qa na ka] w fun e w' => e = .returned (.int .i64 (-1)) ∧ Below w.heap.size w w' := by
  have HVA := Lib.hid (fun (W : World) (h : Below w.heap.size w W) => mvalid_any ma ra ca qa na ka xs W hla hna ((hra.below h).more h.size))
  rw [h] at HVA
  clear hla hna hra h
  unfold matV at HVA ⊢
  have HW : Hid (Below w.heap.size w (w.alloc (.cells (matC ma ra ca qa na ka) 24))) := Lib.hid ((Below.refl _ w).alloc (Nat.le_refl _) _)
  go_enter Tryd.func20, Tryd.ntmps20
  go_wp2_with fail
  refine (HVA.out _ HW.out).mono ?_
  rintro e w1 ⟨rfl, hb⟩
  have HW1 := Lib.hid (below_call HW.out hb)
  clear hb
  go_wp2
  go_ret
  exact ⟨rfl, HW1.out⟩
set_option maxRecDepth 100000 in
set_option maxHeartbeats 1600000 in
theorem rank_yes {m r c k : Nat} {A : Nat → Nat → Nat} (q : Option Addr) (w : World) (ht : Tab w) (hA : MatR w w.heap.size m r c q k A) (hc : c ≤ 32) :
    Calls Tryd.prog 20 #[matV m r c q (r * c) k] w fun e w' => e = .returned (.int .i64 ((Mat.red m r A c).2.length : Nat)) ∧ Below w.heap.size w w' := by
  have HT := Lib.hid ht
  have HVA := Lib.hid (fun (W : World) (h : Below w.heap.size w W) => mvalid_yes hA hc W h h.size)
  have HCP := Lib.hid (fun (W : World) (h : Below w.heap.size w W) => copied_any q W ((hA.below h).more h.size))
  have HRED := Lib.hid (fun (kap : Nat) (hk1 : r * c ≤ kap) (hk2 : kap ≤ maxLen) (q : Option Addr) (W : World) (ht : Tab W) (hq : 0 < r * c → ∃ g, q = some ⟨g, 0, none⟩ ∧ 0 < g ∧ Cells W g (r * c) (Mat.flat c A)) => mred_gen hA.hm hA.hr hA.hc (Nat.le_refl c) hk1 hk2 hA.ok q W ht hq)
  obtain ⟨L, hL⟩ : ∃ L, (Mat.red m r A c).2.length = L := ⟨_, rfl⟩
  obtain ⟨N, hN⟩ : ∃ N, r * c = N := ⟨_, rfl⟩
  rw [hL] at HRED ⊢
  rw [hN] at HVA HCP HRED ⊢
  have HP := Lib.hid ht.lt
  clear hA ht hL hN
  unfold matV at HVA HCP HRED ⊢
  have HW : Hid (Below w.heap.size w (w.alloc (.cells (matC m r c q N k) 24))) := Lib.hid ((Below.refl _ w).alloc (Nat.le_refl _) _)
  have HR : Hid (Row (w.alloc (.cells (matC m r c q N k) 24)) w.heap.size 24 (matC m r c q N k)) := Lib.hid (Row.new w _ _)
  go_enter Tryd.func20, Tryd.ntmps20
  go_wp2_with fail
  refine (HVA.out _ HW.out).mono ?_
  rintro e w1 ⟨rfl, hb⟩
  have hs1 := hb.size
  simp only [size1] at hs1
  have HW1 := Lib.hid (below_call HW.out hb)
  have HR1 := Lib.hid (HR.out.below hb HR.out.lt)
  have HR1d := Lib.hid HR1.out.drew
  clear hb
  go_wp2_with fail
  go_region_held3 (fun wn => (wn.cell? ⟨w.heap.size, 0, none⟩ = some (.int .i64 m) ∧ wn.cell? ⟨w.heap.size, 1, none⟩ = some (.int .i64 r) ∧ wn.cell? ⟨w.heap.size, 2, none⟩ = some (.int .i64 c) ∧ wn.cell? ⟨w.heap.size, 3, none⟩ = some (.slice q N k))) (first | exact mbox HR3.out | exact mbox HR2.out | exact mbox HR1d.out) (first
    | (go_at_call 44; (with_reducible refine (HCP.out _ HW1.out.drew).mono ?_); rintro e2 w2 ⟨q', k', rfl, hk1, hk2, hkn, hqb, hcl, hb2⟩; have HB2 := Lib.hid (show Below w1.heap.size w1 w2 from undrew hb2); have HR2 := Lib.hid (HR1.out.below HB2.out HR1.out.lt); have HCL := Lib.hid (show 0 < N → ∃ g, q' = some ⟨g, 0, none⟩ ∧ w1.heap.size ≤ g ∧ Cells w2 g N (Mat.flat c A) from hcl); have HQB := Lib.hid (show ∀ b, q' = some ⟨b, 0, none⟩ → w1.heap.size ≤ b from hqb); clear hcl hqb)
    | (go_at_call 39; (with_reducible refine (HRED.out k' hk1 hk2 q' _ (HT.out.next (below_call HW1.out HB2.out)) (fun h => by obtain ⟨g, e1, e2, e3⟩ := HCL.out h; exact ⟨g, e1, by have e4 : w1.heap.size ≤ g := e2; omega, e3⟩)).mono ?_); rintro e3 w3 ⟨⟨q3, k3, rfl, hk31, hk32, hk33, hrd3⟩, hc3, ho3⟩; have HO3 := Lib.hid ho3; clear ho3 hc3 hrd3; have HR3 := Lib.hid (HO3.out.row HR2.out (fun h => by have h9 : w1.heap.size ≤ w.heap.size := HQB.out _ h; omega))))
  go_wp2
  go_ret
  have h2 := HB2.out.size
  exact ⟨rfl, (below_call HW1.out HB2.out).trans (HO3.out.below (by omega) (fun b hb => by have := HQB.out b hb; omega))⟩
set_option maxRecDepth 100000 in
theorem indep_no (ma ra ca : Int) (qa : Option Addr) (na ka : Nat) (xs : List Int) (w : World) (hla : xs.length = na) (hna : na ≤ 9223372036854775807) (hra : Rd w w.heap.size qa (ints xs)) (h : okMat ma ra ca xs = false) :
    Calls Tryd.prog 33 #[matV ma ra ca qa na ka] w fun e w' => e = .returned (.slice none 0 0) ∧ Below w.heap.size w w' := by
  have HTR := Lib.hid (fun (W : World) (hb : Below w.heap.size w W) => transp_no ma ra ca qa na ka xs W hla hna ((hra.below hb).more hb.size) h)
  clear hla hna hra h
  unfold matV at HTR ⊢
  have HW : Hid (Below w.heap.size w (w.alloc (.cells (matC ma ra ca qa na ka) 24))) := Lib.hid ((Below.refl _ w).alloc (Nat.le_refl _) _)
  go_enter Tryd.func33, Tryd.ntmps33
  go_wp2_with fail
  refine (HTR.out _ HW.out).mono ?_
  rintro e w1 ⟨rfl, hb⟩
  have hs1 := hb.size
  simp only [size1] at hs1
  have HW1 := Lib.hid (below_call HW.out hb)
  clear hb
  go_wp2
  go_ret
  exact ⟨rfl, HW1.out.alloc (by omega) _⟩
set_option maxRecDepth 100000 in
set_option maxHeartbeats 1600000 in
theorem indep_yes {m r c k : Nat} {A : Nat → Nat → Nat} (q : Option Addr) (w : World) (ht : Tab w) (hA : MatR w w.heap.size m r c q k A) (hc : c ≤ 32) :
    Calls Tryd.prog 33 #[matV m r c q (r * c) k] w fun e w' => (∃ q k, e = .returned (.slice q (Mat.red m c (Mat.tr A) r).2.length k) ∧ k ≤ maxLen ∧ (Mat.red m c (Mat.tr A) r).2.length ≤ k ∧ (q = none → k = 0) ∧ Rd w' w'.heap.size q (ints (natsL (Mat.red m c (Mat.tr A) r).2))) ∧ Below w.heap.size w w' := by
  have HT := Lib.hid ht
  have HTR := Lib.hid (fun (W : World) (hb : Below w.heap.size w W) => transp_yes q k W ((hA.below hb).more hb.size) hc)
  have hle : c * r ≤ 32 * 32 := Nat.mul_le_mul hc hA.hr
  have HRED := Lib.hid (fun (g : Nat) (hg0 : 0 < g) (W : World) (ht : Tab W) (hcell : Cells W g (c * r) (Mat.flat r (Mat.tr A))) => mred_gen hA.hm hc (by have := hA.hr; omega) (Nat.le_refl r) (Nat.le_refl _) (by unfold maxLen; omega) (Mat.tr_ok hA.ok) (some ⟨g, 0, none⟩) W ht (fun _ => ⟨g, rfl, hg0, hcell⟩))
  obtain ⟨pv, hpv⟩ : ∃ pv, (Mat.red m c (Mat.tr A) r).2 = pv := ⟨_, rfl⟩
  obtain ⟨N, hN⟩ : ∃ N, r * c = N := ⟨_, rfl⟩
  obtain ⟨N2, hN2⟩ : ∃ N, c * r = N := ⟨_, rfl⟩
  rw [hpv] at HRED ⊢
  rw [hN] at HTR ⊢
  rw [hN2] at HTR HRED
  obtain ⟨L, hL⟩ : ∃ L, pv.length = L := ⟨_, rfl⟩
  rw [hL] at HRED ⊢
  have hp := ht.lt
  clear hA ht hpv hN hN2 hL
  unfold matV at HTR HRED ⊢
  have HW : Hid (Below w.heap.size w (w.alloc (.cells (matC m r c q N k) 24))) := Lib.hid ((Below.refl _ w).alloc (Nat.le_refl _) _)
  go_enter Tryd.func33, Tryd.ntmps33
  go_wp2_with fail
  refine (HTR.out _ HW.out).mono ?_
  rintro e w1 ⟨g, rfl, hg, hcell, hb⟩
  have hs1 := hb.size
  simp only [size1] at hs1 hg
  have HW1 := Lib.hid (below_call HW.out hb)
  have HC := Lib.hid hcell
  have hgl := hcell.lt
  clear hb hcell
  go_wp2_with fail
  refine (HRED.out g (by omega) _ (HT.out.next (HW1.out.alloc (by omega) _)) (HC.out.alloc _)).mono ?_
  rintro e2 w2 ⟨⟨q3, k3, rfl, hk31, hk32, hk33, hrd3⟩, hc3, ho3⟩
  have HO3 := Lib.hid ho3
  have HRD3 := Lib.hid hrd3
  clear ho3 hc3 hrd3
  go_wp2
  go_ret
  exact ⟨⟨q3, k3, rfl, hk31, hk32, hk33, HRD3.out⟩, (HW1.out.alloc (by omega) _).trans (HO3.out.below (by simp; omega) (fun b hb => by injection hb with hb; injection hb with hb; omega))⟩
end Go.Proofs.YtaijjhddgecieaaDoor
