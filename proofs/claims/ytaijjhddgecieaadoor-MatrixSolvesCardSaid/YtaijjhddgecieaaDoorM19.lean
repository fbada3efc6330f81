/- Matrices: Inverse and At. -/
import Derived.Test.YtaijjhddgecieaaDoorM18
namespace Go.Proofs.YtaijjhddgecieaaDoor
set_option linter.unusedSimpArgs false
set_option linter.unusedVariables false
open Go.RowKit Go.Lib

set_option maxRecDepth 100000 in
set_option maxHeartbeats 1600000 in
theorem inverse_no (ma ra ca : Int) (qa : Option Addr) (na ka : Nat) (xs : List Int) (w : World) (hla : xs.length = na) (hna : na ≤ 9223372036854775807) (hra : Rd w w.heap.size qa (ints xs)) (h : (okMat ma ra ca xs && decide (ra = ca)) = false) :
    Calls Tryd.prog 22 #[matV ma ra ca qa na ka] w fun e w' => e = .returned (outV nilM 1) ∧ Below w.heap.size w w' := by
  have HVA := Lib.hid (fun (W : World) (h : Below w.heap.size w W) => mvalid_any ma ra ca qa na ka xs W hla hna ((hra.below h).more h.size))
  clear hla hna hra
  obtain ⟨b1, e1⟩ : ∃ b, okMat ma ra ca xs = b := ⟨_, rfl⟩
  obtain ⟨b4, e4⟩ : ∃ b, (ra != ca) = b := ⟨_, rfl⟩
  have hs : b1 = false ∨ (b1 = true ∧ b4 = true) := by
    have h4 : decide (ra = ca) = !b4 := by rw [← e4, Bool.eq_iff_iff]; simp
    rw [e1, h4] at h
    cases b1 <;> cases b4 <;> simp_all
  rw [e1] at HVA
  clear h e1
  unfold matV at HVA ⊢
  have HW : Hid (Below w.heap.size w ((w.alloc (.cells (matC ma ra ca qa na ka) 24)).alloc (.cells #[.int .i64 0, .int .i64 0, .int .i64 0, .slice none 0 0] 24))) := Lib.hid (((Below.refl _ w).alloc (Nat.le_refl _) _).alloc (by simp) _)
  have HRA : Hid (Row ((w.alloc (.cells (matC ma ra ca qa na ka) 24)).alloc (.cells #[.int .i64 0, .int .i64 0, .int .i64 0, .slice none 0 0] 24)) w.heap.size 24 (matC ma ra ca qa na ka)) := Lib.hid ((Row.new w _ _).alloc _)
  have HRZ : Hid (Row ((w.alloc (.cells (matC ma ra ca qa na ka) 24)).alloc (.cells #[.int .i64 0, .int .i64 0, .int .i64 0, .slice none 0 0] 24)) (w.heap.size + 1) 24 #[.int .i64 0, .int .i64 0, .int .i64 0, .slice none 0 0]) := Lib.hid (Row.made _ _ (by simp))
  rcases hs with rfl | ⟨rfl, rfl⟩
  all_goals
    go_enter Tryd.func22, Tryd.ntmps22
    go_wp2_with fail
    refine (HVA.out _ HW.out).mono ?_
    rintro e w1 ⟨rfl, hb⟩
    have hlt1 := hb.size
    simp only [size1] at hlt1
    have HW1 := Lib.hid (below_call HW.out hb)
    have HRA1 := Lib.hid (HRA.out.below hb HRA.out.lt)
    have HRZ1 := Lib.hid (HRZ.out.below hb HRZ.out.lt)
    obtain ⟨a0, a1, a2, a3⟩ := mbox HRA1.out
    clear hb
    go_wp2_with (refine wpList_store_row rfl _ _ _ rfl (w.heap.size + 1) (matC 0 0 0 none 0 0) rfl rfl _ _ HRZ1.out (by kernel_rfl) rfl (matC_one _ _ _ _ _ _) ?_)
    refine bodyPost_ret (v := outV nilM 1) ?_ rfl ⟨rfl, below_whole HW1.out (by omega) _⟩
    exact results_row_tmp rfl _ _ (w.heap.size + 1) _ _ _ _ rfl rfl (HRZ1.out.whole _) Tryd.underlying24 (by rfl) (by kernel_rfl)
/-- what Inverse leaves -/
def InvSays (m n : Nat) (A : Nat → Nat → Nat) (w : World) (e : Ending) (w' : World) : Prop :=
  ((Mat.red m n A n).2.length < n ∧ e = .returned (outV nilM 10)) ∨
  (n ≤ (Mat.red m n A n).2.length ∧ ((noSol n n n (Mat.red m n (beside n A Mat.one) n).1 (Mat.red m n (beside n A Mat.one) n).2.length = true ∧ e = .returned (outV nilM 12)) ∨
    (noSol n n n (Mat.red m n (beside n A Mat.one) n).1 (Mat.red m n (beside n A Mat.one) n).2.length = false ∧ ∃ g, e = .returned (outV (matV m n n (some ⟨g, 0, none⟩) (n * n) (n * n)) 0) ∧ w.heap.size ≤ g ∧ Cells w' g (n * n) (Mat.flat n (solTo n (Mat.red m n (beside n A Mat.one) n).1 (Mat.red m n (beside n A Mat.one) n).2 n)))))
set_option maxRecDepth 100000 in
set_option maxHeartbeats 3200000 in
theorem inverse_yes {m n : Nat} {A : Nat → Nat → Nat} (q : Option Addr) (k : Nat) (w : World) (ht : Tab w) (hA : MatR w w.heap.size m n n q k A) :
    Calls Tryd.prog 22 #[matV m n n q (n * n) k] w fun e w' => InvSays m n A w e w' ∧ Below w.heap.size w w' := by
  unfold InvSays
  have hn := hA.hr
  have HT := Lib.hid ht
  have HVA := Lib.hid (fun (W : World) (h : Below w.heap.size w W) => mvalid_yes hA hn W h h.size)
  have HRK := Lib.hid (fun (W : World) (h : Below w.heap.size w W) => rank_yes q W (ht.next h) ((hA.below h).more h.size) hn)
  have HID := Lib.hid (fun (W : World) => ident_yes m n hA.hm hn W)
  have HSV := Lib.hid (fun (W : World) (h : Below w.heap.size w W) (g : Nat) (hg : g < W.heap.size) (hc : Cells W g (n * n) (Mat.flat n Mat.one)) => solve_yes (c := n) q k (some ⟨g, 0, none⟩) (n * n) W (ht.next h) ((hA.below h).more h.size) (MatR.of_cells hc hg hA.hm hn (by omega) (Mat.one_ok hA.hm)) hn hn)
  obtain ⟨R, hR⟩ : ∃ R, (Mat.red m n A n).2.length = R := ⟨_, rfl⟩
  obtain ⟨Z, hZ⟩ : ∃ Z, (Mat.red m n (beside n A Mat.one) n).1 = Z := ⟨_, rfl⟩
  obtain ⟨pv, hpv⟩ : ∃ pv, (Mat.red m n (beside n A Mat.one) n).2 = pv := ⟨_, rfl⟩
  rw [hR] at HRK ⊢
  rw [hZ, hpv] at HSV ⊢
  obtain ⟨ns, hns⟩ : ∃ ns, noSol n n n Z pv.length = ns := ⟨_, rfl⟩
  rw [hns] at HSV ⊢
  obtain ⟨N, hN⟩ : ∃ N, n * n = N := ⟨_, rfl⟩
  rw [hN] at HVA HRK HID HSV ⊢
  clear ht hA hR hZ hpv hns hN
  unfold matV at HVA HRK HID HSV ⊢
  have HW : Hid (Below w.heap.size w ((w.alloc (.cells (matC m n n q N k) 24)).alloc (.cells #[.int .i64 0, .int .i64 0, .int .i64 0, .slice none 0 0] 24))) := Lib.hid (((Below.refl _ w).alloc (Nat.le_refl _) _).alloc (by simp) _)
  have HRA : Hid (Row ((w.alloc (.cells (matC m n n q N k) 24)).alloc (.cells #[.int .i64 0, .int .i64 0, .int .i64 0, .slice none 0 0] 24)) w.heap.size 24 (matC m n n q N k)) := Lib.hid ((Row.new w _ _).alloc _)
  have HRZ : Hid (Row ((w.alloc (.cells (matC m n n q N k) 24)).alloc (.cells #[.int .i64 0, .int .i64 0, .int .i64 0, .slice none 0 0] 24)) (w.heap.size + 1) 24 (matC 0 0 0 none 0 0)) := Lib.hid (Row.made _ _ (by simp))
  go_enter Tryd.func22, Tryd.ntmps22
  go_wp2_with fail
  refine (HVA.out _ HW.out).mono ?_
  rintro e w1 ⟨rfl, hb⟩
  have hlt1 := hb.size
  simp only [size1] at hlt1
  have HW1 := Lib.hid (below_call HW.out hb)
  have HRA1 := Lib.hid (HRA.out.below hb HRA.out.lt)
  have HRZ1 := Lib.hid (HRZ.out.below hb HRZ.out.lt)
  have HRA1d := Lib.hid HRA1.out.drew
  obtain ⟨a0, a1, a2, a3⟩ := mbox HRA1.out
  clear hb HW HRA HRZ
  go_wp2_with fail
  clear a0 a1 a2 a3
  go_region_held3 (fun wn => (wn.cell? ⟨w.heap.size, 0, none⟩ = some (.int .i64 m) ∧ wn.cell? ⟨w.heap.size, 1, none⟩ = some (.int .i64 n) ∧ wn.cell? ⟨w.heap.size, 2, none⟩ = some (.int .i64 n) ∧ wn.cell? ⟨w.heap.size, 3, none⟩ = some (.slice q N k))) (first | exact mbox HRA2.out | exact mbox HRA1d.out) (first
    | (go_at_call 20; (with_reducible refine (HRK.out _ HW1.out.drew).mono ?_); rintro e2 w2 ⟨rfl, hb2⟩; have HB2 := Lib.hid (show Below w1.heap.size w1 w2 from undrew hb2); have HRA2 := Lib.hid (HRA1.out.below HB2.out HRA1.out.lt)))
  have HRZ2 := Lib.hid (HRZ1.out.below HB2.out HRZ1.out.lt)
  have HW2 := Lib.hid (below_call HW1.out HB2.out)
  have hlt2 := HB2.out.size
  clear hb2 HB2 HRA1 HRA1d HRZ1 HW1
  by_cases hRn : R < n
  · have hd : decide ((R : Int) < n) = true := decide_eq_true (by omega)
    go_wp2_with (refine wpList_store_row rfl _ _ _ rfl (w.heap.size + 1) (matC 0 0 0 none 0 0) rfl rfl _ _ HRZ2.out (by kernel_rfl) rfl (matC_one _ _ _ _ _ _) ?_)
    refine bodyPost_ret (v := outV nilM 10) ?_ rfl ⟨.inl ⟨hRn, rfl⟩, below_whole HW2.out (by omega) _⟩
    exact results_row_tmp rfl _ _ (w.heap.size + 1) _ _ _ _ rfl rfl (HRZ2.out.whole _) Tryd.underlying24 (by rfl) (by kernel_rfl)
  · have hd : decide ((R : Int) < n) = false := decide_eq_false (by omega)
    obtain ⟨a0, a1, a2, a3⟩ := mbox HRA2.out
    go_wp2_with fail
    refine (HID.out _).mono ?_
    rintro e w3 ⟨g, rfl, hg, hc3, hb3⟩
    have hlt3 := hb3.size
    have HW3 := Lib.hid (below_call HW2.out hb3)
    have HRA3 := Lib.hid (HRA2.out.below hb3 HRA2.out.lt)
    have HRZ3 := Lib.hid (HRZ2.out.below hb3 HRZ2.out.lt)
    have HC3 := Lib.hid hc3
    have hgl := hc3.lt
    clear a0 a1 a2 a3 hb3 HRA2 HRZ2 HW2 hc3
    obtain ⟨a0, a1, a2, a3⟩ := mbox HRA3.out
    have hz0 : w.heap.size < w3.heap.size := by omega
    go_wp2_with fail
    refine (HSV.out _ (HW3.out.alloc (by omega) _) g (by simp; omega) (HC3.out.alloc _)).mono ?_
    rintro e w4 ⟨hres, hb4⟩
    have HRZ4 := Lib.hid ((HRZ3.out.alloc _).below hb4 (by simp; omega))
    have HW4 := Lib.hid (below_call (HW3.out.alloc (by omega) _) hb4)
    clear a0 a1 a2 a3 hb4 HRA3 HRZ3 HW3
    rcases hres with ⟨h1, rfl⟩ | ⟨h1, g2, rfl, hg2, hc2⟩
    · have HNS := Lib.hid h1
      clear h1
      go_wp2_with (refine wpList_store_row rfl _ _ _ rfl (w.heap.size + 1) (matC 0 0 0 none 0 0) rfl rfl _ _ HRZ4.out (by kernel_rfl) rfl (matC_one _ _ _ _ _ _) ?_)
      refine bodyPost_ret (v := outV nilM 12) ?_ rfl ⟨.inr ⟨by omega, .inl ⟨HNS.out, rfl⟩⟩, below_whole HW4.out (by omega) _⟩
      exact results_row_tmp rfl _ _ (w.heap.size + 1) _ _ _ _ rfl rfl (HRZ4.out.whole _) Tryd.underlying24 (by rfl) (by kernel_rfl)
    · have HNS := Lib.hid h1
      have HC2 := Lib.hid hc2
      simp only [size1] at hg2
      clear h1 hc2
      go_wp2_with (refine wpList_store_row rfl _ _ _ rfl (w.heap.size + 1) (matC m n n (some ⟨g2, 0, none⟩) N N) rfl rfl _ _ HRZ4.out (by kernel_rfl) rfl (matC_one _ _ _ _ _ _) ?_)
      refine bodyPost_ret (v := outV (matV m n n (some ⟨g2, 0, none⟩) N N) 0) ?_ rfl ⟨.inr ⟨by omega, .inr ⟨HNS.out, g2, rfl, by omega, HC2.out.apart (by omega) _⟩⟩, below_whole HW4.out (by omega) _⟩
      exact results_row_tmp rfl _ _ (w.heap.size + 1) _ _ _ _ rfl rfl (HRZ4.out.whole _) Tryd.underlying24 (by rfl) (by kernel_rfl)
end Go.Proofs.YtaijjhddgecieaaDoor
