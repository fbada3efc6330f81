/- Matrices: the reference's Inverse. -/
import Derived.Test.YtaijjhddgecieaaDoorM34
import Derived.Test.YtaijjhddgecieaaDoorM19
import Derived.Test.YtaijjhddgecieaaDoorM25
import Derived.Test.YtaijjhddgecieaaDoorMatJ
namespace Go.Proofs.YtaijjhddgecieaaDoor
set_option linter.unusedSimpArgs false
set_option linter.unusedVariables false
open Go.RowKit Go.Lib

set_option maxRecDepth 100000 in
set_option maxHeartbeats 1600000 in
theorem rinverse_no (ma ra ca : Int) (qa : Option Addr) (na ka : Nat) (xs : List Int) (w : World) (hla : xs.length = na) (hna : na ≤ 9223372036854775807) (hra : Rd w w.heap.size qa (ints xs)) (h : (okMat ma ra ca xs && decide (ra = ca)) = false) :
    Calls Tryd.prog 27 #[matV ma ra ca qa na ka] w fun e w' => e = .returned (outV nilM 1) ∧ Below w.heap.size w w' := by
  have HVA := Lib.hid (fun (W : World) (h : Below w.heap.size w W) => rvalid6_any ma ra ca qa na ka xs W hla hna ((hra.below h).more h.size))
  clear hla hna hra
  obtain ⟨b1, e1⟩ : ∃ b, okMat ma ra ca xs = b := ⟨_, rfl⟩
  obtain ⟨b4, e4⟩ : ∃ b, (ra != ca) = b := ⟨_, rfl⟩
  have hs : b1 = false ∨ (b1 = true ∧ b4 = true) := by
    have h4 : decide (ra = ca) = !b4 := by rw [← e4, Bool.eq_iff_iff]; simp
    rw [e1, h4] at h
    cases b1 <;> cases b4 <;> simp_all
  rw [e1] at HVA
  clear h e1
  unfold matV at HVA ⊢
  have HW : Hid (Below w.heap.size w ((w.alloc (.cells (matC ma ra ca qa na ka) 24)).alloc (.cells #[.int .i64 0, .int .i64 0, .int .i64 0, .slice none 0 0] 24))) := Lib.hid (((Below.refl _ w).alloc (Nat.le_refl _) _).alloc (by simp) _)
  have HRA : Hid (Row ((w.alloc (.cells (matC ma ra ca qa na ka) 24)).alloc (.cells #[.int .i64 0, .int .i64 0, .int .i64 0, .slice none 0 0] 24)) w.heap.size 24 (matC ma ra ca qa na ka)) := Lib.hid ((Row.new w _ _).alloc _)
  have HRZ : Hid (Row ((w.alloc (.cells (matC ma ra ca qa na ka) 24)).alloc (.cells #[.int .i64 0, .int .i64 0, .int .i64 0, .slice none 0 0] 24)) (w.heap.size + 1) 24 #[.int .i64 0, .int .i64 0, .int .i64 0, .slice none 0 0]) := Lib.hid (Row.made _ _ (by simp))
  rcases hs with rfl | ⟨rfl, rfl⟩
  all_goals
    go_enter Tryd.func27, Tryd.ntmps27
    go_wp2_with fail
    refine (HVA.out _ HW.out).mono ?_
    rintro e w1 ⟨rfl, hb⟩
    have hlt1 := hb.size
    simp only [size1] at hlt1
    have HW1 := Lib.hid (below_call HW.out hb)
    have HRA1 := Lib.hid (HRA.out.below hb HRA.out.lt)
    have HRZ1 := Lib.hid (HRZ.out.below hb HRZ.out.lt)
    obtain ⟨a0, a1, a2, a3⟩ := mbox HRA1.out
    clear hb
    go_wp2_with (refine wpList_store_row rfl _ _ _ rfl (w.heap.size + 1) (matC 0 0 0 none 0 0) rfl rfl _ _ HRZ1.out (by kernel_rfl) rfl (matC_one _ _ _ _ _ _) ?_)
    refine bodyPost_ret (v := outV nilM 1) ?_ rfl ⟨rfl, below_whole HW1.out (by omega) _⟩
    exact results_row_tmp rfl _ _ (w.heap.size + 1) _ _ _ _ rfl rfl (HRZ1.out.whole _) Tryd.underlying24 (by rfl) (by kernel_rfl)
set_option maxRecDepth 100000 in
set_option maxHeartbeats 3200000 in
theorem rinverse_yes {m n : Nat} {A : Nat → Nat → Nat} (q : Option Addr) (k : Nat) (w : World) (hA : MatR w w.heap.size m n n q k A) :
    Calls Tryd.prog 27 #[matV m n n q (n * n) k] w fun e w' => InvSays m n A w e w' ∧ Below w.heap.size w w' := by
  unfold InvSays
  have hn := hA.hr
  have HVA := Lib.hid (fun (W : World) (h : Below w.heap.size w W) => rvalid_yes hA hn W h h.size)
  have HRK := Lib.hid (fun (W : World) (h : Below w.heap.size w W) => rrank_yes q W ((hA.below h).more h.size) hn)
  have HID := Lib.hid (fun (W : World) => rident_yes m n hA.hm hn W)
  have HSV := Lib.hid (fun (W : World) (h : Below w.heap.size w W) (g : Nat) (hg : g < W.heap.size) (hc : Cells W g (n * n) (Mat.flat n Mat.one)) => rsolve_yes (c := n) q k (some ⟨g, 0, none⟩) (n * n) W ((hA.below h).more h.size) (MatR.of_cells hc hg hA.hm hn (by omega) (Mat.one_ok hA.hm)) hn hn)
  obtain ⟨R, hR⟩ : ∃ R, (Mat.red m n A n).2.length = R := ⟨_, rfl⟩
  obtain ⟨Z, hZ⟩ : ∃ Z, (Mat.red m n (beside n A Mat.one) n).1 = Z := ⟨_, rfl⟩
  obtain ⟨pv, hpv⟩ : ∃ pv, (Mat.red m n (beside n A Mat.one) n).2 = pv := ⟨_, rfl⟩
  rw [hR] at HRK ⊢
  rw [hZ, hpv] at HSV ⊢
  obtain ⟨ns, hns⟩ : ∃ ns, noSol n n n Z pv.length = ns := ⟨_, rfl⟩
  rw [hns] at HSV ⊢
  obtain ⟨N, hN⟩ : ∃ N, n * n = N := ⟨_, rfl⟩
  rw [hN] at HVA HRK HID HSV ⊢
  clear hA hR hZ hpv hns hN
  unfold matV at HVA HRK HID HSV ⊢
  have HW : Hid (Below w.heap.size w ((w.alloc (.cells (matC m n n q N k) 24)).alloc (.cells #[.int .i64 0, .int .i64 0, .int .i64 0, .slice none 0 0] 24))) := Lib.hid (((Below.refl _ w).alloc (Nat.le_refl _) _).alloc (by simp) _)
  have HRA : Hid (Row ((w.alloc (.cells (matC m n n q N k) 24)).alloc (.cells #[.int .i64 0, .int .i64 0, .int .i64 0, .slice none 0 0] 24)) w.heap.size 24 (matC m n n q N k)) := Lib.hid ((Row.new w _ _).alloc _)
  have HRZ : Hid (Row ((w.alloc (.cells (matC m n n q N k) 24)).alloc (.cells #[.int .i64 0, .int .i64 0, .int .i64 0, .slice none 0 0] 24)) (w.heap.size + 1) 24 (matC 0 0 0 none 0 0)) := Lib.hid (Row.made _ _ (by simp))
  go_enter Tryd.func27, Tryd.ntmps27
  go_wp2_with fail
  refine (HVA.out _ HW.out).mono ?_
  rintro e w1 ⟨rfl, hb⟩
  have hlt1 := hb.size
  simp only [size1] at hlt1
  have HW1 := Lib.hid (below_call HW.out hb)
  have HRA1 := Lib.hid (HRA.out.below hb HRA.out.lt)
  have HRZ1 := Lib.hid (HRZ.out.below hb HRZ.out.lt)
  have HRA1d := Lib.hid HRA1.out.drew
  obtain ⟨a0, a1, a2, a3⟩ := mbox HRA1.out
  clear hb HW HRA HRZ
  go_wp2_with fail
  clear a0 a1 a2 a3
  go_region_held3 (fun wn => (wn.cell? ⟨w.heap.size, 0, none⟩ = some (.int .i64 m) ∧ wn.cell? ⟨w.heap.size, 1, none⟩ = some (.int .i64 n) ∧ wn.cell? ⟨w.heap.size, 2, none⟩ = some (.int .i64 n) ∧ wn.cell? ⟨w.heap.size, 3, none⟩ = some (.slice q N k))) (first | exact mbox HRA2.out | exact mbox HRA1d.out) (first
    | (go_at_call 31; (with_reducible refine (HRK.out _ HW1.out.drew).mono ?_); rintro e2 w2 ⟨rfl, hb2⟩; have HB2 := Lib.hid (show Below w1.heap.size w1 w2 from undrew hb2); have HRA2 := Lib.hid (HRA1.out.below HB2.out HRA1.out.lt)))
  have HRZ2 := Lib.hid (HRZ1.out.below HB2.out HRZ1.out.lt)
  have HW2 := Lib.hid (below_call HW1.out HB2.out)
  have hlt2 := HB2.out.size
  clear hb2 HB2 HRA1 HRA1d HRZ1 HW1
  by_cases hRn : R < n
  · have hd : decide ((R : Int) < n) = true := decide_eq_true (by omega)
    go_wp2_with (refine wpList_store_row rfl _ _ _ rfl (w.heap.size + 1) (matC 0 0 0 none 0 0) rfl rfl _ _ HRZ2.out (by kernel_rfl) rfl (matC_one _ _ _ _ _ _) ?_)
    refine bodyPost_ret (v := outV nilM 10) ?_ rfl ⟨.inl ⟨hRn, rfl⟩, below_whole HW2.out (by omega) _⟩
    exact results_row_tmp rfl _ _ (w.heap.size + 1) _ _ _ _ rfl rfl (HRZ2.out.whole _) Tryd.underlying24 (by rfl) (by kernel_rfl)
  · have hd : decide ((R : Int) < n) = false := decide_eq_false (by omega)
    obtain ⟨a0, a1, a2, a3⟩ := mbox HRA2.out
    go_wp2_with fail
    refine (HID.out _).mono ?_
    rintro e w3 ⟨g, rfl, hg, hc3, hb3⟩
    have hlt3 := hb3.size
    have HW3 := Lib.hid (below_call HW2.out hb3)
    have HRA3 := Lib.hid (HRA2.out.below hb3 HRA2.out.lt)
    have HRZ3 := Lib.hid (HRZ2.out.below hb3 HRZ2.out.lt)
    have HC3 := Lib.hid hc3
    have hgl := hc3.lt
    clear a0 a1 a2 a3 hb3 HRA2 HRZ2 HW2 hc3
    obtain ⟨a0, a1, a2, a3⟩ := mbox HRA3.out
    have hz0 : w.heap.size < w3.heap.size := by omega
    go_wp2_with fail
    refine (HSV.out _ (HW3.out.alloc (by omega) _) g (by simp; omega) (HC3.out.alloc _)).mono ?_
    rintro e w4 ⟨hres, hb4⟩
    have HRZ4 := Lib.hid ((HRZ3.out.alloc _).below hb4 (by simp; omega))
    have HW4 := Lib.hid (below_call (HW3.out.alloc (by omega) _) hb4)
    clear a0 a1 a2 a3 hb4 HRA3 HRZ3 HW3
    rcases hres with ⟨h1, rfl⟩ | ⟨h1, g2, rfl, hg2, hc2⟩
    · have HNS := Lib.hid h1
      clear h1
      go_wp2_with (refine wpList_store_row rfl _ _ _ rfl (w.heap.size + 1) (matC 0 0 0 none 0 0) rfl rfl _ _ HRZ4.out (by kernel_rfl) rfl (matC_one _ _ _ _ _ _) ?_)
      refine bodyPost_ret (v := outV nilM 12) ?_ rfl ⟨.inr ⟨by omega, .inl ⟨HNS.out, rfl⟩⟩, below_whole HW4.out (by omega) _⟩
      exact results_row_tmp rfl _ _ (w.heap.size + 1) _ _ _ _ rfl rfl (HRZ4.out.whole _) Tryd.underlying24 (by rfl) (by kernel_rfl)
    · have HNS := Lib.hid h1
      have HC2 := Lib.hid hc2
      simp only [size1] at hg2
      clear h1 hc2
      go_wp2_with (refine wpList_store_row rfl _ _ _ rfl (w.heap.size + 1) (matC m n n (some ⟨g2, 0, none⟩) N N) rfl rfl _ _ HRZ4.out (by kernel_rfl) rfl (matC_one _ _ _ _ _ _) ?_)
      refine bodyPost_ret (v := outV (matV m n n (some ⟨g2, 0, none⟩) N N) 0) ?_ rfl ⟨.inr ⟨by omega, .inr ⟨HNS.out, g2, rfl, by omega, HC2.out.apart (by omega) _⟩⟩, below_whole HW4.out (by omega) _⟩
      exact results_row_tmp rfl _ _ (w.heap.size + 1) _ _ _ _ rfl rfl (HRZ4.out.whole _) Tryd.underlying24 (by rfl) (by kernel_rfl)

/-- a matrix and an error come out; the cells read xs -/
def Res (w w' : World) (m r c : Int) (n : Nat) (xs : List Int) (er : Int) (e : Ending) : Prop := ∃ q k, e = .returned (outV (matV m r c q n k) er) ∧ Rd w' w'.heap.size q (ints xs) ∧ Below w.heap.size w w'
/-- two functions leave the same -/
def Twin (F G : FuncId) (args : Array Value) (w : World) : Prop := ∃ (m r c : Int) (n : Nat) (xs : List Int) (er : Int), xs.length = n ∧ n ≤ 9223372036854775807 ∧
  (∀ W, Below w.heap.size w W → Calls Tryd.prog F args W fun e w' => Res W w' m r c n xs er e) ∧ (∀ W, Below w.heap.size w W → Calls Tryd.prog G args W fun e w' => Res W w' m r c n xs er e)
theorem res_nil {w w' : World} {e : Ending} (h : e = .returned (outV nilM 1) ∧ Below w.heap.size w w') : Res w w' 0 0 0 0 [] 1 e := ⟨none, 0, h.1, Rd.nil _ _ _, h.2⟩
theorem res_err {w w' : World} {e : Ending} {er : Int} (h : e = .returned (outV nilM er) ∧ Below w.heap.size w w') : Res w w' 0 0 0 0 [] er e := ⟨none, 0, h.1, Rd.nil _ _ _, h.2⟩
theorem res_cells {w w' : World} {e : Ending} {m r c g : Nat} {A : Nat → Nat → Nat} (h : e = .returned (outV (matV m r c (some ⟨g, 0, none⟩) (r * c) (r * c)) 0)) (hc : Cells w' g (r * c) (Mat.flat c A)) (hb : Below w.heap.size w w') : Res w w' m r c (r * c) (cellsL r c A) 0 e :=
  ⟨some ⟨g, 0, none⟩, r * c, h, cells_rd hc, hb⟩
section
variable {ma ra ca : Int} {qa : Option Addr} {na ka : Nat} {xs : List Int} {mb rb cb : Int} {qb : Option Addr} {nb kb : Nat} {ys : List Int} {w : World}
theorem small32 {r c : Nat} (hr : r ≤ 32) (hc : c ≤ 32) : r * c ≤ 9223372036854775807 := by have := Nat.mul_le_mul hr hc; omega
theorem mul_twin (h1 : IntsIn w qa na ka xs) (h2 : IntsIn w qb nb kb ys) (ht : Tab w) : Twin 16 23 #[matV ma ra ca qa na ka, matV mb rb cb qb nb kb] w := by
  cases hmul : (okMat ma ra ca xs && okMat mb rb cb ys && decide (ma = mb) && decide (ca = rb)) with
  | false =>
    exact ⟨0, 0, 0, 0, [], 1, rfl, by omega, fun W hb => (mul_no ma ra ca qa na ka xs mb rb cb qb nb kb ys W h1.1 h1.le ((h1.2.2.2.2.below hb).more hb.size) h2.1 h2.le ((h2.2.2.2.2.below hb).more hb.size) hmul).mono fun e w' h => res_nil h,
      fun W hb => (rmul6_no ma ra ca qa na ka xs mb rb cb qb nb kb ys W h1.1 h1.le ((h1.2.2.2.2.below hb).more hb.size) h2.1 h2.le ((h2.2.2.2.2.below hb).more hb.size) hmul).mono fun e w' h => res_nil h⟩
  | true =>
    simp only [Bool.and_eq_true, decide_eq_true_eq] at hmul
    obtain ⟨⟨⟨hoa, hob⟩, e1⟩, e2⟩ := hmul
    obtain ⟨m, r, k, A, rfl, rfl, rfl, rfl, hxs, hk, hA⟩ := matIn h1 hoa
    obtain ⟨m2, k2, c, B, e3, e4, rfl, rfl, hys, hc, hB⟩ := matIn h2 hob
    obtain rfl : m = m2 := by omega
    obtain rfl : k = k2 := by omega
    subst e3; subst e4
    refine ⟨m, r, c, r * c, cellsL r c (Mat.prod m k A B), 0, cellsL_length _ _ _, small32 hA.hr hc, fun W hb => (mul_yes qa ka qb kb W (ht.next hb) ((hA.below hb).more hb.size) ((hB.below hb).more hb.size) hk hc).mono ?_, fun W hb => (rmul6_yes2 qa ka qb kb W ((hA.below hb).more hb.size) ((hB.below hb).more hb.size) hk hc).mono ?_⟩
    · rintro e w' ⟨g, he, _, hc2, hb⟩; exact res_cells he hc2 hb
    · rintro e w' ⟨g, he, _, hc2, hb⟩; exact res_cells he hc2 hb
theorem transp_twin (h1 : IntsIn w qa na ka xs) : Twin 19 24 #[matV ma ra ca qa na ka] w := by
  cases hv : okMat ma ra ca xs with
  | false =>
    exact ⟨0, 0, 0, 0, [], 1, rfl, by omega, fun W hb => (transp_no ma ra ca qa na ka xs W h1.1 h1.le ((h1.2.2.2.2.below hb).more hb.size) hv).mono fun e w' h => res_nil h,
      fun W hb => (rtransp_no ma ra ca qa na ka xs W h1.1 h1.le ((h1.2.2.2.2.below hb).more hb.size) hv).mono fun e w' h => res_nil h⟩
  | true =>
    obtain ⟨m, r, c, A, rfl, rfl, rfl, rfl, hxs, hc, hA⟩ := matIn h1 hv
    refine ⟨m, c, r, c * r, cellsL c r (Mat.tr A), 0, cellsL_length _ _ _, small32 hc hA.hr, fun W hb => (transp_yes qa ka W ((hA.below hb).more hb.size) hc).mono ?_, fun W hb => (rtransp_yes qa ka W ((hA.below hb).more hb.size) hc).mono ?_⟩
    · rintro e w' ⟨g, he, _, hc2, hb⟩; exact res_cells he hc2 hb
    · rintro e w' ⟨g, he, _, hc2, hb⟩; exact res_cells he hc2 hb
theorem pick_twin {qr : Option Addr} {L kr : Nat} {is : List Int} (h1 : IntsIn w qa na ka xs) (h3 : IntsIn w qr L kr is) : Twin 25 26 #[matV ma ra ca qa na ka, .slice qr L kr] w := by
  cases hp : (okMat ma ra ca xs && decide (L ≤ 32)) with
  | false =>
    exact ⟨0, 0, 0, 0, [], 1, rfl, by omega, fun W hb => (pick_no ma ra ca qa na ka xs qr L kr W h1.1 h1.le ((h1.2.2.2.2.below hb).more hb.size) hp).mono fun e w' h => res_nil h,
      fun W hb => (rpick_no ma ra ca qa na ka xs qr L kr W h1.1 h1.le ((h1.2.2.2.2.below hb).more hb.size) hp).mono fun e w' h => res_nil h⟩
  | true =>
    rw [Bool.and_eq_true, decide_eq_true_eq] at hp
    obtain ⟨m, r, c, A, rfl, rfl, rfl, rfl, hxs, hc, hA⟩ := matIn h1 hp.1
    cases hbad : badRow r is with
    | true =>
      refine ⟨0, 0, 0, 0, [], 1, rfl, by omega, fun W hb => (pick_yes qa qr L kr is W ((hA.below hb).more hb.size) hc hp.2 h3.1 ((h3.2.2.2.2.below hb).more hb.size)).mono ?_, fun W hb => (rpick_yes qa qr L kr is W ((hA.below hb).more hb.size) hc hp.2 h3.1 ((h3.2.2.2.2.below hb).more hb.size)).mono ?_⟩
      · rintro e w' ⟨⟨_, he⟩ | ⟨h, _⟩, hb⟩
        · exact res_nil ⟨he, hb⟩
        · rw [hbad] at h; cases h
      · rintro e w' ⟨⟨_, he⟩ | ⟨h, _⟩, hb⟩
        · exact res_nil ⟨he, hb⟩
        · rw [hbad] at h; cases h
    | false =>
      refine ⟨m, L, c, L * c, cellsL L c (pick A is), 0, cellsL_length _ _ _, small32 hp.2 hc, fun W hb => (pick_yes qa qr L kr is W ((hA.below hb).more hb.size) hc hp.2 h3.1 ((h3.2.2.2.2.below hb).more hb.size)).mono ?_, fun W hb => (rpick_yes qa qr L kr is W ((hA.below hb).more hb.size) hc hp.2 h3.1 ((h3.2.2.2.2.below hb).more hb.size)).mono ?_⟩
      · rintro e w' ⟨⟨h, _⟩ | ⟨_, q', k', he, ho⟩, hb⟩
        · rw [hbad] at h; cases h
        · exact ⟨q', k', he, ho.rd, hb⟩
      · rintro e w' ⟨⟨h, _⟩ | ⟨_, g, he, hc2⟩, hb⟩
        · rw [hbad] at h; cases h
        · exact res_cells he hc2 hb
theorem inverse_twin (h1 : IntsIn w qa na ka xs) (ht : Tab w) : Twin 22 27 #[matV ma ra ca qa na ka] w := by
  cases hv : (okMat ma ra ca xs && decide (ra = ca)) with
  | false =>
    exact ⟨0, 0, 0, 0, [], 1, rfl, by omega, fun W hb => (inverse_no ma ra ca qa na ka xs W h1.1 h1.le ((h1.2.2.2.2.below hb).more hb.size) hv).mono fun e w' h => res_nil h,
      fun W hb => (rinverse_no ma ra ca qa na ka xs W h1.1 h1.le ((h1.2.2.2.2.below hb).more hb.size) hv).mono fun e w' h => res_nil h⟩
  | true =>
    rw [Bool.and_eq_true, decide_eq_true_eq] at hv
    obtain ⟨m, n, c, A, rfl, rfl, rfl, rfl, hxs, hc, hA⟩ := matIn h1 hv.1
    obtain rfl : n = c := by omega
    have hP : ∀ W, Below w.heap.size w W → Calls Tryd.prog 22 #[matV m n n qa (n * n) ka] W fun e w' => InvSays m n A W e w' ∧ Below W.heap.size W w' := fun W hb => inverse_yes qa ka W (ht.next hb) ((hA.below hb).more hb.size)
    have hR : ∀ W, Below w.heap.size w W → Calls Tryd.prog 27 #[matV m n n qa (n * n) ka] W fun e w' => InvSays m n A W e w' ∧ Below W.heap.size W w' := fun W hb => rinverse_yes qa ka W ((hA.below hb).more hb.size)
    have key : ∃ (m1 r1 c1 : Int) (n1 : Nat) (zs : List Int) (er : Int), zs.length = n1 ∧ n1 ≤ 9223372036854775807 ∧ ∀ W e w', InvSays m n A W e w' ∧ Below W.heap.size W w' → Res W w' m1 r1 c1 n1 zs er e := by
      unfold InvSays
      by_cases hl : (Mat.red m n A n).2.length < n
      · refine ⟨0, 0, 0, 0, [], 10, rfl, by omega, ?_⟩
        rintro W e w' ⟨⟨_, he⟩ | ⟨h, _⟩, hb⟩
        · exact res_err ⟨he, hb⟩
        · omega
      · cases hns : noSol n n n (Mat.red m n (beside n A Mat.one) n).1 (Mat.red m n (beside n A Mat.one) n).2.length with
        | true =>
          refine ⟨0, 0, 0, 0, [], 12, rfl, by omega, ?_⟩
          rintro W e w' ⟨⟨h, _⟩ | ⟨_, ⟨_, he⟩ | ⟨h, _⟩⟩, hb⟩
          · omega
          · exact res_err ⟨he, hb⟩
          · cases h
        | false =>
          refine ⟨m, n, n, n * n, _, 0, cellsL_length n n (solTo n (Mat.red m n (beside n A Mat.one) n).1 (Mat.red m n (beside n A Mat.one) n).2 n), small32 hc hc, ?_⟩
          rintro W e w' ⟨⟨h, _⟩ | ⟨_, ⟨h, _⟩ | ⟨_, g, he, _, hc2⟩⟩, hb⟩
          · omega
          · cases h
          · exact res_cells he hc2 hb
    obtain ⟨m1, r1, c1, n1, zs, er, k1, k2, k3⟩ := key
    exact ⟨m1, r1, c1, n1, zs, er, k1, k2, fun W hb => (hP W hb).mono fun e w' h => k3 W e w' h, fun W hb => (hR W hb).mono fun e w' h => k3 W e w' h⟩
theorem at_twin (i j : Int) (h1 : IntsIn w qa na ka xs) : ∃ z : Int, (∀ W, Below w.heap.size w W → Calls Tryd.prog 29 #[matV ma ra ca qa na ka, .int .i64 i, .int .i64 j] W fun e w' => e = .returned (.int .i64 z) ∧ Below W.heap.size W w') ∧ (∀ W, Below w.heap.size w W → Calls Tryd.prog 30 #[matV ma ra ca qa na ka, .int .i64 i, .int .i64 j] W fun e w' => e = .returned (.int .i64 z) ∧ Below W.heap.size W w') := by
  cases hv : (okMat ma ra ca xs && decide (0 ≤ i) && decide (0 ≤ j) && decide (i < ra) && decide (j < ca)) with
  | false => exact ⟨0, fun W hb => at_no ma ra ca qa na ka xs i j W h1.1 h1.le ((h1.2.2.2.2.below hb).more hb.size) hv, fun W hb => rat_no ma ra ca qa na ka xs i j W h1.1 h1.le ((h1.2.2.2.2.below hb).more hb.size) hv⟩
  | true =>
    simp only [Bool.and_eq_true, decide_eq_true_eq] at hv
    obtain ⟨⟨⟨⟨hok, hi⟩, hj⟩, hir⟩, hjc⟩ := hv
    obtain ⟨m, r, c, A, rfl, rfl, rfl, rfl, hxs, hc, hA⟩ := matIn h1 hok
    obtain ⟨I, rfl⟩ : ∃ I : Nat, i = I := ⟨i.toNat, by omega⟩
    obtain ⟨J, rfl⟩ : ∃ J : Nat, j = J := ⟨j.toNat, by omega⟩
    exact ⟨A I J, fun W hb => at_yes qa I J W ((hA.below hb).more hb.size) hc (by omega) (by omega), fun W hb => rat_yes qa I J W ((hA.below hb).more hb.size) hc (by omega) (by omega)⟩
theorem rank_twin (h1 : IntsIn w qa na ka xs) (ht : Tab w) : ∃ z : Int, (∀ W, Below w.heap.size w W → Calls Tryd.prog 20 #[matV ma ra ca qa na ka] W fun e w' => e = .returned (.int .i64 z) ∧ Below W.heap.size W w') ∧ (∀ W, Below w.heap.size w W → Calls Tryd.prog 31 #[matV ma ra ca qa na ka] W fun e w' => e = .returned (.int .i64 z) ∧ Below W.heap.size W w') := by
  cases hv : okMat ma ra ca xs with
  | false => exact ⟨-1, fun W hb => rank_no ma ra ca qa na ka xs W h1.1 h1.le ((h1.2.2.2.2.below hb).more hb.size) hv, fun W hb => rrank_no ma ra ca qa na ka xs W h1.1 h1.le ((h1.2.2.2.2.below hb).more hb.size) hv⟩
  | true =>
    obtain ⟨m, r, c, A, rfl, rfl, rfl, rfl, hxs, hc, hA⟩ := matIn h1 hv
    exact ⟨((Mat.red m r A c).2.length : Nat), fun W hb => rank_yes qa W (ht.next hb) ((hA.below hb).more hb.size) hc, fun W hb => rrank_yes qa W ((hA.below hb).more hb.size) hc⟩
theorem indep_twin (h1 : IntsIn w qa na ka xs) (ht : Tab w) : ∃ (n : Nat) (zs : List Int), zs.length = n ∧ n ≤ 32 ∧ (∀ W, Below w.heap.size w W → Calls Tryd.prog 33 #[matV ma ra ca qa na ka] W fun e w' => ∃ q k, e = .returned (.slice q n k) ∧ Rd w' w'.heap.size q (ints zs) ∧ Below W.heap.size W w') ∧ (∀ W, Below w.heap.size w W → Calls Tryd.prog 34 #[matV ma ra ca qa na ka] W fun e w' => ∃ q k, e = .returned (.slice q n k) ∧ Rd w' w'.heap.size q (ints zs) ∧ Below W.heap.size W w') := by
  cases hv : okMat ma ra ca xs with
  | false =>
    exact ⟨0, [], rfl, by omega, fun W hb => (indep_no ma ra ca qa na ka xs W h1.1 h1.le ((h1.2.2.2.2.below hb).more hb.size) hv).mono fun e w' h => ⟨none, 0, h.1, Rd.nil _ _ _, h.2⟩, fun W hb => (rindep_no ma ra ca qa na ka xs W h1.1 h1.le ((h1.2.2.2.2.below hb).more hb.size) hv).mono fun e w' h => ⟨none, 0, h.1, Rd.nil _ _ _, h.2⟩⟩
  | true =>
    obtain ⟨m, r, c, A, rfl, rfl, rfl, rfl, hxs, hc, hA⟩ := matIn h1 hv
    have hrf := Mat.red_facts hA.hm (Mat.tr_ok hA.ok) r (Nat.le_refl _)
    refine ⟨(Mat.red m c (Mat.tr A) r).2.length, natsL (Mat.red m c (Mat.tr A) r).2, by simp [natsL], by have := hrf.2.1; omega, fun W hb => (indep_yes qa W (ht.next hb) ((hA.below hb).more hb.size) hc).mono ?_, fun W hb => (rindep_yes qa W ((hA.below hb).more hb.size) hc).mono ?_⟩
    · rintro e w' ⟨⟨q, k, he, _, _, _, h⟩, hb⟩; exact ⟨q, k, he, h, hb⟩
    · rintro e w' ⟨⟨q, k, he, _, _, _, h⟩, hb⟩; exact ⟨q, k, he, h, hb⟩
end
end Go.Proofs.YtaijjhddgecieaaDoor
