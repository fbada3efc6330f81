/- Matrices: the reference's Rank, Independent and At. -/
import Derived.Test.YtaijjhddgecieaaDoorM30
import Derived.Deep.QuietTactic
import Derived.BigQuiet
namespace Go.Proofs.YtaijjhddgecieaaDoor
set_option linter.unusedSimpArgs false
set_option linter.unusedVariables false
open Go.RowKit Go.Lib

set_option maxRecDepth 100000 in
theorem rrank_no (ma ra ca : Int) (qa : Option Addr) (na ka : Nat) (xs : List Int) (w : World) (hla : xs.length = na) (hna : na ≤ 9223372036854775807) (hra : Rd w w.heap.size qa (ints xs)) (h : okMat ma ra ca xs = false) :
    Calls Tryd.prog 31 #[matV ma ra ca qa na ka] w fun e w' => e = .returned (.int .i64 (-1)) ∧ Below w.heap.size w w' := by
  have HVA := Lib.hid (fun (W : World) (h : Below w.heap.size w W) => rvalid6_any ma ra ca qa na ka xs W hla hna ((hra.below h).more h.size))
  rw [h] at HVA
  clear hla hna hra h
  unfold matV at HVA ⊢
  have HW : Hid (Below w.heap.size w (w.alloc (.cells (matC ma ra ca qa na ka) 24))) := Lib.hid ((Below.refl _ w).alloc (Nat.le_refl _) _)
  go_enter Tryd.func31, Tryd.ntmps31
  go_wp2_with fail
  refine (HVA.out _ HW.out).mono ?_
  rintro e w1 ⟨rfl, hb⟩
  have HW1 := Lib.hid (below_call HW.out hb)
  clear hb
  go_wp2
  go_ret
  exact ⟨rfl, HW1.out⟩
set_option maxRecDepth 100000 in
set_option maxHeartbeats 1600000 in
theorem rrank_yes {m r c k : Nat} {A : Nat → Nat → Nat} (q : Option Addr) (w : World) (hA : MatR w w.heap.size m r c q k A) (hc : c ≤ 32) :
    Calls Tryd.prog 31 #[matV m r c q (r * c) k] w fun e w' => e = .returned (.int .i64 ((Mat.red m r A c).2.length : Nat)) ∧ Below w.heap.size w w' := by
  have HVA := Lib.hid (fun (W : World) (h : Below w.heap.size w W) => rvalid_yes hA hc W h h.size)
  have HRED := Lib.hid (fun (W : World) (h : Below w.heap.size w W) => rred_any q k W ((hA.below h).more h.size) (Nat.le_refl c))
  obtain ⟨L, hL⟩ : ∃ L, (Mat.red m r A c).2.length = L := ⟨_, rfl⟩
  obtain ⟨N, hN⟩ : ∃ N, r * c = N := ⟨_, rfl⟩
  rw [hL] at HRED ⊢
  rw [hN] at HVA HRED ⊢
  clear hA hL hN
  unfold matV at HVA HRED ⊢
  have HW : Hid (Below w.heap.size w (w.alloc (.cells (matC m r c q N k) 24))) := Lib.hid ((Below.refl _ w).alloc (Nat.le_refl _) _)
  have HR : Hid (Row (w.alloc (.cells (matC m r c q N k) 24)) w.heap.size 24 (matC m r c q N k)) := Lib.hid (Row.new w _ _)
  go_enter Tryd.func31, Tryd.ntmps31
  go_wp2_with fail
  refine (HVA.out _ HW.out).mono ?_
  rintro e w1 ⟨rfl, hb⟩
  have HW1 := Lib.hid (below_call HW.out hb)
  obtain ⟨a0, a1, a2, a3⟩ := mbox (HR.out.below hb HR.out.lt)
  have hs1 := hb.size
  simp only [size1] at hs1
  clear hb
  go_wp2_with fail
  refine (HRED.out _ HW1.out).mono ?_
  rintro e2 w2 ⟨⟨g, q3, k3, rfl, hg, hk1, hk2, hk3, hrd, hcl, -⟩, hb⟩
  have HW2 := Lib.hid (below_call HW1.out hb)
  have hs2 := hb.size
  clear hb hk3 hrd hcl a0 a1 a2 a3
  go_wp2
  go_ret
  exact ⟨rfl, HW2.out.alloc (by omega) _⟩
set_option maxRecDepth 100000 in
theorem rindep_no (ma ra ca : Int) (qa : Option Addr) (na ka : Nat) (xs : List Int) (w : World) (hla : xs.length = na) (hna : na ≤ 9223372036854775807) (hra : Rd w w.heap.size qa (ints xs)) (h : okMat ma ra ca xs = false) :
    Calls Tryd.prog 34 #[matV ma ra ca qa na ka] w fun e w' => e = .returned (.slice none 0 0) ∧ Below w.heap.size w w' := by
  have HTR := Lib.hid (fun (W : World) (hb : Below w.heap.size w W) => rtransp_no ma ra ca qa na ka xs W hla hna ((hra.below hb).more hb.size) h)
  clear hla hna hra h
  unfold matV at HTR ⊢
  have HW : Hid (Below w.heap.size w (w.alloc (.cells (matC ma ra ca qa na ka) 24))) := Lib.hid ((Below.refl _ w).alloc (Nat.le_refl _) _)
  go_enter Tryd.func34, Tryd.ntmps34
  go_wp2_with fail
  refine (HTR.out _ HW.out).mono ?_
  rintro e w1 ⟨rfl, hb⟩
  have hs1 := hb.size
  simp only [size1] at hs1
  have HW1 := Lib.hid (below_call HW.out hb)
  clear hb
  go_wp2
  go_ret
  exact ⟨rfl, HW1.out.alloc (by omega) _⟩
set_option maxRecDepth 100000 in
set_option maxHeartbeats 1600000 in
theorem rindep_yes {m r c k : Nat} {A : Nat → Nat → Nat} (q : Option Addr) (w : World) (hA : MatR w w.heap.size m r c q k A) (hc : c ≤ 32) :
    Calls Tryd.prog 34 #[matV m r c q (r * c) k] w fun e w' => (∃ q k, e = .returned (.slice q (Mat.red m c (Mat.tr A) r).2.length k) ∧ k ≤ maxLen ∧ (Mat.red m c (Mat.tr A) r).2.length ≤ k ∧ (q = none → k = 0) ∧ Rd w' w'.heap.size q (ints (natsL (Mat.red m c (Mat.tr A) r).2))) ∧ Below w.heap.size w w' := by
  have HTR := Lib.hid (fun (W : World) (hb : Below w.heap.size w W) => rtransp_yes q k W ((hA.below hb).more hb.size) hc)
  have hle : c * r ≤ 32 * 32 := Nat.mul_le_mul hc hA.hr
  have HRED := Lib.hid (fun (g : Nat) (W : World) (hcell : Cells W g (c * r) (Mat.flat r (Mat.tr A))) => rred_any (some ⟨g, 0, none⟩) (c * r) W (MatR.of_cells hcell hcell.lt hA.hm hc (by have := hA.hr; omega) (Mat.tr_ok hA.ok)) (Nat.le_refl r))
  obtain ⟨pv, hpv⟩ : ∃ pv, (Mat.red m c (Mat.tr A) r).2 = pv := ⟨_, rfl⟩
  obtain ⟨N, hN⟩ : ∃ N, r * c = N := ⟨_, rfl⟩
  obtain ⟨N2, hN2⟩ : ∃ N, c * r = N := ⟨_, rfl⟩
  rw [hpv] at HRED ⊢
  rw [hN] at HTR ⊢
  rw [hN2] at HTR HRED
  obtain ⟨L, hL⟩ : ∃ L, pv.length = L := ⟨_, rfl⟩
  rw [hL] at HRED ⊢
  clear hA hpv hN hN2 hL
  unfold matV at HTR HRED ⊢
  have HW : Hid (Below w.heap.size w (w.alloc (.cells (matC m r c q N k) 24))) := Lib.hid ((Below.refl _ w).alloc (Nat.le_refl _) _)
  go_enter Tryd.func34, Tryd.ntmps34
  go_wp2_with fail
  refine (HTR.out _ HW.out).mono ?_
  rintro e w1 ⟨g, rfl, hg, hcell, hb⟩
  have hs1 := hb.size
  simp only [size1] at hs1 hg
  have HW1 := Lib.hid (below_call HW.out hb)
  have HC := Lib.hid hcell
  have hgl := hcell.lt
  clear hb hcell
  go_wp2_with fail
  refine (HRED.out g _ (HC.out.alloc _)).mono ?_
  rintro e2 w2 ⟨⟨g2, q3, k3, rfl, hg2, hk31, hk32, hk33, hrd3, hcl, -⟩, hb⟩
  have HW2 := Lib.hid (below_call (HW1.out.alloc (by omega) _) hb)
  have HRD3 := Lib.hid hrd3
  have HK3 := Lib.hid hk33
  have hs2 := hb.size
  simp only [size1] at hs2
  clear hb hrd3 hcl hk33
  go_wp2
  go_ret
  exact ⟨⟨q3, k3, rfl, hk31, hk32, HK3.out, (HRD3.out.alloc (Nat.le_refl _) _).more (by simp)⟩, HW2.out.alloc (by omega) _⟩

set_option maxRecDepth 100000 in
theorem rat_no (ma ra ca : Int) (qa : Option Addr) (na ka : Nat) (xs : List Int) (i j : Int) (w : World) (hla : xs.length = na) (hna : na ≤ 9223372036854775807) (hra : Rd w w.heap.size qa (ints xs)) (h : (okMat ma ra ca xs && decide (0 ≤ i) && decide (0 ≤ j) && decide (i < ra) && decide (j < ca)) = false) :
    Calls Tryd.prog 30 #[matV ma ra ca qa na ka, .int .i64 i, .int .i64 j] w fun e w' => e = .returned (.int .i64 0) ∧ Below w.heap.size w w' := by
  have HVA := Lib.hid (fun (W : World) (h : Below w.heap.size w W) => rvalid6_any ma ra ca qa na ka xs W hla hna ((hra.below h).more h.size))
  clear hla hna hra
  obtain ⟨b1, e1⟩ : ∃ b, okMat ma ra ca xs = b := ⟨_, rfl⟩
  obtain ⟨b2, e2⟩ : ∃ b, decide (i < 0) = b := ⟨_, rfl⟩
  obtain ⟨b5, e5⟩ : ∃ b, decide (j < 0) = b := ⟨_, rfl⟩
  obtain ⟨b3, e3⟩ : ∃ b, decide (ra ≤ i) = b := ⟨_, rfl⟩
  obtain ⟨b4, e4⟩ : ∃ b, decide (ca ≤ j) = b := ⟨_, rfl⟩
  have hs : b1 = false ∨ (b1 = true ∧ b2 = true) ∨ (b1 = true ∧ b2 = false ∧ b5 = true) ∨ (b1 = true ∧ b2 = false ∧ b5 = false ∧ b3 = true) ∨ (b1 = true ∧ b2 = false ∧ b5 = false ∧ b3 = false ∧ b4 = true) := by
    rw [e1] at h
    have hx : b1 = true → ¬ (b2 = false ∧ b5 = false ∧ b3 = false ∧ b4 = false) := by
      rintro rfl ⟨rfl, rfl, rfl, rfl⟩
      simp only [decide_eq_false_iff_not] at e2 e3 e4 e5
      simp only [Bool.true_and, Bool.and_eq_false_iff, decide_eq_false_iff_not] at h
      omega
    cases b1 <;> cases b2 <;> cases b3 <;> cases b4 <;> cases b5 <;> simp at hx ⊢
  rw [e1] at HVA
  clear h e1
  unfold matV at HVA ⊢
  have HW : Hid (Below w.heap.size w (w.alloc (.cells (matC ma ra ca qa na ka) 24))) := Lib.hid ((Below.refl _ w).alloc (Nat.le_refl _) _)
  have HRA : Hid (Row (w.alloc (.cells (matC ma ra ca qa na ka) 24)) w.heap.size 24 (matC ma ra ca qa na ka)) := Lib.hid (Row.new w _ _)
  rcases hs with rfl | ⟨rfl, rfl⟩ | ⟨rfl, rfl, rfl⟩ | ⟨rfl, rfl, rfl, rfl⟩ | ⟨rfl, rfl, rfl, rfl, rfl⟩
  all_goals
    go_enter Tryd.func30, Tryd.ntmps30
    go_wp2_with fail
    refine (HVA.out _ HW.out).mono ?_
    rintro e w1 ⟨rfl, hb⟩
    have HW1 := Lib.hid (below_call HW.out hb)
    obtain ⟨a0, a1, a2, a3⟩ := mbox (HRA.out.below hb HRA.out.lt)
    clear hb
    go_wp2
    go_ret
    exact ⟨rfl, HW1.out⟩
set_option maxRecDepth 100000 in
set_option maxHeartbeats 800000 in
theorem rat_yes {m r c k : Nat} {A : Nat → Nat → Nat} (q : Option Addr) (i j : Nat) (w : World) (hA : MatR w w.heap.size m r c q k A) (hc : c ≤ 32) (hi : i < r) (hj : j < c) :
    Calls Tryd.prog 30 #[matV m r c q (r * c) k, .int .i64 i, .int .i64 j] w fun e w' => e = .returned (.int .i64 (A i j : Int)) ∧ Below w.heap.size w w' := by
  have hr := hA.hr
  have HA := Lib.hid hA
  have HVA := Lib.hid (fun (W : World) (h : Below w.heap.size w W) => rvalid_yes hA hc W h h.size)
  have d1 : decide ((i : Int) < 0) = false := decide_eq_false (by omega)
  have d4 : decide ((j : Int) < 0) = false := decide_eq_false (by omega)
  have d2 : decide ((r : Int) ≤ i) = false := decide_eq_false (by omega)
  have d3 : decide ((c : Int) ≤ j) = false := decide_eq_false (by omega)
  have hlt := Mat.at_lt hi hj
  have hle : r * c ≤ 32 * 32 := Nat.mul_le_mul hr hc
  obtain ⟨N, hN⟩ : ∃ N, r * c = N := ⟨_, rfl⟩
  rw [hN] at HVA hlt hle ⊢
  obtain ⟨o, ho⟩ : ∃ o, i * c = o := ⟨_, rfl⟩
  have HO := Lib.hid ho
  rw [ho] at hlt
  have hw1 := wrap_mul ho (by omega)
  have hw2 := wrap_add o j (by omega)
  unfold matV at HVA ⊢
  clear hA hN ho
  have HW : Hid (Below w.heap.size w (w.alloc (.cells (matC m r c q N k) 24))) := Lib.hid ((Below.refl _ w).alloc (Nat.le_refl _) _)
  have HRA : Hid (Row (w.alloc (.cells (matC m r c q N k) 24)) w.heap.size 24 (matC m r c q N k)) := Lib.hid (Row.new w _ _)
  go_enter Tryd.func30, Tryd.ntmps30
  go_wp2_with fail
  refine (HVA.out _ HW.out).mono ?_
  rintro e w1 ⟨rfl, hb⟩
  have HW1 := Lib.hid (below_call HW.out hb)
  obtain ⟨a0, a1, a2, a3⟩ := mbox (HRA.out.below hb HRA.out.lt)
  obtain ⟨ga, oa, rfl, hgl, hcell⟩ := (HA.out.below HW1.out).cell i j hi hj
  rw [HO.out] at hcell
  clear hb
  go_wp2
  go_ret
  exact ⟨rfl, HW1.out⟩

/-- the picked rows before i, and the first j elements of row i -/
def pkTo (A : Nat → Nat → Nat) (is : List Int) (i j p q : Nat) : Nat := if p < i ∨ (p = i ∧ q < j) then pick A is p q else 0
theorem pkTo_put {A : Nat → Nat → Nat} {is : List Int} {i j : Nat} (p q : Nat) : pkTo A is i (j + 1) p q = if p = i ∧ q = j then pick A is i j else pkTo A is i j p q := by
  unfold pkTo
  by_cases e : p = i ∧ q = j
  · rw [if_pos e, if_pos (.inr ⟨e.1, by omega⟩), e.1, e.2]
  · rw [if_neg e]
    by_cases e2 : p < i ∨ (p = i ∧ q < j)
    · rw [if_pos e2, if_pos (by omega)]
    · rw [if_neg e2, if_neg (by omega)]
set_option maxRecDepth 100000 in
theorem rpick_no (ma ra ca : Int) (qa : Option Addr) (na ka : Nat) (xs : List Int) (qr : Option Addr) (L kr : Nat) (w : World) (hla : xs.length = na) (hna : na ≤ 9223372036854775807) (hra : Rd w w.heap.size qa (ints xs)) (h : (okMat ma ra ca xs && decide (L ≤ 32)) = false) :
    Calls Tryd.prog 26 #[matV ma ra ca qa na ka, .slice qr L kr] w fun e w' => e = .returned (outV nilM 1) ∧ Below w.heap.size w w' := by
  have HVA := Lib.hid (fun (W : World) (h : Below w.heap.size w W) => rvalid6_any ma ra ca qa na ka xs W hla hna ((hra.below h).more h.size))
  clear hla hna hra
  obtain ⟨b1, e1⟩ : ∃ b, okMat ma ra ca xs = b := ⟨_, rfl⟩
  obtain ⟨b4, e4⟩ : ∃ b, decide (32 < (L : Int)) = b := ⟨_, rfl⟩
  have hs : b1 = false ∨ (b1 = true ∧ b4 = true) := by
    have h4 : decide (L ≤ 32) = !b4 := by rw [← e4, Bool.eq_iff_iff]; simp; omega
    rw [e1, h4] at h
    cases b1 <;> cases b4 <;> simp_all
  rw [e1] at HVA
  clear h e1
  unfold matV at HVA ⊢
  have HW : Hid (Below w.heap.size w ((w.alloc (.cells (matC ma ra ca qa na ka) 24)).alloc (.cells #[.int .i64 0, .int .i64 0, .int .i64 0, .slice none 0 0] 24))) := Lib.hid (((Below.refl _ w).alloc (Nat.le_refl _) _).alloc (by simp) _)
  have HRZ : Hid (Row ((w.alloc (.cells (matC ma ra ca qa na ka) 24)).alloc (.cells #[.int .i64 0, .int .i64 0, .int .i64 0, .slice none 0 0] 24)) (w.heap.size + 1) 24 #[.int .i64 0, .int .i64 0, .int .i64 0, .slice none 0 0]) := Lib.hid (Row.made _ _ (by simp))
  rcases hs with rfl | ⟨rfl, rfl⟩
  all_goals
    go_enter Tryd.func26, Tryd.ntmps26
    go_wp2_with fail
    refine (HVA.out _ HW.out).mono ?_
    rintro e w1 ⟨rfl, hb⟩
    have hlt1 := hb.size
    simp only [size1] at hlt1
    have HW1 := Lib.hid (below_call HW.out hb)
    have HRZ1 := Lib.hid (HRZ.out.below hb HRZ.out.lt)
    clear hb
    go_wp2_with (refine wpList_store_row rfl _ _ _ rfl (w.heap.size + 1) (matC 0 0 0 none 0 0) rfl rfl _ _ HRZ1.out (by kernel_rfl) rfl (matC_one _ _ _ _ _ _) ?_)
    refine bodyPost_ret (v := outV nilM 1) ?_ rfl ⟨rfl, below_whole HW1.out (by omega) _⟩
    exact results_row_tmp rfl _ _ (w.heap.size + 1) _ _ _ _ rfl rfl (HRZ1.out.whole _) Tryd.underlying24 (by rfl) (by kernel_rfl)
set_option maxRecDepth 100000 in
set_option maxHeartbeats 3200000 in
theorem rpick_yes {m r c k : Nat} {A : Nat → Nat → Nat} (q : Option Addr) (qr : Option Addr) (L kr : Nat) (is : List Int) (w : World) (hA : MatR w w.heap.size m r c q k A) (hc : c ≤ 32) (hL : L ≤ 32) (hil : is.length = L) (hri : Rd w w.heap.size qr (ints is)) :
    Calls Tryd.prog 26 #[matV m r c q (r * c) k, .slice qr L kr] w fun e w' =>
      ((badRow r is = true ∧ e = .returned (outV nilM 1)) ∨ (badRow r is = false ∧ ∃ g, e = .returned (outV (matV m L c (some ⟨g, 0, none⟩) (L * c) (L * c)) 0) ∧ Cells w' g (L * c) (Mat.flat c (pick A is)))) ∧ Below w.heap.size w w' := by
  have hr := hA.hr
  have HA := Lib.hid hA
  have HVA := Lib.hid (fun (W : World) (h : Below w.heap.size w W) => rvalid_yes hA hc W h h.size)
  have HZ := Lib.hid (fun W => rzero_any (m : Int) L c (by omega) (by omega) W)
  obtain ⟨bad, hbad⟩ : ∃ b, badRow r is = b := ⟨_, rfl⟩
  rw [hbad]
  have HBAD := Lib.hid hbad
  have hNAle : r * c ≤ 32 * 32 := Nat.mul_le_mul hr hc
  have hNle : L * c ≤ 32 * 32 := Nat.mul_le_mul hL hc
  obtain ⟨NA, hNA⟩ : ∃ N, r * c = N := ⟨_, rfl⟩
  obtain ⟨N, hN⟩ : ∃ N, L * c = N := ⟨_, rfl⟩
  have HNA := Lib.hid hNA
  have HN := Lib.hid hN
  rw [hNA] at HVA hNAle ⊢
  rw [hN] at HZ hNle ⊢
  have HRI := Lib.hid hri
  have HIL := Lib.hid hil
  unfold matV at HVA ⊢
  clear hA hNA hN hbad hri hil
  have hdL : decide (32 < (L : Int)) = false := decide_eq_false (by omega)
  have HW : Hid (Below w.heap.size w ((w.alloc (.cells (matC m r c q NA k) 24)).alloc (.cells #[.int .i64 0, .int .i64 0, .int .i64 0, .slice none 0 0] 24))) := Lib.hid (((Below.refl _ w).alloc (Nat.le_refl _) _).alloc (by simp) _)
  have HRA : Hid (Row ((w.alloc (.cells (matC m r c q NA k) 24)).alloc (.cells #[.int .i64 0, .int .i64 0, .int .i64 0, .slice none 0 0] 24)) w.heap.size 24 (matC m r c q NA k)) := Lib.hid ((Row.new w _ _).alloc _)
  have HRZ : Hid (Row ((w.alloc (.cells (matC m r c q NA k) 24)).alloc (.cells #[.int .i64 0, .int .i64 0, .int .i64 0, .slice none 0 0] 24)) (w.heap.size + 1) 24 (matC 0 0 0 none 0 0)) := Lib.hid (Row.made _ _ (by simp))
  go_enter Tryd.func26, Tryd.ntmps26
  go_wp2_with fail
  refine (HVA.out _ HW.out).mono ?_
  rintro e w1 ⟨rfl, hb⟩
  have hlt1 := hb.size
  simp only [size1] at hlt1
  have HW1 := Lib.hid (below_call HW.out hb)
  have HRA1 := Lib.hid (HRA.out.below hb HRA.out.lt)
  have HRZ1 := Lib.hid (HRZ.out.below hb HRZ.out.lt)
  obtain ⟨a0, a1, a2, a3⟩ := mbox HRA1.out
  clear hb HW HRA HRZ
  go_wp2_with fail
  refine (HZ.out _).mono ?_
  rintro e w3 ⟨g, rfl, hg, hc3, hb⟩
  have hlt3 := hb.size
  have HC3 := Lib.hid hc3
  have HW3 := Lib.hid (below_call HW1.out hb)
  have HRA3 := Lib.hid (HRA1.out.below hb HRA1.out.lt)
  have HRZ3 := Lib.hid (HRZ1.out.below hb HRZ1.out.lt)
  have hglt := hc3.lt
  clear a0 a1 a2 a3 hb HW1 HRA1 HRZ1 hc3
  have hz0 : w.heap.size < w3.heap.size := by omega
  have hz1 : w.heap.size + 1 < w3.heap.size := by omega
  go_wp2_with fail
  have HS0 := Lib.hid (show Made1 w (w3.alloc (.cells (matC m L c (some ⟨g, 0, none⟩) N N) 24)) w.heap.size (w.heap.size + 1) g w3.heap.size N (matC m r c q NA k) (matC 0 0 0 none 0 0) (matC m L c (some ⟨g, 0, none⟩) N N) (Mat.flat c (pkTo A is 0 0)) from
    ⟨HRA3.out.alloc _, HRZ3.out.alloc _, Row.made _ _ rfl, (HC3.out.alloc _).congr (fun p _ => by unfold Mat.flat pkTo; simp), HW3.out.alloc (by omega) _⟩)
  clear HC3 HRA3 HRZ3
  have hg2 : w.heap.size + 1 < g := by omega
  go_loopw [8] (fun i wr => ∃ i' : Nat, i' ≤ L ∧ i = .int .i64 i' ∧ Hid (∀ (t : Nat) (x : Int), t < i' → is[t]? = some x → 0 ≤ x ∧ x < r) ∧ Made1 w wr w.heap.size (w.heap.size + 1) g w3.heap.size N (matC m r c q NA k) (matC 0 0 0 none 0 0) (matC m L c (some ⟨g, 0, none⟩) N N) (Mat.flat c (pkTo A is i' 0))) (fun i _ => L - (intOf i).toNat)
  case atStart => exact ⟨0, Nat.zero_le _, rfl, Lib.hid (fun t x h => absurd h (Nat.not_lt_zero _)), HS0.out⟩
  case round =>
    obtain ⟨i, hi, rfl, hz, hs⟩ := hrel
    have HS := Lib.hid hs
    have HZZ := Lib.hid hz.out
    obtain ⟨a0, a1, a2, a3⟩ := mbox hs.ra
    clear hs hz HS0
    by_cases hir : i < L
    · have hd : decide ((i : Int) < L) = true := decide_eq_true (by omega)
      obtain ⟨x, hx⟩ : ∃ x, is[i]? = some x := ⟨_, List.getElem?_eq_getElem (by rw [HIL.out]; exact hir)⟩
      have HX := Lib.hid hx
      obtain ⟨br, or, rfl, hbr, hcr⟩ := (HRI.out.below HS.out.below) i (.int .i64 x) (by rw [ints, List.getElem?_map, hx]; rfl)
      have hI0 : (0 : Int) ≤ (i : Int) := by omega
      clear hx
      by_cases hx0 : x < 0
      · have hd0 : decide (x < 0) = true := decide_eq_true hx0
        have HBT := Lib.hid (badRow_true (r := r) HX.out (.inl hx0))
        go_wp2_with fail
        go_quiet (fail)
        go_wp2_with (refine wpList_store_row rfl _ _ _ rfl (w.heap.size + 1) (matC 0 0 0 none 0 0) rfl rfl _ _ (HS.out.rz.drewN _) (by kernel_rfl) rfl (matC_one _ _ _ _ _ _) ?_)
        refine bodyPost_ret (v := outV nilM 1) ?_ rfl ⟨.inl ⟨HBAD.out.symm.trans HBT.out, rfl⟩, below_whole (below_drewN HS.out.below _) (by omega) _⟩
        exact results_row_tmp rfl _ _ (w.heap.size + 1) _ _ _ _ rfl rfl ((HS.out.rz.drewN _).whole _) Tryd.underlying24 (by rfl) (by kernel_rfl)
      · have hd0 : decide (x < 0) = false := decide_eq_false hx0
        by_cases hxr : (r : Int) ≤ x
        · have hd1 : decide ((r : Int) ≤ x) = true := decide_eq_true hxr
          have HBT := Lib.hid (badRow_true (r := r) HX.out (.inr hxr))
          go_wp2_with fail
          go_quiet (fail)
          go_wp2_with (refine wpList_store_row rfl _ _ _ rfl (w.heap.size + 1) (matC 0 0 0 none 0 0) rfl rfl _ _ (HS.out.rz.drewN _) (by kernel_rfl) rfl (matC_one _ _ _ _ _ _) ?_)
          refine bodyPost_ret (v := outV nilM 1) ?_ rfl ⟨.inl ⟨HBAD.out.symm.trans HBT.out, rfl⟩, below_whole (below_drewN HS.out.below _) (by omega) _⟩
          exact results_row_tmp rfl _ _ (w.heap.size + 1) _ _ _ _ rfl rfl ((HS.out.rz.drewN _).whole _) Tryd.underlying24 (by rfl) (by kernel_rfl)
        · have hd1 : decide ((r : Int) ≤ x) = false := decide_eq_false hxr
          obtain ⟨X, rfl⟩ : ∃ X : Nat, x = X := ⟨x.toNat, by omega⟩
          have hXr : X < r := by omega
          obtain ⟨oi, hoi⟩ : ∃ o, i * c = o := ⟨_, rfl⟩
          have HOI := Lib.hid hoi
          have hfi : oi + c ≤ N := by
            have := Nat.mul_le_mul_right c (show i + 1 ≤ L by omega)
            rw [Nat.add_mul, Nat.one_mul, HN.out, hoi] at this
            exact this
          obtain ⟨ox, hox⟩ : ∃ o, X * c = o := ⟨_, rfl⟩
          have HOX := Lib.hid hox
          have hfx : ox + c ≤ NA := by
            have := Nat.mul_le_mul_right c (show X + 1 ≤ r by omega)
            rw [Nat.add_mul, Nat.one_mul, HNA.out, hox] at this
            exact this
          have hw1 := wrap_mul hoi (by omega)
          have hw2 := wrap_mul hox (by omega)
          have HPX := Lib.hid (fun j => show pick A is i j = A X j by unfold pick; rw [HX.out]; rfl)
          clear hoi hox
          go_wp2_with fail
          go_quiet (fail)
          have HSD := Lib.hid (show Made1 w (wr.drewN _) w.heap.size (w.heap.size + 1) g w3.heap.size N (matC m r c q NA k) (matC 0 0 0 none 0 0) (matC m L c (some ⟨g, 0, none⟩) N N) (Mat.flat c (pkTo A is i 0)) from ⟨HS.out.ra.drewN nq, HS.out.rz.drewN nq, HS.out.rc.drewN nq, HS.out.cells, below_drewN HS.out.below nq⟩)
          go_wp2_with fail
          clear a0 a1 a2 a3 hcr
          go_loopw [9] (fun t wr => ∃ t' : Nat, t' ≤ c ∧ t = .int .i64 t' ∧ Made1 w wr w.heap.size (w.heap.size + 1) g w3.heap.size N (matC m r c q NA k) (matC 0 0 0 none 0 0) (matC m L c (some ⟨g, 0, none⟩) N N) (Mat.flat c (pkTo A is i t'))) (fun i _ => c - (intOf i).toNat)
          case atStart => exact ⟨0, Nat.zero_le _, rfl, HSD.out⟩
          case round =>
            obtain ⟨t, htk, rfl, hs⟩ := hrel
            have HS2 := Lib.hid hs
            obtain ⟨a0, a1, a2, a3⟩ := mbox hs.ra
            obtain ⟨c0, c1, c2, c3⟩ := mbox hs.rc
            clear hs HSD
            by_cases hlt : t < c
            · have hd : decide ((t : Int) < c) = true := decide_eq_true (by omega)
              obtain ⟨ga, oa, rfl, hgal, hcell⟩ := (HA.out.below HS2.out.below).cell X t hXr hlt
              obtain ⟨br2, or2, hbo, hbr2, hcr2⟩ := (HRI.out.below HS2.out.below) i (.int .i64 (X : Int)) (by rw [ints, List.getElem?_map, HX.out]; rfl)
              obtain ⟨rfl, rfl⟩ : br = br2 ∧ or = or2 := by injection hbo with h; injection h with h1 h2; exact ⟨h1, h2⟩
              obtain ⟨F, hF⟩ : ∃ F, A X t = F := ⟨_, rfl⟩
              rw [hF, HOX.out] at hcell
              have HF := Lib.hid hF
              have hlt2 : oi + t < N := by omega
              have hcell5 := HS2.out.cells.cell hlt2
              have hfr := HS2.out.cells.frozen (oi + t)
              have hw3 := wrap_add oi t (by omega)
              have hw4 := wrap_add ox t (by omega)
              have hix : ox + t < NA := by omega
              clear hF hbo
              go_wp2_with fail
              go_region
              go_wp2_with fail
              go_roundw
              case rel =>
                refine ⟨t + 1, by omega, by go_num, ((HS2.out.put hlt2 F (by omega) (by omega) (by omega) (by omega)).congr fun p hp => ?_).drew⟩
                rw [← HN.out] at hp
                rw [← HOI.out]
                exact flat_put hir hlt (fun p q _ _ => by rw [← HF.out, ← HPX.out]; exact pkTo_put p q) p hp
              case measure => simp [intOf]; omega
            · have hd : decide ((t : Int) < c) = false := decide_eq_false (by omega)
              have htk : t = c := by omega
              subst htk
              have HS5 := Lib.hid (HS2.out.congr (f' := Mat.flat t (pkTo A is (i + 1) 0)) (fun p hp => by
                rw [← HN.out] at hp
                refine Mat.flat_congr (fun p q h1 h2 => ?_) p hp
                unfold pkTo
                by_cases e : p < i ∨ (p = i ∧ q < t)
                · rw [if_pos e, if_pos (by omega)]
                · rw [if_neg e, if_neg (by omega)]))
              go_wp2_with fail
              go_roundw
              case rel => exact ⟨i + 1, by omega, by go_num, Lib.hid (fun t x h1 h2 => by
                by_cases e : t = i
                · rw [e, HX.out] at h2
                  injection h2 with h2
                  omega
                · exact HZZ.out t x (by omega) h2), HS5.out⟩
              case measure => simp [intOf]; omega
    · have hd : decide ((i : Int) < L) = false := decide_eq_false (by omega)
      have hir : i = L := by omega
      subst hir
      have HBF := Lib.hid (badRow_all (r := r) (is := is) (fun t x hx => HZZ.out t x (by
        by_cases h : t < is.length
        · rw [HIL.out] at h; exact h
        · rw [List.getElem?_eq_none (by omega)] at hx; cases hx) hx))
      obtain ⟨c0, c1, c2, c3⟩ := mbox HS.out.rc
      go_wp2_with (refine wpList_store_row rfl _ _ _ rfl (w.heap.size + 1) (matC m i c (some ⟨g, 0, none⟩) N N) rfl rfl _ _ HS.out.rz (by kernel_rfl) rfl (matC_one _ _ _ _ _ _) ?_)
      refine bodyPost_ret (v := outV (matV m i c (some ⟨g, 0, none⟩) N N) 0) ?_ rfl ⟨.inr ⟨HBAD.out.symm.trans HBF.out, g, rfl, ?_⟩, below_whole HS.out.below (by omega) _⟩
      · exact results_row_tmp rfl _ _ (w.heap.size + 1) _ _ _ _ rfl rfl (HS.out.rz.whole _) Tryd.underlying24 (by rfl) (by kernel_rfl)
      · exact (HS.out.cells.apart (by omega) _).congr (fun p hp => by rw [← HN.out] at hp; exact Mat.flat_congr (fun p q hp hq => by unfold pkTo; rw [if_pos (.inl hp)]) p hp)
end Go.Proofs.YtaijjhddgecieaaDoor
