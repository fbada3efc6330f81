/- Matrices: solving, the reference's. -/
import Derived.Test.YtaijjhddgecieaaDoorM33
namespace Go.Proofs.YtaijjhddgecieaaDoor
set_option linter.unusedSimpArgs false
set_option linter.unusedVariables false
open Go.RowKit Go.Lib

/-- the solution after i rows, and t elements of the next -/
def spTo (k : Nat) (Z : Nat → Nat → Nat) (pv : List Nat) (i t p q : Nat) : Nat := if q < t ∧ pv[i]? = some p then Z i (k + q) else solTo k Z pv i p q
theorem spTo_zero (k : Nat) (Z : Nat → Nat → Nat) (pv : List Nat) (i p q : Nat) : spTo k Z pv i 0 p q = solTo k Z pv i p q := by
  unfold spTo; rw [if_neg (fun h => Nat.not_lt_zero _ h.1)]
theorem spTo_put {k i t P : Nat} {Z : Nat → Nat → Nat} {pv : List Nat} (hP : pv[i]? = some P) (p q : Nat) : spTo k Z pv i (t + 1) p q = if p = P ∧ q = t then Z i (k + t) else spTo k Z pv i t p q := by
  unfold spTo
  by_cases e : p = P ∧ q = t
  · rw [if_pos e, if_pos ⟨by omega, by rw [e.1]; exact hP⟩, e.2]
  · rw [if_neg e]
    by_cases e2 : q < t ∧ pv[i]? = some p
    · rw [if_pos e2, if_pos ⟨by omega, e2.2⟩]
    · rw [if_neg e2, if_neg (fun h => e2 ⟨by
        by_cases e3 : q = t
        · exact absurd ⟨by have h2 := h.2; rw [hP] at h2; injection h2 with h2; exact h2.symm, e3⟩ e
        · omega, h.2⟩)]
theorem spTo_skip {k i t p q : Nat} {Z : Nat → Nat → Nat} {pv : List Nat} (h : pv.length ≤ i) : spTo k Z pv i t p q = solTo k Z pv i p q := by
  unfold spTo; rw [if_neg (fun h2 => by have h2 := h2.2; rw [List.getElem?_eq_none h] at h2; cases h2)]
theorem spTo_end {k c : Nat} (i : Nat) (Z : Nat → Nat → Nat) (pv : List Nat) : Mat.Eq k c (spTo k Z pv i c) (solTo k Z pv (i + 1)) := fun p q hp hq => by
  show _ = if pv[i]? = some p then Z i (k + q) else solTo k Z pv i p q
  unfold spTo
  by_cases e : pv[i]? = some p
  · rw [if_pos ⟨hq, e⟩, if_pos e]
  · rw [if_neg (fun h => e h.2), if_neg e]
set_option maxRecDepth 100000 in
set_option maxHeartbeats 1600000 in
theorem rsolve_no (ma ra ca : Int) (qa : Option Addr) (na ka : Nat) (xs : List Int) (mb rb cb : Int) (qb : Option Addr) (nb kb : Nat) (ys : List Int) (w : World) (hla : xs.length = na) (hna : na ≤ 9223372036854775807) (hra : Rd w w.heap.size qa (ints xs)) (hlb : ys.length = nb) (hnb : nb ≤ 9223372036854775807) (hrb : Rd w w.heap.size qb (ints ys))
    (h : (okMat ma ra ca xs && okMat mb rb cb ys && decide (ma = mb) && decide (ra = rb)) = false) :
    Calls Tryd.prog 18 #[matV ma ra ca qa na ka, matV mb rb cb qb nb kb] w fun e w' => e = .returned (outV nilM 1) ∧ Below w.heap.size w w' := by
  have HVA := Lib.hid (fun (W : World) (h : Below w.heap.size w W) => rvalid6_any ma ra ca qa na ka xs W hla hna ((hra.below h).more h.size))
  have HVB := Lib.hid (fun (W : World) (h : Below w.heap.size w W) => rvalid6_any mb rb cb qb nb kb ys W hlb hnb ((hrb.below h).more h.size))
  clear hla hna hra hlb hnb hrb
  obtain ⟨b1, e1⟩ : ∃ b, okMat ma ra ca xs = b := ⟨_, rfl⟩
  obtain ⟨b2, e2⟩ : ∃ b, okMat mb rb cb ys = b := ⟨_, rfl⟩
  obtain ⟨b3, e3⟩ : ∃ b, (ma != mb) = b := ⟨_, rfl⟩
  obtain ⟨b4, e4⟩ : ∃ b, (ra != rb) = b := ⟨_, rfl⟩
  have hs : b1 = false ∨ (b1 = true ∧ b2 = false) ∨ (b1 = true ∧ b2 = true ∧ b3 = true) ∨ (b1 = true ∧ b2 = true ∧ b3 = false ∧ b4 = true) := by
    rw [e1, e2] at h
    have h3 : decide (ma = mb) = !b3 := by rw [← e3, Bool.eq_iff_iff]; simp
    have h4 : decide (ra = rb) = !b4 := by rw [← e4, Bool.eq_iff_iff]; simp
    rw [h3, h4] at h
    cases b1 <;> cases b2 <;> cases b3 <;> cases b4 <;> simp_all
  rw [e1] at HVA
  rw [e2] at HVB
  clear h e1 e2
  unfold matV at HVA HVB ⊢
  have HW : Hid (Below w.heap.size w (((w.alloc (.cells (matC ma ra ca qa na ka) 24)).alloc (.cells (matC mb rb cb qb nb kb) 24)).alloc (.cells #[.int .i64 0, .int .i64 0, .int .i64 0, .slice none 0 0] 24))) := Lib.hid ((((Below.refl _ w).alloc (Nat.le_refl _) _).alloc (by simp) _).alloc (by simp; omega) _)
  have HRA : Hid (Row (((w.alloc (.cells (matC ma ra ca qa na ka) 24)).alloc (.cells (matC mb rb cb qb nb kb) 24)).alloc (.cells #[.int .i64 0, .int .i64 0, .int .i64 0, .slice none 0 0] 24)) w.heap.size 24 (matC ma ra ca qa na ka)) := Lib.hid (((Row.new w _ _).alloc _).alloc _)
  have HRB : Hid (Row (((w.alloc (.cells (matC ma ra ca qa na ka) 24)).alloc (.cells (matC mb rb cb qb nb kb) 24)).alloc (.cells #[.int .i64 0, .int .i64 0, .int .i64 0, .slice none 0 0] 24)) (w.heap.size + 1) 24 (matC mb rb cb qb nb kb)) := Lib.hid ((Row.made _ _ (by simp)).alloc _)
  have HRZ : Hid (Row (((w.alloc (.cells (matC ma ra ca qa na ka) 24)).alloc (.cells (matC mb rb cb qb nb kb) 24)).alloc (.cells #[.int .i64 0, .int .i64 0, .int .i64 0, .slice none 0 0] 24)) (w.heap.size + 2) 24 #[.int .i64 0, .int .i64 0, .int .i64 0, .slice none 0 0]) := Lib.hid (Row.made _ _ (by simp))
  rcases hs with rfl | ⟨rfl, rfl⟩ | ⟨rfl, rfl, rfl⟩ | ⟨rfl, rfl, rfl, rfl⟩
  all_goals
    go_enter Tryd.func18, Tryd.ntmps18
    go_wp2_with fail
    refine (HVA.out _ HW.out).mono ?_
    rintro e w1 ⟨rfl, hb⟩
    have hlt1 := hb.size
    simp only [size1] at hlt1
    have HW1 := Lib.hid (below_call HW.out hb)
    have HRA1 := Lib.hid (HRA.out.below hb HRA.out.lt)
    have HRB1 := Lib.hid (HRB.out.below hb HRB.out.lt)
    have HRZ1 := Lib.hid (HRZ.out.below hb HRZ.out.lt)
    obtain ⟨a0, a1, a2, a3⟩ := mbox HRA1.out
    obtain ⟨b0, b1, b2, b3⟩ := mbox HRB1.out
    clear hb
    go_wp2_with (first | (refine wpList_store_row rfl _ _ _ rfl (w.heap.size + 2) (matC 0 0 0 none 0 0) rfl rfl _ _ HRZ1.out (by kernel_rfl) rfl (matC_one _ _ _ _ _ _) ?_))
    try
      refine (HVB.out _ HW1.out).mono ?_
      rintro e w2 ⟨rfl, hb⟩
      have hlt2 := hb.size
      have HW1 := Lib.hid (below_call HW1.out hb)
      have HRA1 := Lib.hid (HRA1.out.below hb HRA1.out.lt)
      have HRB1 := Lib.hid (HRB1.out.below hb HRB1.out.lt)
      have HRZ1 := Lib.hid (HRZ1.out.below hb HRZ1.out.lt)
      clear a0 a1 a2 a3 b0 b1 b2 b3
      obtain ⟨a0, a1, a2, a3⟩ := mbox HRA1.out
      obtain ⟨b0, b1, b2, b3⟩ := mbox HRB1.out
      clear hb
      go_wp2_with (first | (refine wpList_store_row rfl _ _ _ rfl (w.heap.size + 2) (matC 0 0 0 none 0 0) rfl rfl _ _ HRZ1.out (by kernel_rfl) rfl (matC_one _ _ _ _ _ _) ?_))
    refine bodyPost_ret (v := outV nilM 1) ?_ rfl ⟨rfl, below_whole HW1.out (by omega) _⟩
    exact results_row_tmp rfl _ _ (w.heap.size + 2) _ _ _ _ rfl rfl (HRZ1.out.whole _) Tryd.underlying24 (by rfl) (by kernel_rfl)
/-- what stands in memory when both matrices have been reduced -/
structure Sv6 (w wx : World) (gc g2 : Nat) (q6 : Option Addr) (N1 : Nat) (a b c : Array Value) (f : Nat → Nat) (pv : List Value) : Prop where
  below : Below w.heap.size w wx
  ra : Row wx w.heap.size 24 a
  rb : Row wx (w.heap.size + 1) 24 b
  rz : Row wx (w.heap.size + 2) 24 (matC 0 0 0 none 0 0)
  rc : Row wx gc 24 c
  cells : Cells wx g2 N1 f
  rd : Rd wx wx.heap.size q6 pv
theorem svA {w w6 : World} {g2 N1 : Nat} {q6 : Option Addr} {a b c : Array Value} {f : Nat → Nat} {pv : List Value} (hb : Below w.heap.size w w6) (ha : Row w6 w.heap.size 24 a) (hbb : Row w6 (w.heap.size + 1) 24 b) (hz : Row w6 (w.heap.size + 2) 24 (matC 0 0 0 none 0 0)) (hc : Cells w6 g2 N1 f) (hr : Rd w6 w6.heap.size q6 pv) :
    Sv6 w (w6.alloc (.cells c 24)) w6.heap.size g2 q6 N1 a b c f pv :=
  ⟨hb.alloc hb.size _, ha.alloc _, hbb.alloc _, hz.alloc _, Row.new _ _ _, hc.alloc _, (hr.alloc (Nat.le_refl _) _).more (by simp)⟩
theorem put4 {B : Nat} {w w6 : World} {gz : Nat} (hb : Below B w w6) (h : B ≤ gz) (c0 c1 c2 c3 : Value) : Below B w ((((w6.setCell ⟨gz, 0, none⟩ c0).setCell ⟨gz, 1, none⟩ c1).setCell ⟨gz, 2, none⟩ c2).setCell ⟨gz, 3, none⟩ c3) :=
  (((hb.setCell (p := ⟨gz, 0, none⟩) h c0).setCell (p := ⟨gz, 1, none⟩) h c1).setCell (p := ⟨gz, 2, none⟩) h c2).setCell (p := ⟨gz, 3, none⟩) h c3
theorem put4_other {w6 : World} {gz : Nat} (c0 c1 c2 c3 : Value) (b : Nat) (hb : b ≠ gz) : ((((w6.setCell ⟨gz, 0, none⟩ c0).setCell ⟨gz, 1, none⟩ c1).setCell ⟨gz, 2, none⟩ c2).setCell ⟨gz, 3, none⟩ c3).heap[b]? = w6.heap[b]? := by
  rw [heap_setCell_other _ _ _ _ hb, heap_setCell_other _ _ _ _ hb, heap_setCell_other _ _ _ _ hb, heap_setCell_other _ _ _ _ hb]
theorem put4_row {w6 : World} {gz : Nat} {t : TypeId} {z0 z1 z2 z3 : Value} (h : Row w6 gz t #[z0, z1, z2, z3]) (c0 c1 c2 c3 : Value) : Row ((((w6.setCell ⟨gz, 0, none⟩ c0).setCell ⟨gz, 1, none⟩ c1).setCell ⟨gz, 2, none⟩ c2).setCell ⟨gz, 3, none⟩ c3) gz t #[c0, c1, c2, c3] :=
  (((h.put 0 c0).put 1 c1).put 2 c2).put 3 c3
theorem put4_rd {w6 : World} {gz : Nat} {q6 : Option Addr} {pv : List Value} (hr : Rd w6 w6.heap.size q6 pv) (h2 : ∀ b o, q6 = some ⟨b, o, none⟩ → b ≠ gz) (c0 c1 c2 c3 : Value) : Rd ((((w6.setCell ⟨gz, 0, none⟩ c0).setCell ⟨gz, 1, none⟩ c1).setCell ⟨gz, 2, none⟩ c2).setCell ⟨gz, 3, none⟩ c3) ((((w6.setCell ⟨gz, 0, none⟩ c0).setCell ⟨gz, 1, none⟩ c1).setCell ⟨gz, 2, none⟩ c2).setCell ⟨gz, 3, none⟩ c3).heap.size q6 pv := by
  intro j u hu
  obtain ⟨b, o, e1, hl, hc⟩ := hr j u hu
  exact ⟨b, o, e1, by rw [size_put, size_put, size_put, size_put]; exact hl, by
    have h9 := put4_other (w6 := w6) c0 c1 c2 c3 b (h2 b o e1)
    generalize (((w6.setCell ⟨gz, 0, none⟩ c0).setCell ⟨gz, 1, none⟩ c1).setCell ⟨gz, 2, none⟩ c2).setCell ⟨gz, 3, none⟩ c3 = W at h9 ⊢
    exact (World.cell?_of_block h9).trans hc⟩
theorem svB {w w6 : World} {g2 gz N1 : Nat} {q6 : Option Addr} {a b : Array Value} {c0 c1 c2 c3 : Value} {f : Nat → Nat} {pv : List Value} (hb : Below w.heap.size w w6) (ha : Row w6 w.heap.size 24 a) (hbb : Row w6 (w.heap.size + 1) 24 b) (hz : Row w6 (w.heap.size + 2) 24 (matC 0 0 0 none 0 0)) (hc : Cells w6 g2 N1 f) (hr : Rd w6 w6.heap.size q6 pv)
    (hx : Row w6 gz 24 (matC 0 0 0 none 0 0)) (h0 : w.heap.size + 2 < gz) (h1 : g2 ≠ gz) (h2 : ∀ b o, q6 = some ⟨b, o, none⟩ → b ≠ gz) :
    Sv6 w ((((w6.setCell ⟨gz, 0, none⟩ c0).setCell ⟨gz, 1, none⟩ c1).setCell ⟨gz, 2, none⟩ c2).setCell ⟨gz, 3, none⟩ c3) gz g2 q6 N1 a b #[c0, c1, c2, c3] f pv := by
  have e0 : w.heap.size ≠ gz := by omega
  have e1 : w.heap.size + 1 ≠ gz := by omega
  have e2 : w.heap.size + 2 ≠ gz := by omega
  have e3 : w.heap.size ≤ gz := by omega
  exact ⟨put4 hb e3 _ _ _ _, (put4_other c0 c1 c2 c3 _ e0).trans ha, (put4_other c0 c1 c2 c3 _ e1).trans hbb, (put4_other c0 c1 c2 c3 _ e2).trans hz, put4_row hx _ _ _ _, hc.same (put4_other c0 c1 c2 c3 _ h1), put4_rd hr h2 _ _ _ _⟩
set_option maxRecDepth 100000 in
set_option maxHeartbeats 6400000 in
theorem rsolve_yes {m r k c : Nat} {A B : Nat → Nat → Nat} (qa : Option Addr) (ka : Nat) (qb : Option Addr) (kb : Nat) (w : World) (hA : MatR w w.heap.size m r k qa ka A) (hB : MatR w w.heap.size m r c qb kb B) (hk : k ≤ 32) (hc : c ≤ 32) :
    Calls Tryd.prog 18 #[matV m r k qa (r * k) ka, matV m r c qb (r * c) kb] w fun e w' =>
      ((noSol r k c (Mat.red m r (beside k A B) k).1 (Mat.red m r (beside k A B) k).2.length = true ∧ e = .returned (outV nilM 12)) ∨
       (noSol r k c (Mat.red m r (beside k A B) k).1 (Mat.red m r (beside k A B) k).2.length = false ∧ ∃ g, e = .returned (outV (matV m k c (some ⟨g, 0, none⟩) (k * c) (k * c)) 0) ∧ w.heap.size ≤ g ∧ Cells w' g (k * c) (Mat.flat c (solTo k (Mat.red m r (beside k A B) k).1 (Mat.red m r (beside k A B) k).2 r)))) ∧ Below w.heap.size w w' := by
  have hr := hA.hr
  have HVA := Lib.hid (fun (W : World) (h : Below w.heap.size w W) => rvalid_yes hA hk W h h.size)
  have HVB := Lib.hid (fun (W : World) (h : Below w.heap.size w W) => rvalid_yes hB hc W h h.size)
  have HBES := Lib.hid (fun (W : World) (h : Below w.heap.size w W) => beside_any qa ka qb kb W ((hA.below h).more h.size) ((hB.below h).more h.size) hk hc)
  obtain ⟨K, hK⟩ : ∃ K, k + c = K := ⟨_, rfl⟩
  have HOKB := Lib.hid (beside_ok hA.ok hB.ok)
  have hrk : r * K ≤ 32 * 64 := Nat.mul_le_mul hr (by omega)
  have hkc : k * c ≤ 32 * 32 := Nat.mul_le_mul hk hc
  rw [hK] at HOKB HBES
  have HZ2 := Lib.hid (fun W => rzero_any (m : Int) k c (by omega) (by omega) W)
  have HRED := Lib.hid (fun (g : Nat) (W : World) (hcell : Cells W g (r * K) (Mat.flat K (beside k A B))) => rred_any (some ⟨g, 0, none⟩) (r * K) W (MatR.of_cells hcell hcell.lt hA.hm hr (show K ≤ 64 by omega) HOKB.out) (show k ≤ K by omega))
  have HRF := Lib.hid (Mat.red_facts hA.hm HOKB.out k (by omega))
  have HRFO := Lib.hid (show ∀ i j, i < r → j < K → (Mat.red m r (beside k A B) k).1 i j < 2 ^ m from HRF.out.1)
  obtain ⟨Z, hZ⟩ : ∃ Z, (Mat.red m r (beside k A B) k).1 = Z := ⟨_, rfl⟩
  obtain ⟨pv, hpv⟩ : ∃ pv, (Mat.red m r (beside k A B) k).2 = pv := ⟨_, rfl⟩
  rw [hZ, hpv] at HRED HRF ⊢
  rw [hZ] at HRFO
  obtain ⟨L, hL⟩ : ∃ L, pv.length = L := ⟨_, rfl⟩
  rw [hL] at HRED HRF ⊢
  obtain ⟨ns, hns⟩ : ∃ ns, noSol r k c Z L = ns := ⟨_, rfl⟩
  rw [hns]
  have HNS := Lib.hid hns
  have HL := Lib.hid hL
  obtain ⟨NA, hNA⟩ : ∃ N, r * k = N := ⟨_, rfl⟩
  obtain ⟨NB, hNB⟩ : ∃ N, r * c = N := ⟨_, rfl⟩
  obtain ⟨N1, hN1⟩ : ∃ N, r * K = N := ⟨_, rfl⟩
  obtain ⟨N2, hN2⟩ : ∃ N, k * c = N := ⟨_, rfl⟩
  rw [hNA] at HVA HBES ⊢
  rw [hNB] at HVB HBES ⊢
  rw [hN1] at HRED HBES hrk
  rw [hN2] at HZ2 hkc ⊢
  have HN1 := Lib.hid hN1
  have HN2 := Lib.hid hN2
  unfold matV at HVA HVB HBES HRED ⊢
  have HK := Lib.hid hK
  have hkK : k ≤ K := by omega
  have hwK : IntKind.i64.wrap ((k : Int) + (c : Int)) = (K : Int) := by rw [← Int.natCast_add, hK, IntKind.wrap_i64] <;> omega
  have HM := Lib.hid hA.hm
  clear hA hB hNA hNB hN1 hN2 hZ hpv hL hns hK
  have HW : Hid (Below w.heap.size w (((w.alloc (.cells (matC m r k qa NA ka) 24)).alloc (.cells (matC m r c qb NB kb) 24)).alloc (.cells #[.int .i64 0, .int .i64 0, .int .i64 0, .slice none 0 0] 24))) := Lib.hid ((((Below.refl _ w).alloc (Nat.le_refl _) _).alloc (by simp) _).alloc (by simp; omega) _)
  have HRA : Hid (Row (((w.alloc (.cells (matC m r k qa NA ka) 24)).alloc (.cells (matC m r c qb NB kb) 24)).alloc (.cells #[.int .i64 0, .int .i64 0, .int .i64 0, .slice none 0 0] 24)) w.heap.size 24 (matC m r k qa NA ka)) := Lib.hid (((Row.new w _ _).alloc _).alloc _)
  have HRB : Hid (Row (((w.alloc (.cells (matC m r k qa NA ka) 24)).alloc (.cells (matC m r c qb NB kb) 24)).alloc (.cells #[.int .i64 0, .int .i64 0, .int .i64 0, .slice none 0 0] 24)) (w.heap.size + 1) 24 (matC m r c qb NB kb)) := Lib.hid ((Row.made _ _ (by simp)).alloc _)
  have HRZ : Hid (Row (((w.alloc (.cells (matC m r k qa NA ka) 24)).alloc (.cells (matC m r c qb NB kb) 24)).alloc (.cells #[.int .i64 0, .int .i64 0, .int .i64 0, .slice none 0 0] 24)) (w.heap.size + 2) 24 (matC 0 0 0 none 0 0)) := Lib.hid (Row.made _ _ (by simp))
  go_enter Tryd.func18, Tryd.ntmps18
  go_wp2_with fail
  refine (HVA.out _ HW.out).mono ?_
  rintro e w1 ⟨rfl, hb⟩
  have hlt1 := hb.size
  simp only [size1] at hlt1
  have HW1 := Lib.hid (below_call HW.out hb)
  have HRA1 := Lib.hid (HRA.out.below hb HRA.out.lt)
  have HRB1 := Lib.hid (HRB.out.below hb HRB.out.lt)
  have HRZ1 := Lib.hid (HRZ.out.below hb HRZ.out.lt)
  obtain ⟨a0, a1, a2, a3⟩ := mbox HRA1.out
  obtain ⟨b0, b1, b2, b3⟩ := mbox HRB1.out
  clear hb HW HRA HRB HRZ
  go_wp2_with fail
  refine (HVB.out _ HW1.out).mono ?_
  rintro e w2 ⟨rfl, hb⟩
  have hlt2 := hb.size
  have HW2 := Lib.hid (below_call HW1.out hb)
  have HRA2 := Lib.hid (HRA1.out.below hb HRA1.out.lt)
  have HRB2 := Lib.hid (HRB1.out.below hb HRB1.out.lt)
  have HRZ2 := Lib.hid (HRZ1.out.below hb HRZ1.out.lt)
  clear a0 a1 a2 a3 b0 b1 b2 b3 hb HW1 HRA1 HRB1 HRZ1
  obtain ⟨a0, a1, a2, a3⟩ := mbox HRA2.out
  obtain ⟨b0, b1, b2, b3⟩ := mbox HRB2.out
  have HW2d := Lib.hid HW2.out.drew
  have hz0 : w.heap.size < w2.heap.size := by omega
  have hz1 : w.heap.size + 1 < w2.heap.size := by omega
  go_upto_region 5 with fail
  go_cut [8, 9] (fun s8 s9 wx => ∃ (gc g2 : Nat) (q6 : Option Addr) (k6 : Nat), s8 = .pointer (some ⟨gc, 0, none⟩) ∧ s9 = .slice q6 L k6 ∧ Sv6 w wx gc g2 q6 N1 (matC m r k qa NA ka) (matC m r c qb NB kb) (matC m r K (some ⟨g2, 0, none⟩) N1 N1) (Mat.flat K Z) (ints (natsL pv)))
  case first =>
    have HRAx := Lib.hid (fun (W : World) (h : Below w2.heap.size w2 W) => (HRA2.out.below h HRA2.out.lt : Row W w.heap.size 24 _))
    have HRBx := Lib.hid (fun (W : World) (h : Below w2.heap.size w2 W) => (HRB2.out.below h HRB2.out.lt : Row W (w.heap.size + 1) 24 _))
    have HRZx := Lib.hid (fun (W : World) (h : Below w2.heap.size w2 W) => (HRZ2.out.below h HRZ2.out.lt : Row W (w.heap.size + 2) 24 _))
    have HXS := Lib.hid (fun (wn : World) (h : Below w2.heap.size w2 wn) => And.intro (mbox (HRAx.out wn h)) (mbox (HRBx.out wn h)))
    have hz2 : w.heap.size + 2 < w2.heap.size := HRZ2.out.lt
    have LA := Lib.hid (show Row (w2.alloc (.cells #[.int .i64 0, .int .i64 0, .int .i64 0, .slice none 0 0] 24)).drew w2.heap.size 24 (matC 0 0 0 none 0 0) ∧ Below w2.heap.size w2 (w2.alloc (.cells #[.int .i64 0, .int .i64 0, .int .i64 0, .slice none 0 0] 24)).drew from
      ⟨Row.new w2 _ _, ((Below.refl _ _).alloc (Nat.le_refl _) _).drew⟩)
    have LW := Lib.hid (show Below w.heap.size w (w2.alloc (.cells #[.int .i64 0, .int .i64 0, .int .i64 0, .slice none 0 0] 24)).drew from below_call HW2.out LA.out.2)
    go_region_held3 (fun wn => (wn.cell? ⟨w.heap.size, 0, none⟩ = some (.int .i64 m) ∧ wn.cell? ⟨w.heap.size, 1, none⟩ = some (.int .i64 r) ∧ wn.cell? ⟨w.heap.size, 2, none⟩ = some (.int .i64 k) ∧ wn.cell? ⟨w.heap.size, 3, none⟩ = some (.slice qa NA ka)) ∧ (wn.cell? ⟨w.heap.size + 1, 0, none⟩ = some (.int .i64 m) ∧ wn.cell? ⟨w.heap.size + 1, 1, none⟩ = some (.int .i64 r) ∧ wn.cell? ⟨w.heap.size + 1, 2, none⟩ = some (.int .i64 c) ∧ wn.cell? ⟨w.heap.size + 1, 3, none⟩ = some (.slice qb NB kb))) (first
      | with_reducible exact HXS.out _ (Below.refl _ _).drew
      | with_reducible exact HXS.out _ ((Below.refl _ _).alloc (Nat.le_refl _) _).drew
      | with_reducible exact HXS.out _ HB6.out
      | with_reducible exact HXS.out _ (HB6.out.alloc HB6.out.size _)
      | with_reducible exact HXS.out _ (put4 HB6.out (Nat.le_refl _) _ _ _ _)
      | with_reducible exact HXS.out _ (put4 HB6.out hs5 _ _ _ _)
      | with_reducible exact HXS.out _ HB5.out
      | with_reducible exact HXS.out _ (HB5.out.alloc HB5.out.size _)) (first
      | (go_at_call 43; (first
          | with_reducible refine (HBES.out _ HW2d.out).mono ?_
          | with_reducible refine (HBES.out _ LW.out).mono ?_); rintro e5 w5 ⟨g1, rfl, hg1, hc5, hb5⟩; (first
          | (with_reducible have HZ5 := Lib.hid (LA.out.1.below hb5 LA.out.1.lt); have HB5 := Lib.hid (below_call LA.out.2 hb5); have hz5 := HZ5.out.lt)
          | (have HB5 := Lib.hid (show Below w2.heap.size w2 w5 from undrew hb5))); have HC5 := Lib.hid hc5; have hs5 := HB5.out.size; clear hb5 hc5)
      | (go_at_call 42; (first
          | with_reducible refine (HRED.out g1 w5 HC5.out).mono ?_
          | with_reducible refine (HRED.out g1 (w5.alloc (.cells #[.int .i64 0, .int .i64 0, .int .i64 0, .slice none 0 0] 24)) (HC5.out.alloc _)).mono ?_); rintro e6 w6 ⟨⟨g2, q6, k6, rfl, hg2, hk61, hk62, hk63, hrd6, hc6, hq6⟩, hb6⟩; (first
          | (with_reducible have HZ6 := Lib.hid (HZ5.out.below hb6 HZ5.out.lt); have HB6 := Lib.hid (below_call HB5.out hb6); obtain ⟨z0, z1, z2, z3⟩ := mbox HZ6.out; have f0 := HZ6.out.frozen 0; have f1 := HZ6.out.frozen 1; have f2 := HZ6.out.frozen 2; have f3 := HZ6.out.frozen 3)
          | (with_reducible have HZ6 := Lib.hid ((show Row (w5.alloc (.cells #[.int .i64 0, .int .i64 0, .int .i64 0, .slice none 0 0] 24)) w5.heap.size 24 (matC 0 0 0 none 0 0) from Row.new w5 _ _).below hb6 (by simp)); have HB6 := Lib.hid (below_call (HB5.out.alloc HB5.out.size _) hb6); obtain ⟨z0, z1, z2, z3⟩ := mbox HZ6.out; have f0 := HZ6.out.frozen 0; have f1 := HZ6.out.frozen 1; have f2 := HZ6.out.frozen 2; have f3 := HZ6.out.frozen 3)
          | (have HB6 := Lib.hid (below_call HB5.out hb6))); have hs6 := HB6.out.size; (try simp only [size1] at hg2); have HC6 := Lib.hid hc6; have HRD6 := Lib.hid hrd6; have HQ6 := Lib.hid hq6; clear hb6 hc6 hrd6 hk63 hq6))
    all_goals
      go_wp2_with fail
      go_meet
      refine ⟨_, g2, q6, k6, rfl, rfl, ?_⟩
      first
        | with_reducible exact svA (below_call HW2.out HB6.out) (HRAx.out _ HB6.out) (HRBx.out _ HB6.out) (HRZx.out _ HB6.out) HC6.out HRD6.out
        | exact svB (below_call HW2.out HB6.out) (HRAx.out _ HB6.out) (HRBx.out _ HB6.out) (HRZx.out _ HB6.out) HC6.out HRD6.out HZ6.out (by omega) (by omega) (fun b o e => by have h9 := HQ6.out b o e; (try simp only [size1] at h9); omega)
  case rest =>
    obtain ⟨gc, g2, q6, k6, rfl, rfl, hsv⟩ := hcut
    have HSV := Lib.hid hsv
    obtain ⟨a0, a1, a2, a3⟩ := mbox hsv.ra
    obtain ⟨b0, b1, b2, b3⟩ := mbox hsv.rb
    have hl0 := hsv.ra.lt
    have hl1 := hsv.rb.lt
    have hl2 := hsv.rz.lt
    have hl3 := hsv.rc.lt
    have hl4 := hsv.cells.lt
    clear hsv
    go_wp2_with fail
    refine (HZ2.out _).mono ?_
    rintro e w6 ⟨g3, rfl, hg3, hc6, hb6⟩
    have hlt6 := hb6.size
    have hg3l := hc6.lt
    have HX0 := Lib.hid (show Mk wc (w6.alloc (.cells (matC m k c (some ⟨g3, 0, none⟩) N2 N2) 24)) g3 w6.heap.size N2 (matC m k c (some ⟨g3, 0, none⟩) N2 N2) (Mat.flat c (solTo k Z pv 0)) from
        ⟨hb6.alloc hlt6 _, Row.made _ _ rfl, (hc6.alloc _).congr (fun p _ => rfl)⟩)
    clear a0 a1 a2 a3 b0 b1 b2 b3 hb6 hc6
    go_wp2_with fail
    go_loopw [11] (fun i2 wr => ∃ i' : Nat, i' ≤ r ∧ i2 = .int .i64 i' ∧ Mk wc wr g3 w6.heap.size N2 (matC m k c (some ⟨g3, 0, none⟩) N2 N2) (Mat.flat c (solTo k Z pv i')) ∧ Hid (∀ i2, i2 < i' → L ≤ i2 → ∀ j, j < c → Z i2 (k + j) = 0)) (fun i2 _ => r - (intOf i2).toNat)
    case atStart => exact ⟨0, Nat.zero_le _, rfl, HX0.out, Lib.hid (fun i2 h => absurd h (Nat.not_lt_zero _))⟩
    case round =>
      obtain ⟨i, hi, rfl, hs, hz⟩ := hrel
      have HS := Lib.hid hs
      have HZZ := Lib.hid hz.out
      have HRC := Lib.hid (HSV.out.rc.below hs.below hl3)
      obtain ⟨c0, c1, c2, c3⟩ := mbox HRC.out
      clear hs hz HX0
      by_cases hir : i < r
      · have hd : decide ((i : Int) < r) = true := decide_eq_true (by omega)
        obtain ⟨oi, hoi⟩ : ∃ o, i * K = o := ⟨_, rfl⟩
        have hfit : oi + K ≤ N1 := by
          have := Nat.mul_le_mul_right K (show i + 1 ≤ r by omega)
          rw [Nat.add_mul, Nat.one_mul, HN1.out, hoi] at this
          exact this
        have HOI := Lib.hid hoi
        have hwi := wrap_mul hoi (by omega)
        have hwi2 := wrap_add oi k (by omega)
        clear hoi
        have HS0 := Lib.hid (HS.out.congr (f' := Mat.flat c (spTo k Z pv i 0)) (fun p _ => (spTo_zero k Z pv i _ _).symm))
        clear HS
        go_wp2_with fail
        clear c0 c1 c2 c3
        go_loopw [12] (fun i2 wr => ∃ t : Nat, t ≤ c ∧ i2 = .int .i64 t ∧ Mk wc wr g3 w6.heap.size N2 (matC m k c (some ⟨g3, 0, none⟩) N2 N2) (Mat.flat c (spTo k Z pv i t)) ∧ Hid (L ≤ i → ∀ j, j < t → Z i (k + j) = 0)) (fun i2 _ => c - (intOf i2).toNat)
        case atStart => exact ⟨0, Nat.zero_le _, rfl, HS0.out, Lib.hid (fun _ j h => absurd h (Nat.not_lt_zero _))⟩
        case round =>
          obtain ⟨t, htc, rfl, hs, hz⟩ := hrel
          have HS := Lib.hid hs
          have HZ9 := Lib.hid hz.out
          have HRC2 := Lib.hid (HSV.out.rc.below hs.below hl3)
          obtain ⟨a0, a1, a2, a3⟩ := mbox (HSV.out.ra.below hs.below hl0)
          obtain ⟨b0, b1, b2, b3⟩ := mbox (HSV.out.rb.below hs.below hl1)
          obtain ⟨c0, c1, c2, c3⟩ := mbox HRC2.out
          obtain ⟨d0, d1, d2, d3⟩ := mbox hs.rc
          clear hs hz HS0
          by_cases hlt : t < c
          · have hd2 : decide ((t : Int) < c) = true := decide_eq_true (by omega)
            have hck := HK.out
            have hix : oi + k + t < N1 := by omega
            have hcell := (HSV.out.cells.below HS.out.below hl4).cell hix
            obtain ⟨v, hv⟩ : ∃ v, Z i (k + t) = v := ⟨_, rfl⟩
            rw [← HOI.out, Nat.add_assoc, Mat.flat_at _ _ (show k + t < K by omega), hv, HOI.out, ← Nat.add_assoc] at hcell
            have HV := Lib.hid hv
            have hwi3 : IntKind.i64.wrap ((oi : Int) + (k : Int) + (t : Int)) = (oi : Int) + (k : Int) + (t : Int) := by rw [IntKind.wrap_i64] <;> omega
            have hj1 : (0 : Int) ≤ (oi : Int) + (k : Int) + (t : Int) := by omega
            have hj2 : (oi : Int) + (k : Int) + (t : Int) < (N1 : Int) := by omega
            have hj3 : ((oi : Int) + (k : Int) + (t : Int)).toNat = oi + k + t := by omega
            clear hck hv
            by_cases hiL : i < L
            · have hdl : decide ((i : Int) < L) = true := decide_eq_true (by omega)
              obtain ⟨P, hP⟩ : ∃ P, pv[i]? = some P := ⟨_, List.getElem?_eq_getElem (by rw [HL.out]; exact hiL)⟩
              have HPP := Lib.hid hP
              have hPk : P < k := HRF.out.2.2.1 P (List.mem_of_getElem? hP)
              obtain ⟨oP, hoP⟩ : ∃ o, P * c = o := ⟨_, rfl⟩
              have HOP := Lib.hid hoP
              have hfit2 : oP + c ≤ N2 := by
                have := Nat.mul_le_mul_right c (show P + 1 ≤ k by omega)
                rw [Nat.add_mul, Nat.one_mul, HN2.out, hoP] at this
                exact this
              have hwp := wrap_mul hoP (by omega)
              have hwp2 := wrap_add oP t (by omega)
              have hix2 : oP + t < N2 := by omega
              obtain ⟨bp, op, hqp, hbp, hcp⟩ := (HSV.out.rd.below HS.out.below) i (.int .i64 (P : Int)) (by rw [ints, List.getElem?_map, natsL, List.getElem?_map, hP]; rfl)
              subst hqp
              have hcx := HS.out.cells.cell hix2
              have hfr := HS.out.cells.frozen (oP + t)
              have HS1 := Lib.hid (show Mk wc (wr.setCell ⟨g3, oP + t, none⟩ (.int .i64 (v : Int))) g3 w6.heap.size N2 (matC m k c (some ⟨g3, 0, none⟩) N2 N2) (Mat.flat c (spTo k Z pv i (t + 1))) from
                ⟨HS.out.below.setCell (by omega) _, HS.out.rc.far (by show w6.heap.size ≠ g3; omega) _, (HS.out.cells.put hix2 v).congr (fun p hp => by
                  rw [← HN2.out] at hp
                  rw [← HOP.out]
                  exact flat_put hPk hlt (fun p q _ _ => by rw [← HV.out]; exact spTo_put HPP.out p q) p hp)⟩)
              clear hP hoP
              go_wp2_with fail
              go_region
              go_wp2_with fail
              go_roundw
              case rel => exact ⟨t + 1, by omega, by go_num, HS1.out.drew, Lib.hid (fun h => absurd hiL (by omega))⟩
              case measure => simp [intOf]; omega
            · have hdl : decide ((i : Int) < L) = false := decide_eq_false (by omega)
              by_cases hv0 : v = 0
              · have hdv : ((v : Int) != 0) = false := by simp; omega
                have HS1 := Lib.hid (HS.out.congr (f' := Mat.flat c (spTo k Z pv i (t + 1))) (fun p _ => by unfold Mat.flat; rw [spTo_skip (by rw [HL.out]; omega), spTo_skip (by rw [HL.out]; omega)]))
                have HZ10 := Lib.hid (fun (h : L ≤ i) j (hj : j < t + 1) => show Z i (k + j) = 0 by
                  by_cases e : j = t
                  · rw [e, HV.out, hv0]
                  · exact HZ9.out h j (by omega))
                clear hv0
                go_wp2_with fail
                go_roundw
                case rel => exact ⟨t + 1, by omega, by go_num, HS1.out, Lib.hid HZ10.out⟩
                case measure => simp [intOf]; omega
              · have hdv : ((v : Int) != 0) = true := by simp; omega
                have HRZ7 := Lib.hid (HSV.out.rz.below HS.out.below hl2)
                go_wp2_with (refine wpList_store_row rfl _ _ _ rfl (w.heap.size + 2) (matC 0 0 0 none 0 0) rfl rfl _ _ HRZ7.out (by kernel_rfl) rfl (matC_one _ _ _ _ _ _) ?_)
                refine bodyPost_ret (v := outV nilM 12) ?_ rfl ⟨.inl ⟨HNS.out.symm.trans (noSol_true hir (by omega) hlt (by rw [HV.out]; exact hv0)), rfl⟩, below_whole (HSV.out.below.trans (HS.out.below.mono HSV.out.below.size)) (by omega) _⟩
                exact results_row_tmp rfl _ _ (w.heap.size + 2) _ _ _ _ rfl rfl (HRZ7.out.whole _) Tryd.underlying24 (by rfl) (by kernel_rfl)
          · have hd2 : decide ((t : Int) < c) = false := decide_eq_false (by omega)
            have htc2 : t = c := by omega
            subst htc2
            have HS2 := Lib.hid (HS.out.congr (f' := Mat.flat t (solTo k Z pv (i + 1))) (fun p hp => Mat.flat_congr (spTo_end i Z pv) p (by rw [HN2.out]; exact hp)))
            go_wp2_with fail
            go_roundw
            case rel => exact ⟨i + 1, by omega, by go_num, HS2.out, Lib.hid (fun i' h1 h2 j hj => by
              by_cases e : i' = i
              · rw [e] at h2 ⊢; exact HZ9.out h2 j hj
              · exact HZZ.out i' (by omega) h2 j hj)⟩
            case measure => simp [intOf]; omega
      · have hd : decide ((i : Int) < r) = false := decide_eq_false (by omega)
        have hir2 : i = r := by omega
        subst hir2
        have HRZ7 := Lib.hid (HSV.out.rz.below HS.out.below hl2)
        obtain ⟨d0, d1, d2, d3⟩ := mbox HS.out.rc
        have HNF := Lib.hid (noSol_false (fun i' j h1 h2 h3 => HZZ.out i' h1 h2 j h3))
        go_wp2_with (refine wpList_store_row rfl _ _ _ rfl (w.heap.size + 2) (matC m k c (some ⟨g3, 0, none⟩) N2 N2) rfl rfl _ _ HRZ7.out (by kernel_rfl) rfl (matC_one _ _ _ _ _ _) ?_)
        refine bodyPost_ret (v := outV (matV m k c (some ⟨g3, 0, none⟩) N2 N2) 0) ?_ rfl ⟨.inr ⟨HNS.out.symm.trans HNF.out, g3, rfl, by omega, HS.out.cells.apart (by omega) _⟩, below_whole (HSV.out.below.trans (HS.out.below.mono HSV.out.below.size)) (by omega) _⟩
        exact results_row_tmp rfl _ _ (w.heap.size + 2) _ _ _ _ rfl rfl (HRZ7.out.whole _) Tryd.underlying24 (by rfl) (by kernel_rfl)
end Go.Proofs.YtaijjhddgecieaaDoor
