/- Matrices: solving, the walk. -/
import Derived.Test.YtaijjhddgecieaaDoorM17
namespace Go.Proofs.YtaijjhddgecieaaDoor
set_option linter.unusedSimpArgs false
set_option linter.unusedVariables false
open Go.RowKit Go.Lib

theorem rowR_cell {w : World} {B n : Nat} {q : Option Addr} {x : Nat → Nat} (h : RowR w B q n x) : ∀ j, j < n → ∃ b o, q = some ⟨b, o, none⟩ ∧ w.cell? ⟨b, o + j, none⟩ = some (.int .i64 (x j : Int)) := fun j hj => by
  obtain ⟨g, o, e, _, hc⟩ := h j hj
  exact ⟨g, o, e, hc⟩
def rightL (k c : Nat) (Z : Nat → Nat → Nat) (i : Nat) : List Int := (List.range c).map fun j => (Z i (k + j) : Int)
theorem rightL_any {r k c n i : Nat} {Z : Nat → Nat → Nat} : (rightL k c Z i).any (· != 0) = true → i < r → n ≤ i → noSol r k c Z n = true := fun h hi hn => by
  rw [List.any_eq_true] at h
  obtain ⟨x, hx, h0⟩ := h
  obtain ⟨j, hj, rfl⟩ := List.mem_map.1 hx
  rw [List.mem_range] at hj
  refine noSol_true hi hn hj (fun e => ?_)
  rw [e] at h0
  simp at h0
theorem rightL_none {k c i : Nat} {Z : Nat → Nat → Nat} (h : (rightL k c Z i).any (· != 0) = false) : ∀ j, j < c → Z i (k + j) = 0 := fun j hj => by
  rw [List.any_eq_false] at h
  have := h (Z i (k + j) : Int) (List.mem_map.2 ⟨j, List.mem_range.2 hj, rfl⟩)
  simp at this
  omega
theorem rightL_rd {w : World} {g N k c i o : Nat} {K : Nat} {Z : Nat → Nat → Nat} {q : Option Addr} (h : Cells w g N (Mat.flat K Z)) (ho : i * K = o) (hK : k + c = K) (hN : o + K ≤ N) (hq : 0 < c → q = some ⟨g, o + k, none⟩) : Rd w w.heap.size q (ints (rightL k c Z i)) := fun j u hu => by
  have hj : j < c := by
    by_cases h : j < c
    · exact h
    · rw [ints, List.getElem?_map, List.getElem?_eq_none (by simp [rightL]; omega)] at hu; cases hu
  rw [ints, List.getElem?_map, rightL, List.getElem?_map, List.getElem?_range hj] at hu
  injection hu with hu
  subst hu
  refine ⟨g, o + k, hq (by omega), h.lt, ?_⟩
  rw [Nat.add_assoc, h.cell (by omega), ← ho, Mat.flat_at _ _ (by omega)]

set_option maxRecDepth 100000 in
set_option maxHeartbeats 6400000 in
theorem solve_yes {m r k c : Nat} {A B : Nat → Nat → Nat} (qa : Option Addr) (ka : Nat) (qb : Option Addr) (kb : Nat) (w : World) (ht : Tab w) (hA : MatR w w.heap.size m r k qa ka A) (hB : MatR w w.heap.size m r c qb kb B) (hk : k ≤ 32) (hc : c ≤ 32) :
    Calls Tryd.prog 17 #[matV m r k qa (r * k) ka, matV m r c qb (r * c) kb] w fun e w' =>
      ((noSol r k c (Mat.red m r (beside k A B) k).1 (Mat.red m r (beside k A B) k).2.length = true ∧ e = .returned (outV nilM 12)) ∨
       (noSol r k c (Mat.red m r (beside k A B) k).1 (Mat.red m r (beside k A B) k).2.length = false ∧ ∃ g, e = .returned (outV (matV m k c (some ⟨g, 0, none⟩) (k * c) (k * c)) 0) ∧ w.heap.size ≤ g ∧ Cells w' g (k * c) (Mat.flat c (solTo k (Mat.red m r (beside k A B) k).1 (Mat.red m r (beside k A B) k).2 r)))) ∧ Below w.heap.size w w' := by
  have hr := hA.hr
  have HT := Lib.hid ht
  have HA := Lib.hid hA
  have HBB := Lib.hid hB
  have HVA := Lib.hid (fun (W : World) (h : Below w.heap.size w W) => mvalid_yes hA hk W h h.size)
  have HVB := Lib.hid (fun (W : World) (h : Below w.heap.size w W) => mvalid_yes hB hc W h h.size)
  have HRA0 := Lib.hid (fun i hi W => mrow_any hA i hi W)
  have HRB0 := Lib.hid (fun i hi W => mrow_any hB i hi W)
  obtain ⟨K, hK⟩ : ∃ K, k + c = K := ⟨_, rfl⟩
  have HBL := Lib.hid (fun i (hi : i < r) => bsTo_left (k := k) (c := c) A B hi)
  have HBR := Lib.hid (fun i (hi : i < r) => bsTo_right (k := k) (c := c) A B hi)
  have HOKB := Lib.hid (beside_ok hA.ok hB.ok)
  have hrk : r * K ≤ 32 * 64 := Nat.mul_le_mul hr (by omega)
  have hkc : k * c ≤ 32 * 32 := Nat.mul_le_mul hk hc
  rw [hK] at HBL HBR HOKB
  have HZ1 := Lib.hid (fun W => zero_any (m : Int) r K (by omega) (by omega) W)
  have HZ2 := Lib.hid (fun W => zero_any (m : Int) k c (by omega) (by omega) W)
  have HRED := Lib.hid (fun (g : Nat) (hg0 : 0 < g) (W : World) (ht : Tab W) (hcell : Cells W g (r * K) (Mat.flat K (beside k A B))) => mred_gen hA.hm hr (show K ≤ 64 by omega) (show k ≤ K by omega) (Nat.le_refl _) (by unfold maxLen; omega) HOKB.out (some ⟨g, 0, none⟩) W ht (fun _ => ⟨g, rfl, hg0, hcell⟩))
  have HRF := Lib.hid (Mat.red_facts hA.hm HOKB.out k (by omega))
  have HFK := Lib.hid (fun (f1 f2 : Nat → Nat → Nat) (h : Mat.Eq r K f1 f2) => Mat.flat_congr h)
  obtain ⟨Z, hZ⟩ : ∃ Z, (Mat.red m r (beside k A B) k).1 = Z := ⟨_, rfl⟩
  obtain ⟨pv, hpv⟩ : ∃ pv, (Mat.red m r (beside k A B) k).2 = pv := ⟨_, rfl⟩
  rw [hZ, hpv] at HRED HRF ⊢
  obtain ⟨L, hL⟩ : ∃ L, pv.length = L := ⟨_, rfl⟩
  rw [hL] at HRED HRF ⊢
  obtain ⟨ns, hns⟩ : ∃ ns, noSol r k c Z L = ns := ⟨_, rfl⟩
  rw [hns]
  have HNS := Lib.hid hns
  have HL := Lib.hid hL
  obtain ⟨NA, hNA⟩ : ∃ N, r * k = N := ⟨_, rfl⟩
  obtain ⟨NB, hNB⟩ : ∃ N, r * c = N := ⟨_, rfl⟩
  obtain ⟨N1, hN1⟩ : ∃ N, r * K = N := ⟨_, rfl⟩
  have HRBO := Lib.hid (fun i o kc g W (hi : i < r) (ho : i * K = o) (hkc : N1 - o = kc) => row6_own (m : Int) r K N1 i o kc g hr (by omega) hN1 hi ho hkc W)
  have HSOL := Lib.hid (fun (i P : Nat) (hP : pv[i]? = some P) (hPk : P < k) => solTo_step (c := c) (Z := Z) hP hPk)
  have HRX0 := Lib.hid (fun (w0 : World) (g : Nat) (h : Cells w0 g (k * c) (Mat.flat c (fun _ _ => 0))) => mrow_any (MatR.of_cells (B := g + 1) h (Nat.lt_succ_self _) hA.hm hk (by omega) (fun _ _ _ _ => Nat.two_pow_pos m)))
  have HPKC := Lib.hid (fun P (h : P < k) => show P * c + c ≤ k * c by
    have := Nat.mul_le_mul_right c (show P + 1 ≤ k by omega)
    rwa [Nat.add_mul, Nat.one_mul] at this)
  have HIK := Lib.hid (fun i (h : i < r) => show i * K + K ≤ r * K by
    have := Nat.mul_le_mul_right K (show i + 1 ≤ r by omega)
    rwa [Nat.add_mul, Nat.one_mul] at this)
  obtain ⟨N2, hN2⟩ : ∃ N, k * c = N := ⟨_, rfl⟩
  rw [hNA] at HVA HRA0 ⊢
  rw [hNB] at HVB HRB0 ⊢
  rw [hN1] at HZ1 HRED hrk HBL HBR HFK HIK
  rw [hN2] at HZ2 hkc HSOL HRX0 HPKC ⊢
  have HN1 := Lib.hid hN1
  have HN2 := Lib.hid hN2
  have hp := ht.lt
  unfold matV at HVA HVB HRA0 HRB0 HRED HRX0 ⊢
  have HK := Lib.hid hK
  have hKc : K - k = c := by omega
  have hkK : k ≤ K := by omega
  have hwK : IntKind.i64.wrap ((k : Int) + (c : Int)) = (K : Int) := by rw [← Int.natCast_add, hK, IntKind.wrap_i64] <;> omega
  clear ht hA hB hNA hNB hN1 hN2 hZ hpv hL hns hK
  have HW : Hid (Below w.heap.size w (((w.alloc (.cells (matC m r k qa NA ka) 24)).alloc (.cells (matC m r c qb NB kb) 24)).alloc (.cells #[.int .i64 0, .int .i64 0, .int .i64 0, .slice none 0 0] 24))) := Lib.hid ((((Below.refl _ w).alloc (Nat.le_refl _) _).alloc (by simp) _).alloc (by simp; omega) _)
  have HRA : Hid (Row (((w.alloc (.cells (matC m r k qa NA ka) 24)).alloc (.cells (matC m r c qb NB kb) 24)).alloc (.cells #[.int .i64 0, .int .i64 0, .int .i64 0, .slice none 0 0] 24)) w.heap.size 24 (matC m r k qa NA ka)) := Lib.hid (((Row.new w _ _).alloc _).alloc _)
  have HRB : Hid (Row (((w.alloc (.cells (matC m r k qa NA ka) 24)).alloc (.cells (matC m r c qb NB kb) 24)).alloc (.cells #[.int .i64 0, .int .i64 0, .int .i64 0, .slice none 0 0] 24)) (w.heap.size + 1) 24 (matC m r c qb NB kb)) := Lib.hid ((Row.made _ _ (by simp)).alloc _)
  have HRZ : Hid (Row (((w.alloc (.cells (matC m r k qa NA ka) 24)).alloc (.cells (matC m r c qb NB kb) 24)).alloc (.cells #[.int .i64 0, .int .i64 0, .int .i64 0, .slice none 0 0] 24)) (w.heap.size + 2) 24 (matC 0 0 0 none 0 0)) := Lib.hid (Row.made _ _ (by simp))
  go_enter Tryd.func17, Tryd.ntmps17
  go_wp2_with fail
  refine (HVA.out _ HW.out).mono ?_
  rintro e w1 ⟨rfl, hb⟩
  have hlt1 := hb.size
  simp only [size1] at hlt1
  have HW1 := Lib.hid (below_call HW.out hb)
  have HRA1 := Lib.hid (HRA.out.below hb HRA.out.lt)
  have HRB1 := Lib.hid (HRB.out.below hb HRB.out.lt)
  have HRZ1 := Lib.hid (HRZ.out.below hb HRZ.out.lt)
  obtain ⟨a0, a1, a2, a3⟩ := mbox HRA1.out
  obtain ⟨b0, b1, b2, b3⟩ := mbox HRB1.out
  clear hb HW HRA HRB HRZ
  go_wp2_with fail
  refine (HVB.out _ HW1.out).mono ?_
  rintro e w2 ⟨rfl, hb⟩
  have hlt2 := hb.size
  have HW2 := Lib.hid (below_call HW1.out hb)
  have HRA2 := Lib.hid (HRA1.out.below hb HRA1.out.lt)
  have HRB2 := Lib.hid (HRB1.out.below hb HRB1.out.lt)
  have HRZ2 := Lib.hid (HRZ1.out.below hb HRZ1.out.lt)
  clear a0 a1 a2 a3 b0 b1 b2 b3 hb HW1 HRA1 HRB1 HRZ1
  obtain ⟨a0, a1, a2, a3⟩ := mbox HRA2.out
  obtain ⟨b0, b1, b2, b3⟩ := mbox HRB2.out
  go_wp2_with fail
  refine (HZ1.out _).mono ?_
  rintro e w3 ⟨g1, rfl, hg1, hc3, hb⟩
  have hlt3 := hb.size
  have HC3 := Lib.hid hc3
  have HB3 := Lib.hid hb
  have hg1l := hc3.lt
  clear a0 a1 a2 a3 b0 b1 b2 b3
  obtain ⟨a0, a1, a2, a3⟩ := mbox (HRA2.out.below hb HRA2.out.lt)
  have hz0 : w.heap.size < w3.heap.size := by omega
  have hz1 : w.heap.size + 1 < w3.heap.size := by omega
  clear hb hc3
  go_wp2_with fail
  have HS0 := Lib.hid (show Mk w2 (w3.alloc (.cells (matC m r K (some ⟨g1, 0, none⟩) N1 N1) 24)) g1 w3.heap.size N1 (matC m r K (some ⟨g1, 0, none⟩) N1 N1) (Mat.flat K (bsTo k A B 0 0)) from
    ⟨HB3.out.alloc hlt3 _, Row.made _ _ rfl, (HC3.out.alloc _).congr (fun p _ => by unfold Mat.flat bsTo; simp)⟩)
  clear a0 a1 a2 a3 HC3 HB3
  go_loopw [47] (fun i wr => ∃ i' : Nat, i' ≤ r ∧ i = .int .i64 i' ∧ Mk w2 wr g1 w3.heap.size N1 (matC m r K (some ⟨g1, 0, none⟩) N1 N1) (Mat.flat K (bsTo k A B i' 0))) (fun i _ => r - (intOf i).toNat)
  case atStart => exact ⟨0, Nat.zero_le _, rfl, HS0.out⟩
  case round =>
    obtain ⟨i, hi, rfl, hs⟩ := hrel
    have HS := Lib.hid hs
    clear hs HS0
    by_cases hir : i < r
    · have hd : decide ((i : Int) < r) = true := decide_eq_true (by omega)
      obtain ⟨oi, hoi⟩ : ∃ o, i * K = o := ⟨_, rfl⟩
      obtain ⟨kc, hkc0⟩ : ∃ kc, N1 - oi = kc := ⟨_, rfl⟩
      have HOI := Lib.hid hoi
      have HKC := Lib.hid hkc0
      have hfit : oi + K ≤ N1 := by have := HIK.out i hir; rw [hoi] at this; exact this
      have HM0 := Lib.hid HS.out.drew
      have HXA := Lib.hid (fun (W : World) (h : Below w2.heap.size w2 W) => (HRA2.out.below h HRA2.out.lt : Row W w.heap.size 24 (matC m r k qa NA ka)))
      have HXB := Lib.hid (fun (W : World) (h : Below w2.heap.size w2 W) => (HRB2.out.below h HRB2.out.lt : Row W (w.heap.size + 1) 24 (matC m r c qb NB kb)))
      clear hoi hkc0
      go_wp2_with fail
      go_region_held3 (fun wn => (wn.cell? ⟨w.heap.size, 0, none⟩ = some (.int .i64 m) ∧ wn.cell? ⟨w.heap.size, 1, none⟩ = some (.int .i64 r) ∧ wn.cell? ⟨w.heap.size, 2, none⟩ = some (.int .i64 k) ∧ wn.cell? ⟨w.heap.size, 3, none⟩ = some (.slice qa NA ka)) ∧
            (wn.cell? ⟨w3.heap.size, 0, none⟩ = some (.int .i64 m) ∧ wn.cell? ⟨w3.heap.size, 1, none⟩ = some (.int .i64 r) ∧ wn.cell? ⟨w3.heap.size, 2, none⟩ = some (.int .i64 K) ∧ wn.cell? ⟨w3.heap.size, 3, none⟩ = some (.slice (some ⟨g1, 0, none⟩) N1 N1))) (first | exact ⟨mbox (HXA.out _ HM3.out.below), mbox HM3.out.rc⟩ | exact ⟨mbox (HXA.out _ HM2.out.below), mbox HM2.out.rc⟩ | exact ⟨mbox (HXA.out _ HM1.out.below), mbox HM1.out.rc⟩ | exact ⟨mbox (HXA.out _ HM0.out.below), mbox HM0.out.rc⟩) (first
        | (go_at_call 36; (with_reducible refine (HRBO.out i oi kc g1 _ hir HOI.out HKC.out).mono ?_); rintro e5 w5 ⟨rfl, hb5⟩; have HM1 := Lib.hid (HM0.out.next hb5))
        | (go_at_call 36; (with_reducible refine (HRA0.out i hir _).mono ?_); rintro e6 w6 ⟨q3, k3, rfl, hk31, hk32, hq3, hb6⟩; have HM2 := Lib.hid (HM1.out.next hb6); have HQ3 := Lib.hid hq3; clear hq3)
        | (refine step_copyC rfl (.tmp 52) (.tmp 55) rfl (some ⟨g1, oi, none⟩) q3 K kc k k3 rfl rfl HM2.out.cells k oi (A i) (Nat.min_eq_left hkK) (fun _ => rfl) (by omega) (rowR_cell ((HA.out.below (HW2.out.trans (HM2.out.below.mono HW2.out.size))).row hir HQ3.out)) ?_; intro w7 hc7 ho7; have HM3 := Lib.hid ((HM2.out.wrote hc7 ho7 (by omega) (by omega)).congr (f' := Mat.flat K (bsTo k A B i k)) (fun p hp => by have := HBL.out i hir p hp; rw [HOI.out] at this; exact this)); clear hc7 ho7))
      clear hb5 hb6 HM0 HM1 HM2
      have HM4 := Lib.hid HM3.out.drew
      by_cases hkk : kc = k
      · have hkk2 := hkk.symm
        subst hkk2
        go_wp2_with fail
        go_region_held3 (fun wn => (wn.cell? ⟨w.heap.size, 0, none⟩ = some (.int .i64 m) ∧ wn.cell? ⟨w.heap.size, 1, none⟩ = some (.int .i64 r) ∧ wn.cell? ⟨w.heap.size, 2, none⟩ = some (.int .i64 k) ∧ wn.cell? ⟨w.heap.size, 3, none⟩ = some (.slice qa NA ka)) ∧ (wn.cell? ⟨w.heap.size + 1, 0, none⟩ = some (.int .i64 m) ∧ wn.cell? ⟨w.heap.size + 1, 1, none⟩ = some (.int .i64 r) ∧ wn.cell? ⟨w.heap.size + 1, 2, none⟩ = some (.int .i64 c) ∧ wn.cell? ⟨w.heap.size + 1, 3, none⟩ = some (.slice qb NB kb)) ∧ (wn.cell? ⟨w3.heap.size, 0, none⟩ = some (.int .i64 m) ∧ wn.cell? ⟨w3.heap.size, 1, none⟩ = some (.int .i64 r) ∧ wn.cell? ⟨w3.heap.size, 2, none⟩ = some (.int .i64 K) ∧ wn.cell? ⟨w3.heap.size, 3, none⟩ = some (.slice (some ⟨g1, 0, none⟩) N1 N1))) (first | exact ⟨mbox (HXA.out _ HM7.out.below), mbox (HXB.out _ HM7.out.below), mbox HM7.out.rc⟩ | exact ⟨mbox (HXA.out _ HM6.out.below), mbox (HXB.out _ HM6.out.below), mbox HM6.out.rc⟩ | exact ⟨mbox (HXA.out _ HM5.out.below), mbox (HXB.out _ HM5.out.below), mbox HM5.out.rc⟩ | exact ⟨mbox (HXA.out _ HM4.out.below), mbox (HXB.out _ HM4.out.below), mbox HM4.out.rc⟩) (first
          | (go_at_call 36; (with_reducible refine (HRBO.out i oi k g1 _ hir HOI.out HKC.out).mono ?_); rintro e8 w8 ⟨rfl, hb8⟩; have HM5 := Lib.hid (HM4.out.next hb8))
          | (go_at_call 36; (with_reducible refine (HRB0.out i hir _).mono ?_); rintro e9 w9 ⟨q4, k4, rfl, hk41, hk42, hq4, hb9⟩; have HM6 := Lib.hid (HM5.out.next hb9); have HQ4 := Lib.hid hq4; clear hq4)
          | (refine step_copyC rfl (.tmp 62) (.tmp 65) rfl _ q4 _ _ c k4 rfl rfl HM6.out.cells c (oi + k) (B i) (Nat.min_eq_left (by omega)) (fun _ => by first | rfl | (exfalso; have h9 := HKC.out; omega)) (by omega) (rowR_cell ((HBB.out.below (HW2.out.trans (HM6.out.below.mono HW2.out.size))).row hir HQ4.out)) ?_; intro w10 hc10 ho10; have HM7 := Lib.hid ((HM6.out.wrote hc10 ho10 (by omega) (by omega)).congr (f' := Mat.flat K (bsTo k A B (i + 1) 0)) (fun p hp => by have := HBR.out i hir p hp; rw [HOI.out] at this; exact this)); clear hc10 ho10))
        go_wp2
        go_roundw
        case rel => exact ⟨i + 1, by omega, by go_num, HM7.out⟩
        case measure => simp [intOf]; omega
      · go_wp2_with fail
        go_region_held3 (fun wn => (wn.cell? ⟨w.heap.size, 0, none⟩ = some (.int .i64 m) ∧ wn.cell? ⟨w.heap.size, 1, none⟩ = some (.int .i64 r) ∧ wn.cell? ⟨w.heap.size, 2, none⟩ = some (.int .i64 k) ∧ wn.cell? ⟨w.heap.size, 3, none⟩ = some (.slice qa NA ka)) ∧ (wn.cell? ⟨w.heap.size + 1, 0, none⟩ = some (.int .i64 m) ∧ wn.cell? ⟨w.heap.size + 1, 1, none⟩ = some (.int .i64 r) ∧ wn.cell? ⟨w.heap.size + 1, 2, none⟩ = some (.int .i64 c) ∧ wn.cell? ⟨w.heap.size + 1, 3, none⟩ = some (.slice qb NB kb)) ∧ (wn.cell? ⟨w3.heap.size, 0, none⟩ = some (.int .i64 m) ∧ wn.cell? ⟨w3.heap.size, 1, none⟩ = some (.int .i64 r) ∧ wn.cell? ⟨w3.heap.size, 2, none⟩ = some (.int .i64 K) ∧ wn.cell? ⟨w3.heap.size, 3, none⟩ = some (.slice (some ⟨g1, 0, none⟩) N1 N1))) (first | exact ⟨mbox (HXA.out _ HM7.out.below), mbox (HXB.out _ HM7.out.below), mbox HM7.out.rc⟩ | exact ⟨mbox (HXA.out _ HM6.out.below), mbox (HXB.out _ HM6.out.below), mbox HM6.out.rc⟩ | exact ⟨mbox (HXA.out _ HM5.out.below), mbox (HXB.out _ HM5.out.below), mbox HM5.out.rc⟩ | exact ⟨mbox (HXA.out _ HM4.out.below), mbox (HXB.out _ HM4.out.below), mbox HM4.out.rc⟩) (first
          | (go_at_call 36; (with_reducible refine (HRBO.out i oi kc g1 _ hir HOI.out HKC.out).mono ?_); rintro e8 w8 ⟨rfl, hb8⟩; have HM5 := Lib.hid (HM4.out.next hb8))
          | (go_at_call 36; (with_reducible refine (HRB0.out i hir _).mono ?_); rintro e9 w9 ⟨q4, k4, rfl, hk41, hk42, hq4, hb9⟩; have HM6 := Lib.hid (HM5.out.next hb9); have HQ4 := Lib.hid hq4; clear hq4)
          | (refine step_copyC rfl (.tmp 62) (.tmp 65) rfl _ q4 _ _ c k4 rfl rfl HM6.out.cells c (oi + k) (B i) (Nat.min_eq_left (by omega)) (fun _ => by first | rfl | (exfalso; have h9 := HKC.out; omega)) (by omega) (rowR_cell ((HBB.out.below (HW2.out.trans (HM6.out.below.mono HW2.out.size))).row hir HQ4.out)) ?_; intro w10 hc10 ho10; have HM7 := Lib.hid ((HM6.out.wrote hc10 ho10 (by omega) (by omega)).congr (f' := Mat.flat K (bsTo k A B (i + 1) 0)) (fun p hp => by have := HBR.out i hir p hp; rw [HOI.out] at this; exact this)); clear hc10 ho10))
        go_wp2
        go_roundw
        case rel => exact ⟨i + 1, by omega, by go_num, HM7.out⟩
        case measure => simp [intOf]; omega
    · have hd : decide ((i : Int) < r) = false := decide_eq_false (by omega)
      have hir2 : r = i := by omega
      clear hi hir
      subst hir2
      have HBS := Lib.hid (HS.out.congr (f' := Mat.flat K (beside k A B)) (HFK.out _ _ (fun p q hp hq => by unfold bsTo; rw [if_pos (.inl hp)])))
      have HRA4 := Lib.hid (HRA2.out.below HS.out.below HRA2.out.lt)
      have HRB4 := Lib.hid (HRB2.out.below HS.out.below HRB2.out.lt)
      have HRZ4 := Lib.hid (HRZ2.out.below HS.out.below HRZ2.out.lt)
      have HW4 := Lib.hid (HW2.out.trans (HS.out.below.mono HW2.out.size))
      clear HS HRA2 HRB2 HRZ2 HW2
      obtain ⟨a0, a1, a2, a3⟩ := mbox HRA4.out
      obtain ⟨d0, d1, d2, d3⟩ := mbox HBS.out.rc
      have hg1r := HBS.out.cells.lt
      have hg6r := HBS.out.rc.lt
      go_wp2_with fail
      refine (HRED.out g1 (by omega) _ (HT.out.next HW4.out) HBS.out.cells).mono ?_
      rintro e w5 ⟨⟨qp, kp, rfl, hkp1, hkp2, hkp3, hrdp⟩, hc5, ho5⟩
      have HRDP := Lib.hid hrdp
      have HC5 := Lib.hid (hc5 g1 rfl HBS.out.cells)
      have HO5 := Lib.hid (ho5.mono (Y := fun b => b = g1) (fun b _ hb => by injection hb with hb; injection hb with hb; exact hb.symm))
      have HRA5 := Lib.hid (HO5.out.row HRA4.out (by omega))
      have HRB5 := Lib.hid (HO5.out.row HRB4.out (by omega))
      have HRZ5 := Lib.hid (HO5.out.row HRZ4.out (by omega))
      have HR65 := Lib.hid (HO5.out.row HBS.out.rc (by omega))
      have HW5 := Lib.hid (HW4.out.trans (HO5.out.below HW4.out.size (fun b hb => by have h9 : b = g1 := hb; omega)))
      have hlt5 := HO5.out.size
      clear hrdp hc5 ho5 a0 a1 a2 a3 d0 d1 d2 d3 HBS HRA4 HRB4 HRZ4 HW4 HO5
      obtain ⟨a0, a1, a2, a3⟩ := mbox HRA5.out
      obtain ⟨b0, b1, b2, b3⟩ := mbox HRB5.out
      go_wp2_with fail
      refine (HZ2.out _).mono ?_
      rintro e w6 ⟨g2, rfl, hg2, hc6, hb6⟩
      have HRX := Lib.hid (HRX0.out w6 g2 hc6)
      have hlt6 := hb6.size
      have hg2l := hc6.lt
      have HX0 := Lib.hid (show Mk w5 (w6.alloc (.cells (matC m k c (some ⟨g2, 0, none⟩) N2 N2) 24)) g2 w6.heap.size N2 (matC m k c (some ⟨g2, 0, none⟩) N2 N2) (Mat.flat c (solTo k Z pv 0)) from
        ⟨hb6.alloc hlt6 _, Row.made _ _ rfl, (hc6.alloc _).congr (fun p _ => rfl)⟩)
      obtain ⟨d0, d1, d2, d3⟩ := mbox (HR65.out.below hb6 HR65.out.lt)
      have hz6 : w3.heap.size < w6.heap.size := by omega
      clear a0 a1 a2 a3 b0 b1 b2 b3 hb6 hc6 HRX0
      go_wp2_with fail
      clear d0 d1 d2 d3
      have HXA := Lib.hid (fun (W : World) (h : Below w5.heap.size w5 W) => (HRA5.out.below h HRA5.out.lt : Row W w.heap.size 24 _))
      have HX6 := Lib.hid (fun (W : World) (h : Below w5.heap.size w5 W) => (HR65.out.below h HR65.out.lt : Row W w3.heap.size 24 _))
      go_loopw [81] (fun i2 wr => ∃ i' : Nat, i' ≤ r ∧ i2 = .int .i64 i' ∧ Mk w5 wr g2 w6.heap.size N2 (matC m k c (some ⟨g2, 0, none⟩) N2 N2) (Mat.flat c (solTo k Z pv i')) ∧ Hid (∀ i2, i2 < i' → L ≤ i2 → ∀ j, j < c → Z i2 (k + j) = 0)) (fun i2 _ => r - (intOf i2).toNat)
      case atStart => exact ⟨0, Nat.zero_le _, rfl, HX0.out, Lib.hid (fun i2 h => absurd h (Nat.not_lt_zero _))⟩
      case round =>
        obtain ⟨i, hi, rfl, hs, hz⟩ := hrel
        have HM0 := Lib.hid hs.drew
        have HS := Lib.hid hs
        have HZZ := Lib.hid hz.out
        clear hs hz HX0
        by_cases hir : i < r
        · have hd : decide ((i : Int) < r) = true := decide_eq_true (by omega)
          obtain ⟨oi, hoi⟩ : ∃ o, i * K = o := ⟨_, rfl⟩
          obtain ⟨kc, hkc0⟩ : ∃ kc, N1 - oi = kc := ⟨_, rfl⟩
          have HOI := Lib.hid hoi
          have HKC := Lib.hid hkc0
          have hfit : oi + K ≤ N1 := by have := HIK.out i hir; rw [hoi] at this; exact this
          clear hoi hkc0
          by_cases hkk : kc = k
          · have hkk2 := hkk.symm
            subst hkk2
            go_wp2_with fail
            go_region_held3 (fun wn => (wn.cell? ⟨w.heap.size, 0, none⟩ = some (.int .i64 m) ∧ wn.cell? ⟨w.heap.size, 1, none⟩ = some (.int .i64 r) ∧ wn.cell? ⟨w.heap.size, 2, none⟩ = some (.int .i64 k) ∧ wn.cell? ⟨w.heap.size, 3, none⟩ = some (.slice qa NA ka)) ∧ (wn.cell? ⟨w3.heap.size, 0, none⟩ = some (.int .i64 m) ∧ wn.cell? ⟨w3.heap.size, 1, none⟩ = some (.int .i64 r) ∧ wn.cell? ⟨w3.heap.size, 2, none⟩ = some (.int .i64 K) ∧ wn.cell? ⟨w3.heap.size, 3, none⟩ = some (.slice (some ⟨g1, 0, none⟩) N1 N1))) (first | exact ⟨mbox (HXA.out _ HM1.out.below), mbox (HX6.out _ HM1.out.below)⟩ | exact ⟨mbox (HXA.out _ HM0.out.below), mbox (HX6.out _ HM0.out.below)⟩) (first
              | (go_at_call 36; (with_reducible refine (HRBO.out i oi k g1 _ hir HOI.out HKC.out).mono ?_); rintro e7 w7 ⟨rfl, hb7⟩; have HM1 := Lib.hid (HM0.out.next hb7)))
            have HC1 := Lib.hid (HC5.out.below HM1.out.below HC5.out.lt)
            clear hb7 HM0
            by_cases hiL : i < L
            · have hdl : decide ((i : Int) < L) = true := decide_eq_true (by omega)
              obtain ⟨P, hP⟩ : ∃ P, pv[i]? = some P := ⟨_, List.getElem?_eq_getElem (by rw [HL.out]; exact hiL)⟩
              have HPP := Lib.hid hP
              have hPk : P < k := HRF.out.2.2.1 P (List.mem_of_getElem? hP)
              have hfit2 := HPKC.out P hPk
              obtain ⟨bp, op, hqp, hbp, hcp⟩ := HRDP.out i (.int .i64 (P : Int)) (by rw [ints, List.getElem?_map, natsL, List.getElem?_map, hP]; rfl)
              have HPC := Lib.hid (fun (W : World) (h : Below w5.heap.size w5 W) => (h.cell (p := ⟨bp, op + i, none⟩) hbp).trans hcp)
              subst hqp
              have HM3 := Lib.hid HM1.out.drew
              clear hP hcp hbp HM1
              go_wp2_with fail
              go_region_held3 (fun wn => (wn.cell? ⟨w6.heap.size, 0, none⟩ = some (.int .i64 m) ∧ wn.cell? ⟨w6.heap.size, 1, none⟩ = some (.int .i64 k) ∧ wn.cell? ⟨w6.heap.size, 2, none⟩ = some (.int .i64 c) ∧ wn.cell? ⟨w6.heap.size, 3, none⟩ = some (.slice (some ⟨g2, 0, none⟩) N2 N2)) ∧ wn.cell? ⟨bp, op + i, none⟩ = some (.int .i64 (P : Int))) (first | exact ⟨mbox HM5.out.rc, HPC.out _ HM5.out.below⟩ | exact ⟨mbox HM4.out.rc, HPC.out _ HM4.out.below⟩ | exact ⟨mbox HM3.out.rc, HPC.out _ HM3.out.below⟩) (first
                | (go_at_call 36; (with_reducible refine (HRX.out P hPk _).mono ?_); rintro e8 w8 ⟨q8, k8, rfl, hk81, hk82, hq8, hb8⟩; have HM4 := Lib.hid (HM3.out.next hb8); have HQ8 := Lib.hid hq8; have HC4 := Lib.hid (show Cells w8 g1 N1 (Mat.flat K Z) from HC5.out.below HM4.out.below HC5.out.lt); clear hq8)
                | (refine step_copyC rfl (.tmp 100) (.tmp 101) rfl q8 (some ⟨g1, oi, none⟩) c k8 _ _ rfl rfl HM4.out.cells c (P * c) (fun q => Z i (k + q)) (Nat.min_eq_left (by omega)) (fun h => by obtain ⟨g9, o9, e9, e10⟩ := HQ8.out h; injection e9 with e9; injection e9 with e9 e11; subst e9; subst e11; rw [e10, Nat.zero_add]) (by omega) (fun j hj => by first | (exfalso; have h9 := HKC.out; omega) | exact ⟨g1, oi + k, rfl, by rw [Nat.add_assoc, HC4.out.cell (by omega), ← HOI.out, Mat.flat_at _ _ (by omega)]⟩) ?_; intro w10 hc10 ho10; have HM5 := Lib.hid ((HM4.out.wrote hc10 ho10 (by omega) (by omega)).congr (f' := Mat.flat c (solTo k Z pv (i + 1))) (HSOL.out i P HPP.out hPk)); clear hc10 ho10))
              go_wp2
              go_roundw
              case rel => exact ⟨i + 1, by omega, by go_num, HM5.out, Lib.hid (fun i' h1 h2 j hj => HZZ.out i' (by omega) h2 j hj)⟩
              case measure => simp [intOf]; omega
            · have hdl : decide ((i : Int) < L) = false := decide_eq_false (by omega)
              obtain ⟨bz, hbz⟩ : ∃ bz, (rightL k c Z i).any (· != 0) = bz := ⟨_, rfl⟩
              have HBZ := Lib.hid hbz
              have HCON := Lib.hid (fun (q : Option Addr) (k0 : Nat) (h : 0 < c → q = some ⟨g1, oi + k, none⟩) => solvec_any q c k0 (rightL k c Z i) w7 (by simp [rightL]) (by omega) (rightL_rd HC1.out HOI.out HK.out (by omega) h))
              rw [hbz] at HCON
              have HM2 := HM1
              have HRZ7 := Lib.hid (HRZ5.out.below HM1.out.below HRZ5.out.lt)
              clear hbz HM1
              go_wp2_with fail
              refine (HCON.out _ _ (fun _ => by first | rfl | (exfalso; have h9 := HKC.out; omega))).mono ?_
              rintro e8 w8 ⟨rfl, rfl⟩
              cases bz
              · go_wp2
                go_roundw
                case rel => exact ⟨i + 1, by omega, by go_num, HM2.out.congr (fun p _ => (solTo_skip (by rw [HL.out]; omega) _ _).symm), Lib.hid (fun i' h1 h2 j hj => by
                  by_cases e : i' = i
                  · rw [e]; exact rightL_none HBZ.out j hj
                  · exact HZZ.out i' (by omega) h2 j hj)⟩
                case measure => simp [intOf]; omega
              · go_wp2_with (refine wpList_store_row rfl _ _ _ rfl (w.heap.size + 2) (matC 0 0 0 none 0 0) rfl rfl _ _ HRZ7.out (by kernel_rfl) rfl (matC_one _ _ _ _ _ _) ?_)
                refine bodyPost_ret (v := outV nilM 12) ?_ rfl ⟨.inl ⟨HNS.out.symm.trans (rightL_any HBZ.out hir (by omega)), rfl⟩, below_whole (HW5.out.trans (HM2.out.below.mono HW5.out.size)) (by omega) _⟩
                exact results_row_tmp rfl _ _ (w.heap.size + 2) _ _ _ _ rfl rfl (HRZ7.out.whole _) Tryd.underlying24 (by rfl) (by kernel_rfl)
          · go_wp2_with fail
            go_region_held3 (fun wn => (wn.cell? ⟨w.heap.size, 0, none⟩ = some (.int .i64 m) ∧ wn.cell? ⟨w.heap.size, 1, none⟩ = some (.int .i64 r) ∧ wn.cell? ⟨w.heap.size, 2, none⟩ = some (.int .i64 k) ∧ wn.cell? ⟨w.heap.size, 3, none⟩ = some (.slice qa NA ka)) ∧ (wn.cell? ⟨w3.heap.size, 0, none⟩ = some (.int .i64 m) ∧ wn.cell? ⟨w3.heap.size, 1, none⟩ = some (.int .i64 r) ∧ wn.cell? ⟨w3.heap.size, 2, none⟩ = some (.int .i64 K) ∧ wn.cell? ⟨w3.heap.size, 3, none⟩ = some (.slice (some ⟨g1, 0, none⟩) N1 N1))) (first | exact ⟨mbox (HXA.out _ HM1.out.below), mbox (HX6.out _ HM1.out.below)⟩ | exact ⟨mbox (HXA.out _ HM0.out.below), mbox (HX6.out _ HM0.out.below)⟩) (first
              | (go_at_call 36; (with_reducible refine (HRBO.out i oi kc g1 _ hir HOI.out HKC.out).mono ?_); rintro e7 w7 ⟨rfl, hb7⟩; have HM1 := Lib.hid (HM0.out.next hb7)))
            have HC1 := Lib.hid (HC5.out.below HM1.out.below HC5.out.lt)
            clear hb7 HM0
            by_cases hiL : i < L
            · have hdl : decide ((i : Int) < L) = true := decide_eq_true (by omega)
              obtain ⟨P, hP⟩ : ∃ P, pv[i]? = some P := ⟨_, List.getElem?_eq_getElem (by rw [HL.out]; exact hiL)⟩
              have HPP := Lib.hid hP
              have hPk : P < k := HRF.out.2.2.1 P (List.mem_of_getElem? hP)
              have hfit2 := HPKC.out P hPk
              obtain ⟨bp, op, hqp, hbp, hcp⟩ := HRDP.out i (.int .i64 (P : Int)) (by rw [ints, List.getElem?_map, natsL, List.getElem?_map, hP]; rfl)
              have HPC := Lib.hid (fun (W : World) (h : Below w5.heap.size w5 W) => (h.cell (p := ⟨bp, op + i, none⟩) hbp).trans hcp)
              subst hqp
              have HM3 := Lib.hid HM1.out.drew
              clear hP hcp hbp HM1
              go_wp2_with fail
              go_region_held3 (fun wn => (wn.cell? ⟨w6.heap.size, 0, none⟩ = some (.int .i64 m) ∧ wn.cell? ⟨w6.heap.size, 1, none⟩ = some (.int .i64 k) ∧ wn.cell? ⟨w6.heap.size, 2, none⟩ = some (.int .i64 c) ∧ wn.cell? ⟨w6.heap.size, 3, none⟩ = some (.slice (some ⟨g2, 0, none⟩) N2 N2)) ∧ wn.cell? ⟨bp, op + i, none⟩ = some (.int .i64 (P : Int))) (first | exact ⟨mbox HM5.out.rc, HPC.out _ HM5.out.below⟩ | exact ⟨mbox HM4.out.rc, HPC.out _ HM4.out.below⟩ | exact ⟨mbox HM3.out.rc, HPC.out _ HM3.out.below⟩) (first
                | (go_at_call 36; (with_reducible refine (HRX.out P hPk _).mono ?_); rintro e8 w8 ⟨q8, k8, rfl, hk81, hk82, hq8, hb8⟩; have HM4 := Lib.hid (HM3.out.next hb8); have HQ8 := Lib.hid hq8; have HC4 := Lib.hid (show Cells w8 g1 N1 (Mat.flat K Z) from HC5.out.below HM4.out.below HC5.out.lt); clear hq8)
                | (refine step_copyC rfl (.tmp 100) (.tmp 101) rfl q8 (some ⟨g1, oi + k, none⟩) c k8 _ _ rfl rfl HM4.out.cells c (P * c) (fun q => Z i (k + q)) (Nat.min_eq_left (by omega)) (fun h => by obtain ⟨g9, o9, e9, e10⟩ := HQ8.out h; injection e9 with e9; injection e9 with e9 e11; subst e9; subst e11; rw [e10, Nat.zero_add]) (by omega) (fun j hj => by first | (exfalso; have h9 := HKC.out; omega) | exact ⟨g1, oi + k, rfl, by rw [Nat.add_assoc, HC4.out.cell (by omega), ← HOI.out, Mat.flat_at _ _ (by omega)]⟩) ?_; intro w10 hc10 ho10; have HM5 := Lib.hid ((HM4.out.wrote hc10 ho10 (by omega) (by omega)).congr (f' := Mat.flat c (solTo k Z pv (i + 1))) (HSOL.out i P HPP.out hPk)); clear hc10 ho10))
              go_wp2
              go_roundw
              case rel => exact ⟨i + 1, by omega, by go_num, HM5.out, Lib.hid (fun i' h1 h2 j hj => HZZ.out i' (by omega) h2 j hj)⟩
              case measure => simp [intOf]; omega
            · have hdl : decide ((i : Int) < L) = false := decide_eq_false (by omega)
              obtain ⟨bz, hbz⟩ : ∃ bz, (rightL k c Z i).any (· != 0) = bz := ⟨_, rfl⟩
              have HBZ := Lib.hid hbz
              have HCON := Lib.hid (fun (q : Option Addr) (k0 : Nat) (h : 0 < c → q = some ⟨g1, oi + k, none⟩) => solvec_any q c k0 (rightL k c Z i) w7 (by simp [rightL]) (by omega) (rightL_rd HC1.out HOI.out HK.out (by omega) h))
              rw [hbz] at HCON
              have HM2 := HM1
              have HRZ7 := Lib.hid (HRZ5.out.below HM1.out.below HRZ5.out.lt)
              clear hbz HM1
              go_wp2_with fail
              refine (HCON.out _ _ (fun _ => by first | rfl | (exfalso; have h9 := HKC.out; omega))).mono ?_
              rintro e8 w8 ⟨rfl, rfl⟩
              cases bz
              · go_wp2
                go_roundw
                case rel => exact ⟨i + 1, by omega, by go_num, HM2.out.congr (fun p _ => (solTo_skip (by rw [HL.out]; omega) _ _).symm), Lib.hid (fun i' h1 h2 j hj => by
                  by_cases e : i' = i
                  · rw [e]; exact rightL_none HBZ.out j hj
                  · exact HZZ.out i' (by omega) h2 j hj)⟩
                case measure => simp [intOf]; omega
              · go_wp2_with (refine wpList_store_row rfl _ _ _ rfl (w.heap.size + 2) (matC 0 0 0 none 0 0) rfl rfl _ _ HRZ7.out (by kernel_rfl) rfl (matC_one _ _ _ _ _ _) ?_)
                refine bodyPost_ret (v := outV nilM 12) ?_ rfl ⟨.inl ⟨HNS.out.symm.trans (rightL_any HBZ.out hir (by omega)), rfl⟩, below_whole (HW5.out.trans (HM2.out.below.mono HW5.out.size)) (by omega) _⟩
                exact results_row_tmp rfl _ _ (w.heap.size + 2) _ _ _ _ rfl rfl (HRZ7.out.whole _) Tryd.underlying24 (by rfl) (by kernel_rfl)
        · have hd : decide ((i : Int) < r) = false := decide_eq_false (by omega)
          have hir2 : i = r := by omega
          subst hir2
          have HRZ7 := Lib.hid (HRZ5.out.below HS.out.below HRZ5.out.lt)
          obtain ⟨d0, d1, d2, d3⟩ := mbox HS.out.rc
          have HNF := Lib.hid (noSol_false (fun i' j h1 h2 h3 => HZZ.out i' h1 h2 j h3))
          go_wp2_with (refine wpList_store_row rfl _ _ _ rfl (w.heap.size + 2) (matC m k c (some ⟨g2, 0, none⟩) N2 N2) rfl rfl _ _ HRZ7.out (by kernel_rfl) rfl (matC_one _ _ _ _ _ _) ?_)
          refine bodyPost_ret (v := outV (matV m k c (some ⟨g2, 0, none⟩) N2 N2) 0) ?_ rfl ⟨.inr ⟨HNS.out.symm.trans HNF.out, g2, rfl, by omega, HS.out.cells.apart (by omega) _⟩, below_whole (HW5.out.trans (HS.out.below.mono HW5.out.size)) (by omega) _⟩
          exact results_row_tmp rfl _ _ (w.heap.size + 2) _ _ _ _ rfl rfl (HRZ7.out.whole _) Tryd.underlying24 (by rfl) (by kernel_rfl)
end Go.Proofs.YtaijjhddgecieaaDoor
