/- Matrices: the product of two valid matrices that fit. -/
import Derived.Test.YtaijjhddgecieaaDoorM8
namespace Go.Proofs.YtaijjhddgecieaaDoor
set_option linter.unusedSimpArgs false
set_option linter.unusedVariables false
open Go.RowKit Go.Lib

theorem mvalid_yes {m r c k : Nat} {q : Option Addr} {A : Nat → Nat → Nat} {w : World} {B : Nat} (h : MatR w B m r c q k A) (hc : c ≤ 32) (W : World) (hb : Below B w W) (hB : B ≤ W.heap.size) :
    Calls Tryd.prog 28 #[matV m r c q (r * c) k] W fun e w' => e = .returned (.bool true) ∧ Below W.heap.size W w' := by
  have hle := h.cap
  have hk := h.kle
  unfold maxLen at hk
  have := mvalid_any m r c q (r * c) k (cellsL r c A) W (cellsL_length _ _ _) (by omega) ((h.rd.below hb).more hB)
  rwa [okMat_of h.hm h.hr hc h.ok] at this
theorem rvalid_yes {m r c k : Nat} {q : Option Addr} {A : Nat → Nat → Nat} {w : World} {B : Nat} (h : MatR w B m r c q k A) (hc : c ≤ 32) (W : World) (hb : Below B w W) (hB : B ≤ W.heap.size) :
    Calls Tryd.prog 13 #[matV m r c q (r * c) k] W fun e w' => e = .returned (.bool true) ∧ Below W.heap.size W w' := by
  have hle := h.cap
  have hk := h.kle
  unfold maxLen at hk
  have := rvalid6_any m r c q (r * c) k (cellsL r c A) W (cellsL_length _ _ _) (by omega) ((h.rd.below hb).more hB)
  rwa [okMat_of h.hm h.hr hc h.ok] at this
/-- what stands in memory while a product is made: the boxes of the factors, the result's cell, the product's box, and its cells -/
structure Prods (w wr : World) (g gc N : Nat) (a b z c : Array Value) (f : Nat → Nat) : Prop where
  ra : Row wr w.heap.size 24 a
  rb : Row wr (w.heap.size + 1) 24 b
  rz : Row wr (w.heap.size + 2) 24 z
  rc : Row wr gc 24 c
  cells : Cells wr g N f
  below : Below w.heap.size w wr
section
variable {w wr w' : World} {g gc N : Nat} {a b z c : Array Value} {f : Nat → Nat}
theorem Prods.next (h : Prods w wr g gc N a b z c f) (hb : Below wr.heap.size wr w') : Prods w w' g gc N a b z c f :=
  ⟨h.ra.below hb h.ra.lt, h.rb.below hb h.rb.lt, h.rz.below hb h.rz.lt, h.rc.below hb h.rc.lt, h.cells.below hb h.cells.lt, below_call h.below hb⟩
theorem Prods.drew (h : Prods w wr g gc N a b z c f) : Prods w wr.drew g gc N a b z c f := ⟨h.ra, h.rb, h.rz, h.rc, h.cells, h.below.drew⟩
theorem Prods.wrote (h : Prods w wr g gc N a b z c f) {f' : Nat → Nat} (ho : Only (fun k => k = g) wr w') (hc : Cells w' g N f') (h1 : w.heap.size + 2 < g) (h2 : gc ≠ g) : Prods w w' g gc N a b z c f' :=
  ⟨ho.row h.ra (by omega), ho.row h.rb (by omega), ho.row h.rz (by omega), ho.row h.rc h2, hc, h.below.trans (ho.below h.below.size (fun k hk => by subst hk; omega))⟩
theorem Prods.congr (h : Prods w wr g gc N a b z c f) {f' : Nat → Nat} (e : ∀ p, p < N → f p = f' p) : Prods w wr g gc N a b z c f' := ⟨h.ra, h.rb, h.rz, h.rc, h.cells.congr e, h.below⟩
end
set_option maxRecDepth 100000 in
set_option maxHeartbeats 3200000 in
theorem mul_yes {m r k c : Nat} {A B : Nat → Nat → Nat} (qa : Option Addr) (ka : Nat) (qb : Option Addr) (kb : Nat) (w : World) (ht : Tab w) (hA : MatR w w.heap.size m r k qa ka A) (hB : MatR w w.heap.size m k c qb kb B) (hk : k ≤ 32) (hc : c ≤ 32) :
    Calls Tryd.prog 16 #[matV m r k qa (r * k) ka, matV m k c qb (k * c) kb] w fun e w' => ∃ g, e = .returned (outV (matV m r c (some ⟨g, 0, none⟩) (r * c) (r * c)) 0) ∧ w.heap.size ≤ g ∧ Cells w' g (r * c) (Mat.flat c (Mat.prod m k A B)) ∧ Below w.heap.size w w' := by
  have hr := hA.hr
  have HT := Lib.hid ht
  have HA := Lib.hid hA
  have HBB := Lib.hid hB
  have HRK := Lib.hid (And.intro hr hc)
  have HVA := Lib.hid (fun (W : World) (h : Below w.heap.size w W) => mvalid_yes hA hk W h h.size)
  have HVB := Lib.hid (fun (W : World) (h : Below w.heap.size w W) => mvalid_yes hB hc W h h.size)
  have HRA0 := Lib.hid (fun i hi W => mrow_any hA i hi W)
  have HRB0 := Lib.hid (fun i hi W => mrow_any hB i hi W)
  have HZ := Lib.hid (fun W => zero_any (m : Int) r c (by omega) (by omega) W)
  have HRC0 := Lib.hid (fun (w0 : World) (g : Nat) (h : Cells w0 g (r * c) (Mat.flat c (fun _ _ => 0))) => mrow_any (MatR.of_cells (B := g + 1) h (Nat.lt_succ_self _) hA.hm hr (by omega) (fun _ _ _ _ => Nat.two_pow_pos m)))
  have hNle : r * c ≤ 32 * 32 := Nat.mul_le_mul hr hc
  have HMC := Lib.hid (fun (A0 : Nat → Nat → Nat) (ok : Mat.Ok m r c A0) (i : Nat) (hi : i < r) (F : Nat) (hF : F < 2 ^ m) (x : Nat → Nat) (hxb : ∀ j, j < c → x j < 2 ^ m) (qa qb : Option Addr) (ka kb g B : Nat) (W : World) (ht : Tab W) (hg0 : 0 < g) (hcell : Cells W g (r * c) (Mat.flat c A0)) (hqa : 0 < c → qa = some ⟨g, i * c, none⟩) (hx : RowR W B qb c x) (hB : B ≤ g) => madd_far hA.hm hr (show c ≤ 64 by omega) ok hi hF x hxb qa qb ka kb g B W ht hg0 hcell hqa hx hB)
  obtain ⟨NA, hNA⟩ : ∃ N, r * k = N := ⟨_, rfl⟩
  obtain ⟨NB, hNB⟩ : ∃ N, k * c = N := ⟨_, rfl⟩
  obtain ⟨N, hN⟩ : ∃ N, r * c = N := ⟨_, rfl⟩
  have HNA := Lib.hid hNA
  have HNB := Lib.hid hNB
  have HN := Lib.hid hN
  rw [hNA] at HVA HRA0 ⊢
  rw [hNB] at HVB HRB0 ⊢
  rw [hN] at HZ HRC0 HMC hNle ⊢
  unfold matV at HVA HVB HRA0 HRB0 HRC0 ⊢
  clear ht hA hB hNA hNB hN
  have HW : Hid (Below w.heap.size w (((w.alloc (.cells (matC m r k qa NA ka) 24)).alloc (.cells (matC m k c qb NB kb) 24)).alloc (.cells #[.int .i64 0, .int .i64 0, .int .i64 0, .slice none 0 0] 24))) := Lib.hid ((((Below.refl _ w).alloc (Nat.le_refl _) _).alloc (by simp) _).alloc (by simp; omega) _)
  have HRA : Hid (Row (((w.alloc (.cells (matC m r k qa NA ka) 24)).alloc (.cells (matC m k c qb NB kb) 24)).alloc (.cells #[.int .i64 0, .int .i64 0, .int .i64 0, .slice none 0 0] 24)) w.heap.size 24 (matC m r k qa NA ka)) := Lib.hid (((Row.new w _ _).alloc _).alloc _)
  have HRB : Hid (Row (((w.alloc (.cells (matC m r k qa NA ka) 24)).alloc (.cells (matC m k c qb NB kb) 24)).alloc (.cells #[.int .i64 0, .int .i64 0, .int .i64 0, .slice none 0 0] 24)) (w.heap.size + 1) 24 (matC m k c qb NB kb)) := Lib.hid ((Row.made _ _ (by simp)).alloc _)
  have HRZ : Hid (Row (((w.alloc (.cells (matC m r k qa NA ka) 24)).alloc (.cells (matC m k c qb NB kb) 24)).alloc (.cells #[.int .i64 0, .int .i64 0, .int .i64 0, .slice none 0 0] 24)) (w.heap.size + 2) 24 (matC 0 0 0 none 0 0)) := Lib.hid (Row.made _ _ (by simp))
  go_enter Tryd.func16, Tryd.ntmps16
  go_wp2_with fail
  refine (HVA.out _ HW.out).mono ?_
  rintro e w1 ⟨rfl, hb⟩
  have hlt1 := hb.size
  simp only [size1] at hlt1
  have HW1 := Lib.hid (below_call HW.out hb)
  have HRA1 := Lib.hid (HRA.out.below hb HRA.out.lt)
  have HRB1 := Lib.hid (HRB.out.below hb HRB.out.lt)
  have HRZ1 := Lib.hid (HRZ.out.below hb HRZ.out.lt)
  obtain ⟨a0, a1, a2, a3⟩ := mbox HRA1.out
  obtain ⟨b0, b1, b2, b3⟩ := mbox HRB1.out
  clear hb HW HRA HRB HRZ
  go_wp2_with fail
  refine (HVB.out _ HW1.out).mono ?_
  rintro e w2 ⟨rfl, hb⟩
  have hlt2 := hb.size
  have HW2 := Lib.hid (below_call HW1.out hb)
  have HRA2 := Lib.hid (HRA1.out.below hb HRA1.out.lt)
  have HRB2 := Lib.hid (HRB1.out.below hb HRB1.out.lt)
  have HRZ2 := Lib.hid (HRZ1.out.below hb HRZ1.out.lt)
  clear a0 a1 a2 a3 b0 b1 b2 b3 hb HW1 HRA1 HRB1 HRZ1
  obtain ⟨a0, a1, a2, a3⟩ := mbox HRA2.out
  obtain ⟨b0, b1, b2, b3⟩ := mbox HRB2.out
  go_wp2_with fail
  refine (HZ.out _).mono ?_
  rintro e w3 ⟨g, rfl, hg, hc3, hb⟩
  have hlt3 := hb.size
  have HC3 := Lib.hid hc3
  have HRC := Lib.hid (HRC0.out w3 g hc3)
  have HW3 := Lib.hid (below_call HW2.out hb)
  have HRA3 := Lib.hid (HRA2.out.below hb HRA2.out.lt)
  have HRB3 := Lib.hid (HRB2.out.below hb HRB2.out.lt)
  have HRZ3 := Lib.hid (HRZ2.out.below hb HRZ2.out.lt)
  have hglt := hc3.lt
  clear a0 a1 a2 a3 b0 b1 b2 b3 hb HW2 HRA2 HRB2 HRZ2 hc3 HRC0
  obtain ⟨a0, a1, a2, a3⟩ := mbox HRA3.out
  obtain ⟨b0, b1, b2, b3⟩ := mbox HRB3.out
  have hz0 : w.heap.size < w3.heap.size := by omega
  have hz1 : w.heap.size + 1 < w3.heap.size := by omega
  go_wp2_with fail
  have HS0 := Lib.hid (show Prods w (w3.alloc (.cells (matC m r c (some ⟨g, 0, none⟩) N N) 24)) g w3.heap.size N (matC m r k qa NA ka) (matC m k c qb NB kb) (matC 0 0 0 none 0 0) (matC m r c (some ⟨g, 0, none⟩) N N) (Mat.flat c (mulTo m k A B 0 0)) from
    ⟨HRA3.out.alloc _, HRB3.out.alloc _, HRZ3.out.alloc _, Row.made _ _ rfl, (HC3.out.alloc _).congr (fun p _ => (mulTo_zero _ _ _ _ _ _).symm), HW3.out.alloc (by omega) _⟩)
  clear a0 a1 a2 a3 b0 b1 b2 b3 HC3 HRA3 HRB3 HRZ3
  have hg2 : w.heap.size + 2 < g := by omega
  go_loopw [42] (fun i wr => ∃ i' : Nat, i' ≤ r ∧ i = .int .i64 i' ∧ Prods w wr g w3.heap.size N (matC m r k qa NA ka) (matC m k c qb NB kb) (matC 0 0 0 none 0 0) (matC m r c (some ⟨g, 0, none⟩) N N) (Mat.flat c (mulTo m k A B i' 0))) (fun i _ => r - (intOf i).toNat)
  case atStart => exact ⟨0, Nat.zero_le _, rfl, HS0.out⟩
  case round =>
    obtain ⟨i, hi, rfl, hs⟩ := hrel
    have HS := Lib.hid hs
    obtain ⟨a0, a1, a2, a3⟩ := mbox hs.ra
    clear hs HS0
    by_cases hir : i < r
    · have hd : decide ((i : Int) < r) = true := decide_eq_true (by omega)
      go_wp2_with fail
      refine (HRA0.out i hir _).mono ?_
      rintro e w4 ⟨q1, k1, rfl, hk1, hk2, hq1, hb⟩
      have HS4 := Lib.hid (HS.out.next hb)
      have HQ1 := Lib.hid hq1
      clear a0 a1 a2 a3 hb HS hq1
      go_wp2_with fail
      go_loopw [49] (fun t wr => ∃ t' : Nat, t' ≤ k ∧ t = .int .i64 t' ∧ Prods w wr g w3.heap.size N (matC m r k qa NA ka) (matC m k c qb NB kb) (matC 0 0 0 none 0 0) (matC m r c (some ⟨g, 0, none⟩) N N) (Mat.flat c (mulTo m k A B i t'))) (fun i _ => k - (intOf i).toNat)
      case atStart => exact ⟨0, Nat.zero_le _, rfl, HS4.out⟩
      case round =>
        obtain ⟨t, htk, rfl, hs⟩ := hrel
        have HS := Lib.hid hs
        have hbw := hs.below
        clear hs HS4
        by_cases hlt : t < k
        · have hd : decide ((t : Int) < k) = true := decide_eq_true (by omega)
          obtain ⟨ga, oa, hga, hcell⟩ := (HA.out.below hbw).row hir HQ1.out t hlt
          obtain ⟨hgal, hcell⟩ := hcell
          subst hga
          have HC0 := Lib.hid (show Prods w wr.drew g w3.heap.size N (matC m r k qa NA ka) (matC m k c qb NB kb) (matC 0 0 0 none 0 0) (matC m r c (some ⟨g, 0, none⟩) N N) (Mat.flat c (mulTo m k A B i t)) from HS.out.drew)
          obtain ⟨F, hF⟩ : ∃ F, A i t = F := ⟨_, rfl⟩
          rw [hF] at hcell
          have HF := Lib.hid hF
          have HFB := Lib.hid (show F < 2 ^ m by rw [← hF]; exact HA.out.ok i t hir hlt)
          have HBT := Lib.hid (show ∀ j, j < c → B t j < 2 ^ m from fun j hj => HBB.out.ok t j hlt hj)
          clear hF hbw hgal
          go_wp2_with fail
          go_region_held3 (fun wn => (wn.cell? ⟨w.heap.size, 0, none⟩ = some (.int .i64 m) ∧ wn.cell? ⟨w.heap.size, 1, none⟩ = some (.int .i64 r) ∧ wn.cell? ⟨w.heap.size, 2, none⟩ = some (.int .i64 k) ∧ wn.cell? ⟨w.heap.size, 3, none⟩ = some (.slice qa NA ka)) ∧
            (wn.cell? ⟨w.heap.size + 1, 0, none⟩ = some (.int .i64 m) ∧ wn.cell? ⟨w.heap.size + 1, 1, none⟩ = some (.int .i64 k) ∧ wn.cell? ⟨w.heap.size + 1, 2, none⟩ = some (.int .i64 c) ∧ wn.cell? ⟨w.heap.size + 1, 3, none⟩ = some (.slice qb NB kb)) ∧
            (wn.cell? ⟨w3.heap.size, 0, none⟩ = some (.int .i64 m) ∧ wn.cell? ⟨w3.heap.size, 1, none⟩ = some (.int .i64 r) ∧ wn.cell? ⟨w3.heap.size, 2, none⟩ = some (.int .i64 c) ∧ wn.cell? ⟨w3.heap.size, 3, none⟩ = some (.slice (some ⟨g, 0, none⟩) N N))) (first | exact ⟨mbox HC3.out.ra, mbox HC3.out.rb, mbox HC3.out.rc⟩ | exact ⟨mbox HC2.out.ra, mbox HC2.out.rb, mbox HC2.out.rc⟩ | exact ⟨mbox HC1.out.ra, mbox HC1.out.rb, mbox HC1.out.rc⟩ | exact ⟨mbox HC0.out.ra, mbox HC0.out.rb, mbox HC0.out.rc⟩) (first
            | (go_at_call 36; (with_reducible refine (HRC.out i hir _).mono ?_); rintro e5 w5 ⟨q2, k2, rfl, hk21, hk22, hq2, hb5⟩; have HC1 := Lib.hid (HC0.out.next hb5); have HQ2 := Lib.hid hq2; clear hq2)
            | (go_at_call 36; (with_reducible refine (HRB0.out t hlt _).mono ?_); rintro e6 w6 ⟨q3, k3, rfl, hk31, hk32, hq3, hb6⟩; have HC2 := Lib.hid (HC1.out.next hb6); have HQ3 := Lib.hid hq3; clear hq3)
            | (go_at_call 38; (with_reducible refine (HMC.out _ (mulTo_ok HA.out.hm HA.out.ok i (Nat.le_of_lt hlt)) i hir F HFB.out (B t) HBT.out q2 q3 k2 k3 g w.heap.size _ (HT.out.below HC2.out.below HT.out.lt) (by omega) HC2.out.cells (fun h => by obtain ⟨g9, o9, e9, e10⟩ := HQ2.out h; injection e9 with e9; injection e9 with e9 e11; subst e9; subst e11; rw [e10, Nat.zero_add]) ((HBB.out.below HC2.out.below).row hlt HQ3.out) (by omega)).mono ?_); rintro e7 w7 ⟨⟨v7, rfl⟩, hc7, ho7⟩; have HC3 := Lib.hid (HC2.out.wrote ho7 hc7 (by omega) (by omega))))
          have HC4 := Lib.hid (HC3.out.congr (f' := Mat.flat c (mulTo m k A B i (t + 1))) (fun p _ => by rw [← HF.out]; exact mulTo_add _ _ _ _ _ _ _ _))
          go_wp2_with fail
          go_roundw
          case rel => exact ⟨t + 1, by omega, by go_num, HC4.out⟩
          case measure => simp [intOf]; omega
        · have hd : decide ((t : Int) < k) = false := decide_eq_false (by omega)
          have htk : t = k := by omega
          subst htk
          have HS5 := Lib.hid (HS.out.congr (fun p _ => mulTo_next _ _ _ _ _ _ _))
          go_wp2_with fail
          go_roundw
          case rel => exact ⟨i + 1, by omega, by go_num, HS5.out⟩
          case measure => simp [intOf]; omega
    · have hd : decide ((i : Int) < r) = false := decide_eq_false (by omega)
      have hir : i = r := by omega
      subst hir
      clear a0 a1 a2 a3
      obtain ⟨c0, c1, c2, c3⟩ := mbox HS.out.rc
      go_wp2_with (refine wpList_store_row rfl _ _ _ rfl (w.heap.size + 2) (matC m i c (some ⟨g, 0, none⟩) N N) rfl rfl _ _ HS.out.rz (by kernel_rfl) rfl (matC_one _ _ _ _ _ _) ?_)
      refine bodyPost_ret (v := outV (matV m i c (some ⟨g, 0, none⟩) N N) 0) ?_ rfl ⟨g, rfl, by omega, ?_, below_whole HS.out.below (by omega) _⟩
      · exact results_row_tmp rfl _ _ (w.heap.size + 2) _ _ _ _ rfl rfl (HS.out.rz.whole _) Tryd.underlying24 (by rfl) (by kernel_rfl)
      · exact (HS.out.cells.apart (by omega) _).congr (fun p hp => by rw [← HN.out] at hp; exact Mat.flat_congr (fun p q hp hq => by unfold mulTo; rw [if_pos hp]) p hp)
end Go.Proofs.YtaijjhddgecieaaDoor
