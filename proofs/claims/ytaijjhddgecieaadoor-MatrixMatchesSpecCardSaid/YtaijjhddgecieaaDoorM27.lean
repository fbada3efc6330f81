/- Matrices: the reference's Transpose. -/
import Derived.Test.YtaijjhddgecieaaDoorM25
namespace Go.Proofs.YtaijjhddgecieaaDoor
set_option linter.unusedSimpArgs false
set_option linter.unusedVariables false
open Go.RowKit Go.Lib

theorem wrap_mul {i c o : Nat} (h : i * c = o) (hb : o ≤ 100000) : IntKind.i64.wrap ((i : Int) * (c : Int)) = (o : Int) := by
  rw [← Int.natCast_mul, h, IntKind.wrap_i64] <;> omega
theorem wrap_add (a b : Nat) (hb : a + b ≤ 100000) : IntKind.i64.wrap ((a : Int) + (b : Int)) = ((a + b : Nat) : Int) := by
  rw [← Int.natCast_add, IntKind.wrap_i64] <;> omega
set_option maxRecDepth 100000 in
set_option maxHeartbeats 1600000 in
theorem rtransp_no (ma ra ca : Int) (qa : Option Addr) (na ka : Nat) (xs : List Int) (w : World) (hla : xs.length = na) (hna : na ≤ 9223372036854775807) (hra : Rd w w.heap.size qa (ints xs)) (h : okMat ma ra ca xs = false) :
    Calls Tryd.prog 24 #[matV ma ra ca qa na ka] w fun e w' => e = .returned (outV nilM 1) ∧ Below w.heap.size w w' := by
  have HVA := Lib.hid (fun (W : World) (h : Below w.heap.size w W) => rvalid6_any ma ra ca qa na ka xs W hla hna ((hra.below h).more h.size))
  rw [h] at HVA
  clear hla hna hra h
  unfold matV at HVA ⊢
  have HW : Hid (Below w.heap.size w ((w.alloc (.cells (matC ma ra ca qa na ka) 24)).alloc (.cells #[.int .i64 0, .int .i64 0, .int .i64 0, .slice none 0 0] 24))) := Lib.hid (((Below.refl _ w).alloc (Nat.le_refl _) _).alloc (by simp) _)
  have HRZ : Hid (Row ((w.alloc (.cells (matC ma ra ca qa na ka) 24)).alloc (.cells #[.int .i64 0, .int .i64 0, .int .i64 0, .slice none 0 0] 24)) (w.heap.size + 1) 24 #[.int .i64 0, .int .i64 0, .int .i64 0, .slice none 0 0]) := Lib.hid (Row.made _ _ (by simp))
  go_enter Tryd.func24, Tryd.ntmps24
  go_wp2_with fail
  refine (HVA.out _ HW.out).mono ?_
  rintro e w1 ⟨rfl, hb⟩
  have hlt1 := hb.size
  simp only [size1] at hlt1
  have HW1 := Lib.hid (below_call HW.out hb)
  have HRZ1 := Lib.hid (HRZ.out.below hb HRZ.out.lt)
  clear hb
  go_wp2_with (refine wpList_store_row rfl _ _ _ rfl (w.heap.size + 1) (matC 0 0 0 none 0 0) rfl rfl _ _ HRZ1.out (by kernel_rfl) rfl (matC_one _ _ _ _ _ _) ?_)
  refine bodyPost_ret (v := outV nilM 1) ?_ rfl ⟨rfl, below_whole HW1.out (by omega) _⟩
  exact results_row_tmp rfl _ _ (w.heap.size + 1) _ _ _ _ rfl rfl (HRZ1.out.whole _) Tryd.underlying24 (by rfl) (by kernel_rfl)
set_option maxRecDepth 100000 in
set_option maxHeartbeats 3200000 in
theorem rtransp_yes {m r c : Nat} {A : Nat → Nat → Nat} (qa : Option Addr) (ka : Nat) (w : World) (hA : MatR w w.heap.size m r c qa ka A) (hc : c ≤ 32) :
    Calls Tryd.prog 24 #[matV m r c qa (r * c) ka] w fun e w' => ∃ g, e = .returned (outV (matV m c r (some ⟨g, 0, none⟩) (c * r) (c * r)) 0) ∧ w.heap.size ≤ g ∧ Cells w' g (c * r) (Mat.flat r (Mat.tr A)) ∧ Below w.heap.size w w' := by
  have hr := hA.hr
  have HA := Lib.hid hA
  have HRK := Lib.hid (And.intro hr hc)
  have HVA := Lib.hid (fun (W : World) (h : Below w.heap.size w W) => rvalid_yes hA hc W h h.size)
  have HZ := Lib.hid (fun W => rzero_any (m : Int) c r (by omega) (by omega) W)
  have hNAle : r * c ≤ 32 * 32 := Nat.mul_le_mul hr hc
  have hNle : c * r ≤ 32 * 32 := Nat.mul_le_mul hc hr
  obtain ⟨NA, hNA⟩ : ∃ N, r * c = N := ⟨_, rfl⟩
  obtain ⟨N, hN⟩ : ∃ N, c * r = N := ⟨_, rfl⟩
  have HNA := Lib.hid hNA
  have HN := Lib.hid hN
  rw [hNA] at HVA hNAle ⊢
  rw [hN] at HZ hNle ⊢
  unfold matV at HVA ⊢
  clear hA hNA hN
  have HW : Hid (Below w.heap.size w ((w.alloc (.cells (matC m r c qa NA ka) 24)).alloc (.cells #[.int .i64 0, .int .i64 0, .int .i64 0, .slice none 0 0] 24))) := Lib.hid (((Below.refl _ w).alloc (Nat.le_refl _) _).alloc (by simp) _)
  have HRA : Hid (Row ((w.alloc (.cells (matC m r c qa NA ka) 24)).alloc (.cells #[.int .i64 0, .int .i64 0, .int .i64 0, .slice none 0 0] 24)) w.heap.size 24 (matC m r c qa NA ka)) := Lib.hid ((Row.new w _ _).alloc _)
  have HRZ : Hid (Row ((w.alloc (.cells (matC m r c qa NA ka) 24)).alloc (.cells #[.int .i64 0, .int .i64 0, .int .i64 0, .slice none 0 0] 24)) (w.heap.size + 1) 24 (matC 0 0 0 none 0 0)) := Lib.hid (Row.made _ _ (by simp))
  go_enter Tryd.func24, Tryd.ntmps24
  go_wp2_with fail
  refine (HVA.out _ HW.out).mono ?_
  rintro e w1 ⟨rfl, hb⟩
  have hlt1 := hb.size
  simp only [size1] at hlt1
  have HW1 := Lib.hid (below_call HW.out hb)
  have HRA1 := Lib.hid (HRA.out.below hb HRA.out.lt)
  have HRZ1 := Lib.hid (HRZ.out.below hb HRZ.out.lt)
  obtain ⟨a0, a1, a2, a3⟩ := mbox HRA1.out
  clear hb HW HRA HRZ
  go_wp2_with fail
  refine (HZ.out _).mono ?_
  rintro e w3 ⟨g, rfl, hg, hc3, hb⟩
  have hlt3 := hb.size
  have HC3 := Lib.hid hc3
  have HW3 := Lib.hid (below_call HW1.out hb)
  have HRA3 := Lib.hid (HRA1.out.below hb HRA1.out.lt)
  have HRZ3 := Lib.hid (HRZ1.out.below hb HRZ1.out.lt)
  have hglt := hc3.lt
  clear a0 a1 a2 a3 hb HW1 HRA1 HRZ1 hc3
  obtain ⟨a0, a1, a2, a3⟩ := mbox HRA3.out
  have hz0 : w.heap.size < w3.heap.size := by omega
  have hz1 : w.heap.size + 1 < w3.heap.size := by omega
  go_wp2_with fail
  have HS0 := Lib.hid (show Made1 w (w3.alloc (.cells (matC m c r (some ⟨g, 0, none⟩) N N) 24)) w.heap.size (w.heap.size + 1) g w3.heap.size N (matC m r c qa NA ka) (matC 0 0 0 none 0 0) (matC m c r (some ⟨g, 0, none⟩) N N) (Mat.flat r (trTo A 0 0)) from
    ⟨HRA3.out.alloc _, HRZ3.out.alloc _, Row.made _ _ rfl, (HC3.out.alloc _).congr (fun p _ => by unfold Mat.flat trTo; simp), HW3.out.alloc (by omega) _⟩)
  clear a0 a1 a2 a3 HC3 HRA3 HRZ3
  have hg2 : w.heap.size + 1 < g := by omega
  go_loopw [6] (fun i wr => ∃ i' : Nat, i' ≤ r ∧ i = .int .i64 i' ∧ Made1 w wr w.heap.size (w.heap.size + 1) g w3.heap.size N (matC m r c qa NA ka) (matC 0 0 0 none 0 0) (matC m c r (some ⟨g, 0, none⟩) N N) (Mat.flat r (trTo A i' 0))) (fun i _ => r - (intOf i).toNat)
  case atStart => exact ⟨0, Nat.zero_le _, rfl, HS0.out⟩
  case round =>
    obtain ⟨i, hi, rfl, hs⟩ := hrel
    have HS := Lib.hid hs
    obtain ⟨a0, a1, a2, a3⟩ := mbox hs.ra
    clear hs HS0
    by_cases hir : i < r
    · have hd : decide ((i : Int) < r) = true := decide_eq_true (by omega)
      obtain ⟨oi, hoi⟩ : ∃ o, i * c = o := ⟨_, rfl⟩
      have HOI := Lib.hid hoi
      have hfi : oi + c ≤ NA := by
        have := Nat.mul_le_mul_right c (show i + 1 ≤ r by omega)
        rw [Nat.add_mul, Nat.one_mul, HNA.out, hoi] at this
        exact this
      have hw1 := wrap_mul hoi (by omega)
      clear hoi
      go_wp2_with fail
      clear a0 a1 a2 a3
      go_loopw [7] (fun t wr => ∃ t' : Nat, t' ≤ c ∧ t = .int .i64 t' ∧ Made1 w wr w.heap.size (w.heap.size + 1) g w3.heap.size N (matC m r c qa NA ka) (matC 0 0 0 none 0 0) (matC m c r (some ⟨g, 0, none⟩) N N) (Mat.flat r (trTo A i t'))) (fun i _ => c - (intOf i).toNat)
      case atStart => exact ⟨0, Nat.zero_le _, rfl, HS.out⟩
      case round =>
        obtain ⟨t, htk, rfl, hs⟩ := hrel
        have HS2 := Lib.hid hs
        have hbw := hs.below
        obtain ⟨a0, a1, a2, a3⟩ := mbox hs.ra
        obtain ⟨c0, c1, c2, c3⟩ := mbox hs.rc
        clear hs
        by_cases hlt : t < c
        · have hd : decide ((t : Int) < c) = true := decide_eq_true (by omega)
          obtain ⟨ga, oa, rfl, hgal, hcell⟩ := (HA.out.below hbw).cell i t hir hlt
          obtain ⟨F, hF⟩ : ∃ F, A i t = F := ⟨_, rfl⟩
          rw [hF, HOI.out] at hcell
          have HF := Lib.hid hF
          obtain ⟨oo, hoo⟩ : ∃ o, t * r = o := ⟨_, rfl⟩
          have HOO := Lib.hid hoo
          have hlt2 : oo + i < N := by
            have := Mat.at_lt hlt hir
            rw [HN.out, hoo] at this
            exact this
          have hcell5 := HS2.out.cells.cell hlt2
          have hfr := HS2.out.cells.frozen (oo + i)
          have hw2 := wrap_mul hoo (by omega)
          have hw3 := wrap_add oi t (by omega)
          have hw4 := wrap_add oo i (by omega)
          have hix : oi + t < NA := by omega
          clear hF hoo hbw
          go_wp2_with fail
          go_region
          go_wp2_with fail
          go_roundw
          case rel =>
            refine ⟨t + 1, by omega, by go_num, ((HS2.out.put hlt2 F (by omega) (by omega) (by omega) (by omega)).congr fun p hp => ?_).drew⟩
            rw [← HN.out] at hp
            rw [← HOO.out]
            exact flat_put hlt hir (fun p q _ _ => by rw [← HF.out]; exact trTo_put p q) p hp
          case measure => simp [intOf]; omega
        · have hd : decide ((t : Int) < c) = false := decide_eq_false (by omega)
          have htk : t = c := by omega
          subst htk
          have HS5 := Lib.hid (HS2.out.congr (f' := Mat.flat r (trTo A (i + 1) 0)) (fun p hp => by
            rw [← HN.out] at hp
            refine Mat.flat_congr (fun p q h1 h2 => ?_) p hp
            unfold trTo
            by_cases e : q < i ∨ (q = i ∧ p < t)
            · rw [if_pos e, if_pos (by omega)]
            · rw [if_neg e, if_neg (by omega)]))
          go_wp2_with fail
          go_roundw
          case rel => exact ⟨i + 1, by omega, by go_num, HS5.out⟩
          case measure => simp [intOf]; omega
    · have hd : decide ((i : Int) < r) = false := decide_eq_false (by omega)
      have hir : i = r := by omega
      subst hir
      obtain ⟨c0, c1, c2, c3⟩ := mbox HS.out.rc
      go_wp2_with (refine wpList_store_row rfl _ _ _ rfl (w.heap.size + 1) (matC m c i (some ⟨g, 0, none⟩) N N) rfl rfl _ _ HS.out.rz (by kernel_rfl) rfl (matC_one _ _ _ _ _ _) ?_)
      refine bodyPost_ret (v := outV (matV m c i (some ⟨g, 0, none⟩) N N) 0) ?_ rfl ⟨g, rfl, by omega, ?_, below_whole HS.out.below (by omega) _⟩
      · exact results_row_tmp rfl _ _ (w.heap.size + 1) _ _ _ _ rfl rfl (HS.out.rz.whole _) Tryd.underlying24 (by rfl) (by kernel_rfl)
      · exact (HS.out.cells.apart (by omega) _).congr (fun p hp => by rw [← HN.out] at hp; exact Mat.flat_congr (fun p q hp hq => by unfold trTo Mat.tr; rw [if_pos (.inl hq)]) p hp)

/-- the product's rows before i, and the first j elements of row i -/
def rmTo (m k : Nat) (A B : Nat → Nat → Nat) (i j p q : Nat) : Nat := if p < i ∨ (p = i ∧ q < j) then Mat.prod m k A B p q else 0
theorem rmTo_put {m k : Nat} {A B : Nat → Nat → Nat} {i j : Nat} (p q : Nat) : rmTo m k A B i (j + 1) p q = if p = i ∧ q = j then Mat.sum (fun u => Fld.mul m (A i u) (B u j)) k else rmTo m k A B i j p q := by
  unfold rmTo
  by_cases e : p = i ∧ q = j
  · rw [if_pos e, if_pos (.inr ⟨e.1, by omega⟩), e.1, e.2]; rfl
  · rw [if_neg e]
    by_cases e2 : p < i ∨ (p = i ∧ q < j)
    · rw [if_pos e2, if_pos (by omega)]
    · rw [if_neg e2, if_neg (by omega)]
set_option maxRecDepth 100000 in
set_option maxHeartbeats 1600000 in
theorem rmul6_no (ma ra ca : Int) (qa : Option Addr) (na ka : Nat) (xs : List Int) (mb rb cb : Int) (qb : Option Addr) (nb kb : Nat) (ys : List Int) (w : World) (hla : xs.length = na) (hna : na ≤ 9223372036854775807) (hra : Rd w w.heap.size qa (ints xs)) (hlb : ys.length = nb) (hnb : nb ≤ 9223372036854775807) (hrb : Rd w w.heap.size qb (ints ys))
    (h : (okMat ma ra ca xs && okMat mb rb cb ys && decide (ma = mb) && decide (ca = rb)) = false) :
    Calls Tryd.prog 23 #[matV ma ra ca qa na ka, matV mb rb cb qb nb kb] w fun e w' => e = .returned (outV nilM 1) ∧ Below w.heap.size w w' := by
  have HVA := Lib.hid (fun (W : World) (h : Below w.heap.size w W) => rvalid6_any ma ra ca qa na ka xs W hla hna ((hra.below h).more h.size))
  have HVB := Lib.hid (fun (W : World) (h : Below w.heap.size w W) => rvalid6_any mb rb cb qb nb kb ys W hlb hnb ((hrb.below h).more h.size))
  clear hla hna hra hlb hnb hrb
  obtain ⟨b1, e1⟩ : ∃ b, okMat ma ra ca xs = b := ⟨_, rfl⟩
  obtain ⟨b2, e2⟩ : ∃ b, okMat mb rb cb ys = b := ⟨_, rfl⟩
  obtain ⟨b3, e3⟩ : ∃ b, (ma != mb) = b := ⟨_, rfl⟩
  obtain ⟨b4, e4⟩ : ∃ b, (ca != rb) = b := ⟨_, rfl⟩
  have hs : b1 = false ∨ (b1 = true ∧ b2 = false) ∨ (b1 = true ∧ b2 = true ∧ b3 = true) ∨ (b1 = true ∧ b2 = true ∧ b3 = false ∧ b4 = true) := by
    rw [e1, e2] at h
    have h3 : decide (ma = mb) = !b3 := by rw [← e3, Bool.eq_iff_iff]; simp
    have h4 : decide (ca = rb) = !b4 := by rw [← e4, Bool.eq_iff_iff]; simp
    rw [h3, h4] at h
    cases b1 <;> cases b2 <;> cases b3 <;> cases b4 <;> simp_all
  rw [e1] at HVA
  rw [e2] at HVB
  clear h e1 e2
  unfold matV at HVA HVB ⊢
  have HW : Hid (Below w.heap.size w (((w.alloc (.cells (matC ma ra ca qa na ka) 24)).alloc (.cells (matC mb rb cb qb nb kb) 24)).alloc (.cells #[.int .i64 0, .int .i64 0, .int .i64 0, .slice none 0 0] 24))) := Lib.hid ((((Below.refl _ w).alloc (Nat.le_refl _) _).alloc (by simp) _).alloc (by simp; omega) _)
  have HRA : Hid (Row (((w.alloc (.cells (matC ma ra ca qa na ka) 24)).alloc (.cells (matC mb rb cb qb nb kb) 24)).alloc (.cells #[.int .i64 0, .int .i64 0, .int .i64 0, .slice none 0 0] 24)) w.heap.size 24 (matC ma ra ca qa na ka)) := Lib.hid (((Row.new w _ _).alloc _).alloc _)
  have HRB : Hid (Row (((w.alloc (.cells (matC ma ra ca qa na ka) 24)).alloc (.cells (matC mb rb cb qb nb kb) 24)).alloc (.cells #[.int .i64 0, .int .i64 0, .int .i64 0, .slice none 0 0] 24)) (w.heap.size + 1) 24 (matC mb rb cb qb nb kb)) := Lib.hid ((Row.made _ _ (by simp)).alloc _)
  have HRZ : Hid (Row (((w.alloc (.cells (matC ma ra ca qa na ka) 24)).alloc (.cells (matC mb rb cb qb nb kb) 24)).alloc (.cells #[.int .i64 0, .int .i64 0, .int .i64 0, .slice none 0 0] 24)) (w.heap.size + 2) 24 #[.int .i64 0, .int .i64 0, .int .i64 0, .slice none 0 0]) := Lib.hid (Row.made _ _ (by simp))
  rcases hs with rfl | ⟨rfl, rfl⟩ | ⟨rfl, rfl, rfl⟩ | ⟨rfl, rfl, rfl, rfl⟩
  all_goals
    go_enter Tryd.func23, Tryd.ntmps23
    go_wp2_with fail
    refine (HVA.out _ HW.out).mono ?_
    rintro e w1 ⟨rfl, hb⟩
    have hlt1 := hb.size
    simp only [size1] at hlt1
    have HW1 := Lib.hid (below_call HW.out hb)
    have HRA1 := Lib.hid (HRA.out.below hb HRA.out.lt)
    have HRB1 := Lib.hid (HRB.out.below hb HRB.out.lt)
    have HRZ1 := Lib.hid (HRZ.out.below hb HRZ.out.lt)
    obtain ⟨a0, a1, a2, a3⟩ := mbox HRA1.out
    obtain ⟨b0, b1, b2, b3⟩ := mbox HRB1.out
    clear hb
    go_wp2_with (first | (refine wpList_store_row rfl _ _ _ rfl (w.heap.size + 2) (matC 0 0 0 none 0 0) rfl rfl _ _ HRZ1.out (by kernel_rfl) rfl (matC_one _ _ _ _ _ _) ?_))
    try
      refine (HVB.out _ HW1.out).mono ?_
      rintro e w2 ⟨rfl, hb⟩
      have hlt2 := hb.size
      have HW1 := Lib.hid (below_call HW1.out hb)
      have HRA1 := Lib.hid (HRA1.out.below hb HRA1.out.lt)
      have HRB1 := Lib.hid (HRB1.out.below hb HRB1.out.lt)
      have HRZ1 := Lib.hid (HRZ1.out.below hb HRZ1.out.lt)
      clear a0 a1 a2 a3 b0 b1 b2 b3
      obtain ⟨a0, a1, a2, a3⟩ := mbox HRA1.out
      obtain ⟨b0, b1, b2, b3⟩ := mbox HRB1.out
      clear hb
      go_wp2_with (first | (refine wpList_store_row rfl _ _ _ rfl (w.heap.size + 2) (matC 0 0 0 none 0 0) rfl rfl _ _ HRZ1.out (by kernel_rfl) rfl (matC_one _ _ _ _ _ _) ?_))
    refine bodyPost_ret (v := outV nilM 1) ?_ rfl ⟨rfl, below_whole HW1.out (by omega) _⟩
    exact results_row_tmp rfl _ _ (w.heap.size + 2) _ _ _ _ rfl rfl (HRZ1.out.whole _) Tryd.underlying24 (by rfl) (by kernel_rfl)
set_option maxRecDepth 100000 in
set_option maxHeartbeats 3200000 in
theorem rmul6_yes2 {m r k c : Nat} {A B : Nat → Nat → Nat} (qa : Option Addr) (ka : Nat) (qb : Option Addr) (kb : Nat) (w : World) (hA : MatR w w.heap.size m r k qa ka A) (hB : MatR w w.heap.size m k c qb kb B) (hk : k ≤ 32) (hc : c ≤ 32) :
    Calls Tryd.prog 23 #[matV m r k qa (r * k) ka, matV m k c qb (k * c) kb] w fun e w' => ∃ g, e = .returned (outV (matV m r c (some ⟨g, 0, none⟩) (r * c) (r * c)) 0) ∧ w.heap.size ≤ g ∧ Cells w' g (r * c) (Mat.flat c (Mat.prod m k A B)) ∧ Below w.heap.size w w' := by
  have hr := hA.hr
  have HA := Lib.hid hA
  have HBB := Lib.hid hB
  have HRK := Lib.hid (And.intro hr hc)
  have HVA := Lib.hid (fun (W : World) (h : Below w.heap.size w W) => rvalid_yes hA hk W h h.size)
  have HVB := Lib.hid (fun (W : World) (h : Below w.heap.size w W) => rvalid_yes hB hc W h h.size)
  have HZ := Lib.hid (fun W => rzero_any (m : Int) r c (by omega) (by omega) W)
  have hNle : r * c ≤ 32 * 32 := Nat.mul_le_mul hr hc
  have hNAle : r * k ≤ 32 * 32 := Nat.mul_le_mul hr hk
  have hNBle : k * c ≤ 32 * 32 := Nat.mul_le_mul hk hc
  obtain ⟨NA, hNA⟩ : ∃ N, r * k = N := ⟨_, rfl⟩
  obtain ⟨NB, hNB⟩ : ∃ N, k * c = N := ⟨_, rfl⟩
  obtain ⟨N, hN⟩ : ∃ N, r * c = N := ⟨_, rfl⟩
  have HNA := Lib.hid hNA
  have HNB := Lib.hid hNB
  have HN := Lib.hid hN
  rw [hNA] at HVA hNAle ⊢
  rw [hNB] at HVB hNBle ⊢
  rw [hN] at HZ hNle ⊢
  unfold matV at HVA HVB ⊢
  clear hA hB hNA hNB hN
  have HW : Hid (Below w.heap.size w (((w.alloc (.cells (matC m r k qa NA ka) 24)).alloc (.cells (matC m k c qb NB kb) 24)).alloc (.cells #[.int .i64 0, .int .i64 0, .int .i64 0, .slice none 0 0] 24))) := Lib.hid ((((Below.refl _ w).alloc (Nat.le_refl _) _).alloc (by simp) _).alloc (by simp; omega) _)
  have HRA : Hid (Row (((w.alloc (.cells (matC m r k qa NA ka) 24)).alloc (.cells (matC m k c qb NB kb) 24)).alloc (.cells #[.int .i64 0, .int .i64 0, .int .i64 0, .slice none 0 0] 24)) w.heap.size 24 (matC m r k qa NA ka)) := Lib.hid (((Row.new w _ _).alloc _).alloc _)
  have HRB : Hid (Row (((w.alloc (.cells (matC m r k qa NA ka) 24)).alloc (.cells (matC m k c qb NB kb) 24)).alloc (.cells #[.int .i64 0, .int .i64 0, .int .i64 0, .slice none 0 0] 24)) (w.heap.size + 1) 24 (matC m k c qb NB kb)) := Lib.hid ((Row.made _ _ (by simp)).alloc _)
  have HRZ : Hid (Row (((w.alloc (.cells (matC m r k qa NA ka) 24)).alloc (.cells (matC m k c qb NB kb) 24)).alloc (.cells #[.int .i64 0, .int .i64 0, .int .i64 0, .slice none 0 0] 24)) (w.heap.size + 2) 24 (matC 0 0 0 none 0 0)) := Lib.hid (Row.made _ _ (by simp))
  go_enter Tryd.func23, Tryd.ntmps23
  go_wp2_with fail
  refine (HVA.out _ HW.out).mono ?_
  rintro e w1 ⟨rfl, hb⟩
  have hlt1 := hb.size
  simp only [size1] at hlt1
  have HW1 := Lib.hid (below_call HW.out hb)
  have HRA1 := Lib.hid (HRA.out.below hb HRA.out.lt)
  have HRB1 := Lib.hid (HRB.out.below hb HRB.out.lt)
  have HRZ1 := Lib.hid (HRZ.out.below hb HRZ.out.lt)
  obtain ⟨a0, a1, a2, a3⟩ := mbox HRA1.out
  obtain ⟨b0, b1, b2, b3⟩ := mbox HRB1.out
  clear hb HW HRA HRB HRZ
  go_wp2_with fail
  refine (HVB.out _ HW1.out).mono ?_
  rintro e w2 ⟨rfl, hb⟩
  have hlt2 := hb.size
  have HW2 := Lib.hid (below_call HW1.out hb)
  have HRA2 := Lib.hid (HRA1.out.below hb HRA1.out.lt)
  have HRB2 := Lib.hid (HRB1.out.below hb HRB1.out.lt)
  have HRZ2 := Lib.hid (HRZ1.out.below hb HRZ1.out.lt)
  clear a0 a1 a2 a3 b0 b1 b2 b3 hb HW1 HRA1 HRB1 HRZ1
  obtain ⟨a0, a1, a2, a3⟩ := mbox HRA2.out
  obtain ⟨b0, b1, b2, b3⟩ := mbox HRB2.out
  go_wp2_with fail
  refine (HZ.out _).mono ?_
  rintro e w3 ⟨g, rfl, hg, hc3, hb⟩
  have hlt3 := hb.size
  have HC3 := Lib.hid hc3
  have HW3 := Lib.hid (below_call HW2.out hb)
  have HRA3 := Lib.hid (HRA2.out.below hb HRA2.out.lt)
  have HRB3 := Lib.hid (HRB2.out.below hb HRB2.out.lt)
  have HRZ3 := Lib.hid (HRZ2.out.below hb HRZ2.out.lt)
  have hglt := hc3.lt
  clear a0 a1 a2 a3 b0 b1 b2 b3 hb HW2 HRA2 HRB2 HRZ2 hc3
  obtain ⟨a0, a1, a2, a3⟩ := mbox HRA3.out
  obtain ⟨b0, b1, b2, b3⟩ := mbox HRB3.out
  have hz0 : w.heap.size < w3.heap.size := by omega
  have hz1 : w.heap.size + 1 < w3.heap.size := by omega
  go_wp2_with fail
  have HS0 := Lib.hid (show Prods w (w3.alloc (.cells (matC m r c (some ⟨g, 0, none⟩) N N) 24)) g w3.heap.size N (matC m r k qa NA ka) (matC m k c qb NB kb) (matC 0 0 0 none 0 0) (matC m r c (some ⟨g, 0, none⟩) N N) (Mat.flat c (rmTo m k A B 0 0)) from
    ⟨HRA3.out.alloc _, HRB3.out.alloc _, HRZ3.out.alloc _, Row.made _ _ rfl, (HC3.out.alloc _).congr (fun p _ => by unfold Mat.flat rmTo; simp), HW3.out.alloc (by omega) _⟩)
  clear a0 a1 a2 a3 b0 b1 b2 b3 HC3 HRA3 HRB3 HRZ3
  have hg2 : w.heap.size + 2 < g := by omega
  have HNF := Lib.hid hg2
  go_loopw [9] (fun i wr => ∃ i' : Nat, i' ≤ r ∧ i = .int .i64 i' ∧ Prods w wr g w3.heap.size N (matC m r k qa NA ka) (matC m k c qb NB kb) (matC 0 0 0 none 0 0) (matC m r c (some ⟨g, 0, none⟩) N N) (Mat.flat c (rmTo m k A B i' 0))) (fun i _ => r - (intOf i).toNat)
  case atStart => exact ⟨0, Nat.zero_le _, rfl, HS0.out⟩
  case round =>
    obtain ⟨i, hi, rfl, hs⟩ := hrel
    have HS := Lib.hid hs
    obtain ⟨a0, a1, a2, a3⟩ := mbox hs.ra
    clear hs HS0
    by_cases hir : i < r
    · have hd : decide ((i : Int) < r) = true := decide_eq_true (by omega)
      obtain ⟨oi, hoi⟩ : ∃ o, i * k = o := ⟨_, rfl⟩
      have HOI := Lib.hid hoi
      have hfi : oi + k ≤ NA := by
        have := Nat.mul_le_mul_right k (show i + 1 ≤ r by omega)
        rw [Nat.add_mul, Nat.one_mul, HNA.out, hoi] at this
        exact this
      obtain ⟨oc, hoc⟩ : ∃ o, i * c = o := ⟨_, rfl⟩
      have HOC := Lib.hid hoc
      have hfc : oc + c ≤ N := by
        have := Nat.mul_le_mul_right c (show i + 1 ≤ r by omega)
        rw [Nat.add_mul, Nat.one_mul, HN.out, hoc] at this
        exact this
      have hw1 := wrap_mul hoi (by omega)
      have hw2 := wrap_mul hoc (by omega)
      clear hoi hoc
      go_wp2_with fail
      clear a0 a1 a2 a3
      go_loopw [10] (fun t wr => ∃ t' : Nat, t' ≤ c ∧ t = .int .i64 t' ∧ Prods w wr g w3.heap.size N (matC m r k qa NA ka) (matC m k c qb NB kb) (matC 0 0 0 none 0 0) (matC m r c (some ⟨g, 0, none⟩) N N) (Mat.flat c (rmTo m k A B i t'))) (fun i _ => c - (intOf i).toNat)
      case atStart => exact ⟨0, Nat.zero_le _, rfl, HS.out⟩
      case round =>
        obtain ⟨j, hj, rfl, hs⟩ := hrel
        have HS2 := Lib.hid hs
        obtain ⟨b0, b1, b2, b3⟩ := mbox hs.rb
        clear hs HS
        by_cases hjc : j < c
        · have hd : decide ((j : Int) < c) = true := decide_eq_true (by omega)
          go_wp2_with fail
          clear b0 b1 b2 b3
          go_loopw [12, 11] (fun t s wr => ∃ t' : Nat, t' ≤ k ∧ t = .int .i64 t' ∧ s = .int .i64 ((Mat.sum (fun u => Fld.mul m (A i u) (B u j)) t' : Nat) : Int) ∧ Prods w wr g w3.heap.size N (matC m r k qa NA ka) (matC m k c qb NB kb) (matC 0 0 0 none 0 0) (matC m r c (some ⟨g, 0, none⟩) N N) (Mat.flat c (rmTo m k A B i j))) (fun i _ _ => k - (intOf i).toNat)
          case atStart => exact ⟨0, Nat.zero_le _, rfl, rfl, HS2.out⟩
          case round =>
            obtain ⟨t, htk, rfl, rfl, hs⟩ := hrel
            have HS3 := Lib.hid hs
            have hbw := hs.below
            clear hs HS2
            obtain ⟨sv, hsv⟩ : ∃ sv, Mat.sum (fun u => Fld.mul m (A i u) (B u j)) t = sv := ⟨_, rfl⟩
            have HSV := Lib.hid hsv
            have HSB := Lib.hid (show sv < 65536 by
              rw [← hsv]
              have h9 : Mat.sum (fun u => Fld.mul m (A i u) (B u j)) t < 2 ^ m := Mat.sum_lt _ _ fun u hu => Fld.mul_lt HA.out.hm _ (HA.out.ok i u hir (by omega))
              rcases HA.out.hm with h | h <;> (rw [h] at h9; rw [h]; omega))
            rw [hsv]
            clear hsv
            obtain ⟨a0, a1, a2, a3⟩ := mbox HS3.out.ra
            by_cases hlt : t < k
            · have hd : decide ((t : Int) < k) = true := decide_eq_true (by omega)
              obtain ⟨ga, oa, rfl, hgal, hcell⟩ := (HA.out.below hbw).cell i t hir hlt
              obtain ⟨gb, ob, rfl, hgbl, hcellb⟩ := (HBB.out.below hbw).cell t j hlt hjc
              obtain ⟨F, hF⟩ : ∃ F, A i t = F := ⟨_, rfl⟩
              obtain ⟨X, hX⟩ : ∃ X, B t j = X := ⟨_, rfl⟩
              obtain ⟨ot, hot⟩ : ∃ o, t * c = o := ⟨_, rfl⟩
              have hft : ot + j < NB := by
                have := Mat.at_lt hlt hjc
                rw [HNB.out, hot] at this
                exact this
              rw [hF, HOI.out] at hcell
              rw [hX, hot] at hcellb
              have hFB : F < 2 ^ m := by rw [← hF]; exact HA.out.ok i t hir hlt
              have hXB : X < 2 ^ m := by rw [← hX]; exact HBB.out.ok t j hlt hjc
              obtain ⟨y, hy⟩ : ∃ y, Fld.mul m F X = y := ⟨_, rfl⟩
              have HTM := Lib.hid (fun W => rtimes6_any HA.out.hm hFB hXB W)
              rw [hy] at HTM
              have HSN := Lib.hid (show Mat.sum (fun u => Fld.mul m (A i u) (B u j)) (t + 1) = sv ^^^ y by
                rw [Mat.sum, HSV.out, hF, hX, hy])
              have hyb : y < 65536 := by
                rw [← hy]
                have h9 := Fld.mul_lt HA.out.hm X hFB
                rcases HA.out.hm with h | h <;> (rw [h] at h9; rw [h]; omega)
              have HXO := Lib.hid (show bits .xor .i64 (sv : Int) (y : Int) = ((sv ^^^ y : Nat) : Int) from i64_xor _ _ (by have := HSB.out; omega) (by omega))
              have hw3 := wrap_mul hot (by omega)
              have hw4 := wrap_add oi t (by omega)
              have hw5 := wrap_add ot j (by omega)
              have hix : oi + t < NA := by omega
              have hI1 : (0 : Int) ≤ (oi : Int) + (t : Int) := by omega
              have hI2 : (oi : Int) + (t : Int) < (NA : Int) := by omega
              have hI3 : (0 : Int) ≤ (ot : Int) + (j : Int) := by omega
              have hI4 : (ot : Int) + (j : Int) < (NB : Int) := by omega
              have hI5 : ((oi : Int) + (t : Int)).toNat = oi + t := by omega
              have hI6 : ((ot : Int) + (j : Int)).toNat = ot + j := by omega
              clear hF hX hot hy hFB hXB hyb hbw
              obtain ⟨b0, b1, b2, b3⟩ := mbox HS3.out.rb
              have hxo := HXO.out
              go_wp2_with fail
              go_region_held3 (fun wn => (wn.cell? ⟨w.heap.size, 0, none⟩ = some (.int .i64 m) ∧ wn.cell? ⟨w.heap.size, 1, none⟩ = some (.int .i64 r) ∧ wn.cell? ⟨w.heap.size, 2, none⟩ = some (.int .i64 k) ∧ wn.cell? ⟨w.heap.size, 3, none⟩ = some (.slice (some ⟨ga, oa, none⟩) NA ka)) ∧
                (wn.cell? ⟨w.heap.size + 1, 0, none⟩ = some (.int .i64 m) ∧ wn.cell? ⟨w.heap.size + 1, 1, none⟩ = some (.int .i64 k) ∧ wn.cell? ⟨w.heap.size + 1, 2, none⟩ = some (.int .i64 c) ∧ wn.cell? ⟨w.heap.size + 1, 3, none⟩ = some (.slice (some ⟨gb, ob, none⟩) NB kb)) ∧
                wn.cell? ⟨ga, oa + (oi + t), none⟩ = some (.int .i64 (F : Int)) ∧ wn.cell? ⟨gb, ob + (ot + j), none⟩ = some (.int .i64 (X : Int))) (first | assumption | exact ⟨mbox HS3.out.drew.ra, mbox HS3.out.drew.rb, hcell, hcellb⟩) (first
                | (go_at_call 45; (with_reducible refine (HTM.out _).mono ?_); rintro e5 w5 ⟨rfl, rfl⟩))
              try rw [hxo]
              clear hI1 hI2 hI3 hI4 hI5 hI6
              go_wp2
              first
                | exact ⟨⟨t + 1, by omega, by go_num, by rw [HSN.out], HS3.out.drew⟩, by simp [intOf]; omega⟩
                | (go_roundw
                   case rel => exact ⟨t + 1, by omega, by go_num, by rw [HSN.out], HS3.out.drew⟩
                   case measure => simp [intOf]; omega)
            · have hd : decide ((t : Int) < k) = false := decide_eq_false (by omega)
              have htk2 : t = k := by omega
              have hlc : oc + j < N := by omega
              have hcellc := HS3.out.cells.cell hlc
              have hfrc := HS3.out.cells.frozen (oc + j)
              have hwc := wrap_add oc j (by omega)
              obtain ⟨d0, d1, d2, d3⟩ := mbox HS3.out.rc
              have HS4 := Lib.hid ((HS3.out.wrote ((Only.refl (fun k => k = g) wr).setCell (p := ⟨g, oc + j, none⟩) rfl (.int .i64 (sv : Int))) (HS3.out.cells.put hlc sv) HNF.out (by omega)).congr (f' := Mat.flat c (rmTo m k A B i (j + 1))) (fun p hp => by
                rw [← HN.out] at hp
                rw [← HOC.out]
                exact flat_put hir hjc (fun p q _ _ => by
                  rw [← HSV.out, htk2]
                  exact rmTo_put p q) p hp))
              go_wp2_with fail
              go_roundw
              case rel => exact ⟨j + 1, by omega, by go_num, HS4.out⟩
              case measure => simp [intOf]; omega
        · have hd : decide ((j : Int) < c) = false := decide_eq_false (by omega)
          have hjc2 : j = c := by omega
          have HS5 := Lib.hid (HS2.out.congr (f' := Mat.flat c (rmTo m k A B (i + 1) 0)) (fun p hp => by
            rw [← HN.out] at hp
            refine Mat.flat_congr (fun p q h1 h2 => ?_) p hp
            unfold rmTo
            by_cases e : p < i ∨ (p = i ∧ q < j)
            · rw [if_pos e, if_pos (by omega)]
            · rw [if_neg e, if_neg (by omega)]))
          go_wp2_with fail
          go_roundw
          case rel => exact ⟨i + 1, by omega, by go_num, HS5.out⟩
          case measure => simp [intOf]; omega
    · have hd : decide ((i : Int) < r) = false := decide_eq_false (by omega)
      have hir : i = r := by omega
      subst hir
      obtain ⟨c0, c1, c2, c3⟩ := mbox HS.out.rc
      go_wp2_with (refine wpList_store_row rfl _ _ _ rfl (w.heap.size + 2) (matC m i c (some ⟨g, 0, none⟩) N N) rfl rfl _ _ HS.out.rz (by kernel_rfl) rfl (matC_one _ _ _ _ _ _) ?_)
      refine bodyPost_ret (v := outV (matV m i c (some ⟨g, 0, none⟩) N N) 0) ?_ rfl ⟨g, rfl, by omega, ?_, below_whole HS.out.below (by omega) _⟩
      · exact results_row_tmp rfl _ _ (w.heap.size + 2) _ _ _ _ rfl rfl (HS.out.rz.whole _) Tryd.underlying24 (by rfl) (by kernel_rfl)
      · exact (HS.out.cells.apart (by omega) _).congr (fun p hp => by rw [← HN.out] at hp; exact Mat.flat_congr (fun p q hp hq => by unfold rmTo; rw [if_pos (.inl hp)]) p hp)
end Go.Proofs.YtaijjhddgecieaaDoor
