/- Matrices: Pick. -/
import Derived.Test.YtaijjhddgecieaaDoorM20
namespace Go.Proofs.YtaijjhddgecieaaDoor
set_option linter.unusedSimpArgs false
set_option linter.unusedVariables false
open Go.RowKit Go.Lib

/-- the rows with these numbers -/
def pick (A : Nat → Nat → Nat) (is : List Int) (p q : Nat) : Nat := A ((is[p]?.getD 0).toNat) q
/-- is there a number that is no row's? -/
def badRow (r : Nat) (is : List Int) : Bool := is.any fun x => decide (x < 0) || decide ((r : Int) ≤ x)
theorem badRow_false {r : Nat} {is : List Int} (h : badRow r is = false) {k : Nat} {x : Int} (hx : is[k]? = some x) : 0 ≤ x ∧ x < r := by
  unfold badRow at h
  rw [List.any_eq_false] at h
  have := h x (List.mem_of_getElem? hx)
  simp only [Bool.or_eq_true, decide_eq_true_eq] at this
  omega
theorem badRow_true {r : Nat} {is : List Int} {k : Nat} {x : Int} (hx : is[k]? = some x) (h : x < 0 ∨ (r : Int) ≤ x) : badRow r is = true := by
  unfold badRow
  rw [List.any_eq_true]
  refine ⟨x, List.mem_of_getElem? hx, ?_⟩
  simp only [Bool.or_eq_true, decide_eq_true_eq]
  omega
theorem badRow_all {r : Nat} {is : List Int} (h : ∀ (k : Nat) (x : Int), is[k]? = some x → 0 ≤ x ∧ x < r) : badRow r is = false := by
  unfold badRow
  rw [List.any_eq_false]
  intro x hx
  obtain ⟨k, hk⟩ := List.getElem?_of_mem hx
  have := h k x hk
  simp only [Bool.or_eq_true, decide_eq_true_eq]
  omega
theorem cellsL_snoc (k c : Nat) (X : Nat → Nat → Nat) : cellsL (k + 1) c X = cellsL k c X ++ (List.range c).map (fun j => (X k j : Int)) := by
  unfold cellsL
  rw [Nat.add_mul, Nat.one_mul, List.range_add, List.map_append]
  congr 1
  rw [List.map_map]
  apply List.map_congr_left
  intro j hj
  rw [List.mem_range] at hj
  show (Mat.flat c X (k * c + j) : Int) = _
  rw [Mat.flat_at _ _ hj]
theorem RowR.rd {w : World} {B n : Nat} {q : Option Addr} {x : Nat → Nat} (h : RowR w B q n x) : Rd w B q (ints ((List.range n).map fun j => (x j : Int))) := fun j u hu => by
  have hj : j < n := by
    by_cases h : j < n
    · exact h
    · rw [ints, List.getElem?_map, List.getElem?_eq_none (by simp; omega)] at hu; cases hu
  rw [ints, List.getElem?_map, List.getElem?_map, List.getElem?_range hj] at hu
  injection hu with hu
  subst hu
  exact h j hj
theorem ints_one (xs : List Int) : ∀ u ∈ ints xs, u.oneCell' = true := fun u hu => by
  unfold ints at hu
  obtain ⟨x, _, rfl⟩ := List.mem_map.1 hu
  rfl
/-- what stands in memory while rows are picked: all that stood at w0, the new matrix's box, its cells -/
structure Pk (w0 wr : World) (m L c : Nat) (a : Option Addr) (n k : Nat) (xs : List Value) : Prop where
  below : Below w0.heap.size w0 wr
  rc : Row wr w0.heap.size 24 (matC m L c a n k)
  own : Own wr (w0.heap.size + 1) 3 a n k xs
section
variable {w0 wr w' : World} {m L c n k : Nat} {a : Option Addr} {xs : List Value}
theorem Pk.next (h : Pk w0 wr m L c a n k xs) (hb : Below wr.heap.size wr w') : Pk w0 w' m L c a n k xs := ⟨below_call h.below hb, h.rc.below hb h.rc.lt, h.own.below hb⟩
theorem Pk.drew (h : Pk w0 wr m L c a n k xs) : Pk w0 wr.drew m L c a n k xs := ⟨h.below.drew, h.rc, h.own⟩
/-- the cells have grown, and the box is told -/
theorem Pk.grew (h : Pk w0 wr m L c a n k xs) {a2 : Option Addr} {n2 k2 : Nat} {ys : List Value} (ho : Own w' (w0.heap.size + 1) 3 a2 n2 k2 ys) (hg : wr.grownBy w' (Value.slice a n k).ownBlock) :
    Pk w0 (w'.setCell ⟨w0.heap.size, 3, none⟩ (.slice a2 n2 k2)) m L c a2 n2 k2 ys := by
  have hl := h.rc.lt
  have hb : Below (w0.heap.size + 1) wr w' := below_grown2 (Below.refl _ wr) hg h.own (by omega) (Nat.le_refl _)
  have hb1 : Below w0.heap.size w0 w' := h.below.trans (hb.mono (Nat.le_succ _))
  refine ⟨hb1.setCell (Nat.le_refl _) _, (h.rc.below hb (Nat.lt_succ_self _)).put 3 _, ho.far (fun g hg2 e => ?_) _⟩
  have := (ho.lt hg2).1
  simp at e
  omega
theorem Pk.box (h : Pk w0 wr m L c a n k xs) {w' : World} {a2 : Option Addr} {n2 k2 : Nat} {ys : List Value} (ho : Own w' (w0.heap.size + 1) 3 a2 n2 k2 ys) (hg : wr.grownBy w' (Value.slice a n k).ownBlock) :
    Row w' w0.heap.size 24 (matC m L c a n k) := by
  have hl := h.rc.lt
  have hb : Below (w0.heap.size + 1) wr w' := below_grown2 (Below.refl _ wr) hg h.own (by omega) (Nat.le_refl _)
  exact h.rc.below hb (Nat.lt_succ_self _)
end
set_option maxRecDepth 100000 in
set_option maxHeartbeats 1600000 in
theorem pick_no (ma ra ca : Int) (qa : Option Addr) (na ka : Nat) (xs : List Int) (qr : Option Addr) (L kr : Nat) (w : World) (hla : xs.length = na) (hna : na ≤ 9223372036854775807) (hra : Rd w w.heap.size qa (ints xs)) (h : (okMat ma ra ca xs && decide (L ≤ 32)) = false) :
    Calls Tryd.prog 25 #[matV ma ra ca qa na ka, .slice qr L kr] w fun e w' => e = .returned (outV nilM 1) ∧ Below w.heap.size w w' := by
  have HVA := Lib.hid (fun (W : World) (h : Below w.heap.size w W) => mvalid_any ma ra ca qa na ka xs W hla hna ((hra.below h).more h.size))
  clear hla hna hra
  obtain ⟨b1, e1⟩ : ∃ b, okMat ma ra ca xs = b := ⟨_, rfl⟩
  obtain ⟨b4, e4⟩ : ∃ b, decide (32 < (L : Int)) = b := ⟨_, rfl⟩
  have hs : b1 = false ∨ (b1 = true ∧ b4 = true) := by
    have h4 : decide (L ≤ 32) = !b4 := by rw [← e4, Bool.eq_iff_iff]; simp; omega
    rw [e1, h4] at h
    cases b1 <;> cases b4 <;> simp_all
  rw [e1] at HVA
  clear h e1
  unfold matV at HVA ⊢
  have HW : Hid (Below w.heap.size w ((w.alloc (.cells (matC ma ra ca qa na ka) 24)).alloc (.cells #[.int .i64 0, .int .i64 0, .int .i64 0, .slice none 0 0] 24))) := Lib.hid (((Below.refl _ w).alloc (Nat.le_refl _) _).alloc (by simp) _)
  have HRZ : Hid (Row ((w.alloc (.cells (matC ma ra ca qa na ka) 24)).alloc (.cells #[.int .i64 0, .int .i64 0, .int .i64 0, .slice none 0 0] 24)) (w.heap.size + 1) 24 #[.int .i64 0, .int .i64 0, .int .i64 0, .slice none 0 0]) := Lib.hid (Row.made _ _ (by simp))
  rcases hs with rfl | ⟨rfl, rfl⟩
  all_goals
    go_enter Tryd.func25, Tryd.ntmps25
    go_wp2_with fail
    refine (HVA.out _ HW.out).mono ?_
    rintro e w1 ⟨rfl, hb⟩
    have hlt1 := hb.size
    simp only [size1] at hlt1
    have HW1 := Lib.hid (below_call HW.out hb)
    have HRZ1 := Lib.hid (HRZ.out.below hb HRZ.out.lt)
    clear hb
    go_wp2_with (refine wpList_store_row rfl _ _ _ rfl (w.heap.size + 1) (matC 0 0 0 none 0 0) rfl rfl _ _ HRZ1.out (by kernel_rfl) rfl (matC_one _ _ _ _ _ _) ?_)
    refine bodyPost_ret (v := outV nilM 1) ?_ rfl ⟨rfl, below_whole HW1.out (by omega) _⟩
    exact results_row_tmp rfl _ _ (w.heap.size + 1) _ _ _ _ rfl rfl (HRZ1.out.whole _) Tryd.underlying24 (by rfl) (by kernel_rfl)
set_option maxRecDepth 100000 in
set_option maxHeartbeats 3200000 in
theorem pick_yes {m r c k : Nat} {A : Nat → Nat → Nat} (q : Option Addr) (qr : Option Addr) (L kr : Nat) (is : List Int) (w : World) (hA : MatR w w.heap.size m r c q k A) (hc : c ≤ 32) (hL : L ≤ 32) (hil : is.length = L) (hri : Rd w w.heap.size qr (ints is)) :
    Calls Tryd.prog 25 #[matV m r c q (r * c) k, .slice qr L kr] w fun e w' =>
      ((badRow r is = true ∧ e = .returned (outV nilM 1)) ∨ (badRow r is = false ∧ ∃ q' k', e = .returned (outV (matV m L c q' (L * c) k') 0) ∧ Own w' w.heap.size 3 q' (L * c) k' (ints (cellsL L c (pick A is))))) ∧ Below w.heap.size w w' := by
  have hr := hA.hr
  have HA := Lib.hid hA
  have HVA := Lib.hid (fun (W : World) (h : Below w.heap.size w W) => mvalid_yes hA hc W h h.size)
  have HRA0 := Lib.hid (fun i hi W => mrow_any hA i hi W)
  obtain ⟨bad, hbad⟩ : ∃ b, badRow r is = b := ⟨_, rfl⟩
  rw [hbad]
  have HBAD := Lib.hid hbad
  obtain ⟨N, hN⟩ : ∃ N, r * c = N := ⟨_, rfl⟩
  rw [hN] at HVA HRA0 ⊢
  have HRI := Lib.hid hri
  have HIL := Lib.hid hil
  unfold matV at HVA HRA0 ⊢
  clear hA hN hbad hri hil
  have hdL : decide (32 < (L : Int)) = false := decide_eq_false (by omega)
  have HW : Hid (Below w.heap.size w ((w.alloc (.cells (matC m r c q N k) 24)).alloc (.cells #[.int .i64 0, .int .i64 0, .int .i64 0, .slice none 0 0] 24))) := Lib.hid (((Below.refl _ w).alloc (Nat.le_refl _) _).alloc (by simp) _)
  have HRA : Hid (Row ((w.alloc (.cells (matC m r c q N k) 24)).alloc (.cells #[.int .i64 0, .int .i64 0, .int .i64 0, .slice none 0 0] 24)) w.heap.size 24 (matC m r c q N k)) := Lib.hid ((Row.new w _ _).alloc _)
  have HRZ : Hid (Row ((w.alloc (.cells (matC m r c q N k) 24)).alloc (.cells #[.int .i64 0, .int .i64 0, .int .i64 0, .slice none 0 0] 24)) (w.heap.size + 1) 24 (matC 0 0 0 none 0 0)) := Lib.hid (Row.made _ _ (by simp))
  go_enter Tryd.func25, Tryd.ntmps25
  go_wp2_with fail
  refine (HVA.out _ HW.out).mono ?_
  rintro e w1 ⟨rfl, hb⟩
  have hlt1 := hb.size
  simp only [size1] at hlt1
  have HW1 := Lib.hid (below_call HW.out hb)
  have HRA1 := Lib.hid (HRA.out.below hb HRA.out.lt)
  have HRZ1 := Lib.hid (HRZ.out.below hb HRZ.out.lt)
  obtain ⟨a0, a1, a2, a3⟩ := mbox HRA1.out
  clear hb HW HRA HRZ
  have hz0 : w.heap.size < w1.heap.size := by omega
  go_wp2_with fail
  have HS0 := Lib.hid (show Pk w1 (w1.alloc (.cells (matC m L c none 0 0) 24)) m L c none 0 0 (ints (cellsL 0 c (pick A is))) from
    ⟨(Below.refl _ w1).alloc (Nat.le_refl _) _, Row.new w1 _ _, by
      have e : cellsL 0 c (pick A is) = [] := by unfold cellsL; rw [Nat.zero_mul]; rfl
      rw [e]; exact Own.nil _ _ _⟩)
  clear a0 a1 a2 a3
  go_loopw [27] (fun i wr => ∃ (i' : Nat) (a : Option Addr) (n k : Nat), i' ≤ L ∧ i = .int .i64 i' ∧ n = i' * c ∧ Pk w1 wr m L c a n k (ints (cellsL i' c (pick A is))) ∧ Hid (∀ (t : Nat) (x : Int), t < i' → is[t]? = some x → 0 ≤ x ∧ x < r)) (fun i _ => L - (intOf i).toNat)
  case atStart => exact ⟨0, none, 0, 0, Nat.zero_le _, rfl, (Nat.zero_mul _).symm, HS0.out, Lib.hid (fun t x h => absurd h (Nat.not_lt_zero _))⟩
  case round =>
    obtain ⟨i, a, n, ko, hi, rfl, hn, hs, hz⟩ := hrel
    have HS := Lib.hid hs
    have HZZ := Lib.hid hz.out
    have HNN := Lib.hid hn
    clear hs hz HS0 hn
    by_cases hiL : i < L
    · have hd : decide ((i : Int) < L) = true := decide_eq_true (by omega)
      obtain ⟨x, hx⟩ : ∃ x, is[i]? = some x := ⟨_, List.getElem?_eq_getElem (by rw [HIL.out]; exact hiL)⟩
      have HX := Lib.hid hx
      have hbw : Below w.heap.size w wr := HW1.out.trans (HS.out.below.mono HW1.out.size)
      obtain ⟨br, or, rfl, hbr, hcr⟩ := (HRI.out.below hbw) i (.int .i64 x) (by rw [ints, List.getElem?_map, hx]; rfl)
      have HRAr := Lib.hid (HRA1.out.below HS.out.below HRA1.out.lt)
      obtain ⟨a0, a1, a2, a3⟩ := mbox HRAr.out
      clear hx hbr
      by_cases hx0 : x < 0
      · have hd0 : decide (x < 0) = true := decide_eq_true hx0
        have HBT := Lib.hid (badRow_true (r := r) HX.out (.inl hx0))
        have HRZr := Lib.hid (HRZ1.out.below HS.out.below HRZ1.out.lt)
        go_wp2_with (refine wpList_store_row rfl _ _ _ rfl (w.heap.size + 1) (matC 0 0 0 none 0 0) rfl rfl _ _ HRZr.out (by kernel_rfl) rfl (matC_one _ _ _ _ _ _) ?_)
        refine bodyPost_ret (v := outV nilM 1) ?_ rfl ⟨.inl ⟨HBAD.out.symm.trans HBT.out, rfl⟩, below_whole hbw (by omega) _⟩
        exact results_row_tmp rfl _ _ (w.heap.size + 1) _ _ _ _ rfl rfl (HRZr.out.whole _) Tryd.underlying24 (by rfl) (by kernel_rfl)
      · have hd0 : decide (x < 0) = false := decide_eq_false hx0
        by_cases hxr : (r : Int) ≤ x
        · have hd1 : decide ((r : Int) ≤ x) = true := decide_eq_true hxr
          have HBT := Lib.hid (badRow_true (r := r) HX.out (.inr hxr))
          have HRZr := Lib.hid (HRZ1.out.below HS.out.below HRZ1.out.lt)
          go_wp2_with (refine wpList_store_row rfl _ _ _ rfl (w.heap.size + 1) (matC 0 0 0 none 0 0) rfl rfl _ _ HRZr.out (by kernel_rfl) rfl (matC_one _ _ _ _ _ _) ?_)
          refine bodyPost_ret (v := outV nilM 1) ?_ rfl ⟨.inl ⟨HBAD.out.symm.trans HBT.out, rfl⟩, below_whole hbw (by omega) _⟩
          exact results_row_tmp rfl _ _ (w.heap.size + 1) _ _ _ _ rfl rfl (HRZr.out.whole _) Tryd.underlying24 (by rfl) (by kernel_rfl)
        · have hd1 : decide ((r : Int) ≤ x) = false := decide_eq_false hxr
          obtain ⟨X, rfl⟩ : ∃ X : Nat, x = X := ⟨x.toNat, by omega⟩
          have hXr : X < r := by omega
          have HSd := Lib.hid HS.out.drew
          have HROW := Lib.hid (fun W => HRA0.out X hXr W)
          obtain ⟨d0, d1, d2, d3⟩ := mbox HS.out.rc
          have HEX := Lib.hid (show ints (cellsL (i + 1) c (pick A is)) = ints (cellsL i c (pick A is)) ++ ints ((List.range c).map fun j => (A X j : Int)) by
            rw [cellsL_snoc]
            have e : ∀ j, pick A is i j = A X j := fun j => by unfold pick; rw [HX.out]; rfl
            simp [ints, e])
          have hn1 : n ≤ 1024 := by
            rw [HNN.out]
            have : i * c ≤ 32 * 32 := Nat.mul_le_mul (by omega) hc
            omega
          go_wp2_with fail
          have HBW := Lib.hid hbw
          clear a0 a1 a2 a3 hbw
          obtain ⟨a0, a1, a2, a3⟩ := mbox HRAr.out.drew
          obtain ⟨d0, d1, d2, d3⟩ := mbox HSd.out.rc
          go_region_law (first
            | (refine step_app rfl (.tmp 41) (.tmp 44) 22 rfl (w1.heap.size + 1) 3 (.int .i64 0) 8 Tryd.underlying22 elem_int6 rfl a n ko _ rfl HS5.out.own _ q3 c k3 (ints ((List.range c).map fun j => (A X j : Int))) rfl ((HA.out.below HB5.out).row hXr HQ3.out).rd (by simp [ints]) (ints_one _) (by unfold maxLen; omega) (by omega) (by omega) ?_; intro a6 k6 w6 ho6 hg6; rw [← HEX.out] at ho6; have HG := Lib.hid (HS5.out.grew ho6 hg6); have hr6 := HS5.out.box ho6 hg6; obtain ⟨z0, z1, z2, z3⟩ := mbox hr6; have hzf := hr6.frozen 3; clear ho6 hg6 hr6)
            | (go_simp; go_at_call 36; (with_reducible refine (HROW.out _).mono ?_); rintro e5 w5 ⟨q3, k3, rfl, hk31, hk32, hq3, hb5⟩; have HS5 := Lib.hid (HSd.out.next hb5); have HB5 := Lib.hid (show Below w.heap.size w w5 from below_call HBW.out (undrew hb5)); have hlt5 := HS5.out.rc.lt; have HQ3 := Lib.hid hq3; obtain ⟨y0, y1, y2, y3⟩ := mbox HS5.out.rc; clear hb5 hq3; dsimp only))
          all_goals
            go_wp2
            go_roundw
            case rel => exact ⟨i + 1, a6, n + c, k6, by omega, by go_num, by rw [HNN.out, Nat.add_mul, Nat.one_mul], HG.out, Lib.hid (fun t x h1 h2 => by
              by_cases e : t = i
              · rw [e, HX.out] at h2
                injection h2 with h2
                omega
              · exact HZZ.out t x (by omega) h2)⟩
            case measure => simp [intOf]; omega
    · have hd : decide ((i : Int) < L) = false := decide_eq_false (by omega)
      have hiL2 : i = L := by omega
      subst hiL2
      have HRZr := Lib.hid (HRZ1.out.below HS.out.below HRZ1.out.lt)
      have HBF := Lib.hid (badRow_all (r := r) (is := is) (fun t x hx => HZZ.out t x (by
        by_cases h : t < is.length
        · rw [HIL.out] at h; exact h
        · rw [List.getElem?_eq_none (by omega)] at hx; cases hx) hx))
      have hbw : Below w.heap.size w wr := HW1.out.trans (HS.out.below.mono HW1.out.size)
      obtain ⟨d0, d1, d2, d3⟩ := mbox HS.out.rc
      go_wp2_with (refine wpList_store_row rfl _ _ _ rfl (w.heap.size + 1) (matC m i c a n ko) rfl rfl _ _ HRZr.out (by kernel_rfl) rfl (matC_one _ _ _ _ _ _) ?_)
      have hn2 := HNN.out
      refine bodyPost_ret (v := outV (matV m i c a n ko) 0) ?_ rfl ⟨.inr ⟨HBAD.out.symm.trans HBF.out, a, ko, by rw [← hn2], ?_⟩, below_whole hbw (by omega) _⟩
      · exact results_row_tmp rfl _ _ (w.heap.size + 1) _ _ _ _ rfl rfl (HRZr.out.whole _) Tryd.underlying24 (by rfl) (by kernel_rfl)
      · rw [← hn2]
        refine ⟨HS.out.own.1, ?_⟩
        rcases HS.out.own.2 with h0 | ⟨g9, cap9, cur9, hv, hb9, hg9, h2, h3, h4, h5⟩
        · exact .inl h0
        · exact .inr ⟨g9, cap9, cur9, hv, by omega, (setRow_other _ _ _ _ (by omega)).trans hg9, h2, h3, h4, h5⟩
end Go.Proofs.YtaijjhddgecieaaDoor
