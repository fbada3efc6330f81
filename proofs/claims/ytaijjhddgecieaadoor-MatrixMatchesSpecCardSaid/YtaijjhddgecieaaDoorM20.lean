/- Matrices: At. -/
import Derived.Test.YtaijjhddgecieaaDoorM19
namespace Go.Proofs.YtaijjhddgecieaaDoor
set_option linter.unusedSimpArgs false
set_option linter.unusedVariables false
open Go.RowKit Go.Lib

set_option maxRecDepth 100000 in
theorem at_no (ma ra ca : Int) (qa : Option Addr) (na ka : Nat) (xs : List Int) (i j : Int) (w : World) (hla : xs.length = na) (hna : na ≤ 9223372036854775807) (hra : Rd w w.heap.size qa (ints xs)) (h : (okMat ma ra ca xs && decide (0 ≤ i) && decide (0 ≤ j) && decide (i < ra) && decide (j < ca)) = false) :
    Calls Tryd.prog 29 #[matV ma ra ca qa na ka, .int .i64 i, .int .i64 j] w fun e w' => e = .returned (.int .i64 0) ∧ Below w.heap.size w w' := by
  have HVA := Lib.hid (fun (W : World) (h : Below w.heap.size w W) => mvalid_any ma ra ca qa na ka xs W hla hna ((hra.below h).more h.size))
  clear hla hna hra
  obtain ⟨b1, e1⟩ : ∃ b, okMat ma ra ca xs = b := ⟨_, rfl⟩
  obtain ⟨v, hv⟩ : ∃ v, (if j < i then j else i) = v := ⟨_, rfl⟩
  have hmin : ∀ (ts : Array TypeId) (t : TypeId) (W : World), (Builtin.min_ ts t #[.int .i64 i, .int .i64 j]).run Tryd.prog W = .ok (.int .i64 v) W := fun ts t W => by rw [min_two, hv]
  obtain ⟨b2, e2⟩ : ∃ b, decide (v < 0) = b := ⟨_, rfl⟩
  obtain ⟨b3, e3⟩ : ∃ b, decide (ra ≤ i) = b := ⟨_, rfl⟩
  obtain ⟨b4, e4⟩ : ∃ b, decide (ca ≤ j) = b := ⟨_, rfl⟩
  have hs : b1 = false ∨ (b1 = true ∧ b2 = true) ∨ (b1 = true ∧ b2 = false ∧ b3 = true) ∨ (b1 = true ∧ b2 = false ∧ b3 = false ∧ b4 = true) := by
    rw [e1] at h
    have hx : b1 = true → ¬ (b2 = false ∧ b3 = false ∧ b4 = false) := by
      rintro rfl ⟨rfl, rfl, rfl⟩
      simp only [decide_eq_false_iff_not] at e2 e3 e4
      simp only [Bool.true_and, Bool.and_eq_false_iff, decide_eq_false_iff_not] at h
      split at hv <;> omega
    cases b1 <;> cases b2 <;> cases b3 <;> cases b4 <;> simp at hx ⊢
  rw [e1] at HVA
  clear h e1 hv
  unfold matV at HVA ⊢
  have HW : Hid (Below w.heap.size w (w.alloc (.cells (matC ma ra ca qa na ka) 24))) := Lib.hid ((Below.refl _ w).alloc (Nat.le_refl _) _)
  have HRA : Hid (Row (w.alloc (.cells (matC ma ra ca qa na ka) 24)) w.heap.size 24 (matC ma ra ca qa na ka)) := Lib.hid (Row.new w _ _)
  rcases hs with rfl | ⟨rfl, rfl⟩ | ⟨rfl, rfl, rfl⟩ | ⟨rfl, rfl, rfl, rfl⟩
  all_goals
    go_enter Tryd.func29, Tryd.ntmps29
    go_wp2_with fail
    refine (HVA.out _ HW.out).mono ?_
    rintro e w1 ⟨rfl, hb⟩
    have HW1 := Lib.hid (below_call HW.out hb)
    obtain ⟨a0, a1, a2, a3⟩ := mbox (HRA.out.below hb HRA.out.lt)
    clear hb
    go_wp2
    go_ret
    exact ⟨rfl, HW1.out⟩
set_option maxRecDepth 100000 in
theorem at_yes {m r c k : Nat} {A : Nat → Nat → Nat} (q : Option Addr) (i j : Nat) (w : World) (hA : MatR w w.heap.size m r c q k A) (hc : c ≤ 32) (hi : i < r) (hj : j < c) :
    Calls Tryd.prog 29 #[matV m r c q (r * c) k, .int .i64 i, .int .i64 j] w fun e w' => e = .returned (.int .i64 (A i j : Int)) ∧ Below w.heap.size w w' := by
  have hr := hA.hr
  have HA := Lib.hid hA
  have HVA := Lib.hid (fun (W : World) (h : Below w.heap.size w W) => mvalid_yes hA hc W h h.size)
  have HRA0 := Lib.hid (fun W => mrow_any hA i hi W)
  obtain ⟨v, hv⟩ : ∃ v : Int, (if (j : Int) < i then (j : Int) else i) = v := ⟨_, rfl⟩
  have hmin : ∀ (ts : Array TypeId) (t : TypeId) (W : World), (Builtin.min_ ts t #[.int .i64 (i : Int), .int .i64 (j : Int)]).run Tryd.prog W = .ok (.int .i64 v) W := fun ts t W => by rw [min_two, hv]
  have d1 : decide (v < 0) = false := decide_eq_false (by split at hv <;> omega)
  have d2 : decide ((r : Int) ≤ i) = false := decide_eq_false (by omega)
  have d3 : decide ((c : Int) ≤ j) = false := decide_eq_false (by omega)
  obtain ⟨N, hN⟩ : ∃ N, r * c = N := ⟨_, rfl⟩
  rw [hN] at HVA HRA0 ⊢
  unfold matV at HVA HRA0 ⊢
  clear hA hv hN
  have HW : Hid (Below w.heap.size w (w.alloc (.cells (matC m r c q N k) 24))) := Lib.hid ((Below.refl _ w).alloc (Nat.le_refl _) _)
  have HRA : Hid (Row (w.alloc (.cells (matC m r c q N k) 24)) w.heap.size 24 (matC m r c q N k)) := Lib.hid (Row.new w _ _)
  go_enter Tryd.func29, Tryd.ntmps29
  go_wp2_with fail
  refine (HVA.out _ HW.out).mono ?_
  rintro e w1 ⟨rfl, hb⟩
  have HW1 := Lib.hid (below_call HW.out hb)
  obtain ⟨a0, a1, a2, a3⟩ := mbox (HRA.out.below hb HRA.out.lt)
  clear hb
  go_wp2_with fail
  refine (HRA0.out _).mono ?_
  rintro e w2 ⟨q1, k1, rfl, hk1, hk2, hq1, hb2⟩
  have HW2 := Lib.hid (below_call HW1.out hb2)
  obtain ⟨ga, oa, hga, hgl, hcell⟩ := (HA.out.below HW2.out).row hi hq1 j hj
  subst hga
  clear a0 a1 a2 a3 hb2 hq1
  go_wp2
  go_ret
  exact ⟨rfl, HW2.out⟩
end Go.Proofs.YtaijjhddgecieaaDoor
