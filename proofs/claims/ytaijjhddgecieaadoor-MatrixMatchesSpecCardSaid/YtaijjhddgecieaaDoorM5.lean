/- Matrices: the statements' own words: small, Same, ints, of. -/
import Derived.Test.YtaijjhddgecieaaDoorM4
namespace Go.Proofs.YtaijjhddgecieaaDoor
set_option linter.unusedSimpArgs false
set_option linter.unusedVariables false
open Go.RowKit Go.Lib

def smallB (r c : Int) (n : Nat) : Bool := decide (r ≤ 12) && decide (c ≤ 12) && decide (n ≤ 200)
set_option maxRecDepth 100000 in
theorem small_any (m r c : Int) (q : Option Addr) (n k0 : Nat) (w : World) :
    Calls Tryd.prog 12 #[matV m r c q n k0] w fun e w' => e = .returned (.bool (smallB r c n)) ∧ Below w.heap.size w w' := by
  obtain ⟨b1, e1⟩ : ∃ b, decide (r ≤ 12) = b := ⟨_, rfl⟩
  obtain ⟨b2, e2⟩ : ∃ b, decide (c ≤ 12) = b := ⟨_, rfl⟩
  obtain ⟨b3, e3⟩ : ∃ b, decide ((n : Int) ≤ 200) = b := ⟨_, rfl⟩
  have HB := Lib.hid (show smallB r c n = (b1 && b2 && b3) by
    rw [← e1, ← e2, ← e3]; unfold smallB
    rw [show decide ((n : Int) ≤ 200) = decide (n ≤ 200) from decide_eq_decide.2 (by omega)])
  unfold matV
  cases b1
  · go_enter Tryd.func12, Tryd.ntmps12
    go_wp2
    go_ret
    exact ⟨ret_bool (by rw [HB.out]; rfl), (Below.refl _ w).alloc (Nat.le_refl _) _⟩
  · cases b2
    · go_enter Tryd.func12, Tryd.ntmps12
      go_wp2
      go_ret
      exact ⟨ret_bool (by rw [HB.out]; rfl), (Below.refl _ w).alloc (Nat.le_refl _) _⟩
    · go_enter Tryd.func12, Tryd.ntmps12
      go_wp2
      go_ret
      exact ⟨ret_bool (by rw [HB.out]; rfl), (Below.refl _ w).alloc (Nat.le_refl _) _⟩
theorem take_more {xs ys : List Int} {k : Nat} {x y : Int} (h : xs.take k = ys.take k) (hx : xs[k]? = some x) (hy : ys[k]? = some y) (e : x = y) : xs.take (k + 1) = ys.take (k + 1) := by
  rw [List.take_add_one, List.take_add_one, h, hx, hy, e]
set_option maxRecDepth 100000 in
set_option maxHeartbeats 1600000 in
theorem same_any (m1 r1 c1 m2 r2 c2 : Int) (q1 q2 : Option Addr) (n1 k1 n2 k2 : Nat) (xs ys : List Int) (w : World) (h1 : xs.length = n1) (h2 : ys.length = n2) (hn : n1 ≤ 9223372036854775807)
    (hr1 : Rd w w.heap.size q1 (ints xs)) (hr2 : Rd w w.heap.size q2 (ints ys)) :
    Calls Tryd.prog 15 #[matV m1 r1 c1 q1 n1 k1, matV m2 r2 c2 q2 n2 k2] w fun e w' => e = .returned (.bool (decide (m1 = m2) && decide (r1 = r2) && decide (c1 = c2) && decide (xs = ys))) ∧ Below w.heap.size w w' := by
  have H1 := Lib.hid h1
  have H2 := Lib.hid h2
  have HR1 := Lib.hid hr1
  have HR2 := Lib.hid hr2
  clear h1 h2 hr1 hr2
  have HB2 := Lib.hid (((Below.refl w.heap.size w).alloc (Nat.le_refl _) (.cells (matC m1 r1 c1 q1 n1 k1) 24)).alloc (by simp) (.cells (matC m2 r2 c2 q2 n2 k2) 24))
  obtain ⟨b1, e1⟩ : ∃ b, (m1 != m2) = b := ⟨_, rfl⟩
  obtain ⟨b2, e2⟩ : ∃ b, (r1 != r2) = b := ⟨_, rfl⟩
  obtain ⟨b3, e3⟩ : ∃ b, (c1 != c2) = b := ⟨_, rfl⟩
  obtain ⟨b4, e4⟩ : ∃ b, ((n1 : Int) != (n2 : Int)) = b := ⟨_, rfl⟩
  have HV := Lib.hid (show ∀ b : Bool, decide (xs = ys) = b → (decide (m1 = m2) && decide (r1 = r2) && decide (c1 = c2) && decide (xs = ys)) = (!b1 && !b2 && !b3 && b) by
    intro b hb
    rw [hb, ← e1, ← e2, ← e3]
    congr 1
    congr 1
    · congr 1
      · rw [Bool.eq_iff_iff]; simp
      · rw [Bool.eq_iff_iff]; simp
    · rw [Bool.eq_iff_iff]; simp)
  have HE := Lib.hid (show b4 = true → decide (xs = ys) = false by
    intro hb
    rw [hb, bne_iff_ne] at e4
    rw [decide_eq_false_iff_not]
    rintro rfl
    rw [H1.out] at H2
    have := H2.out
    omega)
  have HN := Lib.hid (show b4 = false → n1 = n2 by
    intro hb
    rw [hb, bne_eq_false_iff_eq] at e4
    omega)
  unfold matV
  cases b1
  case true =>
    go_enter Tryd.func15, Tryd.ntmps15
    go_wp2
    go_ret
    exact ⟨ret_bool (by rw [HV.out _ rfl]; rfl), HB2.out⟩
  cases b2
  case true =>
    go_enter Tryd.func15, Tryd.ntmps15
    go_wp2
    go_ret
    exact ⟨ret_bool (by rw [HV.out _ rfl]; rfl), HB2.out⟩
  cases b3
  case true =>
    go_enter Tryd.func15, Tryd.ntmps15
    go_wp2
    go_ret
    exact ⟨ret_bool (by rw [HV.out _ rfl]; rfl), HB2.out⟩
  cases b4
  case true =>
    go_enter Tryd.func15, Tryd.ntmps15
    go_wp2
    go_ret
    exact ⟨ret_bool (by rw [HV.out false (HE.out (by trivial))]; rfl), HB2.out⟩
  obtain rfl := HN.out rfl
  go_enter Tryd.func15, Tryd.ntmps15
  go_wp2
  go_loopw [5] (fun i wr => (Below w.heap.size w wr ∧ Row wr w.heap.size 24 (matC m1 r1 c1 q1 n1 k1) ∧ Row wr (w.heap.size + 1) 24 (matC m2 r2 c2 q2 n1 k2)) ∧ ∃ k : Nat, k ≤ n1 ∧ i = .int .i64 k ∧ xs.take k = ys.take k) (fun i _ => n1 - (intOf i).toNat)
  case atStart => exact ⟨⟨HB2.out, (Row.new w _ _).alloc _, Row.made _ _ (by simp)⟩, 0, by omega, rfl, rfl⟩
  case round =>
    obtain ⟨⟨hwb, hwr1, hwr2⟩, k, hk, rfl, ha⟩ := hrel
    have HW1 := Lib.hid hwr1
    have HW2 := Lib.hid hwr2
    have HWB := Lib.hid hwb
    have c3 := hwr1.cell 3
    have d3 := hwr2.cell 3
    have HQ1 := Lib.hid (HR1.out.below hwb)
    have HQ2 := Lib.hid (HR2.out.below hwb)
    simp only [matC, List.getElem?_toArray, List.getElem?_cons_zero, List.getElem?_cons_succ] at c3 d3
    clear hwr1 hwr2 hwb
    have HA := Lib.hid ha
    clear ha
    by_cases hlt : k < n1
    · obtain ⟨x, hx⟩ : ∃ x, xs[k]? = some x := ⟨_, List.getElem?_eq_getElem (by rw [H1.out]; exact hlt)⟩
      obtain ⟨y, hy⟩ : ∃ y, ys[k]? = some y := ⟨_, List.getElem?_eq_getElem (by rw [H2.out]; exact hlt)⟩
      obtain ⟨b, off, rfl, hb, hc⟩ := HQ1.out k (.int .i64 x) (by rw [ints, List.getElem?_map, hx]; rfl)
      obtain ⟨b', off', rfl, hb', hc'⟩ := HQ2.out k (.int .i64 y) (by rw [ints, List.getElem?_map, hy]; rfl)
      have HX := Lib.hid hx
      have HY := Lib.hid hy
      clear hx hy hb hb'
      have hkn : decide ((k : Int) < n1) = true := by rw [decide_eq_true_eq]; omega
      by_cases hxy : x = y
      · have hne : (x != y) = false := by rw [bne_eq_false_iff_eq]; exact hxy
        have HXY := Lib.hid hxy
        clear hxy
        go_wp2
        go_region
        go_wp2
        go_roundw
        case rel => exact ⟨⟨HWB.out.drew, HW1.out.drew, HW2.out.drew⟩, k + 1, by omega, by go_num, take_more HA.out HX.out HY.out HXY.out⟩
        case measure => simp [intOf]; omega
      · have hne : (x != y) = true := by rw [bne_iff_ne]; exact hxy
        have HXY := Lib.hid (show decide (xs = ys) = false by
          rw [decide_eq_false_iff_not]
          rintro rfl
          have := HX.out
          rw [HY.out] at this
          injection this with this
          exact hxy this.symm)
        clear hxy
        go_wp2
        go_region
        go_wp2
        go_ret
        exact ⟨ret_bool (by rw [HV.out false HXY.out]; rfl), HWB.out.drew⟩
    · have h1 : k = n1 := by omega
      have HXY := Lib.hid (show decide (xs = ys) = true by
        rw [decide_eq_true_eq]
        have := HA.out
        rwa [List.take_of_length_le (by rw [H1.out]; omega), List.take_of_length_le (by rw [H2.out]; omega)] at this)
      have hkn : decide ((k : Int) < n1) = false := by rw [decide_eq_false_iff_not]; omega
      clear h1
      go_wp2
      go_ret
      exact ⟨ret_bool (by rw [HV.out true HXY.out]; rfl), HWB.out⟩
set_option maxRecDepth 100000 in
set_option maxHeartbeats 1600000 in
theorem lints_any (q1 q2 : Option Addr) (n1 k1 n2 k2 : Nat) (xs ys : List Int) (w : World) (h1 : xs.length = n1) (h2 : ys.length = n2) (hn : n1 ≤ 9223372036854775807)
    (hr1 : Rd w w.heap.size q1 (ints xs)) (hr2 : Rd w w.heap.size q2 (ints ys)) :
    Calls Tryd.prog 32 #[.slice q1 n1 k1, .slice q2 n2 k2] w fun e w' => e = .returned (.bool (decide (xs = ys))) ∧ Below w.heap.size w w' := by
  have H1 := Lib.hid h1
  have H2 := Lib.hid h2
  have HR1 := Lib.hid hr1
  have HR2 := Lib.hid hr2
  clear h1 h2 hr1 hr2
  have HB2 := Lib.hid (Below.refl w.heap.size w)
  obtain ⟨b4, e4⟩ : ∃ b, ((n1 : Int) != (n2 : Int)) = b := ⟨_, rfl⟩
  have HE := Lib.hid (show b4 = true → decide (xs = ys) = false by
    intro hb
    rw [hb, bne_iff_ne] at e4
    rw [decide_eq_false_iff_not]
    rintro rfl
    rw [H1.out] at H2
    have := H2.out
    omega)
  have HN := Lib.hid (show b4 = false → n1 = n2 by
    intro hb
    rw [hb, bne_eq_false_iff_eq] at e4
    omega)
  obtain ⟨bb, hbb⟩ : ∃ bb, decide (xs = ys) = bb := ⟨_, rfl⟩
  have HV := Lib.hid hbb
  rw [hbb]
  clear hbb
  cases b4
  case true =>
    go_enter Tryd.func32, Tryd.ntmps32
    go_wp2
    go_ret
    exact ⟨ret_bool (by rw [← HV.out, HE.out (by trivial)]), HB2.out⟩
  obtain rfl := HN.out rfl
  go_enter Tryd.func32, Tryd.ntmps32
  go_wp2
  go_loopw [5] (fun i wr => Below w.heap.size w wr ∧ ∃ k : Nat, k ≤ n1 ∧ i = .int .i64 k ∧ xs.take k = ys.take k) (fun i _ => n1 - (intOf i).toNat)
  case atStart => exact ⟨HB2.out, 0, by omega, rfl, rfl⟩
  case round =>
    obtain ⟨hwb, k, hk, rfl, ha⟩ := hrel
    have HWB := Lib.hid hwb
    have HQ1 := Lib.hid (HR1.out.below hwb)
    have HQ2 := Lib.hid (HR2.out.below hwb)
    clear hwb
    have HA := Lib.hid ha
    clear ha
    by_cases hlt : k < n1
    · obtain ⟨x, hx⟩ : ∃ x, xs[k]? = some x := ⟨_, List.getElem?_eq_getElem (by rw [H1.out]; exact hlt)⟩
      obtain ⟨y, hy⟩ : ∃ y, ys[k]? = some y := ⟨_, List.getElem?_eq_getElem (by rw [H2.out]; exact hlt)⟩
      obtain ⟨b, off, rfl, hb, hc⟩ := HQ1.out k (.int .i64 x) (by rw [ints, List.getElem?_map, hx]; rfl)
      obtain ⟨b', off', rfl, hb', hc'⟩ := HQ2.out k (.int .i64 y) (by rw [ints, List.getElem?_map, hy]; rfl)
      have HX := Lib.hid hx
      have HY := Lib.hid hy
      clear hx hy hb hb'
      have hkn : decide ((k : Int) < n1) = true := by rw [decide_eq_true_eq]; omega
      by_cases hxy : x = y
      · have hne : (x != y) = false := by rw [bne_eq_false_iff_eq]; exact hxy
        have HXY := Lib.hid hxy
        clear hxy
        go_wp2
        go_region
        go_wp2
        go_roundw
        case rel => exact ⟨HWB.out.drew, k + 1, by omega, by go_num, take_more HA.out HX.out HY.out HXY.out⟩
        case measure => simp [intOf]; omega
      · have hne : (x != y) = true := by rw [bne_iff_ne]; exact hxy
        have HXY := Lib.hid (show decide (xs = ys) = false by
          rw [decide_eq_false_iff_not]
          rintro rfl
          have := HX.out
          rw [HY.out] at this
          injection this with this
          exact hxy this.symm)
        clear hxy
        go_wp2
        go_region
        go_wp2
        go_ret
        exact ⟨ret_bool (by rw [← HV.out, HXY.out]), HWB.out.drew⟩
    · have h1 : k = n1 := by omega
      have HXY := Lib.hid (show decide (xs = ys) = true by
        rw [decide_eq_true_eq]
        have := HA.out
        rwa [List.take_of_length_le (by rw [H1.out]; omega), List.take_of_length_le (by rw [H2.out]; omega)] at this)
      have hkn : decide ((k : Int) < n1) = false := by rw [decide_eq_false_iff_not]; omega
      clear h1
      go_wp2
      go_ret
      exact ⟨ret_bool (by rw [← HV.out, HXY.out]), HWB.out⟩
set_option maxRecDepth 100000 in
theorem of_any (m r c : Int) (q : Option Addr) (n k0 : Nat) (w : World) :
    Calls Tryd.prog 21 #[.int .i64 m, .int .i64 r, .int .i64 c, .slice q n k0] w fun e w' => e = .returned (matV m r c q n k0) ∧ Below w.heap.size w w' := by
  go_enter Tryd.func21, Tryd.ntmps21
  go_wp2_with fail
  refine bodyPost_ret (v := matV m r c q n k0) ?_ rfl ⟨rfl, (Below.refl _ w).alloc (Nat.le_refl _) _⟩
  exact results_cell_row rfl _ _ w.heap.size _ _ (0, 0) _ rfl (Row.new w _ _) Tryd.underlying24 rfl (by kernel_rfl)
end Go.Proofs.YtaijjhddgecieaaDoor
