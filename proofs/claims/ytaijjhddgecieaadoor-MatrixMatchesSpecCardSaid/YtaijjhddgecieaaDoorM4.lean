/- Matrices: the reference's Valid; small; Same. -/
import Derived.Test.YtaijjhddgecieaaDoorM3
namespace Go.Proofs.YtaijjhddgecieaaDoor
set_option linter.unusedSimpArgs false
set_option linter.unusedVariables false
open Go.RowKit Go.Lib

theorem sizes_bad {r c : Int} (h : r < 0 ∨ c < 0 ∨ 32 < r ∨ 32 < c) : sizesOk r c = false := by
  unfold sizesOk
  simp only [Bool.and_eq_false_iff, decide_eq_false_iff_not]
  omega
theorem sizes_ok {r c : Int} (h : ¬ (r < 0 ∨ c < 0 ∨ 32 < r ∨ 32 < c)) : sizesOk r c = true := by
  unfold sizesOk
  simp only [Bool.and_eq_true, decide_eq_true_eq]
  omega
set_option maxRecDepth 100000 in
set_option maxHeartbeats 3200000 in
theorem rvalid6_any (m r c : Int) (q : Option Addr) (n k0 : Nat) (xs : List Int) (w : World) (hl : xs.length = n) (hn : n ≤ 9223372036854775807) (hr : Rd w w.heap.size q (ints xs)) :
    Calls Tryd.prog 13 #[matV m r c q n k0] w fun e w' => e = .returned (.bool (okMat m r c xs)) ∧ Below w.heap.size w w' := by
  have HL := Lib.hid hl
  have HR := Lib.hid hr
  clear hl hr
  unfold matV
  by_cases hm : okM m = true
  · obtain ⟨M, hM, rfl⟩ := okM_iff.1 hm
    have HM := Lib.hid hM
    have HO := Lib.hid hm
    clear hm
    by_cases hs : r < 0 ∨ c < 0 ∨ 32 < r ∨ 32 < c
    · have HB := Lib.hid (show okMat (M : Int) r c xs = false by unfold okMat; rw [sizes_bad hs]; simp)
      obtain ⟨b1, e1⟩ : ∃ b, decide (r < 0) = b := ⟨_, rfl⟩
      obtain ⟨b2, e2⟩ : ∃ b, decide (c < 0) = b := ⟨_, rfl⟩
      obtain ⟨b3, e3⟩ : ∃ b, decide (32 < r) = b := ⟨_, rfl⟩
      obtain ⟨b4, e4⟩ : ∃ b, decide (32 < c) = b := ⟨_, rfl⟩
      have hs2 : b1 = true ∨ (b1 = false ∧ b2 = true) ∨ (b1 = false ∧ b2 = false ∧ b3 = true) ∨ (b1 = false ∧ b2 = false ∧ b3 = false ∧ b4 = true) := by
        rw [← e1, ← e2, ← e3, ← e4]
        simp only [decide_eq_true_eq, decide_eq_false_iff_not]
        omega
      clear hs
      rcases hM with rfl | rfl
      all_goals
        rcases hs2 with rfl | ⟨rfl, rfl⟩ | ⟨rfl, rfl, rfl⟩ | ⟨rfl, rfl, rfl, rfl⟩
        all_goals
          go_enter Tryd.func13, Tryd.ntmps13
          go_wp2
          go_ret
          exact ⟨ret_bool HB.out.symm, (Below.refl _ w).alloc (Nat.le_refl _) _⟩
    · have HG := Lib.hid (sizes_ok hs)
      obtain ⟨hw, hp0, hp1⟩ := size_prod (r := r) (c := c) (by omega) (by omega) (by omega) (by omega)
      have d1 : decide (r < 0) = false := decide_eq_false (by omega)
      have d2 : decide (c < 0) = false := decide_eq_false (by omega)
      have d3 : decide (32 < r) = false := decide_eq_false (by omega)
      have d4 : decide (32 < c) = false := decide_eq_false (by omega)
      clear hs
      obtain ⟨p, hp⟩ : ∃ p, r * c = p := ⟨_, rfl⟩
      have HP := Lib.hid hp
      rw [hp] at hw hp0 hp1
      have hw2 : IntKind.i64.wrap (r * c) = p := by rw [hp]; exact hw
      clear hw hp
      by_cases hne : (n : Int) = p
      · have HB := Lib.hid (show okMat (M : Int) r c xs = !(xs.any (badE M)) by
          unfold okMat
          rw [HO.out, HG.out, HL.out, HP.out, decide_eq_true hne]
          simp)
        have hd2 : ((n : Int) != p) = false := by rw [bne_eq_false_iff_eq]; exact hne
        have hn2 : n ≤ 1024 := by omega
        clear hne
        clear hn
        obtain ⟨bp, hbp⟩ : ∃ bp, badE M = bp := ⟨_, rfl⟩
        have HBP := Lib.hid hbp
        rw [hbp] at HB
        clear hbp
        rcases hM with rfl | rfl
        all_goals
          go_enter Tryd.func13, Tryd.ntmps13
          go_wp2
          go_loopw [3] (fun i wr => (Below w.heap.size w wr ∧ Row wr w.heap.size 24 #[.int .i64 _, .int .i64 r, .int .i64 c, .slice q n k0]) ∧ ∃ k : Nat, k ≤ n ∧ i = .int .i64 k ∧ (xs.take k).any bp = false) (fun i _ => n - (intOf i).toNat)
          case atStart => exact ⟨⟨(Below.refl _ w).alloc (Nat.le_refl _) _, Row.new w _ _⟩, 0, by omega, rfl, rfl⟩
          case round =>
            obtain ⟨⟨hwb, hwr⟩, k, hk, rfl, ha⟩ := hrel
            have HW := Lib.hid hwr
            have HWB := Lib.hid hwb
            have c0 := hwr.cell 0
            have c3 := hwr.cell 3
            have HRW := Lib.hid (HR.out.below hwb)
            simp only [List.getElem?_toArray, List.getElem?_cons_zero, List.getElem?_cons_succ] at c0 c3
            clear hwr hwb
            have HA := Lib.hid ha
            clear ha
            by_cases hlt : k < n
            · obtain ⟨x, hx⟩ : ∃ x, xs[k]? = some x := ⟨_, List.getElem?_eq_getElem (by rw [HL.out]; exact hlt)⟩
              obtain ⟨b, off, rfl, hb, hc⟩ := HRW.out k (.int .i64 x) (by rw [ints, List.getElem?_map, hx]; rfl)
              have HX := Lib.hid hx
              clear hx hb
              have hkn : decide ((k : Int) < n) = true := by rw [decide_eq_true_eq]; omega
              by_cases h0 : x < 0
              · have h00 : decide (x < 0) = true := decide_eq_true h0
                have HBX := Lib.hid (show bp x = true by rw [← HBP.out]; unfold badE; rw [h00]; rfl)
                clear h0
                go_wp2
                go_region
                go_wp2
                go_ret
                exact ⟨ret_bool (by
                  rw [HB.out, List.any_eq_true.2 ⟨x, List.mem_of_getElem? HX.out, HBX.out⟩]; rfl), HWB.out.drew⟩
              · have h00 : decide (x < 0) = false := decide_eq_false h0
                clear h0
                obtain ⟨b2, hb2⟩ : ∃ b2, bp x = b2 := ⟨_, rfl⟩
                have HBX := Lib.hid hb2
                rw [← HBP.out] at hb2
                unfold badE at hb2
                rw [h00, Bool.false_or] at hb2
                first
                  | rw [show ((2 : Int) ^ 8) = 256 by decide] at hb2
                  | rw [show ((2 : Int) ^ 16) = 65536 by decide] at hb2
                cases b2
                · go_wp2
                  go_region
                  go_wp2
                  go_roundw
                  case rel => exact ⟨⟨HWB.out.drew, HW.out.drew⟩, k + 1, by omega, by go_num, by rw [any_take HA.out HX.out]; exact HBX.out⟩
                  case measure => simp [intOf]; omega
                · go_wp2
                  go_region
                  go_wp2
                  go_ret
                  exact ⟨ret_bool (by
                    rw [HB.out, List.any_eq_true.2 ⟨x, List.mem_of_getElem? HX.out, HBX.out⟩]; rfl), HWB.out.drew⟩
            · have h1 : k = n := by omega
              have HA2 := Lib.hid (show xs.any bp = false by
                have := HA.out
                rwa [List.take_of_length_le (by rw [HL.out]; omega)] at this)
              have hkn : decide ((k : Int) < n) = false := by rw [decide_eq_false_iff_not]; omega
              clear h1
              go_wp2
              go_ret
              exact ⟨ret_bool (by rw [HB.out, HA2.out]; rfl), HWB.out⟩
      · have HB := Lib.hid (show okMat (M : Int) r c xs = false by
          unfold okMat
          rw [HL.out, HP.out, decide_eq_false hne]
          simp)
        have hd2 : ((n : Int) != p) = true := by rw [bne_iff_ne]; exact hne
        clear hne
        rcases hM with rfl | rfl
        all_goals
          go_enter Tryd.func13, Tryd.ntmps13
          go_wp2
          go_ret
          exact ⟨ret_bool HB.out.symm, (Below.refl _ w).alloc (Nat.le_refl _) _⟩
  · have HB := Lib.hid (show okMat m r c xs = false by unfold okMat; rw [Bool.eq_false_iff.2 hm]; simp)
    have h8 : (m != 8) = true := by
      rw [bne_iff_ne]; rintro rfl; exact hm rfl
    have h16 : (m != 16) = true := by
      rw [bne_iff_ne]; rintro rfl; exact hm rfl
    clear hm
    go_enter Tryd.func13, Tryd.ntmps13
    go_wp2
    go_ret
    exact ⟨ret_bool HB.out.symm, (Below.refl _ w).alloc (Nat.le_refl _) _⟩
end Go.Proofs.YtaijjhddgecieaaDoor
