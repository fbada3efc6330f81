/- Codes: the specification's validity. -/
import Derived.Test.YtghinmlpkgcdiaaDoorXV
import Derived.Deep.DeepCutAuto
import Derived.BigQuiet
import Derived.Deep.RegionHeld3
namespace Go.Proofs.YtghinmlpkgcdiaaDoor
set_option linter.unusedSimpArgs false
set_option linter.unusedVariables false
open Go.RowKit Go.Lib

theorem all_snoc {α : Type} {p : α → Bool} {xs : List α} {k : Nat} {x : α} (h : (xs.take k).all p = true) (hx : xs[k]? = some x) : (xs.take (k + 1)).all p = p x := by
  rw [List.take_add_one, hx, List.all_append, h]; simp
theorem all_bad {α : Type} {p : α → Bool} {xs : List α} {k : Nat} {x : α} (hx : xs[k]? = some x) (h : p x = false) : xs.all p = false := by
  rw [List.all_eq_false]
  exact ⟨x, List.mem_of_getElem? hx, by rw [h]; simp⟩
theorem any_snoc {α : Type} {p : α → Bool} {xs : List α} {k : Nat} {x : α} (hx : xs[k]? = some x) : (xs.take (k + 1)).any p = ((xs.take k).any p || p x) := by
  rw [List.take_add_one, hx, List.any_append]; simp
theorem any_zero (zs : List Int) : zs.any (fun x => x != 0) = !(zs.all fun x => x == 0) := by
  induction zs with
  | nil => rfl
  | cons z zs ih =>
    rw [List.any_cons, List.all_cons, ih, Bool.not_and]; rfl
set_option maxRecDepth 100000 in
set_option maxHeartbeats 3200000 in
theorem cvalid_no (nm : Value) (f d : Int) (qp : Option Addr) (np kp : Nat) (dom : Int) (w : World) (hnm : nm.oneCell' = true) (h : (f ≠ 8 ∧ f ≠ 16) ∨ d < 1) :
    Calls Tryd.prog 48 #[.agg (codC nm f d qp np kp dom)] w fun e w' => e = .returned (.bool false) ∧ Below w.heap.size w w' := by
  have HW : Hid (Below w.heap.size w (w.alloc (.cells (codC nm f d qp np kp dom) 26))) := Lib.hid ((Below.refl _ w).alloc (Nat.le_refl _) _)
  obtain ⟨b8, h8⟩ : ∃ b, (f != 8) = b := ⟨_, rfl⟩
  obtain ⟨b16, h16⟩ : ∃ b, (f != 16) = b := ⟨_, rfl⟩
  by_cases hf : b8 = true ∧ b16 = true
  · obtain ⟨rfl, rfl⟩ := hf
    clear h
    go_enter Tryd.func48, Tryd.ntmps48
    go_wp2
    go_ret
    exact ⟨rfl, HW.out⟩
  · have hd1 : d < 1 := by
      rcases h with ⟨h1, h2⟩ | h
      · exact absurd ⟨by rw [← h8]; simpa using h1, by rw [← h16]; simpa using h2⟩ hf
      · exact h
    have hd : decide (d < 1) = true := decide_eq_true hd1
    clear h
    cases b8
    · go_enter Tryd.func48, Tryd.ntmps48
      go_wp2
      go_ret
      exact ⟨rfl, HW.out⟩
    · cases b16
      · go_enter Tryd.func48, Tryd.ntmps48
        go_wp2
        go_ret
        exact ⟨rfl, HW.out⟩
      · exact absurd ⟨rfl, rfl⟩ hf
set_option maxRecDepth 100000 in
set_option maxHeartbeats 6400000 in
theorem cvalid_yes {m D : Nat} (hm : Fld.IsM m) (nm : Value) (qp : Option Addr) (np kp : Nat) (dom : Int) (zss : List (List Int)) (w : World) (hr : Grid w w.heap.size qp np zss) (hnp : np ≤ 28) (hD : 1 ≤ D) (hd4 : D ≤ 4) (hnm : nm.oneCell' = true) :
    Calls Tryd.prog 48 #[.agg (codC nm m D qp np kp dom)] w fun e w' => e = .returned (.bool (zss.all (Xp.okRow m D))) ∧ Below w.heap.size w w' := by
  have HW : Hid (Below w.heap.size w (w.alloc (.cells (codC nm m D qp np kp dom) 26))) := Lib.hid ((Below.refl _ w).alloc (Nat.le_refl _) _)
  have HR : Hid (Row (w.alloc (.cells (codC nm m D qp np kp dom) 26)) w.heap.size 26 (codC nm m D qp np kp dom)) := Lib.hid (Row.new w _ _)
  obtain ⟨F, hF⟩ : ∃ F, zss.all (Xp.okRow m D) = F := ⟨_, rfl⟩
  rw [hF]
  have HF := Lib.hid hF
  have HG := Lib.hid hr
  have HGL := Lib.hid hr.len
  have hb8 : ∃ b8 b16, ((m : Int) != 8) = b8 ∧ ((m : Int) != 16) = b16 ∧ (b8 = false ∨ (b8 = true ∧ b16 = false)) := by
    rcases hm with rfl | rfl
    · exact ⟨_, _, rfl, rfl, .inl rfl⟩
    · exact ⟨_, _, rfl, rfl, .inr ⟨rfl, rfl⟩⟩
  obtain ⟨b8, b16, h8, h16, hbb⟩ := hb8
  have hd1 : decide ((D : Int) < 1) = false := decide_eq_false (by omega)
  have hw1 : IntKind.i64.wrap ((D : Int) + (np : Int)) = ((D + np : Nat) : Int) := by rw [IntKind.wrap_i64] <;> omega
  have hd2 : decide ((32 : Int) < ((D + np : Nat) : Int)) = false := decide_eq_false (by omega)
  have hd3 : decide ((32 : Int) < (D : Int) + (np : Int)) = false := decide_eq_false (by omega)
  clear hr hF
  go_enter Tryd.func48, Tryd.ntmps48
  go_upto_region 1 with fail
  go_cut [28] (fun v wx => v = .bool false ∧ wx = w.alloc (.cells (codC nm m D qp np kp dom) 26))
  case first =>
    rcases hbb with rfl | ⟨rfl, rfl⟩
    · go_wp2_with fail
      go_meet
      exact ⟨rfl, rfl⟩
    · go_wp2_with fail
      go_meet
      exact ⟨rfl, rfl⟩
  case rest =>
  obtain ⟨rfl, hwc⟩ := hcut
  have HWC := Lib.hid (show Below w.heap.size w wc by rw [hwc]; exact HW.out)
  have HRC := Lib.hid (show Row wc w.heap.size 26 (codC nm m D qp np kp dom) by rw [hwc]; exact HR.out)
  clear hwc hd1 hw1 hd2 hd3 h8 h16 hbb HW HR
  go_wp2_with fail
  go_loopw [3] (fun i wr => ∃ t : Nat, t ≤ np ∧ i = .int .i64 t ∧ Hid ((zss.take t).all (Xp.okRow m D) = true) ∧ Below wc.heap.size wc wr) (fun i _ => np - (intOf i).toNat)
  case atStart => exact ⟨0, Nat.zero_le _, rfl, Lib.hid rfl, Below.refl _ _⟩
  case round =>
    obtain ⟨t, ht, rfl, ha, hb⟩ := hrel
    have HA := Lib.hid ha.out
    have HB := Lib.hid hb
    clear ha hb
    have HRW := Lib.hid (HRC.out.below HB.out HRC.out.lt)
    obtain ⟨c0, c1, c2, c3, c4⟩ := cbox HRW.out
    have hz : w.heap.size < wr.heap.size := HRW.out.lt
    by_cases hlt : t < np
    · have hd : decide ((t : Int) < np) = true := decide_eq_true (by omega)
      obtain ⟨zs, hzs⟩ : ∃ zs, zss[t]? = some zs := ⟨_, List.getElem?_eq_getElem (by rw [HGL.out]; exact hlt)⟩
      have HGW := Lib.hid (HG.out.below (HWC.out.trans (HB.out.mono HWC.out.size)))
      obtain ⟨bp, offp, qr, kr, rfl, hbp, hcr, hlr, hrd⟩ := HGW.out.row t _ hzs
      unfold maxLen at hlr
      have HRD := Lib.hid hrd
      have HZ := Lib.hid hzs
      obtain ⟨L, hL⟩ : ∃ L, zs.length = L := ⟨_, rfl⟩
      rw [hL] at hcr hlr
      have HL := Lib.hid hL
      clear hrd hzs hL
      obtain ⟨bl, hbl⟩ : ∃ b, ((L : Int) != (D : Int)) = b := ⟨_, rfl⟩
      have HBL := Lib.hid hbl
      go_wp2_with fail
      go_quiet (fail)
      have HBQ := Lib.hid (below_drewN HB.out nq)
      cases bl
      · have hLD : L = D := by have := HBL.out; simp at this; omega
        obtain ⟨wq, hwq⟩ : ∃ wq : World, wq = wr.drewN nq := ⟨_, rfl⟩
        rw [← hwq]
        have HWQ := Lib.hid hwq
        rw [← hwq] at HBQ
        have HGQ := Lib.hid (show Row wq w.heap.size 26 (codC nm m D (some ⟨bp, offp, none⟩) np kp dom) by rw [hwq]; exact HRW.out)
        obtain rfl : D = L := hLD.symm
        have hcr2 : wq.cell? ⟨bp, offp + t, none⟩ = some (.slice qr D kr) := by rw [hwq]; exact hcr
        have HRDQ := Lib.hid (HRD.out.below (show Below w.heap.size wr wq by rw [hwq]; exact below_drewN (Below.refl _ _) nq))
        have hbpq : bp < wq.heap.size := by have := HGQ.out.lt; omega
        clear hcr hwq c0 c1 c2 c3 c4
        obtain ⟨c0, c1, c2, c3, c4⟩ := cbox HGQ.out
        go_wp2_with fail
        clear c0 c1 c2 c3 c4
        go_loopw [4, 5] (fun s i wy => ∃ (j : Nat) (sm : Bool), j ≤ D ∧ i = .int .i64 j ∧ s = .bool sm ∧ Hid ((zs.take j).any (fun x => x != 0) = sm) ∧ Hid ((zs.take j).all (fun x => allB m [x]) = true) ∧ Below wq.heap.size wq wy) (fun _ i _ => D - (intOf i).toNat)
        case atStart => exact ⟨0, false, Nat.zero_le _, rfl, rfl, Lib.hid rfl, Lib.hid rfl, Below.refl _ _⟩
        case round =>
          obtain ⟨j, sm, hj, rfl, rfl, hsm, hall, hb⟩ := hrel
          have HSM := Lib.hid hsm.out
          have HAL := Lib.hid hall.out
          have HB2 := Lib.hid hb
          clear hsm hall hb
          obtain ⟨wy, rfl⟩ : ∃ wy : World, wy = wr := ⟨_, rfl⟩
          have HRY := Lib.hid (HGQ.out.below HB2.out HGQ.out.lt)
          obtain ⟨c0, c1, c2, c3, c4⟩ := cbox HRY.out
          have hcr3 : wy.cell? ⟨bp, offp + t, none⟩ = some (.slice qr D kr) := (HB2.out.cell (p := ⟨bp, offp + t, none⟩) hbpq).trans hcr2
          have HBF := Lib.hid (HWC.out.trans ((HBQ.out.trans (HB2.out.mono HBQ.out.size)).mono HWC.out.size))
          by_cases hjl : j < D
          · have hdj : decide ((j : Int) < D) = true := decide_eq_true (by omega)
            obtain ⟨z, hzj⟩ : ∃ z, zs[j]? = some z := ⟨_, List.getElem?_eq_getElem (by rw [HL.out]; exact hjl)⟩
            have HZJ := Lib.hid hzj
            obtain ⟨bq, oq, rfl, hbq, hcz⟩ := (HRDQ.out.below (HB2.out.mono (by have := HGQ.out.lt; omega))) j (.int .i64 z) (by rw [ints, List.getElem?_map, hzj]; rfl)
            clear hzj
            obtain ⟨bv, hbv⟩ : ∃ b, allB (m : Int) [z] = b := ⟨_, rfl⟩
            have HVA := Lib.hid (fun (W : World) => rvalid_any (m : Int) z W)
            rw [hbv] at HVA
            have HBV := Lib.hid hbv
            obtain ⟨bz, hbz⟩ : ∃ b, (z != 0) = b := ⟨_, rfl⟩
            have HBZ := Lib.hid hbz
            clear hbv
            have HSd : Hid ((wy.drew.cell? ⟨w.heap.size, 1, none⟩ = some (.int .i64 (m : Int))) ∧ wy.drew.cell? ⟨w.heap.size, 3, none⟩ = some (.slice (some ⟨bp, offp, none⟩) np kp) ∧ wy.drew.cell? ⟨bp, offp + t, none⟩ = some (.slice (some ⟨bq, oq, none⟩) D kr) ∧ wy.drew.cell? ⟨bq, oq + j, none⟩ = some (.int .i64 z)) := Lib.hid ⟨c1, c3, hcr3, hcz⟩
            cases bv
            · have HOK := Lib.hid (show F = false by
                rw [← HF.out]
                refine all_bad HZ.out ?_
                unfold Xp.okRow
                rw [all_bad (p := fun x => allB (m : Int) [x]) HZJ.out HBV.out, Bool.and_false, Bool.false_and])
              go_wp2_with fail
              go_region_held3 (fun wn => (wn.cell? ⟨w.heap.size, 1, none⟩ = some (.int .i64 (m : Int))) ∧ wn.cell? ⟨w.heap.size, 3, none⟩ = some (.slice (some ⟨bp, offp, none⟩) np kp) ∧ wn.cell? ⟨bp, offp + t, none⟩ = some (.slice (some ⟨bq, oq, none⟩) D kr) ∧ wn.cell? ⟨bq, oq + j, none⟩ = some (.int .i64 z)) (first | exact HSd.out | assumption) (first
                | (go_at_call 79; (with_reducible refine (HVA.out _).mono ?_); rintro e5 w5 ⟨rfl, rfl⟩))
              go_wp2
              go_ret
              exact ⟨by rw [HOK.out]; rfl, HBF.out.drew⟩
            · have HAL2 := Lib.hid (show (zs.take (j + 1)).all (fun x => allB (m : Int) [x]) = true by rw [all_snoc HAL.out HZJ.out]; exact HBV.out)
              have HSM2 := Lib.hid (show (zs.take (j + 1)).any (fun x => x != 0) = (sm || bz) by rw [any_snoc HZJ.out, HSM.out, HBZ.out])
              go_wp2_with fail
              go_region_held3 (fun wn => (wn.cell? ⟨w.heap.size, 1, none⟩ = some (.int .i64 (m : Int))) ∧ wn.cell? ⟨w.heap.size, 3, none⟩ = some (.slice (some ⟨bp, offp, none⟩) np kp) ∧ wn.cell? ⟨bp, offp + t, none⟩ = some (.slice (some ⟨bq, oq, none⟩) D kr) ∧ wn.cell? ⟨bq, oq + j, none⟩ = some (.int .i64 z)) (first | exact HSd.out | assumption) (first
                | (go_at_call 79; (with_reducible refine (HVA.out _).mono ?_); rintro e5 w5 ⟨rfl, rfl⟩))
              cases sm
              · go_wp2_with fail
                go_roundw
                case rel => exact ⟨j + 1, bz, by omega, by go_num, rfl, Lib.hid (by rw [HSM2.out]; rfl), Lib.hid HAL2.out, HB2.out.drew⟩
                case measure => simp [intOf]; omega
              · go_wp2_with fail
                go_roundw
                case rel => exact ⟨j + 1, true, by omega, by go_num, rfl, Lib.hid (by rw [HSM2.out]; rfl), Lib.hid HAL2.out, HB2.out.drew⟩
                case measure => simp [intOf]; omega
          · have hdj : decide ((j : Int) < D) = false := decide_eq_false (by omega)
            have hdj2 : decide (j < D) = false := decide_eq_false (by omega)
            have HROW := Lib.hid (show Xp.okRow m D zs = sm by
              have h1 := HSM.out
              have h2 := HAL.out
              rw [List.take_of_length_le (by rw [HL.out]; omega)] at h1 h2
              unfold Xp.okRow
              rw [h2, HL.out, ← any_zero, h1]
              simp)
            cases sm
            · have HOK := Lib.hid (show F = false by rw [← HF.out]; exact all_bad HZ.out HROW.out)
              go_wp2
              go_ret
              exact ⟨by rw [HOK.out]; rfl, HBF.out⟩
            · have HA2 := Lib.hid (show (zss.take (t + 1)).all (Xp.okRow m D) = true by rw [all_snoc HA.out HZ.out]; exact HROW.out)
              go_wp2
              go_roundw
              case rel => exact ⟨t + 1, by omega, by go_num, Lib.hid HA2.out, HBQ.out.trans (HB2.out.mono HBQ.out.size)⟩
              case measure => simp [intOf]; omega
      · have HOK := Lib.hid (show F = false by
          rw [← HF.out]
          refine all_bad HZ.out ?_
          unfold Xp.okRow
          rw [HL.out]
          have h9 := HBL.out
          have : ((L : Int) == (D : Int)) = false := by
            rw [bne] at h9
            simpa using h9
          rw [this]; rfl)
        go_wp2
        go_ret
        exact ⟨by rw [HOK.out]; rfl, HWC.out.trans (HBQ.out.mono HWC.out.size)⟩
    · have hd : decide ((t : Int) < np) = false := decide_eq_false (by omega)
      have hd2 : decide (t < np) = false := decide_eq_false (by omega)
      have HOK := Lib.hid (show F = true by
        rw [← HF.out]
        have h9 := HA.out
        rwa [List.take_of_length_le (by rw [HGL.out]; omega)] at h9)
      go_wp2
      go_ret
      exact ⟨by rw [HOK.out]; rfl, HWC.out.trans (HB.out.mono HWC.out.size)⟩
end Go.Proofs.YtghinmlpkgcdiaaDoor
