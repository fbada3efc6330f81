/- QuotaAllowanceIsFair: for every list of claims and every number the law returns true, and its arguments read as they did. No condition. -/
import Derived.Test.YtaoinpijicenhaaQ12
import Derived.Test.YtaoinpijicenhaaQ15
import Derived.Test.YtaoinpijicenhaaOpenQ
namespace Go.Proofs.Ytaoinpijicenhaa
set_option linter.unusedSimpArgs false
open Go.ChangeShapes Go.WideShapes Go.ChangeAt Go.RowKit
set_option linter.unusedVariables false

set_option maxRecDepth 100000 in
theorem fair_out (a : Option Addr) (len cap : Nat) (F : Int) (w : World) (h : (20 < (len : Int)) ∨ ((len : Int) ≤ 20 ∧ F < 0)) :
    Calls Try.prog 7 #[.slice a len cap, .int .i64 F] w fun e w' => e = .returned (.bool true) ∧ Below w.heap.size w w' := by
  rcases h with h | ⟨h, h1⟩
  all_goals
    go_enter Try.func7, Try.ntmps7
    go_wp2_with fail
    refine (sanity_any _).mono ?_
    rintro e w1 ⟨rfl, hb⟩
    have HB := Lib.hid hb
    clear hb
    go_wp2_with fail
    go_ret
    exact ⟨rfl, HB.out⟩
theorem claim_at {w : World} {B b off : Nat} {cs : List Cl} (h : Rd w B (some ⟨b, off, none⟩) (flat cs)) {j : Nat} {c : Cl} (hj : cs[j]? = some c) : w.cell? ⟨b, off + j * 6 + 3, none⟩ = some (.int .i64 c.r) := by
  obtain ⟨b', off', e, _, _, _, _, d3, _, _⟩ := h.claim hj
  injection e with e
  injection e with e1 e2
  subst e1 e2
  exact d3
theorem own_at {w : World} {B g n c : Nat} {e : TypeId} {xs : List Int} (h : Own w B e (some ⟨g, 0, none⟩) n c (xs.map vi)) {k : Nat} {x : Int} (hx : xs[k]? = some x) : w.cell? ⟨g, k, none⟩ = some (.int .i64 x) := by
  have hk : k < n := by have := h.len; have := (List.getElem?_eq_some_iff.1 hx).1; rw [List.length_map] at *; omega
  obtain ⟨g', e1, _, _, hc, _⟩ := h.at_ hk
  injection e1 with e1
  injection e1 with e1
  subst e1
  rw [hc]; exact vi_get xs k x hx
theorem sumW_take (cs : List Cl) (j : Nat) (c : Cl) (h : cs[j]? = some c) : sumW (cs.take (j + 1)) = sumW (cs.take j) + wish c := by
  obtain ⟨hj, e⟩ := List.getElem?_eq_some_iff.1 h
  rw [List.take_succ_eq_append_getElem hj, sumW_app, e]; simp [sumW]
theorem sumL_take (xs : List Int) (j : Nat) (x : Int) (h : xs[j]? = some x) : sumL (xs.take (j + 1)) = sumL (xs.take j) + x := by
  obtain ⟨hj, e⟩ := List.getElem?_eq_some_iff.1 h
  rw [List.take_succ_eq_append_getElem hj, sumL_app, e]; simp [sumL]
set_option maxHeartbeats 1600000 in
set_option maxRecDepth 100000 in
theorem fair_in (a : Option Addr) (len cap : Nat) (cs : List Cl) (F : Int) (w : World) (hl : cs.length = len) (hr : Rd w w.heap.size a (flat cs)) (h20 : (len : Int) ≤ 20) (hF1 : 0 ≤ F) (hF2 : F ≤ 9223372036854775807) :
    Calls Try.prog 7 #[.slice a len cap, .int .i64 F] w fun e w' => e = .returned (.bool true) ∧ Below w.heap.size w w' := by
  have HR := Lib.hid hr
  clear hr
  go_enter Try.func7, Try.ntmps7
  go_wp2_with fail
  refine (sanity_any _).mono ?_
  rintro e w1 ⟨rfl, hb⟩
  have HB := Lib.hid hb
  clear hb
  go_wp2_with fail
  go_loopw [6, 7] (fun sv i wr => ∃ j : Nat, j ≤ len ∧ i = .int .i64 j ∧ sv = .int .i64 (sumW (cs.take j)) ∧ (cs.take j).all okB = true ∧ Below w.heap.size w wr) (fun _ i _ => len - (intOf i).toNat)
  case atStart => exact ⟨0, by omega, rfl, by simp [sumW], by simp, HB.out⟩
  case round =>
    obtain ⟨j, hj, rfl, rfl, hall, hb⟩ := hrel
    have HB := Lib.hid hb
    clear hb
    by_cases hlt : j < len
    · have hd : decide ((j : Int) < (len : Int)) = true := by simpa using hlt
      obtain ⟨c, hget⟩ : ∃ x, cs[j]? = some x := ⟨_, List.getElem?_eq_getElem (by omega)⟩
      obtain ⟨b, off, rfl, hbB, d0, d1, d2, d3, d4, d5⟩ := (HR.out.below HB.out).claim hget
      have HS := Lib.hid (sumW_take cs j c hget)
      have hbd := sumW_bd _ hall
      rw [List.length_take, Nat.min_eq_left (by omega)] at hbd
      obtain ⟨SW, hSW⟩ : ∃ SW, sumW (cs.take j) = SW := ⟨_, rfl⟩
      rw [hSW] at hbd HS ⊢
      cases hc : okB c with
      | false =>
        have HC := Lib.hid hc
        obtain ⟨g, s, bu, r, v, n⟩ := c
        simp only at d0 d1 d2 d3 d4 d5
        clear hget hc hall hSW
        go_wp2_with fail
        refine (qvalid_any ⟨g, s, bu, r, v, n⟩ _).mono ?_
        rintro e w2 ⟨rfl, hb⟩
        rw [HC.out]
        have HB2 := Lib.hid (below_call HB.out hb)
        clear hb d0 d1 d2 d3 d4 d5
        go_wp2_with fail
        go_ret
        exact ⟨rfl, HB2.out⟩
      | true =>
        have HC := Lib.hid hc
        have HALL := Lib.hid (show (cs.take (j + 1)).all okB = true by
          obtain ⟨hj2, e⟩ := List.getElem?_eq_some_iff.1 hget
          rw [List.take_succ_eq_append_getElem hj2, List.all_append, hall, e]; simp [hc])
        have hw0 := wish_nn c
        have hw1 := wish_le c hc
        obtain ⟨WC, hWC⟩ : ∃ WC, wish c = WC := ⟨_, rfl⟩
        rw [hWC] at hw0 hw1 HS
        have HWC := Lib.hid hWC
        have hsw : IntKind.i64.wrap (SW + WC) = SW + WC := IntWalk.i64_in _ (by omega)
        obtain ⟨g, s, bu, r, v, n⟩ := c
        simp only at d0 d1 d2 d3 d4 d5
        clear hget hc hall hSW hWC
        go_wp2_with fail
        refine (qvalid_any ⟨g, s, bu, r, v, n⟩ _).mono ?_
        rintro e w2 ⟨rfl, hb⟩
        rw [HC.out]
        have HB2 := Lib.hid (below_call HB.out hb)
        have k0 := (hb.cell (p := ⟨b, off + j * 6, none⟩) (by have := HB.out.size; simp; omega)).trans d0
        have k1 := (hb.cell (p := ⟨b, off + j * 6 + 1, none⟩) (by have := HB.out.size; simp; omega)).trans d1
        have k2 := (hb.cell (p := ⟨b, off + j * 6 + 2, none⟩) (by have := HB.out.size; simp; omega)).trans d2
        have k3 := (hb.cell (p := ⟨b, off + j * 6 + 3, none⟩) (by have := HB.out.size; simp; omega)).trans d3
        have k4 := (hb.cell (p := ⟨b, off + j * 6 + 4, none⟩) (by have := HB.out.size; simp; omega)).trans d4
        have k5 := (hb.cell (p := ⟨b, off + j * 6 + 5, none⟩) (by have := HB.out.size; simp; omega)).trans d5
        clear hb d0 d1 d2 d3 d4 d5
        go_wp2_with fail
        refine (rwish_any ⟨g, s, bu, r, v, n⟩ _ HC.out).mono ?_
        rintro e w3 ⟨rfl, hb⟩
        rw [HWC.out]
        have HB3 := Lib.hid (below_call HB2.out hb)
        clear hb k0 k1 k2 k3 k4 k5
        go_wp2_with fail
        go_roundw
        case rel => exact ⟨j + 1, by omega, by go_num, by rw [HS.out], HALL.out, HB3.out⟩
        case measure => simp [intOf]; omega
    · have hd : decide ((j : Int) < (len : Int)) = false := by simp; omega
      have hjl : j = len := by omega
      subst hjl
      rw [List.take_of_length_le (by omega)] at hall ⊢
      have HOK := Lib.hid hall
      clear hall
      go_wp2_with fail
      obtain ⟨AL, hAL⟩ : ∃ AL, allowV cs F = AL := ⟨_, rfl⟩
      have hALe : AL = allow cs F := by rw [← hAL]; exact if_pos ⟨hF1, HOK.out⟩
      have HF := Lib.hid (fun (i : Nat) (c : Cl) (hc : cs[i]? = some c) => hALe ▸ fair cs F hF1 HOK.out i c hc)
      have hall2 : AL.length = j := by rw [hALe, allow_len, hl]
      have hsum : sumL AL = min F (sumW cs) := by rw [hALe, allow_sum cs F hF1 HOK.out, totS_sum cs HOK.out]
      refine (qallow_any a j cap wr.heap.size cs F wr hl (by omega) (Nat.le_refl _) (HR.out.below HB.out |>.more HB.out.size |> fun h => h) hF2).mono ?_
      rintro e w2 ⟨a3, n3, c3, rfl, ho, hb⟩
      rw [hAL] at ho
      obtain rfl : n3 = j := by have := ho.len; rw [List.length_map] at this; omega
      have HO := Lib.hid ho
      have HB2 := Lib.hid (below_call HB.out hb)
      have hbd := sumW_bd cs HOK.out
      rw [hl] at hbd
      obtain ⟨SWT, hSWT⟩ : ∃ z, sumW cs = z := ⟨_, rfl⟩
      rw [hSWT] at hbd hsum ⊢
      have HSUM := Lib.hid hsum
      clear ho hb hALe hAL hSWT hsum hlt hj hd
      go_wp2_with fail
      have hel : ∀ x ∈ AL, 0 ≤ x ∧ x ≤ 1099511627776 := by
        intro x hx
        obtain ⟨i, hi, e⟩ := List.getElem_of_mem hx
        obtain ⟨c, hc⟩ : ∃ c, cs[i]? = some c := ⟨_, List.getElem?_eq_getElem (by omega)⟩
        obtain ⟨y, h1, h2, h3, _⟩ := HF.out i c hc
        rw [List.getElem?_eq_getElem hi] at h1
        injection h1 with h1
        have := wish_le c ((List.all_eq_true.1 HOK.out) c (List.mem_of_getElem? hc))
        omega
      have HEL := Lib.hid hel
      clear hel
      go_loopw [9, 10] (fun sv iv wx => ∃ m : Nat, m ≤ n3 ∧ iv = .int .i64 m ∧ sv = .int .i64 (sumL (AL.take m)) ∧ Below w2.heap.size w2 wx) (fun _ iv _ => n3 - (intOf iv).toNat)
      case atStart => exact ⟨0, by omega, rfl, by simp [sumL], Below.refl _ _⟩
      case round =>
        obtain ⟨m, hm, rfl, rfl, hb⟩ := hrel
        have HX := Lib.hid hb
        clear hb
        by_cases hlt : m < n3
        · have hd : decide ((m : Int) < (n3 : Int)) = true := by simpa using hlt
          obtain ⟨c, hget⟩ : ∃ x, cs[m]? = some x := ⟨_, List.getElem?_eq_getElem (by omega)⟩
          obtain ⟨y, hy, hy0, hyw, hfair⟩ := HF.out m c hget
          have HS := Lib.hid (sumL_take AL m y hy)
          have HY := Lib.hid hy
          have hsb := sumL_bd (AL.take m) (fun x hx => HEL.out x (List.mem_of_mem_take hx))
          rw [List.length_take, Nat.min_eq_left (by omega)] at hsb
          obtain ⟨SM, hSM⟩ : ∃ z, sumL (AL.take m) = z := ⟨_, rfl⟩
          rw [hSM] at hsb HS ⊢
          obtain ⟨g3, rfl, _, _, hc0, _⟩ := (HO.out.below HX.out).at_ hlt
          rw [vi_get AL m y hy] at hc0
          have hok := (List.all_eq_true.1 HOK.out) c (List.mem_of_getElem? hget)
          have hwl := wish_le c hok
          have HFR := Lib.hid hfair
          have HC := Lib.hid hok
          have HBx := Lib.hid (below_call HB2.out HX.out)
          obtain ⟨b, off, rfl, hbB, d0, d1, d2, d3, d4, d5⟩ := (HR.out.below HBx.out).claim hget
          have hsw : IntKind.i64.wrap (SM + y) = SM + y := IntWalk.i64_in _ (by omega)
          obtain ⟨WC, hWC⟩ : ∃ WC, wish c = WC := ⟨_, rfl⟩
          rw [hWC] at hyw hwl HFR
          have HWC := Lib.hid hWC
          obtain ⟨g, s, bu, r, v, n⟩ := c
          simp only at d0 d1 d2 d3 d4 d5
          have HGET := Lib.hid hget
          clear hget hy hSM hok hfair hWC
          have t1 : decide (y < 0) = false := by simp; omega
          have t2 : decide (WC < y) = false := by simp; omega
          go_wp2_with fail
          refine (rwish_any ⟨g, s, bu, r, v, n⟩ _ HC.out).mono ?_
          rintro e w3 ⟨rfl, hb⟩
          rw [HWC.out]
          have HB3 := Lib.hid (below_call HX.out hb)
          have k0 := ((HO.out.below HX.out).below hb).at_ hlt
          clear hc0 d0 d1 d2 d3 d4 d5 hb
          obtain ⟨g4, hg4, _, _, hc0, _⟩ := k0
          injection hg4 with hg4
          injection hg4 with hg4
          subst hg4
          rw [vi_get AL m y HY.out] at hc0
          go_wp2_with fail
          go_loopw [12] (fun kv wy => ∃ k : Nat, k ≤ n3 ∧ kv = .int .i64 k ∧ Below w2.heap.size w2 wy) (fun kv _ => n3 - (intOf kv).toNat)
          case atStart => exact ⟨0, by omega, rfl, HB3.out⟩
          case round =>
            obtain ⟨k, hk, rfl, hb⟩ := hrel
            have HZ := Lib.hid hb
            clear hb hc0
            have HBy := Lib.hid (below_call HB2.out HZ.out)
            have hf := claim_at (HR.out.below HBy.out) HGET.out
            have ha := own_at (HO.out.below HZ.out) HY.out
            simp only at hf
            have hsz := HBy.out.size
            by_cases hlk : k < n3
            · have t3 : decide ((k : Int) < (n3 : Int)) = true := by simpa using hlk
              by_cases hyl : y < WC
              · have t4 : decide (y < WC) = true := by simpa using hyl
                obtain ⟨d, hdk⟩ : ∃ x, cs[k]? = some x := ⟨_, List.getElem?_eq_getElem (by omega)⟩
                obtain ⟨z, hzk, hz0, hz1, _⟩ := HF.out k d hdk
                obtain ⟨q1, q2, q3⟩ := HFR.out hyl k d z hdk hzk
                have he := claim_at (HR.out.below HBy.out) hdk
                have hz := own_at (HO.out.below HZ.out) hzk
                have hzw := wish_le d ((List.all_eq_true.1 HOK.out) d (List.mem_of_getElem? hdk))
                have hyb : IntKind.i64.wrap (y + 1) = y + 1 := IntWalk.i64_in _ (by omega)
                obtain ⟨g2, s2, bu2, r2, v2, n2⟩ := d
                simp only at he q1 q2 q3
                clear hdk hzk hzw hz1
                rcases Int.lt_trichotomy r r2 with hr | hr | hr
                · have u1 : decide (r < r2) = true := by simpa using hr
                  have u2 : decide (0 < z) = false := by have := q1 hr; simp; omega
                  have u3 : ¬ r2 = r := by omega
                  have u4 : (r2 == r) = false := by simpa using u3
                  clear q1 q2 q3
                  go_wp2_with fail
                  go_quiet (fail)
                  go_wp2_with fail
                  go_roundw
                  case rel => exact ⟨k + 1, by omega, by go_num, by first | exact HZ.out | exact below_drewN HZ.out _⟩
                  case measure => simp [intOf]; omega
                · subst hr
                  have q2' := q2 rfl
                  have u2 : decide (y + 1 < z) = false := by simp; omega
                  by_cases hmk : m < k
                  · have q3' := q3 rfl hmk
                    have u3 : decide ((m : Int) < (k : Int)) = true := by simpa using hmk
                    have u4 : decide (y < z) = false := by simp; omega
                    clear q1 q2 q3
                    go_wp2_with fail
                    go_quiet (fail)
                    go_wp2_with fail
                    go_roundw
                    case rel => exact ⟨k + 1, by omega, by go_num, by first | exact HZ.out | exact below_drewN HZ.out _⟩
                    case measure => simp [intOf]; omega
                  · have u3 : decide ((m : Int) < (k : Int)) = false := by simp; omega
                    clear q1 q2 q3
                    go_wp2_with fail
                    go_quiet (fail)
                    go_wp2_with fail
                    go_roundw
                    case rel => exact ⟨k + 1, by omega, by go_num, by first | exact HZ.out | exact below_drewN HZ.out _⟩
                    case measure => simp [intOf]; omega
                · have u1 : decide (r < r2) = false := by simp; omega
                  have u3 : ¬ r2 = r := by omega
                  have u4 : (r2 == r) = false := by simpa using u3
                  clear q1 q2 q3
                  go_wp2_with fail
                  go_quiet (fail)
                  go_wp2_with fail
                  go_roundw
                  case rel => exact ⟨k + 1, by omega, by go_num, by first | exact HZ.out | exact below_drewN HZ.out _⟩
                  case measure => simp [intOf]; omega
              · have t4 : decide (y < WC) = false := by simpa using hyl
                go_wp2_with fail
                go_roundw
                case rel => exact ⟨m + 1, by omega, by go_num, by rw [HS.out], HZ.out⟩
                case measure => simp [intOf]; omega
            · have t3 : decide ((k : Int) < (n3 : Int)) = false := by simp; omega
              go_wp2_with fail
              go_roundw
              case rel => exact ⟨m + 1, by omega, by go_num, by rw [HS.out], HZ.out⟩
              case measure => simp [intOf]; omega
        · have hd : decide ((m : Int) < (n3 : Int)) = false := by simp; omega
          have hmn : m = n3 := by omega
          subst hmn
          rw [List.take_of_length_le (by omega), HSUM.out]
          have HBx := Lib.hid (below_call HB2.out HX.out)
          by_cases hFS : F ≤ SWT
          · have hmin : min F SWT = F := by omega
            rw [hmin]
            go_wp2_with fail
            all_goals go_ret
            all_goals exact ⟨ret_bool (by first | (simp; done) | (rw [beq_iff_eq]; omega)), HBx.out⟩
          · have hmin : min F SWT = SWT := by omega
            rw [hmin]
            go_wp2_with fail
            all_goals go_ret
            all_goals exact ⟨ret_bool (by first | (simp; done) | (rw [beq_iff_eq]; omega)), HBx.out⟩
theorem walk_QuotaAllowanceIsFair (a : Option Addr) (len cap : Nat) (cs : List Cl) (F : Int) (w : World) (hl : cs.length = len) (hm : len ≤ 9223372036854775807) (hr : Rd w w.heap.size a (flat cs)) (hF1 : -9223372036854775808 ≤ F) (hF2 : F ≤ 9223372036854775807) :
    Calls Try.prog 7 #[.slice a len cap, .int .i64 F] w fun e w' => e = .returned (.bool true) ∧ Below w.heap.size w w' := by
  by_cases h : 20 < (len : Int)
  · exact fair_out a len cap F w (.inl h)
  · by_cases h1 : F < 0
    · exact fair_out a len cap F w (.inr ⟨by omega, h1⟩)
    · exact fair_in a len cap cs F w hl hr (by omega) (by omega) hF2

/-! ### the frame: the arguments opened and shut -/
theorem contract_QuotaAllowanceIsFair (H : Type) (enc : TypeId × Value → H) (W : World) (base : Nat) (args : Array Value) (ds gs : List (DataW H)) (before : List MemPlace)
    (hval0 : ∀ (j : Nat) t v, Try.f7.params[j]? = some t → args[j]? = some v → Value.okWide Try.prog W .any base t v)
    (hW : DataW.Whole enc Try.prog Try.f7.params.toList Rows.quotaAllowanceIsFairSpec.vars false W args.toList ds gs before) :
    Calls Try.prog 7 args W fun e W' => ∃ v, e = .returned v ∧ Rows.quotaAllowanceIsFairSpec.post enc Try.prog Try.f7 false true false false W args v W' := by
  have hval : ∀ (j : Nat) t v, Try.f7.params[j]? = some t → args[j]? = some v → Value.okWide Try.prog W .any base t v := hval0
  have hW' := hW
  obtain ⟨p, q, hA0, hV, rfl, hfz, hnd⟩ := hW
  have hA : DataW.TrodAll enc Try.prog W 0 (fun _ => true) true Try.f7.params.toList args.toList ds p := hA0
  rw [Try.params7] at hA hval
  obtain ⟨v0, vs0, d0, ds0, p0, q0, hargs, rfl, rfl, h0, r0⟩ := trodAll_cons hA
  obtain ⟨v1, vs1, d1, ds1, p1, q1, rfl, rfl, rfl, h1, r1⟩ := trodAll_cons r0
  obtain ⟨rfl, rfl, rfl⟩ := trodAll_nil r1
  obtain rfl : args = #[v0, v1] := by cases args; simp_all
  obtain ⟨rfl, rfl⟩ := trodVars_none hV
  have k0 := h0
  have lt0 : ∀ x ∈ p0, x.block < W.heap.size := by obtain ⟨m, hm⟩ := k0; exact DataW.trod_lt m _ _ _ hm
  have k1 := h1
  have lt1 : ∀ x ∈ p1, x.block < W.heap.size := by obtain ⟨m, hm⟩ := k1; exact DataW.trod_lt m _ _ _ hm
  obtain ⟨a0, len0, cap0, rfl⟩ := okWide_slice Try.underlying35 (hval 0 35 v0 rfl rfl)
  obtain ⟨fuel0, hf0⟩ := h0
  obtain ⟨x0, y0, z0, cl0, hcs0, hbl0, hlc0, hcm0, hrd0⟩ := open_claims Try.underlying35 hf0
  simp only [Value.cells, List.cons.injEq, Value.slice.injEq, and_true] at hcs0
  obtain ⟨rfl, rfl, rfl⟩ := hcs0
  have hmx0 : len0 ≤ 9223372036854775807 := by unfold maxLen at hcm0; omega
  obtain ⟨n1, rfl, rfl, rfl, w1⟩ := open_int Try.underlying3 (hval 1 3 v1 rfl rfl) h1
  refine (walk_QuotaAllowanceIsFair a0 len0 cap0 cl0 n1 W hbl0 hmx0 hrd0 (wf_i64 w1).1 (wf_i64 w1).2).mono fun e W' ⟨he, bel⟩ => ?_
  subst he
  exact ⟨_, rfl, _, _, _, [], _, [], hW', trodAll_mk1 (shut_bool Try.underlying4 _), (trodAll_cons_mk (Below.trod laidOut (by kernel_rfl) (of_decide_eq_true (by kernel_rfl)) k0 bel lt0) (trodAll_cons_mk (Below.trod laidOut (by kernel_rfl) (of_decide_eq_true (by kernel_rfl)) k1 bel lt1) trodAll_mk0)), rfl, bel.frame _, fun h => by cases h⟩

set_option maxRecDepth 100000 in
theorem lifted_QuotaAllowanceIsFair (os : Os) (started : os.Started) (H : Type) (enc : TypeId × Value → H) :
    ReturnsInHanded {} Try.checked os 7 .any (Rows.quotaAllowanceIsFairSpec.pre6 enc Try.prog Try.f7 Rows.quotaAllowanceIsFairRow.domain false) (Rows.quotaAllowanceIsFairSpec.post enc Try.prog Try.f7 false true false false) := by
  refine returnsInHanded_of_change (C := Try.checked) own started (by kernel_rfl) Try.func7
    (ChangeSpec.witness6 (enc := enc) (C := Try.checked) false ⟨#[], #[.slice none 0 0, .int .i64 0], []⟩ 8 (by kernel_rfl) (by kernel_rfl) (by kernel_rfl) (by kernel_rfl)) ?_
  intro W base args ds gs before hval hW _ _
  exact contract_QuotaAllowanceIsFair H enc W base args ds gs before hval hW

theorem proved_QuotaAllowanceIsFair : Rows.QuotaAllowanceIsFairSaid :=
  OpenClaim.holds_of_wide 7 Try.f7 rfl rfl rfl rfl rfl rfl rfl ⟨rfl, rfl, rfl, rfl, rfl⟩ rfl rfl rfl rfl rfl (by kernel_rfl) Try.func7 (by kernel_rfl)
    (of_decide_eq_true (by kernel_rfl)) (by unfold Func.isWrapper; first | (rw [if_pos (by decide +kernel)]; kernel_rfl) | (rw [if_neg (by decide +kernel)]; exact ⟨rfl, rfl⟩))
    (fun os started H enc _ => lifted_QuotaAllowanceIsFair os started H enc)
end Go.Proofs.Ytaoinpijicenhaa
