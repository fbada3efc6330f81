/- SectorOrder: for every three generations the law returns true, and its arguments read as they did. No condition. -/
import Derived.Test.YtdkkoogcaininaaS15
import Derived.Test.YtdkkoogcaininaaOpenS
namespace Go.Proofs.Ytdkkoogcaininaa
set_option linter.unusedSimpArgs false
set_option linter.unusedVariables false
open Go.ChangeShapes Go.WideShapes Go.ChangeAt Go.RowKit Go.Lib

theorem order_facts (e1 c1 e2 c2 e3 c3 : Int) : ¬ (newerB e1 c1 e2 c2 = true ∧ newerB e2 c2 e1 c1 = true) ∧ (newerB e1 c1 e2 c2 = false → newerB e2 c2 e1 c1 = false → e1 = e2 ∧ c1 = c2) ∧
    (newerB e1 c1 e2 c2 = true → newerB e2 c2 e3 c3 = true → newerB e1 c1 e3 c3 = true) ∧ (e1 = e2 → c1 = c2 → newerB e1 c1 e2 c2 = false ∧ newerB e2 c2 e1 c1 = false ∧ newerB e2 c2 e3 c3 = newerB e1 c1 e3 c3) := by
  simp only [newerB, Bool.or_eq_true, Bool.and_eq_true, decide_eq_true_eq, Bool.or_eq_false_iff, Bool.and_eq_false_iff, decide_eq_false_iff_not]
  refine ⟨by omega, by omega, by omega, ?_⟩
  rintro rfl rfl
  exact ⟨by omega, by omega, rfl⟩
set_option maxRecDepth 100000 in
set_option maxHeartbeats 6400000 in
theorem walk0_SectorOrder (e1 c1 e2 c2 e3 c3 : Int) (w : World) :
    Calls Try.prog 7 #[.agg #[.int .i64 e1, .int .i64 c1], .agg #[.int .i64 e2, .int .i64 c2], .agg #[.int .i64 e3, .int .i64 c3]] w fun e w' => e = .returned (.bool true) ∧ Below w.heap.size w w' := by
  obtain ⟨X, hX⟩ : ∃ X, newerB e1 c1 e2 c2 = X := ⟨_, rfl⟩
  obtain ⟨Y, hY⟩ : ∃ X, newerB e2 c2 e1 c1 = X := ⟨_, rfl⟩
  obtain ⟨T, hT⟩ : ∃ X, newerB e2 c2 e3 c3 = X := ⟨_, rfl⟩
  obtain ⟨Z, hZ⟩ : ∃ X, newerB e1 c1 e3 c3 = X := ⟨_, rfl⟩
  have hS : newerB e1 c1 e1 c1 = false := by simp [newerB]
  have HFACT := order_facts e1 c1 e2 c2 e3 c3
  rw [hX, hY, hT, hZ] at HFACT
  have HF := Lib.hid HFACT
  clear HFACT
  have HX := Lib.hid hX
  have HY := Lib.hid hY
  have HT := Lib.hid hT
  have HZ := Lib.hid hZ
  have HS := Lib.hid hS
  clear hX hY hT hZ hS
  go_enter Try.func7, Try.ntmps7
  go_wp2_with fail
  refine (snewer_any e1 c1 e2 c2 _).mono ?_
  rintro x w1 ⟨rfl, hb⟩
  rw [HX.out]
  have HA := Lib.hid (show Row w1 w.heap.size 25 #[.int .i64 e1, .int .i64 c1] from (((Row.new w _ _).alloc _).alloc _).below hb (by simp; omega))
  have HB1 := Lib.hid (show Row w1 (w.heap.size + 1) 25 #[.int .i64 e2, .int .i64 c2] from ((Row.made _ _ (by simp)).alloc _).below hb (by simp))
  have HC := Lib.hid (show Row w1 (w.heap.size + 2) 25 #[.int .i64 e3, .int .i64 c3] from (Row.made _ _ (by simp)).below hb (by simp))
  have HB := Lib.hid (below_call ((((Below.refl w.heap.size w).alloc (Nat.le_refl _) _).alloc (by simp) _).alloc (by simp; omega) _) hb)
  clear hb
  obtain ⟨a0, a1⟩ := row2 HA.out
  obtain ⟨b0, b1⟩ := row2 HB1.out
  have hl1 : w.heap.size < w1.heap.size := HA.out.lt
  have hl2 : w.heap.size + 1 < w1.heap.size := HB1.out.lt
  obtain ⟨k0, k1⟩ := row2 HC.out
  have hl3 : w.heap.size + 1 + 1 < w1.heap.size := HC.out.lt
  go_wp2_with fail
  refine (snewer_any e2 c2 e1 c1 _).mono ?_
  rintro x w2 ⟨rfl, hb⟩
  rw [HY.out]
  have HA := Lib.hid (HA.out.below hb HA.out.lt)
  have HB1 := Lib.hid (HB1.out.below hb HB1.out.lt)
  have HC := Lib.hid (HC.out.below hb HC.out.lt)
  have HB := Lib.hid (below_call HB.out hb)
  clear hb a0 a1 b0 b1 k0 k1 hl1 hl2 hl3
  obtain ⟨a0, a1⟩ := row2 HA.out
  obtain ⟨b0, b1⟩ := row2 HB1.out
  obtain ⟨k0, k1⟩ := row2 HC.out
  have hl1 : w.heap.size < w2.heap.size := HA.out.lt
  have hl2 : w.heap.size + 1 < w2.heap.size := HB1.out.lt
  have hl3 : w.heap.size + 1 + 1 < w2.heap.size := HC.out.lt
  go_wp2_with fail
  refine (snewer_any e2 c2 e3 c3 _).mono ?_
  rintro x w3 ⟨rfl, hb⟩
  rw [HT.out]
  have HA := Lib.hid (HA.out.below hb HA.out.lt)
  have HB1 := Lib.hid (HB1.out.below hb HB1.out.lt)
  have HC := Lib.hid (HC.out.below hb HC.out.lt)
  have HB := Lib.hid (below_call HB.out hb)
  clear hb a0 a1 b0 b1 k0 k1 hl1 hl2 hl3
  obtain ⟨a0, a1⟩ := row2 HA.out
  obtain ⟨b0, b1⟩ := row2 HB1.out
  obtain ⟨k0, k1⟩ := row2 HC.out
  have hl1 : w.heap.size < w3.heap.size := HA.out.lt
  have hl2 : w.heap.size + 1 < w3.heap.size := HB1.out.lt
  have hl3 : w.heap.size + 1 + 1 < w3.heap.size := HC.out.lt
  go_wp2_with fail
  refine (snewer_any e1 c1 e3 c3 _).mono ?_
  rintro x w4 ⟨rfl, hb⟩
  rw [HZ.out]
  have HA := Lib.hid (HA.out.below hb HA.out.lt)
  have HB1 := Lib.hid (HB1.out.below hb HB1.out.lt)
  have HC := Lib.hid (HC.out.below hb HC.out.lt)
  have HB := Lib.hid (below_call HB.out hb)
  clear hb a0 a1 b0 b1 k0 k1 hl1 hl2 hl3
  obtain ⟨a0, a1⟩ := row2 HA.out
  obtain ⟨b0, b1⟩ := row2 HB1.out
  obtain ⟨k0, k1⟩ := row2 HC.out
  have hl1 : w.heap.size < w4.heap.size := HA.out.lt
  have hl2 : w.heap.size + 1 < w4.heap.size := HB1.out.lt
  have hl3 : w.heap.size + 1 + 1 < w4.heap.size := HC.out.lt
  go_wp2_with fail
  refine (sanity_any _).mono ?_
  rintro x w5 ⟨rfl, hb⟩
  have HA := Lib.hid (HA.out.below hb HA.out.lt)
  have HB1 := Lib.hid (HB1.out.below hb HB1.out.lt)
  have HB := Lib.hid (below_call HB.out hb)
  clear hb a0 a1 b0 b1 k0 k1 hl1 hl2 hl3
  obtain ⟨a0, a1⟩ := row2 HA.out
  obtain ⟨b0, b1⟩ := row2 HB1.out
  have hl1 : w.heap.size < w5.heap.size := HA.out.lt
  have hl2 : w.heap.size + 1 < w5.heap.size := HB1.out.lt
  go_wp2_with fail
  refine (snewer_any e1 c1 e1 c1 _).mono ?_
  rintro x w6 ⟨rfl, hb⟩
  rw [HS.out]
  have HA := Lib.hid (HA.out.below hb HA.out.lt)
  have HB1 := Lib.hid (HB1.out.below hb HB1.out.lt)
  have HB := Lib.hid (below_call HB.out hb)
  clear hb a0 a1 b0 b1 hl1 hl2
  obtain ⟨a0, a1⟩ := row2 HA.out
  obtain ⟨b0, b1⟩ := row2 HB1.out
  have hl1 : w.heap.size < w6.heap.size := HA.out.lt
  have hl2 : w.heap.size + 1 < w6.heap.size := HB1.out.lt
  obtain ⟨F1, F2, F3, F4⟩ := HF.out
  clear HF HX HY HT HZ HS
  by_cases he : e1 = e2
  · by_cases hc : c1 = c2
    · obtain ⟨rfl, rfl, rfl⟩ := F4 he hc
      subst he hc
      clear F1 F2 F3 F4
      cases T
      all_goals
        go_wp2_with fail
        all_goals go_ret
        all_goals exact ⟨by simp, HB.out⟩
    · have hne : (c1 == c2) = false := by simpa using hc
      clear F4
      cases X <;> cases Y
      all_goals first | (exfalso; exact hc (F2 rfl rfl).2) | (exfalso; exact F1 ⟨rfl, rfl⟩) | skip
      all_goals cases T
      all_goals cases Z
      all_goals first | (exfalso; exact absurd (F3 rfl rfl) (by decide)) | skip
      all_goals
        clear F1 F2 F3
        go_wp2_with fail
        all_goals go_ret
        all_goals exact ⟨by simp, HB.out⟩
  · have hne : (e1 == e2) = false := by simpa using he
    clear F4
    cases X <;> cases Y
    all_goals first | (exfalso; exact he (F2 rfl rfl).1) | (exfalso; exact F1 ⟨rfl, rfl⟩) | skip
    all_goals cases T
    all_goals cases Z
    all_goals first | (exfalso; exact absurd (F3 rfl rfl) (by decide)) | skip
    all_goals
      clear F1 F2 F3
      go_wp2_with fail
      all_goals go_ret
      all_goals exact ⟨by simp, HB.out⟩
theorem walk_SectorOrder (e1 c1 e2 c2 e3 c3 : Int) (w : World) :
    Calls Try.prog 7 #[.agg #[.int .i64 e1, .int .i64 c1], .agg #[.int .i64 e2, .int .i64 c2], .agg #[.int .i64 e3, .int .i64 c3]] w fun e w' => e = .returned (.bool true) ∧ Below w.heap.size w w' := walk0_SectorOrder e1 c1 e2 c2 e3 c3 w

/-! ### the frame: the arguments opened and shut -/
theorem contract_SectorOrder (H : Type) (enc : TypeId × Value → H) (W : World) (base : Nat) (args : Array Value) (ds gs : List (DataW H)) (before : List MemPlace)
    (hval0 : ∀ (j : Nat) t v, Try.f7.params[j]? = some t → args[j]? = some v → Value.okWide Try.prog W .any base t v)
    (hW : DataW.Whole enc Try.prog Try.f7.params.toList Rows.sectorOrderSpec.vars false W args.toList ds gs before) :
    Calls Try.prog 7 args W fun e W' => ∃ v, e = .returned v ∧ Rows.sectorOrderSpec.post enc Try.prog Try.f7 false true false false W args v W' := by
  have hval : ∀ (j : Nat) t v, Try.f7.params[j]? = some t → args[j]? = some v → Value.okWide Try.prog W .any base t v := hval0
  have hW' := hW
  obtain ⟨p, q, hA0, hV, rfl, hfz, hnd⟩ := hW
  have hA : DataW.TrodAll enc Try.prog W 0 (fun _ => true) true Try.f7.params.toList args.toList ds p := hA0
  rw [Try.params7] at hA hval
  obtain ⟨v0, vs0, d0, ds0, p0, q0, hargs, rfl, rfl, h0, r0⟩ := trodAll_cons hA
  obtain ⟨v1, vs1, d1, ds1, p1, q1, rfl, rfl, rfl, h1, r1⟩ := trodAll_cons r0
  obtain ⟨v2, vs2, d2, ds2, p2, q2, rfl, rfl, rfl, h2, r2⟩ := trodAll_cons r1
  obtain ⟨rfl, rfl, rfl⟩ := trodAll_nil r2
  obtain rfl : args = #[v0, v1, v2] := by cases args; simp_all
  obtain ⟨rfl, rfl⟩ := trodVars_none hV
  have k0 := h0
  have lt0 : ∀ x ∈ p0, x.block < W.heap.size := by obtain ⟨m, hm⟩ := k0; exact DataW.trod_lt m _ _ _ hm
  have k1 := h1
  have lt1 : ∀ x ∈ p1, x.block < W.heap.size := by obtain ⟨m, hm⟩ := k1; exact DataW.trod_lt m _ _ _ hm
  have k2 := h2
  have lt2 : ∀ x ∈ p2, x.block < W.heap.size := by obtain ⟨m, hm⟩ := k2; exact DataW.trod_lt m _ _ _ hm
  obtain ⟨cs0, rfl, _⟩ := okWide_struct Try.underlying25 (hval 0 25 v0 rfl rfl)
  obtain ⟨fuel0, hf0⟩ := h0
  obtain ⟨e0x, c0x, hcs0, he0x, hc0x⟩ := open_gen hf0
  obtain rfl : cs0 = #[.int .i64 e0x, .int .i64 c0x] := by apply Array.toList_inj.1; simpa [Value.cells] using hcs0
  obtain ⟨cs1, rfl, _⟩ := okWide_struct Try.underlying25 (hval 1 25 v1 rfl rfl)
  obtain ⟨fuel1, hf1⟩ := h1
  obtain ⟨e1x, c1x, hcs1, he1x, hc1x⟩ := open_gen hf1
  obtain rfl : cs1 = #[.int .i64 e1x, .int .i64 c1x] := by apply Array.toList_inj.1; simpa [Value.cells] using hcs1
  obtain ⟨cs2, rfl, _⟩ := okWide_struct Try.underlying25 (hval 2 25 v2 rfl rfl)
  obtain ⟨fuel2, hf2⟩ := h2
  obtain ⟨e2x, c2x, hcs2, he2x, hc2x⟩ := open_gen hf2
  obtain rfl : cs2 = #[.int .i64 e2x, .int .i64 c2x] := by apply Array.toList_inj.1; simpa [Value.cells] using hcs2
  refine (walk_SectorOrder e0x c0x e1x c1x e2x c2x W ).mono fun e W' ⟨he, bel⟩ => ?_
  subst he
  exact ⟨_, rfl, _, _, _, [], _, [], hW', trodAll_mk1 (shut_bool Try.underlying4 _), (trodAll_cons_mk (Below.trod laidOut (by kernel_rfl) (of_decide_eq_true (by kernel_rfl)) k0 bel lt0) (trodAll_cons_mk (Below.trod laidOut (by kernel_rfl) (of_decide_eq_true (by kernel_rfl)) k1 bel lt1) (trodAll_cons_mk (Below.trod laidOut (by kernel_rfl) (of_decide_eq_true (by kernel_rfl)) k2 bel lt2) trodAll_mk0))), rfl, bel.frame _, fun h => by cases h⟩

set_option maxRecDepth 100000 in
theorem lifted_SectorOrder (os : Os) (started : os.Started) (H : Type) (enc : TypeId × Value → H) :
    ReturnsInHanded {} Try.checked os 7 .any (Rows.sectorOrderSpec.pre6 enc Try.prog Try.f7 Rows.sectorOrderRow.domain false) (Rows.sectorOrderSpec.post enc Try.prog Try.f7 false true false false) := by
  refine returnsInHanded_of_change (C := Try.checked) own started (by kernel_rfl) Try.func7
    (ChangeSpec.witness6 (enc := enc) (C := Try.checked) false ⟨#[], #[.agg #[.int .i64 0, .int .i64 0], .agg #[.int .i64 0, .int .i64 0], .agg #[.int .i64 0, .int .i64 0]], []⟩ 8 (by kernel_rfl) (by kernel_rfl) (by kernel_rfl) (by kernel_rfl)) ?_
  intro W base args ds gs before hval hW _ _
  exact contract_SectorOrder H enc W base args ds gs before hval hW

theorem proved_SectorOrder : Rows.SectorOrderSaid :=
  OpenClaim.holds_of_wide 7 Try.f7 rfl rfl rfl rfl rfl rfl rfl ⟨rfl, rfl, rfl, rfl, rfl⟩ rfl rfl rfl rfl rfl (by kernel_rfl) Try.func7 (by kernel_rfl)
    (of_decide_eq_true (by kernel_rfl)) (by unfold Func.isWrapper; first | (rw [if_pos (by decide +kernel)]; kernel_rfl) | (rw [if_neg (by decide +kernel)]; exact ⟨rfl, rfl⟩))
    (fun os started H enc _ => lifted_SectorOrder os started H enc)
end Go.Proofs.Ytdkkoogcaininaa
