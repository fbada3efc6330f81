/- QuotaGuaranteeIsGranted: for every claim and all numbers the law returns true, and its arguments read as they did. No condition. -/
import Derived.Test.YtaoinpijicenhaaQ12
import Derived.Test.YtaoinpijicenhaaOpenQ
namespace Go.Proofs.Ytaoinpijicenhaa
set_option linter.unusedSimpArgs false
open Go.ChangeShapes Go.WideShapes Go.ChangeAt Go.RowKit
set_option linter.unusedVariables false

theorem guar_out (c : Cl) (x y : Int) (w : World) (h : okB c = false ∨ (okB c = true ∧ x < 0) ∨ (okB c = true ∧ 0 ≤ x ∧ y < 0) ∨ (okB c = true ∧ 0 ≤ x ∧ 0 ≤ y ∧ max 0 (c.g - c.v) < x) ∨ (okB c = true ∧ 0 ≤ x ∧ 0 ≤ y ∧ x ≤ max 0 (c.g - c.v) ∧ max 0 (c.s - c.n) < y)) :
    Calls Try.prog 5 #[cv c, .int .i64 x, .int .i64 y] w fun e w' => e = .returned (.bool true) ∧ Below w.heap.size w w' := by
  obtain ⟨X, hX⟩ : ∃ X, IntKind.i64.wrap (c.g - c.v) = X := ⟨_, rfl⟩
  obtain ⟨Y, hY⟩ : ∃ Y, IntKind.i64.wrap (c.s - c.n) = Y := ⟨_, rfl⟩
  have HXX := Lib.hid (fun (h : okB c = true) => show c.g - c.v = X by
    have := okB_iff.1 h; rw [← hX]; exact (IntWalk.i64_in _ (by omega)).symm)
  have HYY := Lib.hid (fun (h : okB c = true) => show c.s - c.n = Y by
    have := okB_iff.1 h; rw [← hY]; exact (IntWalk.i64_in _ (by omega)).symm)
  rcases h with h | ⟨h, h1⟩ | ⟨h, h1, h2⟩ | ⟨h, h1, h2, h3⟩ | ⟨h, h1, h2, h3, h4⟩
  case' inr.inr.inr.inl => rw [HXX.out h] at h3
  case' inr.inr.inr.inr => rw [HXX.out h] at h3; rw [HYY.out h] at h4
  all_goals
    have HO := Lib.hid h
    clear h HXX HYY
    obtain ⟨g, s, b, r, v, n⟩ := c
    simp only [cv]
    simp only at hX hY
  case inr.inr.inr.inl =>
    by_cases hp : 0 < X
    all_goals
      have hd : decide (x < 0) = false := by simp; omega
      have hd2 : decide (y < 0) = false := by simp; omega
      go_enter Try.func5, Try.ntmps5
      go_wp2_with fail
      refine (sanity_any _).mono ?_
      rintro e w1 ⟨rfl, hb⟩
      have HC := Lib.hid (show Row w1 w.heap.size 23 _ from ((Row.new w _ _).below hb (by simp)))
      have HB := Lib.hid (below_call ((Below.refl w.heap.size w).alloc (Nat.le_refl _) _) hb)
      clear hb
      obtain ⟨c0, c1, c2, c3, c4, c5⟩ := row6 HC.out
      go_wp2_with fail
      refine (qvalid_any ⟨g, s, b, r, v, n⟩ _).mono ?_
      rintro e w2 ⟨rfl, hb⟩
      rw [HO.out]
      have HB2 := Lib.hid (below_call HB.out hb)
      clear hb
      first
        | (have hd3 : decide (X < x) = true := by simp; omega
           go_wp2_with fail
           go_ret
           exact ⟨rfl, HB2.out⟩)
        | (have hd3 : decide (0 < x) = true := by simp; omega
           go_wp2_with fail
           go_ret
           exact ⟨rfl, HB2.out⟩)
  case inr.inr.inr.inr =>
    by_cases hp : 0 < X <;> by_cases hp2 : 0 < Y
    all_goals
      have hd : decide (x < 0) = false := by simp; omega
      have hd2 : decide (y < 0) = false := by simp; omega
      go_enter Try.func5, Try.ntmps5
      go_wp2_with fail
      refine (sanity_any _).mono ?_
      rintro e w1 ⟨rfl, hb⟩
      have HC := Lib.hid (show Row w1 w.heap.size 23 _ from ((Row.new w _ _).below hb (by simp)))
      have HB := Lib.hid (below_call ((Below.refl w.heap.size w).alloc (Nat.le_refl _) _) hb)
      clear hb
      obtain ⟨c0, c1, c2, c3, c4, c5⟩ := row6 HC.out
      go_wp2_with fail
      refine (qvalid_any ⟨g, s, b, r, v, n⟩ _).mono ?_
      rintro e w2 ⟨rfl, hb⟩
      rw [HO.out]
      have HB2 := Lib.hid (below_call HB.out hb)
      clear hb
      have hd3 : decide (X < x) = false ∨ decide (0 < x) = false := by
        by_cases hp : 0 < X
        · left; simp; omega
        · right; simp; omega
      have hd4 : decide (Y < y) = true ∧ decide (0 < y) = true := by
        constructor <;> (simp; omega)
      obtain ⟨hd5, hd6⟩ := hd4
      rcases hd3 with hd3 | hd3
      all_goals
        go_wp2_with fail
        all_goals go_ret
        all_goals exact ⟨rfl, HB2.out⟩
  all_goals
    (try have hd : decide (x < 0) = true := by simp; omega)
    (try have hd : decide (x < 0) = false := by simp; omega)
    (try have hd2 : decide (y < 0) = true := by simp; omega)
    go_enter Try.func5, Try.ntmps5
    go_wp2_with fail
    refine (sanity_any _).mono ?_
    rintro e w1 ⟨rfl, hb⟩
    have HC := Lib.hid (show Row w1 w.heap.size 23 _ from ((Row.new w _ _).below hb (by simp)))
    have HB := Lib.hid (below_call ((Below.refl w.heap.size w).alloc (Nat.le_refl _) _) hb)
    clear hb
    obtain ⟨c0, c1, c2, c3, c4, c5⟩ := row6 HC.out
    go_wp2_with fail
    refine (qvalid_any ⟨g, s, b, r, v, n⟩ _).mono ?_
    rintro e w2 ⟨rfl, hb⟩
    rw [HO.out]
    have HB2 := Lib.hid (below_call HB.out hb)
    clear hb
    go_wp2_with fail
    go_ret
    exact ⟨rfl, HB2.out⟩

theorem guar_dec (c : Cl) (x y : Int) (h : okB c = true) (h1 : 0 ≤ x) (h2 : 0 ≤ y) (h3 : x ≤ max 0 (c.g - c.v)) (h4 : y ≤ max 0 (c.s - c.n)) : dec c x y 0 = (x + y, 0, 0) := by
  have hm := okB_iff.1 h
  have fx : fitB x = true := fitB_iff.2 (by omega)
  have fy : fitB y = true := fitB_iff.2 (by omega)
  have f0 : fitB 0 = true := fitB_iff.2 (by omega)
  have he : exc { c with v := c.v + x, n := c.n + y } = exc c := by unfold exc; simp only; omega
  rw [dec, if_neg (by rw [h, fx, fy, f0]; simp), he, if_neg (by omega)]
  simp
set_option maxHeartbeats 3200000 in
theorem guar_in (c : Cl) (x y : Int) (w : World) (h : okB c = true) (h1 : 0 ≤ x) (h2 : 0 ≤ y) (h3 : x ≤ max 0 (c.g - c.v)) (h4 : y ≤ max 0 (c.s - c.n)) :
    Calls Try.prog 5 #[cv c, .int .i64 x, .int .i64 y] w fun e w' => e = .returned (.bool true) ∧ Below w.heap.size w w' := by
  have HD := Lib.hid (guar_dec c x y h h1 h2 h3 h4)
  have hm := okB_iff.1 h
  obtain ⟨X, hXe⟩ : ∃ X, X = c.g - c.v := ⟨_, rfl⟩
  obtain ⟨Y, hYe⟩ : ∃ Y, Y = c.s - c.n := ⟨_, rfl⟩
  have hX : IntKind.i64.wrap (c.g - c.v) = X := by rw [hXe]; exact IntWalk.i64_in _ (by omega)
  have hY : IntKind.i64.wrap (c.s - c.n) = Y := by rw [hYe]; exact IntWalk.i64_in _ (by omega)
  rw [← hXe] at h3
  rw [← hYe] at h4
  have hx2 : x ≤ 1099511627776 := by omega
  have hy2 : y ≤ 1099511627776 := by omega
  have HO := Lib.hid h
  clear h hXe hYe hm
  obtain ⟨g, s, b, r, v, n⟩ := c
  simp only at hX hY
  simp only [cv]
  have hd : decide (x < 0) = false := by simp; omega
  have hd2 : decide (y < 0) = false := by simp; omega
  by_cases hp : 0 < X <;> by_cases hp2 : 0 < Y
  all_goals
    have hd3 : decide (X < x) = false ∨ decide (0 < x) = false := by
      by_cases hp : 0 < X
      · left; simp; omega
      · right; simp; omega
    have hd4 : decide (Y < y) = false ∨ decide (0 < y) = false := by
      by_cases hp : 0 < Y
      · left; simp; omega
      · right; simp; omega
    go_enter Try.func5, Try.ntmps5
    go_wp2_with fail
    refine (sanity_any _).mono ?_
    rintro e w1 ⟨rfl, hb⟩
    have HC := Lib.hid (show Row w1 w.heap.size 23 _ from ((Row.new w _ _).below hb (by simp)))
    have HB := Lib.hid (below_call ((Below.refl w.heap.size w).alloc (Nat.le_refl _) _) hb)
    clear hb
    obtain ⟨c0, c1, c2, c3, c4, c5⟩ := row6 HC.out
    go_wp2_with fail
    refine (qvalid_any ⟨g, s, b, r, v, n⟩ _).mono ?_
    rintro e w2 ⟨rfl, hb⟩
    rw [HO.out]
    have HC := Lib.hid (HC.out.below hb HC.out.lt)
    have HB := Lib.hid (below_call HB.out hb)
    clear hb c0 c1 c2 c3 c4 c5
    obtain ⟨c0, c1, c2, c3, c4, c5⟩ := row6 HC.out
    rcases hd3 with hd3 | hd3 <;> rcases hd4 with hd4 | hd4
    all_goals
      go_wp2_with fail
      all_goals
        refine (qdecide_any ⟨g, s, b, r, v, n⟩ x y 0 _).mono ?_
        rintro e w3 ⟨rfl, hb⟩
        rw [HD.out]
        have HB2 := Lib.hid (below_call HB.out hb)
        clear hb
        go_wp2_with fail
        go_ret
        exact ⟨by simp, HB2.out.alloc HB2.out.size _⟩
theorem walk0_QuotaGuaranteeIsGranted (c : Cl) (x y : Int) (w : World) :
    Calls Try.prog 5 #[cv c, .int .i64 x, .int .i64 y] w fun e w' => e = .returned (.bool true) ∧ Below w.heap.size w w' := by
  cases h : okB c with
  | false => exact guar_out c x y w (.inl h)
  | true =>
    by_cases h1 : x < 0
    · exact guar_out c x y w (.inr (.inl ⟨h, h1⟩))
    · by_cases h2 : y < 0
      · exact guar_out c x y w (.inr (.inr (.inl ⟨h, by omega, h2⟩)))
      · by_cases h3 : max 0 (c.g - c.v) < x
        · exact guar_out c x y w (.inr (.inr (.inr (.inl ⟨h, by omega, by omega, h3⟩))))
        · by_cases h4 : max 0 (c.s - c.n) < y
          · exact guar_out c x y w (.inr (.inr (.inr (.inr ⟨h, by omega, by omega, by omega, h4⟩))))
          · exact guar_in c x y w h (by omega) (by omega) (by omega) (by omega)
theorem walk_QuotaGuaranteeIsGranted (c : Cl) (x y : Int) (w : World) (hin : in64 c.g ∧ in64 c.s ∧ in64 c.b ∧ in64 c.r ∧ in64 c.v ∧ in64 c.n) (hx1 : -9223372036854775808 ≤ x) (hx2 : x ≤ 9223372036854775807) (hy1 : -9223372036854775808 ≤ y) (hy2 : y ≤ 9223372036854775807) :
    Calls Try.prog 5 #[.agg (cells6 c).toArray, .int .i64 x, .int .i64 y] w fun e w' => e = .returned (.bool true) ∧ Below w.heap.size w w' := walk0_QuotaGuaranteeIsGranted c x y w

/-! ### the frame: the arguments opened and shut -/
theorem contract_QuotaGuaranteeIsGranted (H : Type) (enc : TypeId × Value → H) (W : World) (base : Nat) (args : Array Value) (ds gs : List (DataW H)) (before : List MemPlace)
    (hval0 : ∀ (j : Nat) t v, Try.f5.params[j]? = some t → args[j]? = some v → Value.okWide Try.prog W .any base t v)
    (hW : DataW.Whole enc Try.prog Try.f5.params.toList Rows.quotaGuaranteeIsGrantedSpec.vars false W args.toList ds gs before) :
    Calls Try.prog 5 args W fun e W' => ∃ v, e = .returned v ∧ Rows.quotaGuaranteeIsGrantedSpec.post enc Try.prog Try.f5 false true false false W args v W' := by
  have hval : ∀ (j : Nat) t v, Try.f5.params[j]? = some t → args[j]? = some v → Value.okWide Try.prog W .any base t v := hval0
  have hW' := hW
  obtain ⟨p, q, hA0, hV, rfl, hfz, hnd⟩ := hW
  have hA : DataW.TrodAll enc Try.prog W 0 (fun _ => true) true Try.f5.params.toList args.toList ds p := hA0
  rw [Try.params5] at hA hval
  obtain ⟨v0, vs0, d0, ds0, p0, q0, hargs, rfl, rfl, h0, r0⟩ := trodAll_cons hA
  obtain ⟨v1, vs1, d1, ds1, p1, q1, rfl, rfl, rfl, h1, r1⟩ := trodAll_cons r0
  obtain ⟨v2, vs2, d2, ds2, p2, q2, rfl, rfl, rfl, h2, r2⟩ := trodAll_cons r1
  obtain ⟨rfl, rfl, rfl⟩ := trodAll_nil r2
  obtain rfl : args = #[v0, v1, v2] := by cases args; simp_all
  obtain ⟨rfl, rfl⟩ := trodVars_none hV
  have k0 := h0
  have lt0 : ∀ x ∈ p0, x.block < W.heap.size := by obtain ⟨m, hm⟩ := k0; exact DataW.trod_lt m _ _ _ hm
  have k1 := h1
  have lt1 : ∀ x ∈ p1, x.block < W.heap.size := by obtain ⟨m, hm⟩ := k1; exact DataW.trod_lt m _ _ _ hm
  have k2 := h2
  have lt2 : ∀ x ∈ p2, x.block < W.heap.size := by obtain ⟨m, hm⟩ := k2; exact DataW.trod_lt m _ _ _ hm
  obtain ⟨cs0, rfl, _⟩ := okWide_struct Try.underlying23 (hval 0 23 v0 rfl rfl)
  obtain ⟨fuel0, hf0⟩ := h0
  obtain ⟨c0, hcs0, hin0⟩ := open_claim hf0
  obtain rfl : cs0 = (cells6 c0).toArray := by apply Array.toList_inj.1; simpa [Value.cells] using hcs0
  obtain ⟨n1, rfl, rfl, rfl, w1⟩ := open_int Try.underlying3 (hval 1 3 v1 rfl rfl) h1
  obtain ⟨n2, rfl, rfl, rfl, w2⟩ := open_int Try.underlying3 (hval 2 3 v2 rfl rfl) h2
  refine (walk_QuotaGuaranteeIsGranted c0 n1 n2 W hin0 (wf_i64 w1).1 (wf_i64 w1).2 (wf_i64 w2).1 (wf_i64 w2).2).mono fun e W' ⟨he, bel⟩ => ?_
  subst he
  exact ⟨_, rfl, _, _, _, [], _, [], hW', trodAll_mk1 (shut_bool Try.underlying4 _), (trodAll_cons_mk (Below.trod laidOut (by kernel_rfl) (of_decide_eq_true (by kernel_rfl)) k0 bel lt0) (trodAll_cons_mk (Below.trod laidOut (by kernel_rfl) (of_decide_eq_true (by kernel_rfl)) k1 bel lt1) (trodAll_cons_mk (Below.trod laidOut (by kernel_rfl) (of_decide_eq_true (by kernel_rfl)) k2 bel lt2) trodAll_mk0))), rfl, bel.frame _, fun h => by cases h⟩

set_option maxRecDepth 100000 in
theorem lifted_QuotaGuaranteeIsGranted (os : Os) (started : os.Started) (H : Type) (enc : TypeId × Value → H) :
    ReturnsInHanded {} Try.checked os 5 .any (Rows.quotaGuaranteeIsGrantedSpec.pre6 enc Try.prog Try.f5 Rows.quotaGuaranteeIsGrantedRow.domain false) (Rows.quotaGuaranteeIsGrantedSpec.post enc Try.prog Try.f5 false true false false) := by
  refine returnsInHanded_of_change (C := Try.checked) own started (by kernel_rfl) Try.func5
    (ChangeSpec.witness6 (enc := enc) (C := Try.checked) false ⟨#[], #[.agg #[.int .i64 0, .int .i64 0, .int .i64 0, .int .i64 0, .int .i64 0, .int .i64 0], .int .i64 0, .int .i64 0], []⟩ 8 (by kernel_rfl) (by kernel_rfl) (by kernel_rfl) (by kernel_rfl)) ?_
  intro W base args ds gs before hval hW _ _
  exact contract_QuotaGuaranteeIsGranted H enc W base args ds gs before hval hW

theorem proved_QuotaGuaranteeIsGranted : Rows.QuotaGuaranteeIsGrantedSaid :=
  OpenClaim.holds_of_wide 5 Try.f5 rfl rfl rfl rfl rfl rfl rfl ⟨rfl, rfl, rfl, rfl, rfl⟩ rfl rfl rfl rfl rfl (by kernel_rfl) Try.func5 (by kernel_rfl)
    (of_decide_eq_true (by kernel_rfl)) (by unfold Func.isWrapper; first | (rw [if_pos (by decide +kernel)]; kernel_rfl) | (rw [if_neg (by decide +kernel)]; exact ⟨rfl, rfl⟩))
    (fun os started H enc _ => lifted_QuotaGuaranteeIsGranted os started H enc)
end Go.Proofs.Ytaoinpijicenhaa
