/- QuotaMoreIsNotLess: for every list of claims and every number the law returns true, and its arguments read as they did. No condition. -/
import Derived.Test.YtaoinpijicenhaaQ12
import Derived.Test.YtaoinpijicenhaaQ13
import Derived.Test.YtaoinpijicenhaaOpenQ
namespace Go.Proofs.Ytaoinpijicenhaa
open Go.ChangeShapes Go.WideShapes Go.ChangeAt Go.RowKit
set_option linter.unusedVariables false

theorem allow_bd (l : List Cl) (F : Int) (h : 0 ≤ F) (hok : l.all okB = true) (i : Nat) (hi : i < l.length) (y : Int) (hy : (allow l F)[i]? = some y) : 0 ≤ y ∧ y ≤ 1099511627776 := by
  obtain ⟨c, hc⟩ : ∃ c, l[i]? = some c := ⟨_, List.getElem?_eq_getElem hi⟩
  have hA := fun c (hc : c ∈ l) => (List.all_eq_true.1 hok) c hc
  have hcr := okB_iff.1 (hA c (List.mem_of_getElem? hc))
  obtain ⟨x, hx⟩ : ∃ x, (List.replicate l.length (0 : Int))[i]? = some x := ⟨_, List.getElem?_eq_getElem (by simpa using hi)⟩
  have e1 := st_same l F i c hc (by omega) 10 (by omega) _ x hx
  have hf := st_nn l F h c.r.toNat
  have hw := wish_le c (hA c (List.mem_of_getElem? hc))
  have hw0 := wish_nn c
  have hl := lev_spec c.r l _ hf
  rw [show allow l F = (st l F 10).1 from rfl, e1, av_val c.r l _ _ i c x hc hx rfl] at hy
  injection hy with hy
  rw [← hy]
  unfold av
  split
  · split <;> omega
  · omega

/-- what the two lists say of each other -/
theorem more_facts (l : List Cl) (F : Int) (h : 0 ≤ F) : (allowV l F).length = (allowV l (F + 1)).length ∧
    (∀ i, i < (allowV l F).length → ∃ y z, (allowV l F)[i]? = some y ∧ (allowV l (F + 1))[i]? = some z ∧ y ≤ z ∧ z ≤ y + 1 ∧ 0 ≤ y ∧ y ≤ 1099511627776) ∧
    sumL (allowV l (F + 1)) - sumL (allowV l F) ≤ 1 := by
  cases hok : l.all okB with
  | false =>
    have e : ∀ G, allowV l G = [] := fun G => if_neg (by rw [hok]; simp)
    rw [e, e]
    exact ⟨rfl, (by intro i hi; simp at hi), by decide⟩
  | true =>
    have e1 : allowV l F = allow l F := if_pos ⟨h, hok⟩
    have e2 : allowV l (F + 1) = allow l (F + 1) := if_pos ⟨by omega, hok⟩
    rw [e1, e2]
    refine ⟨by rw [allow_len, allow_len], ?_, ?_⟩
    · intro i hi
      rw [allow_len] at hi
      obtain ⟨y, z, h1, h2, h3, h4⟩ := allow_more l F h hok i hi
      have := allow_bd l F h hok i hi y h1
      exact ⟨y, z, h1, h2, h3, h4, this.1, this.2⟩
    · rw [allow_sum l F h hok, allow_sum l (F + 1) (by omega) hok]; omega
theorem more_part (xs ys : List Int) (hl : xs.length = ys.length) (h : ∀ i, i < xs.length → ∃ y z, xs[i]? = some y ∧ ys[i]? = some z ∧ y ≤ z ∧ z ≤ y + 1 ∧ 0 ≤ y ∧ y ≤ 1099511627776) : ∀ k : Nat, k ≤ xs.length →
    0 ≤ sumL (ys.take k) - sumL (xs.take k) ∧ sumL (ys.take k) - sumL (xs.take k) ≤ k := by
  intro k
  induction k with
  | zero => intro _; simp [sumL]
  | succ k ih =>
    intro hk
    have := ih (by omega)
    obtain ⟨y, z, h1, h2, h3, h4, _⟩ := h k (by omega)
    obtain ⟨i1, e1⟩ := List.getElem?_eq_some_iff.1 h1
    obtain ⟨i2, e2⟩ := List.getElem?_eq_some_iff.1 h2
    rw [List.take_succ_eq_append_getElem i1, List.take_succ_eq_append_getElem i2, sumL_app, sumL_app, e1, e2]
    simp only [sumL]; omega

theorem more_out (a : Option Addr) (len cap : Nat) (F : Int) (w : World) (h : (20 < (len : Int)) ∨ ((len : Int) ≤ 20 ∧ F < 0) ∨ ((len : Int) ≤ 20 ∧ 0 ≤ F ∧ 1125899906842624 < F)) :
    Calls Try.prog 8 #[.slice a len cap, .int .i64 F] w fun e w' => e = .returned (.bool true) ∧ Below w.heap.size w w' := by
  rcases h with h | ⟨h, h1⟩ | ⟨h, h1, h2⟩
  all_goals
    go_enter Try.func8, Try.ntmps8
    go_wp2_with fail
    refine (sanity_any _).mono ?_
    rintro e w1 ⟨rfl, hb⟩
    have HB := Lib.hid hb
    clear hb
    go_wp2_with fail
    go_ret
    exact ⟨rfl, HB.out⟩

set_option maxHeartbeats 1600000 in
theorem more_in (a : Option Addr) (len cap : Nat) (cs : List Cl) (F : Int) (w : World) (hl : cs.length = len) (hr : Rd w w.heap.size a (flat cs)) (h20 : (len : Int) ≤ 20) (hF1 : 0 ≤ F) (hF2 : F ≤ 1125899906842624) :
    Calls Try.prog 8 #[.slice a len cap, .int .i64 F] w fun e w' => e = .returned (.bool true) ∧ Below w.heap.size w w' := by
  have HR := Lib.hid hr
  have HM := Lib.hid (more_facts cs F hF1)
  clear hr
  go_enter Try.func8, Try.ntmps8
  go_wp2_with fail
  refine (sanity_any _).mono ?_
  rintro e w1 ⟨rfl, hb⟩
  have HB := Lib.hid hb
  clear hb
  go_wp2_with fail
  refine (qallow_any a len cap w.heap.size cs F _ hl (by omega) HB.out.size (HR.out.below HB.out) (by omega)).mono ?_
  rintro e w2 ⟨a1, n1, c1, rfl, ho, hb⟩
  have HO1 := Lib.hid ho
  have HB := Lib.hid (below_call HB.out hb)
  clear ho hb
  go_wp2_with fail
  refine (qallow_any a len cap w.heap.size cs (F + 1) _ hl (by omega) HB.out.size (HR.out.below HB.out) (by omega)).mono ?_
  rintro e w3 ⟨a2, n2, c2, rfl, ho, hb⟩
  have HO2 := Lib.hid ho
  have HO1 := Lib.hid (HO1.out.below hb)
  have HB := Lib.hid (below_call HB.out hb)
  clear ho hb
  obtain ⟨xs, hxs⟩ : ∃ xs, xs = allowV cs F := ⟨_, rfl⟩
  obtain ⟨ys, hys⟩ : ∃ ys, ys = allowV cs (F + 1) := ⟨_, rfl⟩
  rw [← hxs] at HO1
  rw [← hys] at HO2
  rw [← hxs, ← hys] at HM
  have hn20 : xs.length ≤ 20 := by
    rw [hxs]; unfold allowV; split
    · rw [allow_len]; omega
    · simp
  clear hxs hys
  have hn1 : xs.length = n1 := by have := HO1.out.len; simpa using this
  have hn2 : ys.length = n2 := by have := HO2.out.len; simpa using this
  obtain rfl : n2 = n1 := by rw [← hn1, ← hn2]; exact HM.out.1.symm
  have hmx : n2 ≤ 9223372036854775807 := by have := HO1.out.cap; have := HO1.out.le; unfold maxLen at this; omega
  have HP := Lib.hid (more_part xs ys HM.out.1 HM.out.2.1)
  go_wp2_with fail
  go_loopw [8, 9] (fun mv iv wr => ∃ k : Nat, k ≤ n2 ∧ iv = .int .i64 k ∧ mv = .int .i64 (sumL (ys.take k) - sumL (xs.take k)) ∧ ∃ nn, wr = w3.drewN nn) (fun _ iv _ => n2 - (intOf iv).toNat)
  case atStart => exact ⟨0, by omega, rfl, rfl, 0, rfl⟩
  case round =>
    obtain ⟨k, hk, rfl, rfl, nn, rfl⟩ := hrel
    have hpk := HP.out k (by omega)
    obtain ⟨S, hS⟩ : ∃ S, S = sumL (ys.take k) - sumL (xs.take k) := ⟨_, rfl⟩
    rw [← hS] at hpk ⊢
    by_cases hlt : k < n2
    · obtain ⟨x, y, hx, hy, h1, h2, h3, h4⟩ := HM.out.2.1 k (by omega)
      obtain ⟨g1, e1, _, _, hc1, _⟩ := HO1.out.at_ hlt
      subst e1
      obtain ⟨g2, e2, _, _, hc2, _⟩ := HO2.out.at_ hlt
      subst e2
      rw [vi_get _ _ _ hx] at hc1
      rw [vi_get _ _ _ hy] at hc2
      obtain ⟨i1, q1⟩ := List.getElem?_eq_some_iff.1 hx
      obtain ⟨i2, q2⟩ := List.getElem?_eq_some_iff.1 hy
      have HSN := Lib.hid (show sumL (ys.take (k + 1)) - sumL (xs.take (k + 1)) = S + y - x by
        rw [List.take_succ_eq_append_getElem i1, List.take_succ_eq_append_getElem i2, sumL_app, sumL_app, q1, q2, hS]
        simp only [sumL]; omega)
      have hk64 : (k : Int) ≤ 9223372036854775807 := by omega
      have hd1 : decide (y < x) = false := by simp; omega
      have hd2 : decide (x + 1 < y) = false := by simp; omega
      have hw1 : IntKind.i64.wrap (x + 1) = x + 1 := IntWalk.i64_in _ (by omega)
      have hk20 : (k : Int) ≤ 1099511627776 := by omega
      have hw2 : IntKind.i64.wrap (S + y) = S + y := IntWalk.i64_in _ (by omega)
      have hw3 : IntKind.i64.wrap (S + y - x) = S + y - x := IntWalk.i64_in _ (by omega)
      clear hx hy i1 i2 q1 q2 hS h1 h2 h3 h4 hpk
      go_wp2_with fail
      go_quiet (fail)
      go_wp2_with fail
      go_quiet (fail)
      go_wp2_with fail
      go_roundw
      case rel => exact ⟨k + 1, by omega, by go_num, by rw [HSN.out], _, rfl⟩
      case measure => simp [intOf]; omega
    · have hS1 : S ≤ 1 := by
        have := HM.out.2.2
        rw [hS, List.take_of_length_le (by omega), List.take_of_length_le (by omega)]; exact this
      have hd1 : decide (S ≤ 1) = true := by simp; omega
      clear hS hpk
      go_wp2_with fail
      go_ret
      exact ⟨rfl, below_drewN HB.out _⟩

theorem walk_QuotaMoreIsNotLess (a : Option Addr) (len cap : Nat) (cs : List Cl) (F : Int) (w : World) (hl : cs.length = len) (hm : len ≤ 9223372036854775807) (hr : Rd w w.heap.size a (flat cs)) (hx1 : -9223372036854775808 ≤ F) (hx2 : F ≤ 9223372036854775807) :
    Calls Try.prog 8 #[.slice a len cap, .int .i64 F] w fun e w' => e = .returned (.bool true) ∧ Below w.heap.size w w' := by
  by_cases h : (20 < (len : Int)) ∨ ((len : Int) ≤ 20 ∧ F < 0) ∨ ((len : Int) ≤ 20 ∧ 0 ≤ F ∧ 1125899906842624 < F)
  · exact more_out a len cap F w h
  · exact more_in a len cap cs F w hl hr (by omega) (by omega) (by omega)

/-! ### the frame: the arguments opened and shut -/
theorem contract_QuotaMoreIsNotLess (H : Type) (enc : TypeId × Value → H) (W : World) (base : Nat) (args : Array Value) (ds gs : List (DataW H)) (before : List MemPlace)
    (hval0 : ∀ (j : Nat) t v, Try.f8.params[j]? = some t → args[j]? = some v → Value.okWide Try.prog W .any base t v)
    (hW : DataW.Whole enc Try.prog Try.f8.params.toList Rows.quotaMoreIsNotLessSpec.vars false W args.toList ds gs before) :
    Calls Try.prog 8 args W fun e W' => ∃ v, e = .returned v ∧ Rows.quotaMoreIsNotLessSpec.post enc Try.prog Try.f8 false true false false W args v W' := by
  have hval : ∀ (j : Nat) t v, Try.f8.params[j]? = some t → args[j]? = some v → Value.okWide Try.prog W .any base t v := hval0
  have hW' := hW
  obtain ⟨p, q, hA0, hV, rfl, hfz, hnd⟩ := hW
  have hA : DataW.TrodAll enc Try.prog W 0 (fun _ => true) true Try.f8.params.toList args.toList ds p := hA0
  rw [Try.params8] at hA hval
  obtain ⟨v0, vs0, d0, ds0, p0, q0, hargs, rfl, rfl, h0, r0⟩ := trodAll_cons hA
  obtain ⟨v1, vs1, d1, ds1, p1, q1, rfl, rfl, rfl, h1, r1⟩ := trodAll_cons r0
  obtain ⟨rfl, rfl, rfl⟩ := trodAll_nil r1
  obtain rfl : args = #[v0, v1] := by cases args; simp_all
  obtain ⟨rfl, rfl⟩ := trodVars_none hV
  have k0 := h0
  have lt0 : ∀ x ∈ p0, x.block < W.heap.size := by obtain ⟨m, hm⟩ := k0; exact DataW.trod_lt m _ _ _ hm
  have k1 := h1
  have lt1 : ∀ x ∈ p1, x.block < W.heap.size := by obtain ⟨m, hm⟩ := k1; exact DataW.trod_lt m _ _ _ hm
  obtain ⟨a0, len0, cap0, rfl⟩ := okWide_slice Try.underlying35 (hval 0 35 v0 rfl rfl)
  obtain ⟨fuel0, hf0⟩ := h0
  obtain ⟨x0, y0, z0, cl0, hcs0, hbl0, hlc0, hcm0, hrd0⟩ := open_claims Try.underlying35 hf0
  simp only [Value.cells, List.cons.injEq, Value.slice.injEq, and_true] at hcs0
  obtain ⟨rfl, rfl, rfl⟩ := hcs0
  have hmx0 : len0 ≤ 9223372036854775807 := by unfold maxLen at hcm0; omega
  obtain ⟨n1, rfl, rfl, rfl, w1⟩ := open_int Try.underlying3 (hval 1 3 v1 rfl rfl) h1
  refine (walk_QuotaMoreIsNotLess a0 len0 cap0 cl0 n1 W hbl0 hmx0 hrd0 (wf_i64 w1).1 (wf_i64 w1).2).mono fun e W' ⟨he, bel⟩ => ?_
  subst he
  exact ⟨_, rfl, _, _, _, [], _, [], hW', trodAll_mk1 (shut_bool Try.underlying4 _), (trodAll_cons_mk (Below.trod laidOut (by kernel_rfl) (of_decide_eq_true (by kernel_rfl)) k0 bel lt0) (trodAll_cons_mk (Below.trod laidOut (by kernel_rfl) (of_decide_eq_true (by kernel_rfl)) k1 bel lt1) trodAll_mk0)), rfl, bel.frame _, fun h => by cases h⟩

set_option maxRecDepth 100000 in
theorem lifted_QuotaMoreIsNotLess (os : Os) (started : os.Started) (H : Type) (enc : TypeId × Value → H) :
    ReturnsInHanded {} Try.checked os 8 .any (Rows.quotaMoreIsNotLessSpec.pre6 enc Try.prog Try.f8 Rows.quotaMoreIsNotLessRow.domain false) (Rows.quotaMoreIsNotLessSpec.post enc Try.prog Try.f8 false true false false) := by
  refine returnsInHanded_of_change (C := Try.checked) own started (by kernel_rfl) Try.func8
    (ChangeSpec.witness6 (enc := enc) (C := Try.checked) false ⟨#[], #[.slice none 0 0, .int .i64 0], []⟩ 8 (by kernel_rfl) (by kernel_rfl) (by kernel_rfl) (by kernel_rfl)) ?_
  intro W base args ds gs before hval hW _ _
  exact contract_QuotaMoreIsNotLess H enc W base args ds gs before hval hW

theorem proved_QuotaMoreIsNotLess : Rows.QuotaMoreIsNotLessSaid :=
  OpenClaim.holds_of_wide 8 Try.f8 rfl rfl rfl rfl rfl rfl rfl ⟨rfl, rfl, rfl, rfl, rfl⟩ rfl rfl rfl rfl rfl (by kernel_rfl) Try.func8 (by kernel_rfl)
    (of_decide_eq_true (by kernel_rfl)) (by unfold Func.isWrapper; first | (rw [if_pos (by decide +kernel)]; kernel_rfl) | (rw [if_neg (by decide +kernel)]; exact ⟨rfl, rfl⟩))
    (fun os started H enc _ => lifted_QuotaMoreIsNotLess os started H enc)
end Go.Proofs.Ytaoinpijicenhaa
