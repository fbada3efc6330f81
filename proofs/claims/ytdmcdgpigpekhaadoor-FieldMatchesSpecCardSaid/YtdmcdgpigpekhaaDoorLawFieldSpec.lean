/- FieldMatchesSpec: for every m and all integers the law returns true, and its arguments read as they did. No condition beyond the table's tie. -/
import Derived.Test.YtdmcdgpigpekhaaDoorG17
import Derived.Test.YtdmcdgpigpekhaaDoorFldT
namespace Go.Proofs.YtdmcdgpigpekhaaDoor
set_option linter.unusedSimpArgs false
set_option linter.unusedVariables false
open Go.ChangeShapes Go.WideShapes Go.ChangeAt Go.RowKit Go.Lib

set_option maxRecDepth 100000 in
set_option maxHeartbeats 6400000 in
theorem walk_FieldMatchesSpec (m a b : Int) (w : World) {A B C D : Prop} (_h1 : A) (_h2 : B) (_h3 : C) (_h4 : D) (hb1 : -9223372036854775808 ≤ b) (hb2 : b ≤ 9223372036854775807) (ht : Tab w) :
    Calls Tryd.prog 7 #[.int .i64 m, .int .i64 a, .int .i64 b] w fun e w' => e = .returned (.bool true) ∧ Below w.heap.size w w' := by
  have HT := Lib.hid ht
  have HB1 := Lib.hid hb1
  have HB2 := Lib.hid hb2
  clear ht hb1 hb2
  obtain ⟨x0, e0, hv0⟩ : ∃ x e : Int, pairV (addX m a b) (mulE m a b) = .tuple #[.int .i64 x, .int .i64 e] := ⟨_, _, rfl⟩
  have HV0 := Lib.hid hv0
  clear hv0
  obtain ⟨x1, e1, hv1⟩ : ∃ x e : Int, pairV (mulX m a b) (mulE m a b) = .tuple #[.int .i64 x, .int .i64 e] := ⟨_, _, rfl⟩
  have HV1 := Lib.hid hv1
  clear hv1
  obtain ⟨x2, e2, hv2⟩ : ∃ x e : Int, pairV (invX m a) (invE m a) = .tuple #[.int .i64 x, .int .i64 e] := ⟨_, _, rfl⟩
  have HV2 := Lib.hid hv2
  clear hv2
  obtain ⟨x3, e3, hv3⟩ : ∃ x e : Int, pairV (divX m a b) (divE m a b) = .tuple #[.int .i64 x, .int .i64 e] := ⟨_, _, rfl⟩
  have HV3 := Lib.hid hv3
  clear hv3
  obtain ⟨x4, e4, hv4⟩ : ∃ x e : Int, pairV (powX m a b) (powE m a b) = .tuple #[.int .i64 x, .int .i64 e] := ⟨_, _, rfl⟩
  have HV4 := Lib.hid hv4
  clear hv4
  obtain ⟨v, hv⟩ : ∃ v, allB m [a] = v := ⟨_, rfl⟩
  have HV := Lib.hid hv
  clear hv
  go_enter Tryd.func7, Tryd.ntmps7
  go_wp2_with fail
  refine (sanity_any _ HT.out).mono ?_
  rintro e w1 ⟨rfl, hb⟩
  have HB := Lib.hid hb
  clear hb
  go_wp2_with fail
  refine (fadd_any m a b _ (HT.out.next HB.out)).mono ?_
  rw [HV0.out]
  rintro e w1 ⟨rfl, hb⟩
  replace HB := Lib.hid (below_call HB.out hb)
  clear hb
  go_wp2_with fail
  refine (radd_any m a b _).mono ?_
  rw [HV0.out]
  rintro e w1 ⟨rfl, rfl⟩
  go_wp2_with fail
  refine (fmul_any m a b _ (HT.out.next HB.out)).mono ?_
  rw [HV1.out]
  rintro e w1 ⟨rfl, hb⟩
  replace HB := Lib.hid (below_call HB.out hb)
  clear hb
  go_wp2_with fail
  refine (rmul_any m a b _).mono ?_
  rw [HV1.out]
  rintro e w1 ⟨rfl, rfl⟩
  go_wp2_with fail
  refine (finv_any m a _ (HT.out.next HB.out)).mono ?_
  rw [HV2.out]
  rintro e w1 ⟨rfl, hb⟩
  replace HB := Lib.hid (below_call HB.out hb)
  clear hb
  go_wp2_with fail
  refine (rinv_any m a _).mono ?_
  rw [HV2.out]
  rintro e w1 ⟨rfl, rfl⟩
  go_wp2_with fail
  refine (fdiv_any m a b _ (HT.out.next HB.out)).mono ?_
  rw [HV3.out]
  rintro e w1 ⟨rfl, hb⟩
  replace HB := Lib.hid (below_call HB.out hb)
  clear hb
  go_wp2_with fail
  refine (rdiv_any m a b _).mono ?_
  rw [HV3.out]
  rintro e w1 ⟨rfl, rfl⟩
  go_wp2_with fail
  refine (fpow_any m a b _ (HT.out.next HB.out) HB1.out HB2.out).mono ?_
  rw [HV4.out]
  rintro e w1 ⟨rfl, hb⟩
  replace HB := Lib.hid (below_call HB.out hb)
  clear hb
  go_wp2_with fail
  refine (rpow_any m a b _ HB1.out HB2.out).mono ?_
  rw [HV4.out]
  rintro e w1 ⟨rfl, rfl⟩
  go_wp2_with fail
  refine (valid_any m a _ (HT.out.next HB.out)).mono ?_
  rw [HV.out]
  rintro e w1 ⟨rfl, hb⟩
  replace HB := Lib.hid (below_call HB.out hb)
  clear hb
  go_wp2_with fail
  refine (rvalid_any m a _).mono ?_
  rw [HV.out]
  rintro e w1 ⟨rfl, rfl⟩
  go_wp2_with fail
  go_ret
  exact ⟨by simp, HB.out⟩

/-! ### the frame: the arguments opened and shut -/
theorem contract_FieldMatchesSpec (H : Type) (enc : TypeId × Value → H) (W : World) (base : Nat) (args : Array Value) (ds gs : List (DataW H)) (before : List MemPlace)
    (hval0 : ∀ (j : Nat) t v, Tryd.f7.params[j]? = some t → args[j]? = some v → Value.okWide Tryd.prog W .any base t v)
    (hW : DataW.Whole enc Tryd.prog Tryd.f7.params.toList Rows.fieldMatchesSpecSpec.vars false W args.toList ds gs before) (hL : laidMetH Tryd.prog Rows.fieldMatchesSpecRow.laid W) :
    Calls Tryd.prog 7 args W fun e W' => ∃ v, e = .returned v ∧ Rows.fieldMatchesSpecSpec.post enc Tryd.prog Tryd.f7 false true false false W args v W' := by
  have hval : ∀ (j : Nat) t v, Tryd.f7.params[j]? = some t → args[j]? = some v → Value.okWide Tryd.prog W .any base t v := hval0
  have hW' := hW
  obtain ⟨p, q, hA0, hV, rfl, hfz, hnd⟩ := hW
  have hA : DataW.TrodAll enc Tryd.prog W 0 (fun _ => true) true Tryd.f7.params.toList args.toList ds p := hA0
  rw [Tryd.params7] at hA hval
  obtain ⟨v0, vs0, d0, ds0, p0, q0, hargs, rfl, rfl, h0, r0⟩ := trodAll_cons hA
  obtain ⟨v1, vs1, d1, ds1, p1, q1, rfl, rfl, rfl, h1, r1⟩ := trodAll_cons r0
  obtain ⟨v2, vs2, d2, ds2, p2, q2, rfl, rfl, rfl, h2, r2⟩ := trodAll_cons r1
  obtain ⟨rfl, rfl, rfl⟩ := trodAll_nil r2
  obtain rfl : args = #[v0, v1, v2] := by cases args; simp_all
  obtain ⟨rfl, rfl⟩ := trodVars_none hV
  have k0 := h0
  have lt0 : ∀ x ∈ p0, x.block < W.heap.size := by obtain ⟨m, hm⟩ := k0; exact DataW.trod_lt m _ _ _ hm
  have k1 := h1
  have lt1 : ∀ x ∈ p1, x.block < W.heap.size := by obtain ⟨m, hm⟩ := k1; exact DataW.trod_lt m _ _ _ hm
  have k2 := h2
  have lt2 : ∀ x ∈ p2, x.block < W.heap.size := by obtain ⟨m, hm⟩ := k2; exact DataW.trod_lt m _ _ _ hm
  obtain ⟨n0, rfl, rfl, rfl, w0⟩ := open_int Tryd.underlying3 (hval 0 3 v0 rfl rfl) h0
  obtain ⟨n1, rfl, rfl, rfl, w1⟩ := open_int Tryd.underlying3 (hval 1 3 v1 rfl rfl) h1
  obtain ⟨n2, rfl, rfl, rfl, w2⟩ := open_int Tryd.underlying3 (hval 2 3 v2 rfl rfl) h2
  refine (walk_FieldMatchesSpec n0 n1 n2 W (wf_i64 w0).1 (wf_i64 w0).2 (wf_i64 w1).1 (wf_i64 w1).2 (wf_i64 w2).1 (wf_i64 w2).2 (tab_of hL)).mono fun e W' ⟨he, bel⟩ => ?_
  subst he
  exact ⟨_, rfl, _, _, _, [], _, [], hW', trodAll_mk1 (shut_bool Tryd.underlying4 _), (trodAll_cons_mk (Below.trod laidOut (by kernel_rfl) (of_decide_eq_true (by kernel_rfl)) k0 bel lt0) (trodAll_cons_mk (Below.trod laidOut (by kernel_rfl) (of_decide_eq_true (by kernel_rfl)) k1 bel lt1) (trodAll_cons_mk (Below.trod laidOut (by kernel_rfl) (of_decide_eq_true (by kernel_rfl)) k2 bel lt2) trodAll_mk0))), rfl, bel.frame _, fun h => by cases h⟩
theorem laid_FieldMatchesSpec (os : Os) : laidMet Tryd.prog Rows.fieldMatchesSpecRow.laid ((laidWorld os).forCall (fun _ _ => 0) ⟨#[], #[.int .i64 0, .int .i64 0, .int .i64 0], []⟩).memory :=
  laidMet_of_run' 8 (by kernel_rfl) (by kernel_rfl)
theorem reads_FieldMatchesSpec (os : Os) {H : Type} (enc : TypeId × Value → H) : ∃ places, DataW.whole enc Tryd.prog ((laidWorld os).forCall (fun _ _ => 0) ⟨#[], #[.int .i64 0, .int .i64 0, .int .i64 0], []⟩).memory Tryd.f7.params.toList Rows.fieldMatchesSpecSpec.vars false (#[.int .i64 0, .int .i64 0, .int .i64 0] : Array Value).toList 8 = some ([.lit (.int .i64 0), .lit (.int .i64 0), .lit (.int .i64 0)], [], places) :=
  ⟨[], by kernel_rfl⟩
set_option maxRecDepth 100000 in
theorem lifted_FieldMatchesSpec (os : Os) (started : os.Started) (H : Type) (enc : TypeId × Value → H) (F : Stop.Interp) :
    ReturnsInHanded {} Tryd.checked os 7 .any ((OpenSpec.ofChange Rows.fieldMatchesSpecSpec).preRow enc Tryd.prog Tryd.f7 Rows.fieldMatchesSpecRow.domain false Rows.fieldMatchesSpecRow.laid) (((OpenSpec.ofChange Rows.fieldMatchesSpecSpec).at F).post enc Tryd.prog Tryd.f7 false true false false) := by
  obtain ⟨places, hx⟩ := reads_FieldMatchesSpec os enc
  refine returnsInHanded_of_row (C := Tryd.checked) (s := OpenSpec.ofChange Rows.fieldMatchesSpecSpec) own started (by kernel_rfl) Tryd.func7
    (witness_row_at (enc := enc) (C := Tryd.checked) false (laidWorld os) #[.int .i64 0, .int .i64 0, .int .i64 0] rfl (by kernel_rfl) (by kernel_rfl) (by kernel_rfl)
      (OpenSpec.preRow_of_cond 8 hx (by kernel_rfl) (fun k hk => by cases hk) (by kernel_rfl) (laid_FieldMatchesSpec os))) ?_
  intro W base args ds gs before hval hW _ hcond _ hL _ _
  exact contract_FieldMatchesSpec H enc W base args ds gs before hval hW hL

theorem said_FieldMatchesSpec : Rows.FieldMatchesSpecSaid :=
  OpenClaim.holds_of_cond 7 Tryd.f7 rfl rfl rfl rfl rfl rfl rfl ⟨rfl, rfl, rfl, rfl, rfl⟩ rfl rfl rfl rfl rfl (by kernel_rfl) Tryd.func7 (by kernel_rfl)
    (of_decide_eq_true (by kernel_rfl)) (by unfold Func.isWrapper; first | (rw [if_pos (by decide +kernel)]; kernel_rfl) | (rw [if_neg (by decide +kernel)]; exact ⟨rfl, rfl⟩))
    (fun os started H enc _ F => by rw [OpenClaim.pre_eq_preRow]; exact lifted_FieldMatchesSpec os started H enc F)
theorem plain_FieldMatchesSpec (f : FuncId) (fn : Func) (hf : Tryd.pinned.checked.prog.funcNamed "solvent/solventlaw05.FieldMatchesSpec" = some f) (hfn : Tryd.pinned.checked.prog.funcs[f]? = some fn) :
    false = Tryd.pinned.checked.prog.looks [] ∧ ∀ (j : Nat) t, fn.params[j]? = some t → Tryd.pinned.checked.prog.wantsStandIn t = false := by
  obtain rfl : f = 7 := Option.some.inj ((show Tryd.prog.funcNamed "solvent/solventlaw05.FieldMatchesSpec" = some 7 by kernel_rfl).symm.trans hf) |>.symm
  obtain rfl : fn = Tryd.f7 := (Option.some.inj (Tryd.func7.symm.trans hfn)).symm
  refine ⟨by kernel_rfl, fun j t ht => ?_⟩
  rw [Tryd.params7] at ht
  have hm := Array.mem_of_getElem? ht
  simp only [List.mem_toArray, List.mem_cons, List.not_mem_nil, or_false, or_self] at hm
  subst hm
  exact (show Tryd.prog.wantsStandIn 3 = false by kernel_rfl)
theorem proved_FieldMatchesSpec : Rows.FieldMatchesSpecCardSaid :=
  Claim7.holds_tied_plain_at .later [] _ _ _ _ said_FieldMatchesSpec (fun _ h => by cases h) (by kernel_rfl) (fun _ h => by cases h) fieldMatchesSpec_row_tie rfl ⟨rfl, rfl⟩ (by kernel_rfl) rfl plain_FieldMatchesSpec (by kernel_rfl)
end Go.Proofs.YtdmcdgpigpekhaaDoor
