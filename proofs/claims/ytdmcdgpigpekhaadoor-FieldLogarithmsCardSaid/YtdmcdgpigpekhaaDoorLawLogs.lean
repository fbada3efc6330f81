/- FieldLogarithms: for all elements the law returns true, and its arguments read as they did. No condition beyond the table's tie. -/
import Derived.Test.YtdmcdgpigpekhaaDoorLawPowers
import Derived.Test.YtdmcdgpigpekhaaDoorG18
namespace Go.Proofs.YtdmcdgpigpekhaaDoor
set_option linter.unusedSimpArgs false
set_option linter.unusedVariables false
open Go.ChangeShapes Go.WideShapes Go.ChangeAt Go.RowKit Go.Lib

theorem allB_top {m : Nat} (hm : Fld.IsM m) : allB (m : Int) [(2 : Int) ^ m] = false := by rcases hm with rfl | rfl <;> decide
theorem log_at {m : Nat} (hm : Fld.IsM m) {x t : Nat} (htq : t < Fld.q m) (hx : Fld.E m t = x) (w : World) (ht : Tab w) :
    Calls Tryd.prog 29 #[.int .i64 (m : Int), .int .i64 (x : Int)] w fun e w' => e = .returned (.tuple #[.int .i64 (t : Int), .int .i64 0]) ∧ Below w.heap.size w w' := flog_at m t x hm htq hx w ht
theorem log_zero {m : Nat} (hm : Fld.IsM m) (w : World) (ht : Tab w) :
    Calls Tryd.prog 29 #[.int .i64 (m : Int), .int .i64 0] w fun e w' => e = .returned (.tuple #[.int .i64 0, .int .i64 12]) ∧ Below w.heap.size w w' := flog_zero m hm w ht
theorem log_bad {m : Nat} (hm : Fld.IsM m) (w : World) (ht : Tab w) :
    Calls Tryd.prog 29 #[.int .i64 (m : Int), .int .i64 ((2 : Int) ^ m)] w fun e w' => e = .returned (.tuple #[.int .i64 0, .int .i64 1]) ∧ Below w.heap.size w w' := flog_bad m _ (allB_top hm) w ht
theorem rlog_at2 {m : Nat} (hm : Fld.IsM m) {x t : Nat} (htq : t < Fld.q m) (hx : Fld.E m t = x) (w : World) :
    Calls Tryd.prog 30 #[.int .i64 (m : Int), .int .i64 (x : Int)] w fun e w' => e = .returned (.tuple #[.int .i64 (t : Int), .int .i64 0]) ∧ w' = w := rlog_at m t x hm htq hx w
theorem pow_two_at {m : Nat} (hm : Fld.IsM m) {x t : Nat} (htq : t < Fld.q m) (hx : Fld.E m t = x) (w : World) (ht : Tab w) :
    Calls Tryd.prog 20 #[.int .i64 (m : Int), .int .i64 2, .int .i64 (t : Int)] w fun e w' => e = .returned (.tuple #[.int .i64 (x : Int), .int .i64 0]) ∧ Below w.heap.size w w' := by
  have hq : Fld.q m ≤ 65535 := by rcases hm with rfl | rfl <;> decide
  exact fpow_at hm (x := 2) (z := x) (by rcases hm with rfl | rfl <;> decide) (by decide) (t : Int) ((powI_two hm htq).trans hx) (by omega) (by omega) w ht
set_option maxRecDepth 100000 in
set_option maxHeartbeats 12800000 in
theorem walk_FieldLogarithms (a b : Int) (w : World) (ha1 : 0 ≤ a) (ha2 : a ≤ 65535) (hb1 : 0 ≤ b) (hb2 : b ≤ 65535) (ht : Tab w) :
    Calls Tryd.prog 8 #[.int .u16 a, .int .u16 b] w fun e w' => e = .returned (.bool true) ∧ Below w.heap.size w w' := by
  have HT := Lib.hid ht
  clear ht
  go_enter Tryd.func8, Tryd.ntmps8
  go_wp2_with fail
  refine (sanity_any _ HT.out).mono ?_
  rintro e w1 ⟨rfl, hb⟩
  have HB0 := Lib.hid hb
  clear hb
  go_wp2_with fail
  go_loopw [6] (fun i wr => ∃ k : Nat, k ≤ 2 ∧ i = .int .i64 k ∧ Below w.heap.size w wr) (fun i _ => 2 - (intOf i).toNat)
  case atStart => exact ⟨0, by omega, rfl, HB0.out⟩
  case round =>
    obtain ⟨k, hk, rfl, hbel⟩ := hrel
    have HB := Lib.hid hbel
    clear hbel
    by_cases hlt : k < 2
    · obtain ⟨M, hM⟩ : ∃ M : Nat, 8 + 8 * k = M := ⟨_, rfl⟩
      have hMi : 8 + 8 * (k : Int) = (M : Int) := by omega
      have HM := Lib.hid (show Fld.IsM M by rw [← hM]; rcases (show k = 0 ∨ k = 1 by omega) with rfl | rfl; exact .inl rfl; exact .inr rfl)
      have hm16 := m_le HM.out
      have hw := wrap_pow HM.out
      obtain ⟨p1, p2⟩ := pow_pos_le HM.out
      obtain ⟨q, X, hq, hq0, hq6, hqq, hX, hx, hx0, hx6⟩ := elem_at HM.out ha1
      obtain ⟨q', Y, hq', g1, g2, g3, hY, hy, hy0, hy6⟩ := elem_at HM.out hb1
      obtain rfl : q = q' := hq.symm.trans hq'
      have HX := Lib.hid hx
      have HY := Lib.hid hy
      obtain ⟨s, hs, hsX⟩ := Fld.log HM.out hx hx0
      obtain ⟨t, ht, htY⟩ := Fld.log HM.out hy hy0
      obtain ⟨P, hP⟩ : ∃ v, Fld.mul M X Y = v := ⟨_, rfl⟩
      obtain ⟨r, hr⟩ : ∃ r, (s + t) % Fld.q M = r := ⟨_, rfl⟩
      have hqpos := Fld.q_pos HM.out
      have HPE := Lib.hid (show Fld.E M r = P by rw [← hr, Fld.E_emod HM.out, ← Fld.E_add HM.out, hsX, htY, hP])
      have hrq : r < Fld.q M := by rw [← hr]; exact Nat.mod_lt _ hqpos
      have hsum : ((s : Int) + (t : Int)) % q = (r : Int) := by rw [hqq, ← hr]; simp
      have hs6 : (s : Int) < q := by omega
      have ht6 : (t : Int) < q := by omega
      have HS := Lib.hid hs
      have HTT := Lib.hid ht
      have HRQ := Lib.hid hrq
      have HSX := Lib.hid hsX
      have HTY := Lib.hid htY
      have HP := Lib.hid hP
      have HMM := Lib.hid hM
      clear hx hy hx0 hy0 hs ht hsX htY hP hr hqpos hrq hM hqq hq' g1 g2 g3
      go_wp2_with fail
      refine (log_at HM.out HS.out HSX.out _ (HT.out.next HB.out)).mono ?_
      rintro e w2 ⟨rfl, hb⟩
      replace HB := Lib.hid (below_call HB.out hb)
      clear hb
      go_wp2_with fail
      refine (log_at HM.out HTT.out HTY.out _ (HT.out.next HB.out)).mono ?_
      rintro e w2 ⟨rfl, hb⟩
      replace HB := Lib.hid (below_call HB.out hb)
      clear hb
      go_wp2_with fail
      refine (fmul_at HM.out HX.out HY.out HP.out _ (HT.out.next HB.out)).mono ?_
      rintro e w2 ⟨rfl, hb⟩
      replace HB := Lib.hid (below_call HB.out hb)
      clear hb
      go_wp2_with fail
      refine (log_at HM.out HRQ.out HPE.out _ (HT.out.next HB.out)).mono ?_
      rintro e w2 ⟨rfl, hb⟩
      replace HB := Lib.hid (below_call HB.out hb)
      clear hb
      go_wp2_with fail
      refine (pow_two_at HM.out HS.out HSX.out _ (HT.out.next HB.out)).mono ?_
      rintro e w2 ⟨rfl, hb⟩
      replace HB := Lib.hid (below_call HB.out hb)
      clear hb
      go_wp2_with fail
      refine (log_zero HM.out _ (HT.out.next HB.out)).mono ?_
      rintro e w2 ⟨rfl, hb⟩
      replace HB := Lib.hid (below_call HB.out hb)
      clear hb
      go_wp2_with fail
      refine (log_bad HM.out _ (HT.out.next HB.out)).mono ?_
      rintro e w2 ⟨rfl, hb⟩
      replace HB := Lib.hid (below_call HB.out hb)
      clear hb
      go_wp2_with fail
      refine (rlog_at2 HM.out HS.out HSX.out _).mono ?_
      rintro e w3 ⟨rfl, rfl⟩
      go_wp2_with fail
      go_roundw
      case rel => exact ⟨k + 1, by omega, by go_num, HB.out⟩
      case measure => simp [intOf]; omega
    · go_wp2_with fail
      go_ret
      exact ⟨rfl, HB.out⟩

/-! ### the frame: the arguments opened and shut -/
theorem contract_FieldLogarithms (H : Type) (enc : TypeId × Value → H) (W : World) (base : Nat) (args : Array Value) (ds gs : List (DataW H)) (before : List MemPlace)
    (hval0 : ∀ (j : Nat) t v, Tryd.f8.params[j]? = some t → args[j]? = some v → Value.okWide Tryd.prog W .any base t v)
    (hW : DataW.Whole enc Tryd.prog Tryd.f8.params.toList Rows.fieldLogarithmsSpec.vars false W args.toList ds gs before) (hL : laidMetH Tryd.prog Rows.fieldLogarithmsRow.laid W) :
    Calls Tryd.prog 8 args W fun e W' => ∃ v, e = .returned v ∧ Rows.fieldLogarithmsSpec.post enc Tryd.prog Tryd.f8 false true false false W args v W' := by
  have hval : ∀ (j : Nat) t v, Tryd.f8.params[j]? = some t → args[j]? = some v → Value.okWide Tryd.prog W .any base t v := hval0
  have hW' := hW
  obtain ⟨p, q, hA0, hV, rfl, hfz, hnd⟩ := hW
  have hA : DataW.TrodAll enc Tryd.prog W 0 (fun _ => true) true Tryd.f8.params.toList args.toList ds p := hA0
  rw [Tryd.params8] at hA hval
  obtain ⟨v0, vs0, d0, ds0, p0, q0, hargs, rfl, rfl, h0, r0⟩ := trodAll_cons hA
  obtain ⟨v1, vs1, d1, ds1, p1, q1, rfl, rfl, rfl, h1, r1⟩ := trodAll_cons r0
  obtain ⟨rfl, rfl, rfl⟩ := trodAll_nil r1
  obtain rfl : args = #[v0, v1] := by cases args; simp_all
  obtain ⟨rfl, rfl⟩ := trodVars_none hV
  have k0 := h0
  have lt0 : ∀ x ∈ p0, x.block < W.heap.size := by obtain ⟨m, hm⟩ := k0; exact DataW.trod_lt m _ _ _ hm
  have k1 := h1
  have lt1 : ∀ x ∈ p1, x.block < W.heap.size := by obtain ⟨m, hm⟩ := k1; exact DataW.trod_lt m _ _ _ hm
  obtain ⟨n0, rfl, rfl, rfl, w0⟩ := open_int Tryd.underlying33 (hval 0 33 v0 rfl rfl) h0
  obtain ⟨n1, rfl, rfl, rfl, w1⟩ := open_int Tryd.underlying33 (hval 1 33 v1 rfl rfl) h1
  refine (walk_FieldLogarithms n0 n1 W (wf_u16 w0).1 (wf_u16 w0).2 (wf_u16 w1).1 (wf_u16 w1).2 (tab_of hL)).mono fun e W' ⟨he, bel⟩ => ?_
  subst he
  exact ⟨_, rfl, _, _, _, [], _, [], hW', trodAll_mk1 (shut_bool Tryd.underlying4 _), (trodAll_cons_mk (Below.trod laidOut (by kernel_rfl) (of_decide_eq_true (by kernel_rfl)) k0 bel lt0) (trodAll_cons_mk (Below.trod laidOut (by kernel_rfl) (of_decide_eq_true (by kernel_rfl)) k1 bel lt1) trodAll_mk0)), rfl, bel.frame _, fun h => by cases h⟩
theorem laid_FieldLogarithms (os : Os) : laidMet Tryd.prog Rows.fieldLogarithmsRow.laid ((laidWorld os).forCall (fun _ _ => 0) ⟨#[], #[.int .u16 0, .int .u16 0], []⟩).memory :=
  laidMet_of_run' 8 (by kernel_rfl) (by kernel_rfl)
theorem reads_FieldLogarithms (os : Os) {H : Type} (enc : TypeId × Value → H) : ∃ places, DataW.whole enc Tryd.prog ((laidWorld os).forCall (fun _ _ => 0) ⟨#[], #[.int .u16 0, .int .u16 0], []⟩).memory Tryd.f8.params.toList Rows.fieldLogarithmsSpec.vars false (#[.int .u16 0, .int .u16 0] : Array Value).toList 8 = some ([.lit (.int .u16 0), .lit (.int .u16 0)], [], places) :=
  ⟨[], by kernel_rfl⟩
set_option maxRecDepth 100000 in
theorem lifted_FieldLogarithms (os : Os) (started : os.Started) (H : Type) (enc : TypeId × Value → H) (F : Stop.Interp) :
    ReturnsInHanded {} Tryd.checked os 8 .any ((OpenSpec.ofChange Rows.fieldLogarithmsSpec).preRow enc Tryd.prog Tryd.f8 Rows.fieldLogarithmsRow.domain false Rows.fieldLogarithmsRow.laid) (((OpenSpec.ofChange Rows.fieldLogarithmsSpec).at F).post enc Tryd.prog Tryd.f8 false true false false) := by
  obtain ⟨places, hx⟩ := reads_FieldLogarithms os enc
  refine returnsInHanded_of_row (C := Tryd.checked) (s := OpenSpec.ofChange Rows.fieldLogarithmsSpec) own started (by kernel_rfl) Tryd.func8
    (witness_row_at (enc := enc) (C := Tryd.checked) false (laidWorld os) #[.int .u16 0, .int .u16 0] rfl (by kernel_rfl) (by kernel_rfl) (by kernel_rfl)
      (OpenSpec.preRow_of_cond 8 hx (by kernel_rfl) (fun k hk => by cases hk) (by kernel_rfl) (laid_FieldLogarithms os))) ?_
  intro W base args ds gs before hval hW _ hcond _ hL _ _
  exact contract_FieldLogarithms H enc W base args ds gs before hval hW hL

theorem said_FieldLogarithms : Rows.FieldLogarithmsSaid :=
  OpenClaim.holds_of_cond 8 Tryd.f8 rfl rfl rfl rfl rfl rfl rfl ⟨rfl, rfl, rfl, rfl, rfl⟩ rfl rfl rfl rfl rfl (by kernel_rfl) Tryd.func8 (by kernel_rfl)
    (of_decide_eq_true (by kernel_rfl)) (by unfold Func.isWrapper; first | (rw [if_pos (by decide +kernel)]; kernel_rfl) | (rw [if_neg (by decide +kernel)]; exact ⟨rfl, rfl⟩))
    (fun os started H enc _ F => by rw [OpenClaim.pre_eq_preRow]; exact lifted_FieldLogarithms os started H enc F)
theorem plain_FieldLogarithms (f : FuncId) (fn : Func) (hf : Tryd.pinned.checked.prog.funcNamed "solvent/solventlaw05.FieldLogarithms" = some f) (hfn : Tryd.pinned.checked.prog.funcs[f]? = some fn) :
    false = Tryd.pinned.checked.prog.looks [] ∧ ∀ (j : Nat) t, fn.params[j]? = some t → Tryd.pinned.checked.prog.wantsStandIn t = false := by
  obtain rfl : f = 8 := Option.some.inj ((show Tryd.prog.funcNamed "solvent/solventlaw05.FieldLogarithms" = some 8 by kernel_rfl).symm.trans hf) |>.symm
  obtain rfl : fn = Tryd.f8 := (Option.some.inj (Tryd.func8.symm.trans hfn)).symm
  refine ⟨by kernel_rfl, fun j t ht => ?_⟩
  rw [Tryd.params8] at ht
  have hm := Array.mem_of_getElem? ht
  simp only [List.mem_toArray, List.mem_cons, List.not_mem_nil, or_false, or_self] at hm
  subst hm
  exact (show Tryd.prog.wantsStandIn 33 = false by kernel_rfl)
theorem proved_FieldLogarithms : Rows.FieldLogarithmsCardSaid :=
  Claim7.holds_tied_plain_at .later [] _ _ _ _ said_FieldLogarithms (fun _ h => by cases h) (by kernel_rfl) (fun _ h => by cases h) fieldLogarithms_row_tie rfl ⟨rfl, rfl⟩ (by kernel_rfl) rfl plain_FieldLogarithms (by kernel_rfl)
end Go.Proofs.YtdmcdgpigpekhaaDoor
