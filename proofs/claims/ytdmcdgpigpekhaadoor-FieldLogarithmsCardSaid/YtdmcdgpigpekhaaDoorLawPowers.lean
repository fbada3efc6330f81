/- FieldPowers: for all elements other than 0 and all exponents the law returns true, and its arguments read as they did. No condition beyond the table's tie. -/
import Derived.Test.YtdmcdgpigpekhaaDoorLawAxioms
import Derived.Test.YtdmcdgpigpekhaaDoorFldP
namespace Go.Proofs.YtdmcdgpigpekhaaDoor
set_option linter.unusedSimpArgs false
set_option linter.unusedVariables false
open Go.ChangeShapes Go.WideShapes Go.ChangeAt Go.RowKit Go.Lib

theorem fpow_at {m : Nat} (hm : Fld.IsM m) {x z : Nat} (hx : x < 2 ^ m) (h0 : x ≠ 0) (n : Int) (hz : powI m x n = z) (hn1 : -9223372036854775808 ≤ n) (hn2 : n ≤ 9223372036854775807) (w : World) (ht : Tab w) :
    Calls Tryd.prog 20 #[.int .i64 (m : Int), .int .i64 (x : Int), .int .i64 n] w fun e w' => e = .returned (.tuple #[.int .i64 (z : Int), .int .i64 0]) ∧ Below w.heap.size w w' := by
  subst hz
  have h := fpow_any (m : Int) (x : Int) n w ht hn1 hn2
  rw [(powX_at hm hx h0 n).1, (powX_at hm hx h0 n).2] at h
  exact h
theorem finv_at {m : Nat} (hm : Fld.IsM m) {x z : Nat} (hx : x < 2 ^ m) (h0 : x ≠ 0) (hz : Fld.inv m x = z) (w : World) (ht : Tab w) :
    Calls Tryd.prog 21 #[.int .i64 (m : Int), .int .i64 (x : Int)] w fun e w' => e = .returned (.tuple #[.int .i64 (z : Int), .int .i64 0]) ∧ Below w.heap.size w w' := by
  subst hz
  have h := finv_any (m : Int) (x : Int) w ht
  have hb := allB_one hm hx
  rw [show invX (m : Int) (x : Int) = (Fld.inv m x : Int) by unfold invX; rw [if_pos ⟨hb, by omega⟩]; rfl, show invE (m : Int) (x : Int) = 0 by unfold invE; rw [if_pos hb, if_neg (by omega)]] at h
  exact h
/-- the number of elements other than 0, and one of these -/
theorem elem_at {m : Nat} (hm : Fld.IsM m) {a : Int} (ha : 0 ≤ a) : ∃ (q : Int) (x : Nat), (2 : Int) ^ m - 1 = q ∧ 0 < q ∧ q ≤ 65535 ∧ q = (Fld.q m : Int) ∧ 1 + a % q = (x : Int) ∧ x < 2 ^ m ∧ x ≠ 0 ∧ x ≤ 65535 := by
  obtain ⟨h1, h2⟩ := q_int hm
  obtain ⟨p1, p2⟩ := pow_pos_le hm
  have h3 := Int.emod_nonneg a (show ((2 : Int) ^ m - 1) ≠ 0 by omega)
  have h4 := Int.emod_lt_of_pos a (show 0 < (2 : Int) ^ m - 1 by omega)
  refine ⟨(2 : Int) ^ m - 1, (1 + a % ((2 : Int) ^ m - 1)).toNat, rfl, by omega, by omega, h1, by omega, ?_, by omega, by omega⟩
  have : (((1 + a % ((2 : Int) ^ m - 1)).toNat : Nat) : Int) < ((2 ^ m : Nat) : Int) := by
    rw [Int.toNat_of_nonneg (by omega), Int.natCast_pow]
    show _ < (2 : Int) ^ m
    omega
  exact_mod_cast this
set_option maxRecDepth 100000 in
set_option maxHeartbeats 12800000 in
theorem walk_FieldPowers (a i j : Int) (w : World) (ha1 : 0 ≤ a) (ha2 : a ≤ 65535) (hi1 : -2147483648 ≤ i) (hi2 : i ≤ 2147483647) (hj1 : -2147483648 ≤ j) (hj2 : j ≤ 2147483647) (ht : Tab w) :
    Calls Tryd.prog 6 #[.int .u16 a, .int .i32 i, .int .i32 j] w fun e w' => e = .returned (.bool true) ∧ Below w.heap.size w w' := by
  have HT := Lib.hid ht
  clear ht
  go_enter Tryd.func6, Tryd.ntmps6
  go_wp2_with fail
  refine (sanity_any _ HT.out).mono ?_
  rintro e w1 ⟨rfl, hb⟩
  have HB0 := Lib.hid hb
  clear hb
  go_wp2_with fail
  go_loopw [8] (fun i wr => ∃ k : Nat, k ≤ 2 ∧ i = .int .i64 k ∧ Below w.heap.size w wr) (fun i _ => 2 - (intOf i).toNat)
  case atStart => exact ⟨0, by omega, rfl, HB0.out⟩
  case round =>
    obtain ⟨k, hk, rfl, hbel⟩ := hrel
    have HB := Lib.hid hbel
    clear hbel
    by_cases hlt : k < 2
    · obtain ⟨M, hM⟩ : ∃ M : Nat, 8 + 8 * k = M := ⟨_, rfl⟩
      have hMi : 8 + 8 * (k : Int) = (M : Int) := by omega
      have HM := Lib.hid (show Fld.IsM M by rw [← hM]; rcases (show k = 0 ∨ k = 1 by omega) with rfl | rfl; exact .inl rfl; exact .inr rfl)
      have hm16 := m_le HM.out
      have hw := wrap_pow HM.out
      obtain ⟨p1, p2⟩ := pow_pos_le HM.out
      obtain ⟨q, X, hq, hq0, hq6, hqq, hX, hx, hx0, hx6⟩ := elem_at HM.out ha1
      have HX := Lib.hid hx
      have HX0 := Lib.hid hx0
      obtain ⟨U, h1⟩ : ∃ v, powI M X i = v := ⟨_, rfl⟩
      obtain ⟨V, h2⟩ : ∃ v, powI M X j = v := ⟨_, rfl⟩
      obtain ⟨W, h3⟩ : ∃ v, powI M X (i + j) = v := ⟨_, rfl⟩
      obtain ⟨R, h4⟩ : ∃ v, powI M X (-i) = v := ⟨_, rfl⟩
      have HUV := Lib.hid (show Fld.mul M U V = W by rw [← h1, ← h2, ← h3]; exact powI_add HM.out hx hx0 i j)
      have HONE := Lib.hid (show powI M X q = 1 by rw [← hq]; exact powI_q HM.out)
      have HRI := Lib.hid (show Fld.inv M U = R by rw [← h1, ← h4]; exact (powI_neg HM.out hx hx0 i).symm)
      have LU := Lib.hid (show U < 2 ^ M by rw [← h1]; exact powI_lt HM.out hx _)
      have LV := Lib.hid (show V < 2 ^ M by rw [← h2]; exact powI_lt HM.out hx _)
      have NU := Lib.hid (show U ≠ 0 by rw [← h1]; exact powI_ne HM.out hx hx0 i)
      have H1 := Lib.hid h1
      have H2 := Lib.hid h2
      have H3 := Lib.hid h3
      have H4 := Lib.hid h4
      have HMM := Lib.hid hM
      clear hx hx0 h1 h2 h3 h4 hM hqq
      go_wp2_with fail
      refine (fpow_at HM.out HX.out HX0.out i H1.out (by omega) (by omega) _ (HT.out.next HB.out)).mono ?_
      rintro e w2 ⟨rfl, hb⟩
      replace HB := Lib.hid (below_call HB.out hb)
      clear hb
      go_wp2_with fail
      refine (fpow_at HM.out HX.out HX0.out j H2.out (by omega) (by omega) _ (HT.out.next HB.out)).mono ?_
      rintro e w2 ⟨rfl, hb⟩
      replace HB := Lib.hid (below_call HB.out hb)
      clear hb
      go_wp2_with fail
      refine (fpow_at HM.out HX.out HX0.out (i + j) H3.out (by omega) (by omega) _ (HT.out.next HB.out)).mono ?_
      rintro e w2 ⟨rfl, hb⟩
      replace HB := Lib.hid (below_call HB.out hb)
      clear hb
      go_wp2_with fail
      refine (fmul_at HM.out LU.out LV.out HUV.out _ (HT.out.next HB.out)).mono ?_
      rintro e w2 ⟨rfl, hb⟩
      replace HB := Lib.hid (below_call HB.out hb)
      clear hb
      go_wp2_with fail
      refine (fpow_at HM.out HX.out HX0.out q HONE.out (by omega) (by omega) _ (HT.out.next HB.out)).mono ?_
      rintro e w2 ⟨rfl, hb⟩
      replace HB := Lib.hid (below_call HB.out hb)
      clear hb
      go_wp2_with fail
      refine (fpow_at HM.out HX.out HX0.out (-i) H4.out (by omega) (by omega) _ (HT.out.next HB.out)).mono ?_
      rintro e w2 ⟨rfl, hb⟩
      replace HB := Lib.hid (below_call HB.out hb)
      clear hb
      go_wp2_with fail
      refine (finv_at HM.out LU.out NU.out HRI.out _ (HT.out.next HB.out)).mono ?_
      rintro e w2 ⟨rfl, hb⟩
      replace HB := Lib.hid (below_call HB.out hb)
      clear hb
      go_wp2_with fail
      go_roundw
      case rel => exact ⟨k + 1, by omega, by go_num, HB.out⟩
      case measure => simp [intOf]; omega
    · go_wp2_with fail
      go_ret
      exact ⟨rfl, HB.out⟩

/-! ### the frame: the arguments opened and shut -/
theorem contract_FieldPowers (H : Type) (enc : TypeId × Value → H) (W : World) (base : Nat) (args : Array Value) (ds gs : List (DataW H)) (before : List MemPlace)
    (hval0 : ∀ (j : Nat) t v, Tryd.f6.params[j]? = some t → args[j]? = some v → Value.okWide Tryd.prog W .any base t v)
    (hW : DataW.Whole enc Tryd.prog Tryd.f6.params.toList Rows.fieldPowersSpec.vars false W args.toList ds gs before) (hL : laidMetH Tryd.prog Rows.fieldPowersRow.laid W) :
    Calls Tryd.prog 6 args W fun e W' => ∃ v, e = .returned v ∧ Rows.fieldPowersSpec.post enc Tryd.prog Tryd.f6 false true false false W args v W' := by
  have hval : ∀ (j : Nat) t v, Tryd.f6.params[j]? = some t → args[j]? = some v → Value.okWide Tryd.prog W .any base t v := hval0
  have hW' := hW
  obtain ⟨p, q, hA0, hV, rfl, hfz, hnd⟩ := hW
  have hA : DataW.TrodAll enc Tryd.prog W 0 (fun _ => true) true Tryd.f6.params.toList args.toList ds p := hA0
  rw [Tryd.params6] at hA hval
  obtain ⟨v0, vs0, d0, ds0, p0, q0, hargs, rfl, rfl, h0, r0⟩ := trodAll_cons hA
  obtain ⟨v1, vs1, d1, ds1, p1, q1, rfl, rfl, rfl, h1, r1⟩ := trodAll_cons r0
  obtain ⟨v2, vs2, d2, ds2, p2, q2, rfl, rfl, rfl, h2, r2⟩ := trodAll_cons r1
  obtain ⟨rfl, rfl, rfl⟩ := trodAll_nil r2
  obtain rfl : args = #[v0, v1, v2] := by cases args; simp_all
  obtain ⟨rfl, rfl⟩ := trodVars_none hV
  have k0 := h0
  have lt0 : ∀ x ∈ p0, x.block < W.heap.size := by obtain ⟨m, hm⟩ := k0; exact DataW.trod_lt m _ _ _ hm
  have k1 := h1
  have lt1 : ∀ x ∈ p1, x.block < W.heap.size := by obtain ⟨m, hm⟩ := k1; exact DataW.trod_lt m _ _ _ hm
  have k2 := h2
  have lt2 : ∀ x ∈ p2, x.block < W.heap.size := by obtain ⟨m, hm⟩ := k2; exact DataW.trod_lt m _ _ _ hm
  obtain ⟨n0, rfl, rfl, rfl, w0⟩ := open_int Tryd.underlying33 (hval 0 33 v0 rfl rfl) h0
  obtain ⟨n1, rfl, rfl, rfl, w1⟩ := open_int Tryd.underlying21 (hval 1 21 v1 rfl rfl) h1
  obtain ⟨n2, rfl, rfl, rfl, w2⟩ := open_int Tryd.underlying21 (hval 2 21 v2 rfl rfl) h2
  refine (walk_FieldPowers n0 n1 n2 W (wf_u16 w0).1 (wf_u16 w0).2 (wf_i32 w1).1 (wf_i32 w1).2 (wf_i32 w2).1 (wf_i32 w2).2 (tab_of hL)).mono fun e W' ⟨he, bel⟩ => ?_
  subst he
  exact ⟨_, rfl, _, _, _, [], _, [], hW', trodAll_mk1 (shut_bool Tryd.underlying4 _), (trodAll_cons_mk (Below.trod laidOut (by kernel_rfl) (of_decide_eq_true (by kernel_rfl)) k0 bel lt0) (trodAll_cons_mk (Below.trod laidOut (by kernel_rfl) (of_decide_eq_true (by kernel_rfl)) k1 bel lt1) (trodAll_cons_mk (Below.trod laidOut (by kernel_rfl) (of_decide_eq_true (by kernel_rfl)) k2 bel lt2) trodAll_mk0))), rfl, bel.frame _, fun h => by cases h⟩
theorem laid_FieldPowers (os : Os) : laidMet Tryd.prog Rows.fieldPowersRow.laid ((laidWorld os).forCall (fun _ _ => 0) ⟨#[], #[.int .u16 0, .int .i32 0, .int .i32 0], []⟩).memory :=
  laidMet_of_run' 8 (by kernel_rfl) (by kernel_rfl)
theorem reads_FieldPowers (os : Os) {H : Type} (enc : TypeId × Value → H) : ∃ places, DataW.whole enc Tryd.prog ((laidWorld os).forCall (fun _ _ => 0) ⟨#[], #[.int .u16 0, .int .i32 0, .int .i32 0], []⟩).memory Tryd.f6.params.toList Rows.fieldPowersSpec.vars false (#[.int .u16 0, .int .i32 0, .int .i32 0] : Array Value).toList 8 = some ([.lit (.int .u16 0), .lit (.int .i32 0), .lit (.int .i32 0)], [], places) :=
  ⟨[], by kernel_rfl⟩
set_option maxRecDepth 100000 in
theorem lifted_FieldPowers (os : Os) (started : os.Started) (H : Type) (enc : TypeId × Value → H) (F : Stop.Interp) :
    ReturnsInHanded {} Tryd.checked os 6 .any ((OpenSpec.ofChange Rows.fieldPowersSpec).preRow enc Tryd.prog Tryd.f6 Rows.fieldPowersRow.domain false Rows.fieldPowersRow.laid) (((OpenSpec.ofChange Rows.fieldPowersSpec).at F).post enc Tryd.prog Tryd.f6 false true false false) := by
  obtain ⟨places, hx⟩ := reads_FieldPowers os enc
  refine returnsInHanded_of_row (C := Tryd.checked) (s := OpenSpec.ofChange Rows.fieldPowersSpec) own started (by kernel_rfl) Tryd.func6
    (witness_row_at (enc := enc) (C := Tryd.checked) false (laidWorld os) #[.int .u16 0, .int .i32 0, .int .i32 0] rfl (by kernel_rfl) (by kernel_rfl) (by kernel_rfl)
      (OpenSpec.preRow_of_cond 8 hx (by kernel_rfl) (fun k hk => by cases hk) (by kernel_rfl) (laid_FieldPowers os))) ?_
  intro W base args ds gs before hval hW _ hcond _ hL _ _
  exact contract_FieldPowers H enc W base args ds gs before hval hW hL

theorem said_FieldPowers : Rows.FieldPowersSaid :=
  OpenClaim.holds_of_cond 6 Tryd.f6 rfl rfl rfl rfl rfl rfl rfl ⟨rfl, rfl, rfl, rfl, rfl⟩ rfl rfl rfl rfl rfl (by kernel_rfl) Tryd.func6 (by kernel_rfl)
    (of_decide_eq_true (by kernel_rfl)) (by unfold Func.isWrapper; first | (rw [if_pos (by decide +kernel)]; kernel_rfl) | (rw [if_neg (by decide +kernel)]; exact ⟨rfl, rfl⟩))
    (fun os started H enc _ F => by rw [OpenClaim.pre_eq_preRow]; exact lifted_FieldPowers os started H enc F)
theorem plain_FieldPowers (f : FuncId) (fn : Func) (hf : Tryd.pinned.checked.prog.funcNamed "solvent/solventlaw05.FieldPowers" = some f) (hfn : Tryd.pinned.checked.prog.funcs[f]? = some fn) :
    false = Tryd.pinned.checked.prog.looks [] ∧ ∀ (j : Nat) t, fn.params[j]? = some t → Tryd.pinned.checked.prog.wantsStandIn t = false := by
  obtain rfl : f = 6 := Option.some.inj ((show Tryd.prog.funcNamed "solvent/solventlaw05.FieldPowers" = some 6 by kernel_rfl).symm.trans hf) |>.symm
  obtain rfl : fn = Tryd.f6 := (Option.some.inj (Tryd.func6.symm.trans hfn)).symm
  refine ⟨by kernel_rfl, fun j t ht => ?_⟩
  rw [Tryd.params6] at ht
  have hm := Array.mem_of_getElem? ht
  simp only [List.mem_toArray, List.mem_cons, List.not_mem_nil, or_false, or_self] at hm
  rcases hm with rfl | rfl | rfl
  all_goals first | exact (show Tryd.prog.wantsStandIn 33 = false by kernel_rfl) | exact (show Tryd.prog.wantsStandIn 21 = false by kernel_rfl)
theorem proved_FieldPowers : Rows.FieldPowersCardSaid :=
  Claim7.holds_tied_plain_at .later [] _ _ _ _ said_FieldPowers (fun _ h => by cases h) (by kernel_rfl) (fun _ h => by cases h) fieldPowers_row_tie rfl ⟨rfl, rfl⟩ (by kernel_rfl) rfl plain_FieldPowers (by kernel_rfl)
end Go.Proofs.YtdmcdgpigpekhaaDoor
