/- FieldAxioms: for all elements the law returns true, and its arguments read as they did. No condition beyond the table's tie. -/
import Derived.Test.YtdmcdgpigpekhaaDoorG17
import Derived.Test.YtdmcdgpigpekhaaDoorFldT
namespace Go.Proofs.YtdmcdgpigpekhaaDoor
set_option linter.unusedSimpArgs false
set_option linter.unusedVariables false
open Go.ChangeShapes Go.WideShapes Go.ChangeAt Go.RowKit Go.Lib

theorem fmul_at {m : Nat} (hm : Fld.IsM m) {x y z : Nat} (hx : x < 2 ^ m) (hy : y < 2 ^ m) (hz : Fld.mul m x y = z) (w : World) (ht : Tab w) :
    Calls Tryd.prog 17 #[.int .i64 (m : Int), .int .i64 (x : Int), .int .i64 (y : Int)] w fun e w' => e = .returned (.tuple #[.int .i64 (z : Int), .int .i64 0]) ∧ Below w.heap.size w w' := by
  subst hz; exact fmul_yes m x y hm hx hy w ht
theorem fmul_one {m : Nat} (hm : Fld.IsM m) {x : Nat} (hx : x < 2 ^ m) (w : World) (ht : Tab w) :
    Calls Tryd.prog 17 #[.int .i64 (m : Int), .int .i64 (x : Int), .int .i64 1] w fun e w' => e = .returned (.tuple #[.int .i64 (x : Int), .int .i64 0]) ∧ Below w.heap.size w w' := by
  have h := fmul_yes m x 1 hm hx (Fld.one_lt hm) w ht
  rw [Fld.mul_one hm] at h
  exact h
theorem fadd_at {m : Nat} (hm : Fld.IsM m) {x y z : Nat} (hx : x < 2 ^ m) (hy : y < 2 ^ m) (hz : x ^^^ y = z) (w : World) (ht : Tab w) :
    Calls Tryd.prog 18 #[.int .i64 (m : Int), .int .i64 (x : Int), .int .i64 (y : Int)] w fun e w' => e = .returned (.tuple #[.int .i64 (z : Int), .int .i64 0]) ∧ Below w.heap.size w w' := by
  subst hz; exact fadd_yes m x y hm hx hy w ht
theorem fadd_self {m : Nat} (hm : Fld.IsM m) {x : Nat} (hx : x < 2 ^ m) (w : World) (ht : Tab w) :
    Calls Tryd.prog 18 #[.int .i64 (m : Int), .int .i64 (x : Int), .int .i64 (x : Int)] w fun e w' => e = .returned (.tuple #[.int .i64 0, .int .i64 0]) ∧ Below w.heap.size w w' := by
  have h := fadd_yes m x x hm hx hx w ht
  rw [Nat.xor_self] at h
  exact h
theorem fdiv_zero {m : Nat} (hm : Fld.IsM m) {x : Nat} (hx : x < 2 ^ m) (w : World) (ht : Tab w) :
    Calls Tryd.prog 19 #[.int .i64 (m : Int), .int .i64 (x : Int), .int .i64 0] w fun e w' => e = .returned (.tuple #[.int .i64 0, .int .i64 12]) ∧ Below w.heap.size w w' := by
  have h := fdiv_any (m : Int) (x : Int) 0 w ht
  have hb := allB_two hm hx (Nat.two_pow_pos m)
  rw [show divX (m : Int) (x : Int) 0 = 0 by unfold divX; rw [if_neg (by simp)], show divE (m : Int) (x : Int) 0 = 12 by unfold divE; rw [show ((0 : Int)) = ((0 : Nat) : Int) from rfl, hb]; rfl] at h
  exact h
theorem fdiv_back {m : Nat} (hm : Fld.IsM m) {x y z : Nat} (hx : x < 2 ^ m) (hy : y < 2 ^ m) (h0 : y ≠ 0) (hz : Fld.mul m x y = z) (w : World) (ht : Tab w) :
    Calls Tryd.prog 19 #[.int .i64 (m : Int), .int .i64 (z : Int), .int .i64 (y : Int)] w fun e w' => e = .returned (.tuple #[.int .i64 (x : Int), .int .i64 0]) ∧ Below w.heap.size w w' := by
  subst hz
  have h := fdiv_any (m : Int) (Fld.mul m x y : Int) (y : Int) w ht
  have hb := allB_two hm (Fld.mul_lt hm y hx) hy
  have hi := Fld.inv_lt hm hy
  rw [show divX (m : Int) (Fld.mul m x y : Int) (y : Int) = (x : Int) by
        unfold divX
        rw [if_pos ⟨hb, by omega⟩, Int.toNat_natCast, Int.toNat_natCast, Int.toNat_natCast, Fld.mul_assoc hm hx hy hi, Fld.mul_inv hm hy h0, Fld.mul_one hm],
      show divE (m : Int) (Fld.mul m x y : Int) (y : Int) = 0 by unfold divE; rw [if_pos hb, if_neg (by omega)]] at h
  exact h
theorem pow_pos_le {m : Nat} (hm : Fld.IsM m) : (0 : Int) < 2 ^ m ∧ (2 : Int) ^ m ≤ 65536 := by rcases hm with rfl | rfl <;> decide
theorem rem_at {m : Nat} (hm : Fld.IsM m) {a : Int} (ha : 0 ≤ a) : ∃ x : Nat, a % 2 ^ m = (x : Int) ∧ x < 2 ^ m := by
  obtain ⟨h1, _⟩ := pow_pos_le hm
  have h2 := Int.emod_nonneg a (show (2 : Int) ^ m ≠ 0 by omega)
  have h3 := Int.emod_lt_of_pos a h1
  refine ⟨(a % 2 ^ m).toNat, by omega, ?_⟩
  have : (((a % 2 ^ m).toNat : Nat) : Int) < ((2 ^ m : Nat) : Int) := by rw [Int.toNat_of_nonneg h2]; exact_mod_cast h3
  exact_mod_cast this
set_option maxRecDepth 100000 in
set_option maxHeartbeats 12800000 in
theorem walk_FieldAxioms (a b c : Int) (w : World) (ha1 : 0 ≤ a) (ha2 : a ≤ 65535) (hb1 : 0 ≤ b) (hb2 : b ≤ 65535) (hc1 : 0 ≤ c) (hc2 : c ≤ 65535) (ht : Tab w) :
    Calls Tryd.prog 5 #[.int .u16 a, .int .u16 b, .int .u16 c] w fun e w' => e = .returned (.bool true) ∧ Below w.heap.size w w' := by
  have HT := Lib.hid ht
  clear ht
  go_enter Tryd.func5, Tryd.ntmps5
  go_wp2_with fail
  refine (sanity_any _ HT.out).mono ?_
  rintro e w1 ⟨rfl, hb⟩
  have HB0 := Lib.hid hb
  clear hb
  go_wp2_with fail
  go_loopw [8] (fun i wr => ∃ k : Nat, k ≤ 2 ∧ i = .int .i64 k ∧ Below w.heap.size w wr) (fun i _ => 2 - (intOf i).toNat)
  case atStart => exact ⟨0, by omega, rfl, HB0.out⟩
  case round =>
    obtain ⟨k, hk, rfl, hbel⟩ := hrel
    have HB := Lib.hid hbel
    clear hbel
    by_cases hlt : k < 2
    · obtain ⟨M, hM⟩ : ∃ M : Nat, 8 + 8 * k = M := ⟨_, rfl⟩
      have hMi : 8 + 8 * (k : Int) = (M : Int) := by omega
      have HM := Lib.hid (show Fld.IsM M by rw [← hM]; rcases (show k = 0 ∨ k = 1 by omega) with rfl | rfl; exact .inl rfl; exact .inr rfl)
      have hm16 := m_le HM.out
      have hw := wrap_pow HM.out
      obtain ⟨p1, p2⟩ := pow_pos_le HM.out
      obtain ⟨X, hX, hx⟩ := rem_at HM.out ha1
      obtain ⟨Y, hY, hy⟩ := rem_at HM.out hb1
      obtain ⟨Z, hZ, hz⟩ := rem_at HM.out hc1
      have HX := Lib.hid hx
      have HY := Lib.hid hy
      have HZ := Lib.hid hz
      obtain ⟨XY, h1⟩ : ∃ v, Fld.mul M X Y = v := ⟨_, rfl⟩
      obtain ⟨YZ, h2⟩ : ∃ v, Fld.mul M Y Z = v := ⟨_, rfl⟩
      obtain ⟨L, h3⟩ : ∃ v, Fld.mul M XY Z = v := ⟨_, rfl⟩
      obtain ⟨S, h4⟩ : ∃ v, Y ^^^ Z = v := ⟨_, rfl⟩
      obtain ⟨XZ, h5⟩ : ∃ v, Fld.mul M X Z = v := ⟨_, rfl⟩
      obtain ⟨T, h6⟩ : ∃ v, XY ^^^ XZ = v := ⟨_, rfl⟩
      have HYX := Lib.hid (show Fld.mul M Y X = XY by rw [← h1, Fld.mul_comm HM.out hy hx])
      have HR := Lib.hid (show Fld.mul M X YZ = L by rw [← h3, ← h1, ← h2, Fld.mul_assoc HM.out hx hy hz])
      have HXS := Lib.hid (show Fld.mul M X S = T by rw [← h4, Fld.mul_right, h1, h5, h6])
      have L1 := Lib.hid (show XY < 2 ^ M by rw [← h1]; exact Fld.mul_lt HM.out _ hx)
      have L2 := Lib.hid (show YZ < 2 ^ M by rw [← h2]; exact Fld.mul_lt HM.out _ hy)
      have L4 := Lib.hid (show S < 2 ^ M by rw [← h4]; exact Nat.xor_lt_two_pow hy hz)
      have L5 := Lib.hid (show XZ < 2 ^ M by rw [← h5]; exact Fld.mul_lt HM.out _ hx)
      have H1 := Lib.hid h1
      have H2 := Lib.hid h2
      have H3 := Lib.hid h3
      have H4 := Lib.hid h4
      have H5 := Lib.hid h5
      have H6 := Lib.hid h6
      have HMM := Lib.hid hM
      clear hx hy hz h1 h2 h3 h4 h5 h6 hM
      go_wp2_with fail
      refine (fmul_at HM.out HX.out HY.out H1.out _ (HT.out.next HB.out)).mono ?_
      rintro e w2 ⟨rfl, hb⟩
      replace HB := Lib.hid (below_call HB.out hb)
      clear hb
      go_wp2_with fail
      refine (fmul_at HM.out HY.out HX.out HYX.out _ (HT.out.next HB.out)).mono ?_
      rintro e w2 ⟨rfl, hb⟩
      replace HB := Lib.hid (below_call HB.out hb)
      clear hb
      go_wp2_with fail
      refine (fmul_at HM.out HY.out HZ.out H2.out _ (HT.out.next HB.out)).mono ?_
      rintro e w2 ⟨rfl, hb⟩
      replace HB := Lib.hid (below_call HB.out hb)
      clear hb
      clear hX hY hZ hw hMi
      go_wp2_with fail
      refine (fmul_at HM.out L1.out HZ.out H3.out _ (HT.out.next HB.out)).mono ?_
      rintro e w2 ⟨rfl, hb⟩
      replace HB := Lib.hid (below_call HB.out hb)
      clear hb
      go_wp2_with fail
      refine (fmul_at HM.out HX.out L2.out HR.out _ (HT.out.next HB.out)).mono ?_
      rintro e w2 ⟨rfl, hb⟩
      replace HB := Lib.hid (below_call HB.out hb)
      clear hb
      go_wp2_with fail
      refine (fadd_at HM.out HY.out HZ.out H4.out _ (HT.out.next HB.out)).mono ?_
      rintro e w2 ⟨rfl, hb⟩
      replace HB := Lib.hid (below_call HB.out hb)
      clear hb
      go_wp2_with fail
      refine (fmul_at HM.out HX.out L4.out HXS.out _ (HT.out.next HB.out)).mono ?_
      rintro e w2 ⟨rfl, hb⟩
      replace HB := Lib.hid (below_call HB.out hb)
      clear hb
      go_wp2_with fail
      refine (fmul_at HM.out HX.out HZ.out H5.out _ (HT.out.next HB.out)).mono ?_
      rintro e w2 ⟨rfl, hb⟩
      replace HB := Lib.hid (below_call HB.out hb)
      clear hb
      go_wp2_with fail
      refine (fadd_at HM.out L1.out L5.out H6.out _ (HT.out.next HB.out)).mono ?_
      rintro e w2 ⟨rfl, hb⟩
      replace HB := Lib.hid (below_call HB.out hb)
      clear hb
      go_wp2_with fail
      refine (fmul_one HM.out HX.out _ (HT.out.next HB.out)).mono ?_
      rintro e w2 ⟨rfl, hb⟩
      replace HB := Lib.hid (below_call HB.out hb)
      clear hb
      go_wp2_with fail
      refine (fadd_self HM.out HX.out _ (HT.out.next HB.out)).mono ?_
      rintro e w2 ⟨rfl, hb⟩
      replace HB := Lib.hid (below_call HB.out hb)
      clear hb
      by_cases h0 : Y = 0
      · subst h0
        go_wp2_with fail
        refine (fdiv_zero HM.out L1.out _ (HT.out.next HB.out)).mono ?_
        rintro e w2 ⟨rfl, hb⟩
        replace HB := Lib.hid (below_call HB.out hb)
        clear hb
        go_wp2_with fail
        go_roundw
        case rel => exact ⟨k + 1, by omega, by go_num, HB.out⟩
        case measure => simp [intOf]; omega
      · have hy0 : ((Y : Int) == 0) = false := by rw [beq_eq_false_iff_ne]; omega
        have hy1 : ((Y : Int) != 0) = true := by rw [bne_iff_ne]; omega
        go_wp2_with fail
        refine (fdiv_back HM.out HX.out HY.out h0 H1.out _ (HT.out.next HB.out)).mono ?_
        rintro e w2 ⟨rfl, hb⟩
        replace HB := Lib.hid (below_call HB.out hb)
        clear hb
        go_wp2_with fail
        go_roundw
        case rel => exact ⟨k + 1, by omega, by go_num, HB.out⟩
        case measure => simp [intOf]; omega
    · go_wp2_with fail
      go_ret
      exact ⟨rfl, HB.out⟩

/-! ### the frame: the arguments opened and shut -/
theorem contract_FieldAxioms (H : Type) (enc : TypeId × Value → H) (W : World) (base : Nat) (args : Array Value) (ds gs : List (DataW H)) (before : List MemPlace)
    (hval0 : ∀ (j : Nat) t v, Tryd.f5.params[j]? = some t → args[j]? = some v → Value.okWide Tryd.prog W .any base t v)
    (hW : DataW.Whole enc Tryd.prog Tryd.f5.params.toList Rows.fieldAxiomsSpec.vars false W args.toList ds gs before) (hL : laidMetH Tryd.prog Rows.fieldAxiomsRow.laid W) :
    Calls Tryd.prog 5 args W fun e W' => ∃ v, e = .returned v ∧ Rows.fieldAxiomsSpec.post enc Tryd.prog Tryd.f5 false true false false W args v W' := by
  have hval : ∀ (j : Nat) t v, Tryd.f5.params[j]? = some t → args[j]? = some v → Value.okWide Tryd.prog W .any base t v := hval0
  have hW' := hW
  obtain ⟨p, q, hA0, hV, rfl, hfz, hnd⟩ := hW
  have hA : DataW.TrodAll enc Tryd.prog W 0 (fun _ => true) true Tryd.f5.params.toList args.toList ds p := hA0
  rw [Tryd.params5] at hA hval
  obtain ⟨v0, vs0, d0, ds0, p0, q0, hargs, rfl, rfl, h0, r0⟩ := trodAll_cons hA
  obtain ⟨v1, vs1, d1, ds1, p1, q1, rfl, rfl, rfl, h1, r1⟩ := trodAll_cons r0
  obtain ⟨v2, vs2, d2, ds2, p2, q2, rfl, rfl, rfl, h2, r2⟩ := trodAll_cons r1
  obtain ⟨rfl, rfl, rfl⟩ := trodAll_nil r2
  obtain rfl : args = #[v0, v1, v2] := by cases args; simp_all
  obtain ⟨rfl, rfl⟩ := trodVars_none hV
  have k0 := h0
  have lt0 : ∀ x ∈ p0, x.block < W.heap.size := by obtain ⟨m, hm⟩ := k0; exact DataW.trod_lt m _ _ _ hm
  have k1 := h1
  have lt1 : ∀ x ∈ p1, x.block < W.heap.size := by obtain ⟨m, hm⟩ := k1; exact DataW.trod_lt m _ _ _ hm
  have k2 := h2
  have lt2 : ∀ x ∈ p2, x.block < W.heap.size := by obtain ⟨m, hm⟩ := k2; exact DataW.trod_lt m _ _ _ hm
  obtain ⟨n0, rfl, rfl, rfl, w0⟩ := open_int Tryd.underlying33 (hval 0 33 v0 rfl rfl) h0
  obtain ⟨n1, rfl, rfl, rfl, w1⟩ := open_int Tryd.underlying33 (hval 1 33 v1 rfl rfl) h1
  obtain ⟨n2, rfl, rfl, rfl, w2⟩ := open_int Tryd.underlying33 (hval 2 33 v2 rfl rfl) h2
  refine (walk_FieldAxioms n0 n1 n2 W (wf_u16 w0).1 (wf_u16 w0).2 (wf_u16 w1).1 (wf_u16 w1).2 (wf_u16 w2).1 (wf_u16 w2).2 (tab_of hL)).mono fun e W' ⟨he, bel⟩ => ?_
  subst he
  exact ⟨_, rfl, _, _, _, [], _, [], hW', trodAll_mk1 (shut_bool Tryd.underlying4 _), (trodAll_cons_mk (Below.trod laidOut (by kernel_rfl) (of_decide_eq_true (by kernel_rfl)) k0 bel lt0) (trodAll_cons_mk (Below.trod laidOut (by kernel_rfl) (of_decide_eq_true (by kernel_rfl)) k1 bel lt1) (trodAll_cons_mk (Below.trod laidOut (by kernel_rfl) (of_decide_eq_true (by kernel_rfl)) k2 bel lt2) trodAll_mk0))), rfl, bel.frame _, fun h => by cases h⟩
theorem laid_FieldAxioms (os : Os) : laidMet Tryd.prog Rows.fieldAxiomsRow.laid ((laidWorld os).forCall (fun _ _ => 0) ⟨#[], #[.int .u16 0, .int .u16 0, .int .u16 0], []⟩).memory :=
  laidMet_of_run' 8 (by kernel_rfl) (by kernel_rfl)
theorem reads_FieldAxioms (os : Os) {H : Type} (enc : TypeId × Value → H) : ∃ places, DataW.whole enc Tryd.prog ((laidWorld os).forCall (fun _ _ => 0) ⟨#[], #[.int .u16 0, .int .u16 0, .int .u16 0], []⟩).memory Tryd.f5.params.toList Rows.fieldAxiomsSpec.vars false (#[.int .u16 0, .int .u16 0, .int .u16 0] : Array Value).toList 8 = some ([.lit (.int .u16 0), .lit (.int .u16 0), .lit (.int .u16 0)], [], places) :=
  ⟨[], by kernel_rfl⟩
set_option maxRecDepth 100000 in
theorem lifted_FieldAxioms (os : Os) (started : os.Started) (H : Type) (enc : TypeId × Value → H) (F : Stop.Interp) :
    ReturnsInHanded {} Tryd.checked os 5 .any ((OpenSpec.ofChange Rows.fieldAxiomsSpec).preRow enc Tryd.prog Tryd.f5 Rows.fieldAxiomsRow.domain false Rows.fieldAxiomsRow.laid) (((OpenSpec.ofChange Rows.fieldAxiomsSpec).at F).post enc Tryd.prog Tryd.f5 false true false false) := by
  obtain ⟨places, hx⟩ := reads_FieldAxioms os enc
  refine returnsInHanded_of_row (C := Tryd.checked) (s := OpenSpec.ofChange Rows.fieldAxiomsSpec) own started (by kernel_rfl) Tryd.func5
    (witness_row_at (enc := enc) (C := Tryd.checked) false (laidWorld os) #[.int .u16 0, .int .u16 0, .int .u16 0] rfl (by kernel_rfl) (by kernel_rfl) (by kernel_rfl)
      (OpenSpec.preRow_of_cond 8 hx (by kernel_rfl) (fun k hk => by cases hk) (by kernel_rfl) (laid_FieldAxioms os))) ?_
  intro W base args ds gs before hval hW _ hcond _ hL _ _
  exact contract_FieldAxioms H enc W base args ds gs before hval hW hL

theorem said_FieldAxioms : Rows.FieldAxiomsSaid :=
  OpenClaim.holds_of_cond 5 Tryd.f5 rfl rfl rfl rfl rfl rfl rfl ⟨rfl, rfl, rfl, rfl, rfl⟩ rfl rfl rfl rfl rfl (by kernel_rfl) Tryd.func5 (by kernel_rfl)
    (of_decide_eq_true (by kernel_rfl)) (by unfold Func.isWrapper; first | (rw [if_pos (by decide +kernel)]; kernel_rfl) | (rw [if_neg (by decide +kernel)]; exact ⟨rfl, rfl⟩))
    (fun os started H enc _ F => by rw [OpenClaim.pre_eq_preRow]; exact lifted_FieldAxioms os started H enc F)
theorem plain_FieldAxioms (f : FuncId) (fn : Func) (hf : Tryd.pinned.checked.prog.funcNamed "solvent/solventlaw05.FieldAxioms" = some f) (hfn : Tryd.pinned.checked.prog.funcs[f]? = some fn) :
    false = Tryd.pinned.checked.prog.looks [] ∧ ∀ (j : Nat) t, fn.params[j]? = some t → Tryd.pinned.checked.prog.wantsStandIn t = false := by
  obtain rfl : f = 5 := Option.some.inj ((show Tryd.prog.funcNamed "solvent/solventlaw05.FieldAxioms" = some 5 by kernel_rfl).symm.trans hf) |>.symm
  obtain rfl : fn = Tryd.f5 := (Option.some.inj (Tryd.func5.symm.trans hfn)).symm
  refine ⟨by kernel_rfl, fun j t ht => ?_⟩
  rw [Tryd.params5] at ht
  have hm := Array.mem_of_getElem? ht
  simp only [List.mem_toArray, List.mem_cons, List.not_mem_nil, or_false, or_self] at hm
  subst hm
  exact (show Tryd.prog.wantsStandIn 33 = false by kernel_rfl)
theorem proved_FieldAxioms : Rows.FieldAxiomsCardSaid :=
  Claim7.holds_tied_plain_at .later [] _ _ _ _ said_FieldAxioms (fun _ h => by cases h) (by kernel_rfl) (fun _ h => by cases h) fieldAxioms_row_tie rfl ⟨rfl, rfl⟩ (by kernel_rfl) rfl plain_FieldAxioms (by kernel_rfl)
end Go.Proofs.YtdmcdgpigpekhaaDoor
