/- PrintCommutes: for every unit and all numbers the law returns true, and its arguments read as they did. No condition beyond the table's tie. -/
import Derived.Test.YtgeiholilcgooaaDoorLawInvolution
namespace Go.Proofs.YtgeiholilcgooaaDoor
set_option linter.unusedSimpArgs false
set_option linter.unusedVariables false
open Go.ChangeShapes Go.WideShapes Go.ChangeAt Go.RowKit Go.Lib

set_option maxRecDepth 100000 in
/-- the reference's number of twins -/
theorem rspace_any (n : Nat) (w : World) (hn : n ≤ 300) :
    Calls Tryd.prog 12 #[.int .i64 (n : Int)] w fun e w' => e = .returned (.int .i64 (space n : Int)) ∧ w' = w := by
  by_cases h : n < 5
  · have hd : decide ((n : Int) < 5) = true := by simp; omega
    have HS := Lib.hid (show space n = 0 by unfold space; split <;> omega)
    go_enter Tryd.func12, Tryd.ntmps12
    go_wp2_with fail
    go_ret
    exact ⟨by rw [HS.out]; rfl, rfl⟩
  · have hd : decide ((n : Int) < 5) = false := by simp; omega
    have hd2 : decide (2000 < (n : Int)) = false := by simp; omega
    have HS := Lib.hid (show (8 * (n : Int) - 32) = (space n : Int) by unfold space; rw [if_neg (by omega)]; omega)
    go_enter Tryd.func12, Tryd.ntmps12
    go_wp2_with fail
    go_ret
    exact ⟨ret_int HS.out, rfl⟩

set_option maxRecDepth 100000 in
set_option maxHeartbeats 1600000 in
theorem commutes_out (s : ByteArray) (k j : Int) (w : World) (ht : Tab w) (hs : s.size ≤ 9223372036854775807)
    (h : 300 < s.size ∨ (s.size ≤ 300 ∧ (k < 0 ∨ (0 ≤ k ∧ (space s.size : Int) ≤ k) ∨ (0 ≤ k ∧ k < space s.size ∧ (j < 0 ∨ (0 ≤ j ∧ (space s.size : Int) ≤ j)))))) :
    Calls Tryd.prog 5 #[.string s, .int .i64 k, .int .i64 j] w fun e w' => e = .returned (.bool true) ∧ Below w.heap.size w w' := by
  have HT := Lib.hid ht
  clear ht
  have fin : ∀ {Q : World → Prop}, True := trivial
  rcases h with h | ⟨h, hk | ⟨h0, hk⟩ | ⟨h0, hk, hj | ⟨hj0, hj⟩⟩⟩
  · go_enter Tryd.func5, Tryd.ntmps5
    go_wp2_with fail
    refine (sanity_any _ HT.out).mono ?_
    rintro e w1 ⟨rfl, hb⟩
    go_wp2_with fail
    go_ret
    exact ⟨rfl, hb⟩
  · go_enter Tryd.func5, Tryd.ntmps5
    go_wp2_with fail
    refine (sanity_any _ HT.out).mono ?_
    rintro e w1 ⟨rfl, hb⟩
    go_wp2_with fail
    go_ret
    exact ⟨rfl, hb⟩
  · go_enter Tryd.func5, Tryd.ntmps5
    go_wp2_with fail
    refine (rspace_any s.size _ h).mono ?_
    rintro e w0 ⟨rfl, rfl⟩
    have hd : decide ((space s.size : Int) ≤ k) = true := by simp; omega
    go_wp2_with fail
    refine (sanity_any _ HT.out).mono ?_
    rintro e w1 ⟨rfl, hb⟩
    go_wp2_with fail
    go_ret
    exact ⟨rfl, hb⟩
  · go_enter Tryd.func5, Tryd.ntmps5
    go_wp2_with fail
    refine (rspace_any s.size _ h).mono ?_
    rintro e w0 ⟨rfl, rfl⟩
    have hd : decide ((space s.size : Int) ≤ k) = false := by simp; omega
    go_wp2_with fail
    refine (sanity_any _ HT.out).mono ?_
    rintro e w1 ⟨rfl, hb⟩
    go_wp2_with fail
    go_ret
    exact ⟨rfl, hb⟩
  · go_enter Tryd.func5, Tryd.ntmps5
    go_wp2_with fail
    refine (rspace_any s.size _ h).mono ?_
    rintro e w0 ⟨rfl, rfl⟩
    have hd : decide ((space s.size : Int) ≤ k) = false := by simp; omega
    have hd2 : decide ((space s.size : Int) ≤ j) = true := by simp; omega
    go_wp2_with fail
    refine (rspace_any s.size _ h).mono ?_
    rintro e w0 ⟨rfl, rfl⟩
    go_wp2_with fail
    refine (sanity_any _ HT.out).mono ?_
    rintro e w1 ⟨rfl, hb⟩
    go_wp2_with fail
    go_ret
    exact ⟨rfl, hb⟩
set_option maxRecDepth 100000 in
set_option maxHeartbeats 3200000 in
theorem commutes_in (s : ByteArray) (k j : Nat) (w : World) (ht : Tab w) (hs : s.size ≤ 300) (h : k < space s.size) (h2 : j < space s.size) :
    Calls Tryd.prog 5 #[.string s, .int .i64 (k : Int), .int .i64 (j : Int)] w fun e w' => e = .returned (.bool true) ∧ Below w.heap.size w w' := by
  have HT := Lib.hid ht
  have HK := Lib.hid h
  have HJ := Lib.hid h2
  obtain ⟨t, et⟩ : ∃ t, tw k s = t := ⟨_, rfl⟩
  obtain ⟨u, eu⟩ : ∃ u, tw j s = u := ⟨_, rfl⟩
  obtain ⟨x, ex⟩ : ∃ x, tw j t = x := ⟨_, rfl⟩
  have e2 : tw k u = x := by
    rw [← ex, ← et, ← eu]
    apply strB_inj
    rw [tw_data, tw_data, tw_data, tw_data, Crc.twin_comm j k _ (space_lt h2).1 (space_lt h).1]
  have htk : k < space u.size := by rw [← eu, tw_size]; exact h
  have htj : j < space t.size := by rw [← et, tw_size]; exact h2
  have hxs : x.size = s.size := by rw [← ex, ← et, tw_size, tw_size]
  have hx9 : x.size ≤ 9223372036854775807 := by omega
  have hs9 : s.size ≤ 9223372036854775807 := by omega
  obtain ⟨z, hz⟩ : ∃ z : Int, ((Crc.crc s.data.toList).toNat : Int) = z := ⟨_, rfl⟩
  have hz2 : ((Crc.crc x.data.toList).toNat : Int) = z := by
    rw [← hz, ← ex, ← et, tw_data, Crc.twin_crc _ _ (by rw [tw_data, Crc.twin_length]; exact (space_lt h2).1), tw_data, Crc.twin_crc _ _ (space_lt h).1]
  have HE := Lib.hid et
  have HE2 := Lib.hid eu
  have HE3 := Lib.hid ex
  have HE4 := Lib.hid e2
  have HTK := Lib.hid htk
  have HTJ := Lib.hid htj
  have HZ := Lib.hid hz
  have HZ2 := Lib.hid hz2
  have hd : decide (space s.size ≤ k) = false := by simp; omega
  have hd2 : decide (space s.size ≤ j) = false := by simp; omega
  have hself : (x.toList == x.toList) = true := by simp
  clear ht et eu ex e2 htk htj hxs hz hz2 h h2
  go_enter Tryd.func5, Tryd.ntmps5
  go_wp2_with fail
  refine (rspace_any s.size _ hs).mono ?_
  rintro e w0 ⟨rfl, rfl⟩
  go_wp2_with fail
  refine (rspace_any s.size _ hs).mono ?_
  rintro e w0 ⟨rfl, rfl⟩
  go_wp2_with fail
  refine (twin_any s k _ HT.out HK.out).mono ?_
  rw [HE.out]
  rintro e w1 ⟨rfl, hb⟩
  have HB := Lib.hid hb
  clear hb
  go_wp2_with fail
  refine (twin_any t j _ (HT.out.below HB.out HT.out.lt) HTJ.out).mono ?_
  rw [HE3.out]
  rintro e w2 ⟨rfl, hb⟩
  have HB2 := Lib.hid (below_call HB.out hb)
  clear hb
  go_wp2_with fail
  refine (twin_any s j _ (HT.out.below HB2.out HT.out.lt) HJ.out).mono ?_
  rw [HE2.out]
  rintro e w3 ⟨rfl, hb⟩
  have HB3 := Lib.hid (below_call HB2.out hb)
  clear hb
  go_wp2_with fail
  refine (twin_any u k _ (HT.out.below HB3.out HT.out.lt) HTK.out).mono ?_
  rw [HE4.out]
  rintro e w4 ⟨rfl, hb⟩
  have HB4 := Lib.hid (below_call HB3.out hb)
  clear hb
  go_wp2_with fail
  refine (sanity_any _ (HT.out.below HB4.out HT.out.lt)).mono ?_
  rintro e w5 ⟨rfl, hb⟩
  have HB5 := Lib.hid (below_call HB4.out hb)
  clear hb
  go_wp2_with fail
  refine (fof_num x _ hx9 HZ2.out).mono ?_
  rintro e w6 ⟨rfl, hb⟩
  have HB6 := Lib.hid (below_call HB5.out hb)
  clear hb
  go_wp2_with fail
  refine (fof_num s _ hs9 HZ.out).mono ?_
  rintro e w7 ⟨rfl, hb⟩
  have HB7 := Lib.hid (below_call HB6.out hb)
  clear hb
  go_wp2_with fail
  go_ret
  exact ⟨rfl, HB7.out⟩
theorem walk_PrintCommutes (s : ByteArray) (k j : Int) (w : World) (hs : s.size ≤ maxLen) {A B C D : Prop} (_h1 : A) (_h2 : B) (_h3 : C) (_h4 : D) (ht : Tab w) :
    Calls Tryd.prog 5 #[.string s, .int .i64 k, .int .i64 j] w fun e w' => e = .returned (.bool true) ∧ Below w.heap.size w w' := by
  unfold maxLen at hs
  by_cases h : 300 < s.size ∨ (s.size ≤ 300 ∧ (k < 0 ∨ (0 ≤ k ∧ (space s.size : Int) ≤ k) ∨ (0 ≤ k ∧ k < space s.size ∧ (j < 0 ∨ (0 ≤ j ∧ (space s.size : Int) ≤ j)))))
  · exact commutes_out s k j w ht (by omega) h
  · obtain ⟨n, rfl⟩ := Int.eq_ofNat_of_zero_le (show 0 ≤ k by omega)
    obtain ⟨n2, rfl⟩ := Int.eq_ofNat_of_zero_le (show 0 ≤ j by omega)
    exact commutes_in s n n2 w ht (by omega) (by omega) (by omega)

/-! ### the frame: the arguments opened and shut -/
theorem contract_PrintCommutes (H : Type) (enc : TypeId × Value → H) (W : World) (base : Nat) (args : Array Value) (ds gs : List (DataW H)) (before : List MemPlace)
    (hval0 : ∀ (j : Nat) t v, Tryd.f5.params[j]? = some t → args[j]? = some v → Value.okWide Tryd.prog W .any base t v)
    (hW : DataW.Whole enc Tryd.prog Tryd.f5.params.toList Rows.printCommutesSpec.vars false W args.toList ds gs before) (hL : laidMetH Tryd.prog Rows.printCommutesRow.laid W) :
    Calls Tryd.prog 5 args W fun e W' => ∃ v, e = .returned v ∧ Rows.printCommutesSpec.post enc Tryd.prog Tryd.f5 false true false false W args v W' := by
  have hval : ∀ (j : Nat) t v, Tryd.f5.params[j]? = some t → args[j]? = some v → Value.okWide Tryd.prog W .any base t v := hval0
  have hW' := hW
  obtain ⟨p, q, hA0, hV, rfl, hfz, hnd⟩ := hW
  have hA : DataW.TrodAll enc Tryd.prog W 0 (fun _ => true) true Tryd.f5.params.toList args.toList ds p := hA0
  rw [Tryd.params5] at hA hval
  obtain ⟨v0, vs0, d0, ds0, p0, q0, hargs, rfl, rfl, h0, r0⟩ := trodAll_cons hA
  obtain ⟨v1, vs1, d1, ds1, p1, q1, rfl, rfl, rfl, h1, r1⟩ := trodAll_cons r0
  obtain ⟨v2, vs2, d2, ds2, p2, q2, rfl, rfl, rfl, h2, r2⟩ := trodAll_cons r1
  obtain ⟨rfl, rfl, rfl⟩ := trodAll_nil r2
  obtain rfl : args = #[v0, v1, v2] := by cases args; simp_all
  obtain ⟨rfl, rfl⟩ := trodVars_none hV
  have k0 := h0
  have lt0 : ∀ x ∈ p0, x.block < W.heap.size := by obtain ⟨m, hm⟩ := k0; exact DataW.trod_lt m _ _ _ hm
  have k1 := h1
  have lt1 : ∀ x ∈ p1, x.block < W.heap.size := by obtain ⟨m, hm⟩ := k1; exact DataW.trod_lt m _ _ _ hm
  have k2 := h2
  have lt2 : ∀ x ∈ p2, x.block < W.heap.size := by obtain ⟨m, hm⟩ := k2; exact DataW.trod_lt m _ _ _ hm
  obtain ⟨n0, rfl, rfl, rfl, w0⟩ := _root_.Go.ChangeMaps.open_string Tryd.underlying9 (hval 0 9 v0 rfl rfl) h0
  obtain ⟨n1, rfl, rfl, rfl, w1⟩ := open_int Tryd.underlying3 (hval 1 3 v1 rfl rfl) h1
  obtain ⟨n2, rfl, rfl, rfl, w2⟩ := open_int Tryd.underlying3 (hval 2 3 v2 rfl rfl) h2
  refine (walk_PrintCommutes n0 n1 n2 W w0 (wf_i64 w1).1 (wf_i64 w1).2 (wf_i64 w2).1 (wf_i64 w2).2 (tab_of hL)).mono fun e W' ⟨he, bel⟩ => ?_
  subst he
  exact ⟨_, rfl, _, _, _, [], _, [], hW', trodAll_mk1 (shut_bool Tryd.underlying4 _), (trodAll_cons_mk (Below.trod laidOut (by kernel_rfl) (of_decide_eq_true (by kernel_rfl)) k0 bel lt0) (trodAll_cons_mk (Below.trod laidOut (by kernel_rfl) (of_decide_eq_true (by kernel_rfl)) k1 bel lt1) (trodAll_cons_mk (Below.trod laidOut (by kernel_rfl) (of_decide_eq_true (by kernel_rfl)) k2 bel lt2) trodAll_mk0))), rfl, bel.frame _, fun h => by cases h⟩
theorem laid_PrintCommutes (os : Os) : laidMet Tryd.prog Rows.printCommutesRow.laid ((laidWorld os).forCall (fun _ _ => 0) ⟨#[], #[.string .empty, .int .i64 0, .int .i64 0], []⟩).memory :=
  laidMet_of_run' 8 (by kernel_rfl) (by kernel_rfl)
theorem reads_PrintCommutes (os : Os) {H : Type} (enc : TypeId × Value → H) : ∃ places, DataW.whole enc Tryd.prog ((laidWorld os).forCall (fun _ _ => 0) ⟨#[], #[.string .empty, .int .i64 0, .int .i64 0], []⟩).memory Tryd.f5.params.toList Rows.printCommutesSpec.vars false (#[.string .empty, .int .i64 0, .int .i64 0] : Array Value).toList 8 = some ([.lit (.string []), .lit (.int .i64 0), .lit (.int .i64 0)], [], places) :=
  ⟨[], by kernel_rfl⟩
set_option maxRecDepth 100000 in
theorem lifted_PrintCommutes (os : Os) (started : os.Started) (H : Type) (enc : TypeId × Value → H) (F : Stop.Interp) :
    ReturnsInHanded {} Tryd.checked os 5 .any ((OpenSpec.ofChange Rows.printCommutesSpec).preRow enc Tryd.prog Tryd.f5 Rows.printCommutesRow.domain false Rows.printCommutesRow.laid) (((OpenSpec.ofChange Rows.printCommutesSpec).at F).post enc Tryd.prog Tryd.f5 false true false false) := by
  obtain ⟨places, hx⟩ := reads_PrintCommutes os enc
  refine returnsInHanded_of_row (C := Tryd.checked) (s := OpenSpec.ofChange Rows.printCommutesSpec) own started (by kernel_rfl) Tryd.func5
    (witness_row_at (enc := enc) (C := Tryd.checked) false (laidWorld os) #[.string .empty, .int .i64 0, .int .i64 0] rfl (by kernel_rfl) (by kernel_rfl) (by kernel_rfl)
      (OpenSpec.preRow_of_cond 8 hx (by kernel_rfl) (fun k hk => by cases hk) (by kernel_rfl) (laid_PrintCommutes os))) ?_
  intro W base args ds gs before hval hW _ hcond _ hL _ _
  exact contract_PrintCommutes H enc W base args ds gs before hval hW hL

theorem said_PrintCommutes : Rows.PrintCommutesSaid :=
  OpenClaim.holds_of_cond 5 Tryd.f5 rfl rfl rfl rfl rfl rfl rfl ⟨rfl, rfl, rfl, rfl, rfl⟩ rfl rfl rfl rfl rfl (by kernel_rfl) Tryd.func5 (by kernel_rfl)
    (of_decide_eq_true (by kernel_rfl)) (by unfold Func.isWrapper; first | (rw [if_pos (by decide +kernel)]; kernel_rfl) | (rw [if_neg (by decide +kernel)]; exact ⟨rfl, rfl⟩))
    (fun os started H enc _ F => by rw [OpenClaim.pre_eq_preRow]; exact lifted_PrintCommutes os started H enc F)
theorem plain_PrintCommutes (f : FuncId) (fn : Func) (hf : Tryd.pinned.checked.prog.funcNamed "solvent/solventlaw04.PrintCommutes" = some f) (hfn : Tryd.pinned.checked.prog.funcs[f]? = some fn) :
    false = Tryd.pinned.checked.prog.looks [] ∧ ∀ (j : Nat) t, fn.params[j]? = some t → Tryd.pinned.checked.prog.wantsStandIn t = false := by
  obtain rfl : f = 5 := Option.some.inj ((show Tryd.prog.funcNamed "solvent/solventlaw04.PrintCommutes" = some 5 by kernel_rfl).symm.trans hf) |>.symm
  obtain rfl : fn = Tryd.f5 := (Option.some.inj (Tryd.func5.symm.trans hfn)).symm
  refine ⟨by kernel_rfl, fun j t ht => ?_⟩
  rw [Tryd.params5] at ht
  have hm := Array.mem_of_getElem? ht
  simp only [List.mem_toArray, List.mem_cons, List.not_mem_nil, or_false, or_self] at hm
  rcases hm with rfl | rfl | rfl
  all_goals first | exact (show Tryd.prog.wantsStandIn 9 = false by kernel_rfl) | exact (show Tryd.prog.wantsStandIn 3 = false by kernel_rfl)
theorem proved_PrintCommutes : Rows.PrintCommutesCardSaid :=
  Claim7.holds_tied_plain_at .later [] _ _ _ _ said_PrintCommutes (fun _ h => by cases h) (by kernel_rfl) (fun _ h => by cases h) printCommutes_row_tie rfl ⟨rfl, rfl⟩ (by kernel_rfl) rfl plain_PrintCommutes (by kernel_rfl)
end Go.Proofs.YtgeiholilcgooaaDoor
