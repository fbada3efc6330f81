/- PrintInvolution: for every unit and all numbers the law returns true, and its arguments read as they did. No condition beyond the table's tie. -/
import Derived.Test.YtgeiholilcgooaaDoorLawCollides
namespace Go.Proofs.YtgeiholilcgooaaDoor
set_option linter.unusedSimpArgs false
set_option linter.unusedVariables false
open Go.ChangeShapes Go.WideShapes Go.ChangeAt Go.RowKit Go.Lib

theorem strB_inj {a b : ByteArray} (h : a.data.toList = b.data.toList) : a = b := by rw [← strB_of a, ← strB_of b, h]
theorem tw_tw {k : Nat} {s : ByteArray} (h : k < space s.size) : tw k (tw k s) = s := by
  apply strB_inj
  rw [tw_data, tw_data, Crc.twin_twice _ _ (space_lt h).1]
theorem tw_beq {k j : Nat} {s : ByteArray} (hk : k < space s.size) (hj : j < space s.size) : ((tw k s).toList == (tw j s).toList) = decide (k = j) := by
  rw [str_beq, tw_data, tw_data]
  by_cases h : k = j
  · rw [h]; simp
  · rw [decide_eq_false h, decide_eq_false]
    exact fun e => h ((Crc.twin_apart k j _ (space_lt hk).1 (space_lt hj).1).1 e)
/-- the answers of Twin: the string, the error -/
def ansS (s : ByteArray) (j : Int) : ByteArray := if j < 0 ∨ (space s.size : Int) ≤ j then ⟨#[]⟩ else tw j.toNat s
def ansE (s : ByteArray) (j : Int) : Int := if j < 0 ∨ (space s.size : Int) ≤ j then 1 else 0
theorem twin_all (s : ByteArray) (j : Int) (w : World) (ht : Tab w) (hs : s.size ≤ 1000000000000) :
    Calls Tryd.prog 9 #[.string s, .int .i64 j] w fun e w' => e = .returned (.tuple #[.string (ansS s j), .int .i64 (ansE s j)]) ∧ Below w.heap.size w w' := by
  unfold ansS ansE
  by_cases h : j < 0 ∨ (space s.size : Int) ≤ j
  · rw [if_pos h, if_pos h]; exact ftwin_no s j w hs h
  · rw [if_neg h, if_neg h]
    obtain ⟨n, rfl⟩ := Int.eq_ofNat_of_zero_le (show 0 ≤ j by omega)
    exact twin_any s n w ht (by omega)

set_option maxRecDepth 100000 in
set_option maxHeartbeats 1600000 in
theorem involution_out (s : ByteArray) (k j : Int) (w : World) (ht : Tab w) (hs : s.size ≤ 9223372036854775807) (h : 300 < s.size ∨ (s.size ≤ 300 ∧ (k < 0 ∨ (space s.size : Int) ≤ k))) :
    Calls Tryd.prog 4 #[.string s, .int .i64 k, .int .i64 j] w fun e w' => e = .returned (.bool true) ∧ Below w.heap.size w w' := by
  have HT := Lib.hid ht
  clear ht
  rcases h with h | ⟨h, h2⟩
  · go_enter Tryd.func4, Tryd.ntmps4
    go_wp2_with fail
    refine (sanity_any _ HT.out).mono ?_
    rintro e w1 ⟨rfl, hb⟩
    go_wp2_with fail
    go_ret
    exact ⟨rfl, hb⟩
  · have HK := Lib.hid h2
    clear h2
    obtain ⟨u, hu⟩ : ∃ u, ansS s j = u := ⟨_, rfl⟩
    obtain ⟨f, hf⟩ : ∃ f, ansE s j = f := ⟨_, rfl⟩
    have HU := Lib.hid hu
    have HF := Lib.hid hf
    clear hu hf
    go_enter Tryd.func4, Tryd.ntmps4
    go_wp2_with fail
    refine (ftwin_no s k _ (by omega) HK.out).mono ?_
    rintro e w1 ⟨rfl, hb⟩
    have HB := Lib.hid hb
    clear hb
    go_wp2_with fail
    refine (twin_all s j _ (HT.out.below HB.out HT.out.lt) (by omega)).mono ?_
    rw [HU.out, HF.out]
    rintro e w2 ⟨rfl, hb⟩
    have HB2 := Lib.hid (below_call HB.out hb)
    clear hb
    go_wp2_with fail
    refine (sanity_any _ (HT.out.below HB2.out HT.out.lt)).mono ?_
    rintro e w3 ⟨rfl, hb⟩
    have HB3 := Lib.hid (below_call HB2.out hb)
    clear hb
    go_wp2_with fail
    go_ret
    exact ⟨rfl, HB3.out⟩
set_option maxRecDepth 100000 in
set_option maxHeartbeats 3200000 in
theorem involution_in (s : ByteArray) (k : Nat) (j : Int) (w : World) (ht : Tab w) (hs : s.size ≤ 300) (h : k < space s.size) :
    Calls Tryd.prog 4 #[.string s, .int .i64 (k : Int), .int .i64 j] w fun e w' => e = .returned (.bool true) ∧ Below w.heap.size w w' := by
  have HT := Lib.hid ht
  have HTT := Lib.hid (tw_tw h)
  have HSZ := Lib.hid (tw_size k s)
  have HK := Lib.hid h
  obtain ⟨u, hu⟩ : ∃ u, ansS s j = u := ⟨_, rfl⟩
  obtain ⟨f, hf⟩ : ∃ f, ansE s j = f := ⟨_, rfl⟩
  have HU := Lib.hid hu
  have HF := Lib.hid hf
  obtain ⟨t, et⟩ : ∃ t, tw k s = t := ⟨_, rfl⟩
  have HE := Lib.hid et
  -- the last test: either the second twin is an error, or the strings are equal just where the numbers are
  have hcase : (f = 1) ∨ (f = 0 ∧ ∃ b, (t.toList == u.toList) = b ∧ ((k : Int) == j) = b) := by
    rw [← hf, ← hu, ← et]
    unfold ansE ansS
    by_cases hj : j < 0 ∨ (space s.size : Int) ≤ j
    · rw [if_pos hj]; exact .inl rfl
    · rw [if_neg hj, if_neg hj]
      obtain ⟨n, rfl⟩ := Int.eq_ofNat_of_zero_le (show 0 ≤ j by omega)
      refine .inr ⟨rfl, _, rfl, ?_⟩
      rw [Int.toNat_natCast, tw_beq h (by omega), Bool.eq_iff_iff, beq_iff_eq, decide_eq_true_eq]
      omega
  clear ht h hu hf et
  rcases hcase with rfl | ⟨rfl, b, hb1, hb2⟩
  all_goals
    go_enter Tryd.func4, Tryd.ntmps4
    go_wp2_with fail
    refine (twin_any s k _ HT.out HK.out).mono ?_
    rw [HE.out]
    rintro e w1 ⟨rfl, hb⟩
    have HB := Lib.hid hb
    clear hb
    go_wp2_with fail
    refine (twin_all s j _ (HT.out.below HB.out HT.out.lt) (by omega)).mono ?_
    rw [HU.out, HF.out]
    rintro e w2 ⟨rfl, hb⟩
    have HB2 := Lib.hid (below_call HB.out hb)
    clear hb
    go_wp2_with fail
    refine (twin_any t k _ (HT.out.below HB2.out HT.out.lt) (by rw [← HE.out, HSZ.out]; exact HK.out)).mono ?_
    rw [← HE.out, HTT.out, HE.out]
    rintro e w3 ⟨rfl, hb⟩
    have HB3 := Lib.hid (below_call HB2.out hb)
    clear hb
    go_wp2_with fail
    refine (sanity_any _ (HT.out.below HB3.out HT.out.lt)).mono ?_
    rintro e w4 ⟨rfl, hb⟩
    have HB4 := Lib.hid (below_call HB3.out hb)
    clear hb
    go_wp2_with fail
    go_ret
    first
      | exact ⟨rfl, HB4.out⟩
      | (cases b <;> exact ⟨rfl, HB4.out⟩)
theorem walk_PrintInvolution (s : ByteArray) (k j : Int) (w : World) (hs : s.size ≤ maxLen) {A B C D : Prop} (_h1 : A) (_h2 : B) (_h3 : C) (_h4 : D) (ht : Tab w) :
    Calls Tryd.prog 4 #[.string s, .int .i64 k, .int .i64 j] w fun e w' => e = .returned (.bool true) ∧ Below w.heap.size w w' := by
  unfold maxLen at hs
  by_cases h : 300 < s.size ∨ (s.size ≤ 300 ∧ (k < 0 ∨ (space s.size : Int) ≤ k))
  · exact involution_out s k j w ht (by omega) h
  · obtain ⟨n, rfl⟩ := Int.eq_ofNat_of_zero_le (show 0 ≤ k by omega)
    exact involution_in s n j w ht (by omega) (by omega)

/-! ### the frame: the arguments opened and shut -/
theorem contract_PrintInvolution (H : Type) (enc : TypeId × Value → H) (W : World) (base : Nat) (args : Array Value) (ds gs : List (DataW H)) (before : List MemPlace)
    (hval0 : ∀ (j : Nat) t v, Tryd.f4.params[j]? = some t → args[j]? = some v → Value.okWide Tryd.prog W .any base t v)
    (hW : DataW.Whole enc Tryd.prog Tryd.f4.params.toList Rows.printInvolutionSpec.vars false W args.toList ds gs before) (hL : laidMetH Tryd.prog Rows.printInvolutionRow.laid W) :
    Calls Tryd.prog 4 args W fun e W' => ∃ v, e = .returned v ∧ Rows.printInvolutionSpec.post enc Tryd.prog Tryd.f4 false true false false W args v W' := by
  have hval : ∀ (j : Nat) t v, Tryd.f4.params[j]? = some t → args[j]? = some v → Value.okWide Tryd.prog W .any base t v := hval0
  have hW' := hW
  obtain ⟨p, q, hA0, hV, rfl, hfz, hnd⟩ := hW
  have hA : DataW.TrodAll enc Tryd.prog W 0 (fun _ => true) true Tryd.f4.params.toList args.toList ds p := hA0
  rw [Tryd.params4] at hA hval
  obtain ⟨v0, vs0, d0, ds0, p0, q0, hargs, rfl, rfl, h0, r0⟩ := trodAll_cons hA
  obtain ⟨v1, vs1, d1, ds1, p1, q1, rfl, rfl, rfl, h1, r1⟩ := trodAll_cons r0
  obtain ⟨v2, vs2, d2, ds2, p2, q2, rfl, rfl, rfl, h2, r2⟩ := trodAll_cons r1
  obtain ⟨rfl, rfl, rfl⟩ := trodAll_nil r2
  obtain rfl : args = #[v0, v1, v2] := by cases args; simp_all
  obtain ⟨rfl, rfl⟩ := trodVars_none hV
  have k0 := h0
  have lt0 : ∀ x ∈ p0, x.block < W.heap.size := by obtain ⟨m, hm⟩ := k0; exact DataW.trod_lt m _ _ _ hm
  have k1 := h1
  have lt1 : ∀ x ∈ p1, x.block < W.heap.size := by obtain ⟨m, hm⟩ := k1; exact DataW.trod_lt m _ _ _ hm
  have k2 := h2
  have lt2 : ∀ x ∈ p2, x.block < W.heap.size := by obtain ⟨m, hm⟩ := k2; exact DataW.trod_lt m _ _ _ hm
  obtain ⟨n0, rfl, rfl, rfl, w0⟩ := _root_.Go.ChangeMaps.open_string Tryd.underlying9 (hval 0 9 v0 rfl rfl) h0
  obtain ⟨n1, rfl, rfl, rfl, w1⟩ := open_int Tryd.underlying3 (hval 1 3 v1 rfl rfl) h1
  obtain ⟨n2, rfl, rfl, rfl, w2⟩ := open_int Tryd.underlying3 (hval 2 3 v2 rfl rfl) h2
  refine (walk_PrintInvolution n0 n1 n2 W w0 (wf_i64 w1).1 (wf_i64 w1).2 (wf_i64 w2).1 (wf_i64 w2).2 (tab_of hL)).mono fun e W' ⟨he, bel⟩ => ?_
  subst he
  exact ⟨_, rfl, _, _, _, [], _, [], hW', trodAll_mk1 (shut_bool Tryd.underlying4 _), (trodAll_cons_mk (Below.trod laidOut (by kernel_rfl) (of_decide_eq_true (by kernel_rfl)) k0 bel lt0) (trodAll_cons_mk (Below.trod laidOut (by kernel_rfl) (of_decide_eq_true (by kernel_rfl)) k1 bel lt1) (trodAll_cons_mk (Below.trod laidOut (by kernel_rfl) (of_decide_eq_true (by kernel_rfl)) k2 bel lt2) trodAll_mk0))), rfl, bel.frame _, fun h => by cases h⟩
theorem laid_PrintInvolution (os : Os) : laidMet Tryd.prog Rows.printInvolutionRow.laid ((laidWorld os).forCall (fun _ _ => 0) ⟨#[], #[.string .empty, .int .i64 0, .int .i64 0], []⟩).memory :=
  laidMet_of_run' 8 (by kernel_rfl) (by kernel_rfl)
theorem reads_PrintInvolution (os : Os) {H : Type} (enc : TypeId × Value → H) : ∃ places, DataW.whole enc Tryd.prog ((laidWorld os).forCall (fun _ _ => 0) ⟨#[], #[.string .empty, .int .i64 0, .int .i64 0], []⟩).memory Tryd.f4.params.toList Rows.printInvolutionSpec.vars false (#[.string .empty, .int .i64 0, .int .i64 0] : Array Value).toList 8 = some ([.lit (.string []), .lit (.int .i64 0), .lit (.int .i64 0)], [], places) :=
  ⟨[], by kernel_rfl⟩
set_option maxRecDepth 100000 in
theorem lifted_PrintInvolution (os : Os) (started : os.Started) (H : Type) (enc : TypeId × Value → H) (F : Stop.Interp) :
    ReturnsInHanded {} Tryd.checked os 4 .any ((OpenSpec.ofChange Rows.printInvolutionSpec).preRow enc Tryd.prog Tryd.f4 Rows.printInvolutionRow.domain false Rows.printInvolutionRow.laid) (((OpenSpec.ofChange Rows.printInvolutionSpec).at F).post enc Tryd.prog Tryd.f4 false true false false) := by
  obtain ⟨places, hx⟩ := reads_PrintInvolution os enc
  refine returnsInHanded_of_row (C := Tryd.checked) (s := OpenSpec.ofChange Rows.printInvolutionSpec) own started (by kernel_rfl) Tryd.func4
    (witness_row_at (enc := enc) (C := Tryd.checked) false (laidWorld os) #[.string .empty, .int .i64 0, .int .i64 0] rfl (by kernel_rfl) (by kernel_rfl) (by kernel_rfl)
      (OpenSpec.preRow_of_cond 8 hx (by kernel_rfl) (fun k hk => by cases hk) (by kernel_rfl) (laid_PrintInvolution os))) ?_
  intro W base args ds gs before hval hW _ hcond _ hL _ _
  exact contract_PrintInvolution H enc W base args ds gs before hval hW hL

theorem said_PrintInvolution : Rows.PrintInvolutionSaid :=
  OpenClaim.holds_of_cond 4 Tryd.f4 rfl rfl rfl rfl rfl rfl rfl ⟨rfl, rfl, rfl, rfl, rfl⟩ rfl rfl rfl rfl rfl (by kernel_rfl) Tryd.func4 (by kernel_rfl)
    (of_decide_eq_true (by kernel_rfl)) (by unfold Func.isWrapper; first | (rw [if_pos (by decide +kernel)]; kernel_rfl) | (rw [if_neg (by decide +kernel)]; exact ⟨rfl, rfl⟩))
    (fun os started H enc _ F => by rw [OpenClaim.pre_eq_preRow]; exact lifted_PrintInvolution os started H enc F)
theorem plain_PrintInvolution (f : FuncId) (fn : Func) (hf : Tryd.pinned.checked.prog.funcNamed "solvent/solventlaw04.PrintInvolution" = some f) (hfn : Tryd.pinned.checked.prog.funcs[f]? = some fn) :
    false = Tryd.pinned.checked.prog.looks [] ∧ ∀ (j : Nat) t, fn.params[j]? = some t → Tryd.pinned.checked.prog.wantsStandIn t = false := by
  obtain rfl : f = 4 := Option.some.inj ((show Tryd.prog.funcNamed "solvent/solventlaw04.PrintInvolution" = some 4 by kernel_rfl).symm.trans hf) |>.symm
  obtain rfl : fn = Tryd.f4 := (Option.some.inj (Tryd.func4.symm.trans hfn)).symm
  refine ⟨by kernel_rfl, fun j t ht => ?_⟩
  rw [Tryd.params4] at ht
  have hm := Array.mem_of_getElem? ht
  simp only [List.mem_toArray, List.mem_cons, List.not_mem_nil, or_false, or_self] at hm
  rcases hm with rfl | rfl | rfl
  all_goals first | exact (show Tryd.prog.wantsStandIn 9 = false by kernel_rfl) | exact (show Tryd.prog.wantsStandIn 3 = false by kernel_rfl)
theorem proved_PrintInvolution : Rows.PrintInvolutionCardSaid :=
  Claim7.holds_tied_plain_at .later [] _ _ _ _ said_PrintInvolution (fun _ h => by cases h) (by kernel_rfl) (fun _ h => by cases h) printInvolution_row_tie rfl ⟨rfl, rfl⟩ (by kernel_rfl) rfl plain_PrintInvolution (by kernel_rfl)
end Go.Proofs.YtgeiholilcgooaaDoor
