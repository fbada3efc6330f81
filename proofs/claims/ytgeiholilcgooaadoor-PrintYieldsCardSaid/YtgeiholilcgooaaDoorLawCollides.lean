/- PrintCollides: for every unit and every number the law returns true, and its arguments read as they did. No condition beyond the table's tie. -/
import Derived.Test.YtgeiholilcgooaaDoorF4
import Derived.Test.YtgeiholilcgooaaDoorF5
import Derived.ChangeMaps5
namespace Go.Proofs.YtgeiholilcgooaaDoor
set_option linter.unusedSimpArgs false
set_option linter.unusedVariables false
open Go.ChangeShapes Go.WideShapes Go.ChangeAt Go.RowKit Go.Lib

/-- the k-th twin of a string -/
def tw (k : Nat) (s : ByteArray) : ByteArray := strB (Crc.twin k s.data.toList)
theorem tw_data (k : Nat) (s : ByteArray) : (tw k s).data.toList = Crc.twin k s.data.toList := strB_data _
theorem tw_size (k : Nat) (s : ByteArray) : (tw k s).size = s.size := by rw [tw, strB_size, Crc.twin_length, len_data]
theorem space_lt {k : Nat} {s : ByteArray} (h : k < space s.size) : k + 32 < 8 * s.data.toList.length ∧ s.size ≤ 2000 := by
  rw [len_data]; unfold space at h; split at h <;> omega
theorem str_beq (a b : ByteArray) : (a.toList == b.toList) = decide (a.data.toList = b.data.toList) := by
  rw [ByteArray.toList_eq, ByteArray.toList_eq]
  rw [Bool.eq_iff_iff, beq_iff_eq, decide_eq_true_eq]
theorem fof_num (s : ByteArray) (w : World) (hs : s.size ≤ 9223372036854775807) {z : Int} (hz : ((Crc.crc s.data.toList).toNat : Int) = z) :
    Calls Tryd.prog 11 #[.string s] w fun e w' => e = .returned (.int .u32 z) ∧ Below w.heap.size w w' := by
  subst hz; exact fof_any s w hs
theorem tw_ne {k : Nat} {s : ByteArray} (h : k < space s.size) : ((tw k s).toList == s.toList) = false := by
  rw [str_beq, tw_data, decide_eq_false]
  exact Crc.twin_ne _ _ (space_lt h).1
theorem twin_any (s : ByteArray) (k : Nat) (w : World) (ht : Tab w) (hk : k < space s.size) :
    Calls Tryd.prog 9 #[.string s, .int .i64 (k : Int)] w fun e w' => e = .returned (.tuple #[.string (tw k s), .int .i64 0]) ∧ Below w.heap.size w w' := ftwin_ok s k w ht hk

set_option maxRecDepth 100000 in
set_option maxHeartbeats 1600000 in
theorem collides_long (s : ByteArray) (k : Int) (w : World) (ht : Tab w) (hs : s.size ≤ 9223372036854775807) (h : 300 < s.size) :
    Calls Tryd.prog 3 #[.string s, .int .i64 k] w fun e w' => e = .returned (.bool true) ∧ Below w.heap.size w w' := by
  have HT := Lib.hid ht
  clear ht
  go_enter Tryd.func3, Tryd.ntmps3
  go_wp2_with fail
  refine (sanity_any _ HT.out).mono ?_
  rintro e w1 ⟨rfl, hb⟩
  go_wp2_with fail
  go_ret
  exact ⟨rfl, hb⟩
set_option maxRecDepth 100000 in
set_option maxHeartbeats 1600000 in
theorem collides_no (s : ByteArray) (k : Int) (w : World) (ht : Tab w) (hs : s.size ≤ 300) (h : k < 0 ∨ (space s.size : Int) ≤ k) :
    Calls Tryd.prog 3 #[.string s, .int .i64 k] w fun e w' => e = .returned (.bool true) ∧ Below w.heap.size w w' := by
  have HT := Lib.hid ht
  have HK := Lib.hid h
  clear ht h
  go_enter Tryd.func3, Tryd.ntmps3
  go_wp2_with fail
  refine (ftwin_no s k _ (by omega) HK.out).mono ?_
  rintro e w1 ⟨rfl, hb⟩
  have HB := Lib.hid hb
  have HT1 := Lib.hid (HT.out.below hb HT.out.lt)
  clear hb
  go_wp2_with fail
  refine (sanity_any _ HT1.out).mono ?_
  rintro e w2 ⟨rfl, hb⟩
  have HB2 := Lib.hid (below_call HB.out hb)
  clear hb
  by_cases h0 : k < 0
  · have hd : decide (0 ≤ k) = false := by simp; omega
    go_wp2_with fail
    go_ret
    exact ⟨rfl, HB2.out⟩
  · have hd : decide (0 ≤ k) = true := by simp; omega
    go_wp2_with fail
    refine (fspace_any s.size _ (by omega)).mono ?_
    rintro e w3 ⟨rfl, rfl⟩
    have hd2 : decide (k < (space s.size : Int)) = false := by have := HK.out; simp; omega
    go_wp2_with fail
    go_ret
    exact ⟨rfl, HB2.out⟩
set_option maxRecDepth 100000 in
set_option maxHeartbeats 1600000 in
theorem collides_yes (s : ByteArray) (k : Nat) (w : World) (ht : Tab w) (hs : s.size ≤ 300) (h : k < space s.size) :
    Calls Tryd.prog 3 #[.string s, .int .i64 (k : Int)] w fun e w' => e = .returned (.bool true) ∧ Below w.heap.size w w' := by
  have HT := Lib.hid ht
  have hne := tw_ne h
  have hsz := tw_size k s
  have hl := (space_lt h).1
  have HC := Lib.hid (Crc.twin_crc k s.data.toList hl)
  have hsz2 : (tw k s).size ≤ 9223372036854775807 := by rw [hsz]; omega
  have HSZ := Lib.hid hsz
  obtain ⟨t, et⟩ : ∃ t, tw k s = t := ⟨_, rfl⟩
  have HE := Lib.hid et
  have hdat := tw_data k s
  rw [et] at hne hsz hsz2 hdat
  obtain ⟨z, hz⟩ : ∃ z : Int, ((Crc.crc s.data.toList).toNat : Int) = z := ⟨_, rfl⟩
  have HZ := Lib.hid hz
  have HZ2 := Lib.hid (show ((Crc.crc t.data.toList).toNat : Int) = z by rw [hdat, HC.out]; exact hz)
  clear ht hl et hdat HSZ hz HC
  have hss : s.size ≤ 9223372036854775807 := by omega
  go_enter Tryd.func3, Tryd.ntmps3
  go_wp2_with fail
  refine (twin_any s k _ HT.out h).mono ?_
  rw [HE.out]
  rintro e w1 ⟨rfl, hb⟩
  have HB := Lib.hid hb
  have HT1 := Lib.hid (HT.out.below hb HT.out.lt)
  clear hb
  go_wp2_with fail
  refine (sanity_any _ HT1.out).mono ?_
  rintro e w2 ⟨rfl, hb⟩
  have HB2 := Lib.hid (below_call HB.out hb)
  clear hb
  have hd : decide (0 ≤ (k : Int)) = true := by simp
  go_wp2_with fail
  refine (fspace_any s.size _ (by omega)).mono ?_
  rintro e w3 ⟨rfl, rfl⟩
  have hd2 : decide ((k : Int) < (space s.size : Int)) = true := by simp; omega
  go_wp2_with fail
  refine (fof_num t _ hsz2 HZ2.out).mono ?_
  rintro e w4 ⟨rfl, hb⟩
  have HB3 := Lib.hid (below_call HB2.out hb)
  clear hb
  go_wp2_with fail
  refine (fof_num s _ hss HZ.out).mono ?_
  rintro e w5 ⟨rfl, hb⟩
  have HB4 := Lib.hid (below_call HB3.out hb)
  clear hb
  go_wp2_with fail
  go_ret
  exact ⟨rfl, HB4.out⟩
theorem walk_PrintCollides (s : ByteArray) (k : Int) (w : World) (hs : s.size ≤ maxLen) (_h1 : -9223372036854775808 ≤ k) (_h2 : k ≤ 9223372036854775807) (ht : Tab w) :
    Calls Tryd.prog 3 #[.string s, .int .i64 k] w fun e w' => e = .returned (.bool true) ∧ Below w.heap.size w w' := by
  unfold maxLen at hs
  by_cases h : 300 < s.size
  · exact collides_long s k w ht (by omega) h
  · by_cases hk : k < 0 ∨ (space s.size : Int) ≤ k
    · exact collides_no s k w ht (by omega) hk
    · obtain ⟨n, rfl⟩ := Int.eq_ofNat_of_zero_le (show 0 ≤ k by omega)
      exact collides_yes s n w ht (by omega) (by omega)

/-! ### the frame: the arguments opened and shut -/
theorem contract_PrintCollides (H : Type) (enc : TypeId × Value → H) (W : World) (base : Nat) (args : Array Value) (ds gs : List (DataW H)) (before : List MemPlace)
    (hval0 : ∀ (j : Nat) t v, Tryd.f3.params[j]? = some t → args[j]? = some v → Value.okWide Tryd.prog W .any base t v)
    (hW : DataW.Whole enc Tryd.prog Tryd.f3.params.toList Rows.printCollidesSpec.vars false W args.toList ds gs before) (hL : laidMetH Tryd.prog Rows.printCollidesRow.laid W) :
    Calls Tryd.prog 3 args W fun e W' => ∃ v, e = .returned v ∧ Rows.printCollidesSpec.post enc Tryd.prog Tryd.f3 false true false false W args v W' := by
  have hval : ∀ (j : Nat) t v, Tryd.f3.params[j]? = some t → args[j]? = some v → Value.okWide Tryd.prog W .any base t v := hval0
  have hW' := hW
  obtain ⟨p, q, hA0, hV, rfl, hfz, hnd⟩ := hW
  have hA : DataW.TrodAll enc Tryd.prog W 0 (fun _ => true) true Tryd.f3.params.toList args.toList ds p := hA0
  rw [Tryd.params3] at hA hval
  obtain ⟨v0, vs0, d0, ds0, p0, q0, hargs, rfl, rfl, h0, r0⟩ := trodAll_cons hA
  obtain ⟨v1, vs1, d1, ds1, p1, q1, rfl, rfl, rfl, h1, r1⟩ := trodAll_cons r0
  obtain ⟨rfl, rfl, rfl⟩ := trodAll_nil r1
  obtain rfl : args = #[v0, v1] := by cases args; simp_all
  obtain ⟨rfl, rfl⟩ := trodVars_none hV
  have k0 := h0
  have lt0 : ∀ x ∈ p0, x.block < W.heap.size := by obtain ⟨m, hm⟩ := k0; exact DataW.trod_lt m _ _ _ hm
  have k1 := h1
  have lt1 : ∀ x ∈ p1, x.block < W.heap.size := by obtain ⟨m, hm⟩ := k1; exact DataW.trod_lt m _ _ _ hm
  obtain ⟨n0, rfl, rfl, rfl, w0⟩ := _root_.Go.ChangeMaps.open_string Tryd.underlying9 (hval 0 9 v0 rfl rfl) h0
  obtain ⟨n1, rfl, rfl, rfl, w1⟩ := open_int Tryd.underlying3 (hval 1 3 v1 rfl rfl) h1
  refine (walk_PrintCollides n0 n1 W w0 (wf_i64 w1).1 (wf_i64 w1).2 (tab_of hL)).mono fun e W' ⟨he, bel⟩ => ?_
  subst he
  exact ⟨_, rfl, _, _, _, [], _, [], hW', trodAll_mk1 (shut_bool Tryd.underlying4 _), (trodAll_cons_mk (Below.trod laidOut (by kernel_rfl) (of_decide_eq_true (by kernel_rfl)) k0 bel lt0) (trodAll_cons_mk (Below.trod laidOut (by kernel_rfl) (of_decide_eq_true (by kernel_rfl)) k1 bel lt1) trodAll_mk0)), rfl, bel.frame _, fun h => by cases h⟩
theorem laid_PrintCollides (os : Os) : laidMet Tryd.prog Rows.printCollidesRow.laid ((laidWorld os).forCall (fun _ _ => 0) ⟨#[], #[.string .empty, .int .i64 0], []⟩).memory :=
  laidMet_of_run' 8 (by kernel_rfl) (by kernel_rfl)
theorem reads_PrintCollides (os : Os) {H : Type} (enc : TypeId × Value → H) : ∃ places, DataW.whole enc Tryd.prog ((laidWorld os).forCall (fun _ _ => 0) ⟨#[], #[.string .empty, .int .i64 0], []⟩).memory Tryd.f3.params.toList Rows.printCollidesSpec.vars false (#[.string .empty, .int .i64 0] : Array Value).toList 8 = some ([.lit (.string []), .lit (.int .i64 0)], [], places) :=
  ⟨[], by kernel_rfl⟩
set_option maxRecDepth 100000 in
theorem lifted_PrintCollides (os : Os) (started : os.Started) (H : Type) (enc : TypeId × Value → H) (F : Stop.Interp) :
    ReturnsInHanded {} Tryd.checked os 3 .any ((OpenSpec.ofChange Rows.printCollidesSpec).preRow enc Tryd.prog Tryd.f3 Rows.printCollidesRow.domain false Rows.printCollidesRow.laid) (((OpenSpec.ofChange Rows.printCollidesSpec).at F).post enc Tryd.prog Tryd.f3 false true false false) := by
  obtain ⟨places, hx⟩ := reads_PrintCollides os enc
  refine returnsInHanded_of_row (C := Tryd.checked) (s := OpenSpec.ofChange Rows.printCollidesSpec) own started (by kernel_rfl) Tryd.func3
    (witness_row_at (enc := enc) (C := Tryd.checked) false (laidWorld os) #[.string .empty, .int .i64 0] rfl (by kernel_rfl) (by kernel_rfl) (by kernel_rfl)
      (OpenSpec.preRow_of_cond 8 hx (by kernel_rfl) (fun k hk => by cases hk) (by kernel_rfl) (laid_PrintCollides os))) ?_
  intro W base args ds gs before hval hW _ hcond _ hL _ _
  exact contract_PrintCollides H enc W base args ds gs before hval hW hL

theorem said_PrintCollides : Rows.PrintCollidesSaid :=
  OpenClaim.holds_of_cond 3 Tryd.f3 rfl rfl rfl rfl rfl rfl rfl ⟨rfl, rfl, rfl, rfl, rfl⟩ rfl rfl rfl rfl rfl (by kernel_rfl) Tryd.func3 (by kernel_rfl)
    (of_decide_eq_true (by kernel_rfl)) (by unfold Func.isWrapper; first | (rw [if_pos (by decide +kernel)]; kernel_rfl) | (rw [if_neg (by decide +kernel)]; exact ⟨rfl, rfl⟩))
    (fun os started H enc _ F => by rw [OpenClaim.pre_eq_preRow]; exact lifted_PrintCollides os started H enc F)
theorem plain_PrintCollides (f : FuncId) (fn : Func) (hf : Tryd.pinned.checked.prog.funcNamed "solvent/solventlaw04.PrintCollides" = some f) (hfn : Tryd.pinned.checked.prog.funcs[f]? = some fn) :
    false = Tryd.pinned.checked.prog.looks [] ∧ ∀ (j : Nat) t, fn.params[j]? = some t → Tryd.pinned.checked.prog.wantsStandIn t = false := by
  obtain rfl : f = 3 := Option.some.inj ((show Tryd.prog.funcNamed "solvent/solventlaw04.PrintCollides" = some 3 by kernel_rfl).symm.trans hf) |>.symm
  obtain rfl : fn = Tryd.f3 := (Option.some.inj (Tryd.func3.symm.trans hfn)).symm
  refine ⟨by kernel_rfl, fun j t ht => ?_⟩
  rw [Tryd.params3] at ht
  have hm := Array.mem_of_getElem? ht
  simp only [List.mem_toArray, List.mem_cons, List.not_mem_nil, or_false] at hm
  rcases hm with rfl | rfl
  · exact (show Tryd.prog.wantsStandIn 9 = false by kernel_rfl)
  · exact (show Tryd.prog.wantsStandIn 3 = false by kernel_rfl)
theorem proved_PrintCollides : Rows.PrintCollidesCardSaid :=
  Claim7.holds_tied_plain_at .later [] _ _ _ _ said_PrintCollides (fun _ h => by cases h) (by kernel_rfl) (fun _ h => by cases h) printCollides_row_tie rfl ⟨rfl, rfl⟩ (by kernel_rfl) rfl plain_PrintCollides (by kernel_rfl)
end Go.Proofs.YtgeiholilcgooaaDoor
