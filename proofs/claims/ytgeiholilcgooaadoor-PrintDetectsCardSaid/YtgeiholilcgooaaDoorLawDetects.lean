/- PrintDetects: for every unit, position and four bytes the law returns true, and its arguments read as they did. No condition beyond the table's tie. -/
import Derived.Test.YtgeiholilcgooaaDoorF6
import Derived.Deep.RegionHeld3
namespace Go.Proofs.YtgeiholilcgooaaDoor
set_option linter.unusedSimpArgs false
set_option linter.unusedVariables false
open Go.ChangeShapes Go.WideShapes Go.ChangeAt Go.RowKit Go.Lib

set_option maxRecDepth 100000 in
set_option maxHeartbeats 1600000 in
theorem detects_out (s : ByteArray) (p : Int) (c0 c1 c2 c3 : UInt8) (w : World) (ht : Tab w) (hs : s.size ≤ 9223372036854775807) (h : 300 < s.size ∨ (s.size ≤ 300 ∧ (p < 0 ∨ (0 ≤ p ∧ (s.size : Int) ≤ p)))) :
    Calls Tryd.prog 6 #[.string s, .int .i64 p, .agg #[v8 c0, v8 c1, v8 c2, v8 c3]] w fun e w' => e = .returned (.bool true) ∧ Below w.heap.size w w' := by
  simp only [v8]
  have HT := Lib.hid (ht.below ((Below.refl _ w).alloc (Nat.le_refl _) (.cells #[.int .u8 (c0.toNat : Int), .int .u8 (c1.toNat : Int), .int .u8 (c2.toNat : Int), .int .u8 (c3.toNat : Int)] 31)) ht.lt)
  clear ht
  rcases h with h | ⟨h, h0 | ⟨h0, h1⟩⟩
  all_goals
    go_enter Tryd.func6, Tryd.ntmps6
    go_wp2_with fail
    refine (sanity_any _ HT.out).mono ?_
    rintro e w1 ⟨rfl, hb⟩
    have HB := Lib.hid (below_call ((Below.refl _ w).alloc (Nat.le_refl _) _) hb)
    clear hb
    go_wp2_with fail
    go_ret
    exact ⟨rfl, HB.out⟩
/-- what is kept while the last region runs -/
def KD (w : World) (g : Nat) (x : List UInt8) (wn : World) : Prop := Byt wn g x ∧ Tab wn ∧ Below w.heap.size w wn
theorem KD.next {w wn w' : World} {g : Nat} {x : List UInt8} (h : KD w g x wn) (hb : Below wn.heap.size wn w') : KD w g x w' :=
  ⟨h.1.below hb h.1.lt, h.2.1.below hb h.2.1.lt, below_call h.2.2 hb⟩
theorem KD.tab {w wn : World} {g : Nat} {x : List UInt8} (h : KD w g x wn) : Tab wn := h.2.1
theorem KD.drew {w wn : World} {g : Nat} {x : List UInt8} (h : KD w g x wn) : KD w g x wn.drew := ⟨h.1.drew, h.2.1, h.2.2.drew⟩
theorem four_get (c0 c1 c2 c3 : UInt8) (n j : Nat) (v : Value) (h : ((([c0, c1, c2, c3] : List UInt8).take n).map v8)[j]? = some v) : (#[v8 c0, v8 c1, v8 c2, v8 c3] : Array Value)[j]? = some v := by
  rw [List.map_take, List.getElem?_take] at h
  split at h
  · rw [← Array.getElem?_toList]; exact h
  · cases h
set_option maxRecDepth 100000 in
set_option maxHeartbeats 3200000 in
theorem detects_in (s : ByteArray) (p : Nat) (c0 c1 c2 c3 : UInt8) (w : World) (ht : Tab w) (hs : s.size ≤ 300) (h : p < s.size) :
    Calls Tryd.prog 6 #[.string s, .int .i64 (p : Int), .agg #[v8 c0, v8 c1, v8 c2, v8 c3]] w fun e w' => e = .returned (.bool true) ∧ Below w.heap.size w w' := by
  obtain ⟨w0, hw0⟩ : ∃ W, W = w.alloc (.cells #[v8 c0, v8 c1, v8 c2, v8 c3] 31) := ⟨_, rfl⟩
  have hz0 : w0.heap.size = w.heap.size + 1 := by rw [hw0]; simp
  have hT0 : Tab w0 := by rw [hw0]; exact ht.below ((Below.refl _ w).alloc (Nat.le_refl _) _) ht.lt
  have hF0 : Row w0 w.heap.size 31 #[v8 c0, v8 c1, v8 c2, v8 c3] := by rw [hw0]; exact Row.new w _ _
  have hB0 : Below w.heap.size w w0 := by rw [hw0]; exact (Below.refl _ w).alloc (Nat.le_refl _) _
  obtain ⟨cB, wB, hcv, hbB, hB, hcB⟩ := conv_bytes2 w0 s
  rw [hz0] at hB
  have HR := Lib.hid hB
  have HF := Lib.hid (hF0.below hbB hF0.lt)
  have HT := Lib.hid (hT0.below hbB hT0.lt)
  have HB := Lib.hid (below_call hB0 hbB)
  clear ht hbB hB hF0 hT0 hB0 hz0
  rw [hw0] at hcv
  clear hw0
  obtain ⟨cs, hcs⟩ : ∃ cs, ([c0, c1, c2, c3] : List UInt8).take (s.size - p) = cs := ⟨_, rfl⟩
  have hcl : cs.length = Nat.min 4 (s.size - p) := by rw [← hcs]; simp [List.length_take]; exact Nat.min_comm _ _
  have hc4 : cs.length ≤ 4 := by rw [hcl]; exact Nat.min_le_left _ _
  have hcp : cs.length ≤ s.size - p := by rw [hcl]; exact Nat.min_le_right _ _
  obtain ⟨x, hx⟩ : ∃ x, over s.data.toList p cs = x := ⟨_, rfl⟩
  have hxl : x.length = s.size := by rw [← hx, over_length, len_data]
  obtain ⟨X, hX⟩ : ∃ X, strB x = X := ⟨_, rfl⟩
  have hxs : X.size ≤ 9223372036854775807 := by rw [← hX, strB_size]; omega
  have hss : s.size ≤ 9223372036854775807 := by omega
  obtain ⟨z, hz⟩ : ∃ z : Int, ((Crc.crc s.data.toList).toNat : Int) = z := ⟨_, rfl⟩
  obtain ⟨y, hy⟩ : ∃ y : Int, ((Crc.crc X.data.toList).toNat : Int) = y := ⟨_, rfl⟩
  have hfin : ∃ b, (X.toList == s.toList) = b ∧ (y == z) = b := by
    refine ⟨_, rfl, ?_⟩
    rw [str_beq, ← hX, strB_data, Bool.eq_iff_iff, beq_iff_eq, decide_eq_true_eq, ← hz, ← hy, ← hX, strB_data, ← hx, ← over_crc s.data.toList cs p hc4 (by rw [len_data]; omega)]
    constructor
    · intro h; exact BitVec.eq_of_toNat_eq (by omega)
    · intro h; rw [h]
  have HX := Lib.hid hx
  have HCL := Lib.hid hcl
  have HXX := Lib.hid hX
  have HZ := Lib.hid hz
  have HY := Lib.hid hy
  have HFOUR := Lib.hid (fun j v (h : (cs.map v8)[j]? = some v) => four_get c0 c1 c2 c3 (s.size - p) j v (by rw [hcs]; exact h))
  have hkd : ∀ wn, KD w (w.heap.size + 1) x wn → (convert 32 9 (.slice (some ⟨w.heap.size + 1, 0, none⟩) s.size cB)).run Tryd.prog wn = .ok (.string X) wn := fun wn h => by
    rw [← hX]
    exact conv_str wn 32 9 5 _ s.size cB _ Tryd.underlying32 Tryd.underlying5 Tryd.underlying9 h.1.rd hxl (by omega)
  clear hcs hcl hx hxl hX hz hy hc4
  obtain ⟨b, hb1, hb2⟩ := hfin
  simp only [v8] at hcv ⊢
  have hple : p ≤ s.size := by omega
  have hpne : ¬ cB = p := by omega
  have HCV := Lib.hid hkd
  clear hkd
  go_enter Tryd.func6, Tryd.ntmps6
  go_wp2_with fail
  go_still_tail 4, (by kernel_rfl)
  change wpList _ _ _ _ _ wB.drew
  refine wpList_copy_byt rfl _ _ rfl HR.out.drew p (s.size - p) (cB - p) ⟨w.heap.size, 0, none⟩ 4 4 rfl rfl cs HCL.out (fun j v hj => ?_) ?_ (fun w2 h1 h2 => ?_)
  · have e : (⟨w.heap.size, 0, none⟩ : Addr).add j = ⟨w.heap.size, j, none⟩ := by unfold Addr.add; split <;> simp_all
    rw [e]
    exact (HF.out.cell j).trans (HFOUR.out j v hj)
  · have := len_data s
    omega
  rw [HX.out] at h1
  have HKD := Lib.hid (show KD w (w.heap.size + 1) x w2 from ⟨h1, (show Tab wB.drew from HT.out).below (h2 (w.heap.size + 1) (Nat.le_refl _)) (Nat.succ_pos _), HB.out.drew.trans (h2 w.heap.size (Nat.le_succ _))⟩)
  clear h1 h2
  go_wp2_with fail
  have hcv2 := HCV.out
  go_region_held3 (fun wn => KD w (w.heap.size + 1) x wn) (first | exact HS | exact HKD.out.drew | assumption) (first
    | (go_at_call 8; ((with_reducible refine (sanity_any _ (KD.tab (w := w) (g := w.heap.size + 1) (x := x) (by assumption))).mono ?_)); rintro e wn ⟨rfl, hb⟩; have HS := KD.next (w := w) (g := w.heap.size + 1) (x := x) (by assumption) hb)
    | (go_at_call 11; ((with_reducible refine (fof_num X _ hxs HY.out).mono ?_)); rintro e wn ⟨rfl, hb⟩; have HS := KD.next (w := w) (g := w.heap.size + 1) (x := x) (by assumption) hb)
    | (go_at_call 11; ((with_reducible refine (fof_num s _ hss HZ.out).mono ?_)); rintro e wn ⟨rfl, hb⟩; have HS := KD.next (w := w) (g := w.heap.size + 1) (x := x) (by assumption) hb))
  have HE := Lib.hid HS
  clear hcv2
  go_wp2_with fail
  go_ret
  exact ⟨rfl, HE.out.2.2⟩
theorem walk_PrintDetects (s : ByteArray) (p : Int) (c0 c1 c2 c3 : UInt8) (w : World) (hs : s.size ≤ maxLen) {A B : Prop} (_h1 : A) (_h2 : B) (ht : Tab w) :
    Calls Tryd.prog 6 #[.string s, .int .i64 p, .agg #[v8 c0, v8 c1, v8 c2, v8 c3]] w fun e w' => e = .returned (.bool true) ∧ Below w.heap.size w w' := by
  unfold maxLen at hs
  by_cases h : 300 < s.size ∨ (s.size ≤ 300 ∧ (p < 0 ∨ (0 ≤ p ∧ (s.size : Int) ≤ p)))
  · exact detects_out s p c0 c1 c2 c3 w ht (by omega) h
  · obtain ⟨n, rfl⟩ := Int.eq_ofNat_of_zero_le (show 0 ≤ p by omega)
    exact detects_in s n c0 c1 c2 c3 w ht (by omega) (by omega)

/-! ### the frame: the arguments opened and shut -/
theorem contract_PrintDetects (H : Type) (enc : TypeId × Value → H) (W : World) (base : Nat) (args : Array Value) (ds gs : List (DataW H)) (before : List MemPlace)
    (hval0 : ∀ (j : Nat) t v, Tryd.f6.params[j]? = some t → args[j]? = some v → Value.okWide Tryd.prog W .any base t v)
    (hW : DataW.Whole enc Tryd.prog Tryd.f6.params.toList Rows.printDetectsSpec.vars false W args.toList ds gs before) (hL : laidMetH Tryd.prog Rows.printDetectsRow.laid W) :
    Calls Tryd.prog 6 args W fun e W' => ∃ v, e = .returned v ∧ Rows.printDetectsSpec.post enc Tryd.prog Tryd.f6 false true false false W args v W' := by
  have hval : ∀ (j : Nat) t v, Tryd.f6.params[j]? = some t → args[j]? = some v → Value.okWide Tryd.prog W .any base t v := hval0
  have hW' := hW
  obtain ⟨p, q, hA0, hV, rfl, hfz, hnd⟩ := hW
  have hA : DataW.TrodAll enc Tryd.prog W 0 (fun _ => true) true Tryd.f6.params.toList args.toList ds p := hA0
  rw [Tryd.params6] at hA hval
  obtain ⟨v0, vs0, d0, ds0, p0, q0, hargs, rfl, rfl, h0, r0⟩ := trodAll_cons hA
  obtain ⟨v1, vs1, d1, ds1, p1, q1, rfl, rfl, rfl, h1, r1⟩ := trodAll_cons r0
  obtain ⟨v2, vs2, d2, ds2, p2, q2, rfl, rfl, rfl, h2, r2⟩ := trodAll_cons r1
  obtain ⟨rfl, rfl, rfl⟩ := trodAll_nil r2
  obtain rfl : args = #[v0, v1, v2] := by cases args; simp_all
  obtain ⟨rfl, rfl⟩ := trodVars_none hV
  have k0 := h0
  have lt0 : ∀ x ∈ p0, x.block < W.heap.size := by obtain ⟨m, hm⟩ := k0; exact DataW.trod_lt m _ _ _ hm
  have k1 := h1
  have lt1 : ∀ x ∈ p1, x.block < W.heap.size := by obtain ⟨m, hm⟩ := k1; exact DataW.trod_lt m _ _ _ hm
  have k2 := h2
  have lt2 : ∀ x ∈ p2, x.block < W.heap.size := by obtain ⟨m, hm⟩ := k2; exact DataW.trod_lt m _ _ _ hm
  obtain ⟨n0, rfl, rfl, rfl, w0⟩ := _root_.Go.ChangeMaps.open_string Tryd.underlying9 (hval 0 9 v0 rfl rfl) h0
  obtain ⟨n1, rfl, rfl, rfl, w1⟩ := open_int Tryd.underlying3 (hval 1 3 v1 rfl rfl) h1
  obtain ⟨cs2, rfl, _⟩ := okWide_arr Tryd.underlying31 (hval 2 31 v2 rfl rfl)
  obtain ⟨fuel2, hf2⟩ := h2
  obtain ⟨ca2, cb2, cc2, cd2, hcs2⟩ := open_arr4 Tryd.underlying31 Tryd.underlying5 (by kernel_rfl) (by kernel_rfl) hf2
  obtain rfl : cs2 = #[v8 ca2, v8 cb2, v8 cc2, v8 cd2] := by apply Array.toList_inj.1; simpa [Value.cells] using hcs2
  refine (walk_PrintDetects n0 n1 ca2 cb2 cc2 cd2 W w0 (wf_i64 w1).1 (wf_i64 w1).2 (tab_of hL)).mono fun e W' ⟨he, bel⟩ => ?_
  subst he
  exact ⟨_, rfl, _, _, _, [], _, [], hW', trodAll_mk1 (shut_bool Tryd.underlying4 _), (trodAll_cons_mk (Below.trod laidOut (by kernel_rfl) (of_decide_eq_true (by kernel_rfl)) k0 bel lt0) (trodAll_cons_mk (Below.trod laidOut (by kernel_rfl) (of_decide_eq_true (by kernel_rfl)) k1 bel lt1) (trodAll_cons_mk (Below.trod laidOut (by kernel_rfl) (of_decide_eq_true (by kernel_rfl)) k2 bel lt2) trodAll_mk0))), rfl, bel.frame _, fun h => by cases h⟩
theorem laid_PrintDetects (os : Os) : laidMet Tryd.prog Rows.printDetectsRow.laid ((laidWorld os).forCall (fun _ _ => 0) ⟨#[], #[.string .empty, .int .i64 0, .agg #[.int .u8 0, .int .u8 0, .int .u8 0, .int .u8 0]], []⟩).memory :=
  laidMet_of_run' 8 (by kernel_rfl) (by kernel_rfl)
theorem reads_PrintDetects (os : Os) {H : Type} (enc : TypeId × Value → H) : ∃ places, DataW.whole enc Tryd.prog ((laidWorld os).forCall (fun _ _ => 0) ⟨#[], #[.string .empty, .int .i64 0, .agg #[.int .u8 0, .int .u8 0, .int .u8 0, .int .u8 0]], []⟩).memory Tryd.f6.params.toList Rows.printDetectsSpec.vars false (#[.string .empty, .int .i64 0, .agg #[.int .u8 0, .int .u8 0, .int .u8 0, .int .u8 0]] : Array Value).toList 8 = some ([.lit (.string []), .lit (.int .i64 0), .agg [.lit (.int .u8 0), .lit (.int .u8 0), .lit (.int .u8 0), .lit (.int .u8 0)]], [], places) :=
  ⟨[], by kernel_rfl⟩
set_option maxRecDepth 100000 in
theorem lifted_PrintDetects (os : Os) (started : os.Started) (H : Type) (enc : TypeId × Value → H) (F : Stop.Interp) :
    ReturnsInHanded {} Tryd.checked os 6 .any ((OpenSpec.ofChange Rows.printDetectsSpec).preRow enc Tryd.prog Tryd.f6 Rows.printDetectsRow.domain false Rows.printDetectsRow.laid) (((OpenSpec.ofChange Rows.printDetectsSpec).at F).post enc Tryd.prog Tryd.f6 false true false false) := by
  obtain ⟨places, hx⟩ := reads_PrintDetects os enc
  refine returnsInHanded_of_row (C := Tryd.checked) (s := OpenSpec.ofChange Rows.printDetectsSpec) own started (by kernel_rfl) Tryd.func6
    (witness_row_at (enc := enc) (C := Tryd.checked) false (laidWorld os) #[.string .empty, .int .i64 0, .agg #[.int .u8 0, .int .u8 0, .int .u8 0, .int .u8 0]] rfl (by kernel_rfl) (by kernel_rfl) (by kernel_rfl)
      (OpenSpec.preRow_of_cond 8 hx (by kernel_rfl) (fun k hk => by cases hk) (by kernel_rfl) (laid_PrintDetects os))) ?_
  intro W base args ds gs before hval hW _ hcond _ hL _ _
  exact contract_PrintDetects H enc W base args ds gs before hval hW hL

theorem said_PrintDetects : Rows.PrintDetectsSaid :=
  OpenClaim.holds_of_cond 6 Tryd.f6 rfl rfl rfl rfl rfl rfl rfl ⟨rfl, rfl, rfl, rfl, rfl⟩ rfl rfl rfl rfl rfl (by kernel_rfl) Tryd.func6 (by kernel_rfl)
    (of_decide_eq_true (by kernel_rfl)) (by unfold Func.isWrapper; first | (rw [if_pos (by decide +kernel)]; kernel_rfl) | (rw [if_neg (by decide +kernel)]; exact ⟨rfl, rfl⟩))
    (fun os started H enc _ F => by rw [OpenClaim.pre_eq_preRow]; exact lifted_PrintDetects os started H enc F)
theorem plain_PrintDetects (f : FuncId) (fn : Func) (hf : Tryd.pinned.checked.prog.funcNamed "solvent/solventlaw04.PrintDetects" = some f) (hfn : Tryd.pinned.checked.prog.funcs[f]? = some fn) :
    false = Tryd.pinned.checked.prog.looks [] ∧ ∀ (j : Nat) t, fn.params[j]? = some t → Tryd.pinned.checked.prog.wantsStandIn t = false := by
  obtain rfl : f = 6 := Option.some.inj ((show Tryd.prog.funcNamed "solvent/solventlaw04.PrintDetects" = some 6 by kernel_rfl).symm.trans hf) |>.symm
  obtain rfl : fn = Tryd.f6 := (Option.some.inj (Tryd.func6.symm.trans hfn)).symm
  refine ⟨by kernel_rfl, fun j t ht => ?_⟩
  rw [Tryd.params6] at ht
  have hm := Array.mem_of_getElem? ht
  simp only [List.mem_toArray, List.mem_cons, List.not_mem_nil, or_false] at hm
  rcases hm with rfl | rfl | rfl
  all_goals first | exact (show Tryd.prog.wantsStandIn 9 = false by kernel_rfl) | exact (show Tryd.prog.wantsStandIn 3 = false by kernel_rfl) | exact (show Tryd.prog.wantsStandIn 31 = false by kernel_rfl)
theorem proved_PrintDetects : Rows.PrintDetectsCardSaid :=
  Claim7.holds_tied_plain_at .later [] _ _ _ _ said_PrintDetects (fun _ h => by cases h) (by kernel_rfl) (fun _ h => by cases h) printDetects_row_tie rfl ⟨rfl, rfl⟩ (by kernel_rfl) rfl plain_PrintDetects (by kernel_rfl)
end Go.Proofs.YtgeiholilcgooaaDoor
