/- CrcCombines: for every two strings, where what is read is of bulk at most 1048576, the law returns true, and its arguments read as they did. -/
import Derived.Test.YtgnafdpondmjfaaCrcS
import Derived.Test.YtgnafdpondmjfaaOwn
import Derived.Test.YtgnafdpondmjfaaOpen
namespace Go.Proofs.Ytgnafdpondmjfaa
open Go.ChangeShapes Go.WideShapes Go.ChangeAt Go.RowKit
set_option linter.unusedVariables false

theorem elem_u8 : Elem Try.prog 5 (.int .u8 0) 1 := by unfold Elem; kernel_rfl
theorem v8_one (bs : List UInt8) : ∀ u ∈ bs.map v8, u.oneCell' = true := by
  intro u hu
  simp only [List.mem_map] at hu
  obtain ⟨x, _, rfl⟩ := hu
  rfl

set_option maxRecDepth 100000 in
theorem walk_CrcCombines (a0 : Option Addr) (len0 cap0 : Nat) (xs : List UInt8) (a1 : Option Addr) (len1 cap1 : Nat) (ys : List UInt8) (w : World)
    (hl0 : xs.length = len0) (hm0 : len0 ≤ 9223372036854775807) (hrd0 : Rd w w.heap.size a0 (xs.map v8))
    (hl1 : ys.length = len1) (hm1 : len1 ≤ 9223372036854775807) (hrd1 : Rd w w.heap.size a1 (ys.map v8)) (hsum : len0 + len1 ≤ 1048576) :
    Calls Try.prog 5 #[.slice a0 len0 cap0, .slice a1 len1 cap1] w fun e w' => e = .returned (.bool true) ∧ Below w.heap.size w w' := by
  have HR0 := Lib.hid hrd0
  have HR1 := Lib.hid hrd1
  have HL0 := Lib.hid hl0
  have HL1 := Lib.hid hl1
  clear hrd0 hrd1 hl0 hl1
  go_enter Try.func5, Try.ntmps5
  go_wp2_with (first | (refine wpList_app _ rfl (.tmp 6) (.tmp 7) 22 rfl w.heap.size 5 (.int .u8 0) 1 Try.underlying22 elem_u8 rfl none 0 0 [] rfl (Own.nil _ _ _) _ a0 len0 cap0 (xs.map v8) rfl HR0.out (by rw [List.length_map]; exact HL0.out) (v8_one xs) (by unfold maxLen; omega) (by omega) (Nat.le_refl _) ?_; intro a' c' w1 ho hg; rw [Nat.zero_add, List.nil_append] at ho; rw [Nat.zero_add]; have HO := Lib.hid ho; have HB := Lib.hid (below_grown (Below.refl w.heap.size w) hg (Own.nil w w.heap.size 5) (Nat.le_refl _)); clear ho hg) | (refine wpList_app _ rfl (.tmp 9) (.tmp 10) 22 rfl w.heap.size 5 (.int .u8 0) 1 Try.underlying22 elem_u8 rfl a' len0 c' (xs.map v8) rfl HO.out _ a1 len1 cap1 (ys.map v8) rfl (HR1.out.below HB.out) (by rw [List.length_map]; exact HL1.out) (v8_one ys) (by unfold maxLen; omega) (by omega) HB.out.size ?_; intro a2 c2 w2 ho hg; have HO2 := Lib.hid ho; have HB2 := Lib.hid (below_grown HB.out hg HO.out HB.out.size); clear ho hg))
  refine (sanity_any _).mono ?_
  rintro e w3 ⟨rfl, hb⟩
  have H3 := Lib.hid (below_call HB2.out hb)
  have HO3 := Lib.hid (HO2.out.below hb)
  clear hb
  go_wp2_with fail
  refine (of_any a0 len0 cap0 w.heap.size xs _ HL0.out hm0 H3.out.size (HR0.out.below H3.out)).mono ?_
  rintro e w4 ⟨rfl, hb⟩
  have H4 := Lib.hid (below_call H3.out hb)
  have HO4 := Lib.hid (HO3.out.below hb)
  clear hb
  obtain ⟨X, hX⟩ : ∃ X, X = Crc.crc xs := ⟨_, rfl⟩
  rw [← hX]
  have HX := Lib.hid hX
  clear hX
  simp only [v32]
  go_wp2_with fail
  refine (of_any a1 len1 cap1 w.heap.size ys _ HL1.out hm1 H4.out.size (HR1.out.below H4.out)).mono ?_
  rintro e w5 ⟨rfl, hb⟩
  have H5 := Lib.hid (below_call H4.out hb)
  have HO5 := Lib.hid (HO4.out.below hb)
  clear hb
  obtain ⟨Y, hY⟩ : ∃ Y, Y = Crc.crc ys := ⟨_, rfl⟩
  rw [← hY]
  have HY := Lib.hid hY
  clear hY
  simp only [v32]
  go_wp2_with fail
  refine (combine_any X Y (len1 : Int) _ (by omega) (by omega)).mono ?_
  rintro e w6 ⟨rfl, hb⟩
  have H6 := Lib.hid (below_call H5.out hb)
  have HO6 := Lib.hid (HO5.out.below hb)
  clear hb
  have hv : v32 (Crc.comb X Y (len1 : Int).toNat) = v32 (Crc.crc (xs ++ ys)) := by
    rw [HX.out, HY.out, ← HL1.out, show ((ys.length : Nat) : Int).toNat = ys.length from rfl, Crc.comb_eq]
  rw [hv]
  clear hv
  obtain ⟨Z, hZ⟩ : ∃ Z, Z = Crc.crc (xs ++ ys) := ⟨_, rfl⟩
  rw [← hZ]
  have HZ := Lib.hid hZ
  clear hZ
  simp only [v32]
  go_wp2_with fail
  refine (of_any a2 (len0 + len1) c2 _ (xs ++ ys) _ (by rw [List.length_append, HL0.out, HL1.out]) (by omega) (Nat.le_refl _) (by rw [List.map_append]; exact HO6.out.rd)).mono ?_
  rintro e w7 ⟨rfl, hb⟩
  have H7 := Lib.hid (below_call H6.out hb)
  clear hb
  rw [← HZ.out]
  simp only [v32]
  go_wp2_with fail
  go_ret
  exact ⟨rfl, H7.out⟩

/-! ### the frame: the arguments opened and shut -/
theorem contract_CrcCombines (H : Type) (enc : TypeId × Value → H) (W : World) (base : Nat) (args : Array Value) (ds gs : List (DataW H)) (before : List MemPlace)
    (hval0 : ∀ (j : Nat) t v, Try.f5.params[j]? = some t → args[j]? = some v → Value.okWide Try.prog W .any base t v)
    (hW : DataW.Whole enc Try.prog Try.f5.params.toList Rows.crcCombinesSpec.vars false W args.toList ds gs before) (hsz0 : Rows.uptoSmall H (ds ++ gs) = true):
    Calls Try.prog 5 args W fun e W' => ∃ v, e = .returned v ∧ Rows.crcCombinesSpec.post enc Try.prog Try.f5 false true false false W args v W' := by
  have hval : ∀ (j : Nat) t v, Try.f5.params[j]? = some t → args[j]? = some v → Value.okWide Try.prog W .any base t v := hval0
  have hW' := hW
  obtain ⟨p, q, hA0, hV, rfl, hfz, hnd⟩ := hW
  have hA : DataW.TrodAll enc Try.prog W 0 (fun _ => true) true Try.f5.params.toList args.toList ds p := hA0
  rw [Try.params5] at hA hval
  obtain ⟨v0, vs0, d0, ds0, p0, q0, hargs, rfl, rfl, h0, r0⟩ := trodAll_cons hA
  obtain ⟨v1, vs1, d1, ds1, p1, q1, rfl, rfl, rfl, h1, r1⟩ := trodAll_cons r0
  obtain ⟨rfl, rfl, rfl⟩ := trodAll_nil r1
  obtain rfl : args = #[v0, v1] := by cases args; simp_all
  obtain ⟨rfl, rfl⟩ := trodVars_none hV
  have hbulk : Rows.uptoBulkAll ([d0, d1]) ≤ 1048576 := of_decide_eq_true hsz0
  simp only [Rows.uptoBulkAll] at hbulk
  have k0 := h0
  have lt0 : ∀ x ∈ p0, x.block < W.heap.size := by obtain ⟨m, hm⟩ := k0; exact DataW.trod_lt m _ _ _ hm
  have k1 := h1
  have lt1 : ∀ x ∈ p1, x.block < W.heap.size := by obtain ⟨m, hm⟩ := k1; exact DataW.trod_lt m _ _ _ hm
  obtain ⟨a0, len0, cap0, rfl⟩ := okWide_slice Try.underlying22 (hval 0 22 v0 rfl rfl)
  obtain ⟨fuel0, hf0⟩ := h0
  obtain ⟨x0, y0, z0, bs0, hcs0, hbl0, hlc0, hcm0, hrd0, hso0⟩ := open_u8s Try.underlying22 Try.underlying5 (by kernel_rfl) hf0
  simp only [Value.cells, List.cons.injEq, Value.slice.injEq, and_true] at hcs0
  obtain ⟨rfl, rfl, rfl⟩ := hcs0
  have hmx0 : len0 ≤ 9223372036854775807 := by unfold maxLen at hcm0; omega
  have hub0 : len0 + 1 ≤ Rows.uptoBulk d0 := hso0.bulk
  obtain ⟨a1, len1, cap1, rfl⟩ := okWide_slice Try.underlying22 (hval 1 22 v1 rfl rfl)
  obtain ⟨fuel1, hf1⟩ := h1
  obtain ⟨x1, y1, z1, bs1, hcs1, hbl1, hlc1, hcm1, hrd1, hso1⟩ := open_u8s Try.underlying22 Try.underlying5 (by kernel_rfl) hf1
  simp only [Value.cells, List.cons.injEq, Value.slice.injEq, and_true] at hcs1
  obtain ⟨rfl, rfl, rfl⟩ := hcs1
  have hmx1 : len1 ≤ 9223372036854775807 := by unfold maxLen at hcm1; omega
  have hub1 : len1 + 1 ≤ Rows.uptoBulk d1 := hso1.bulk
  refine (walk_CrcCombines a0 len0 cap0 bs0 a1 len1 cap1 bs1 W hbl0 hmx0 hrd0 hbl1 hmx1 hrd1 (by have := bulk_one d0; have := bulk_one d1; omega)).mono fun e W' ⟨he, bel⟩ => ?_
  subst he
  exact ⟨_, rfl, _, _, _, [], _, [], hW', trodAll_mk1 (shut_bool Try.underlying4 _), (trodAll_cons_mk (Below.trod laidOut (by kernel_rfl) (of_decide_eq_true (by kernel_rfl)) k0 bel lt0) (trodAll_cons_mk (Below.trod laidOut (by kernel_rfl) (of_decide_eq_true (by kernel_rfl)) k1 bel lt1) trodAll_mk0)), rfl, bel.frame _, fun h => by cases h⟩

set_option maxRecDepth 100000 in
theorem lifted_CrcCombines (os : Os) (started : os.Started) (H : Type) (enc : TypeId × Value → H) (F : Stop.Interp) :
    ReturnsInHanded {} Try.checked os 5 .any ((Rows.OpenSpec.upto Rows.crcCombinesSpec).pre6 enc Try.prog Try.f5 Rows.crcCombinesUptoRow.domain false) (((Rows.OpenSpec.upto Rows.crcCombinesSpec).at F).post enc Try.prog Try.f5 false true false false) := by
  refine returnsInHanded_of_cond (C := Try.checked) (s := Rows.OpenSpec.upto Rows.crcCombinesSpec) (k := Rows.uptoSmall) rfl own started (by kernel_rfl) Try.func5
    (OpenSpec.witness (enc := enc) (C := Try.checked) (s := Rows.OpenSpec.upto Rows.crcCombinesSpec) (k := Rows.uptoSmall) rfl false ⟨#[], #[.slice none 0 0, .slice none 0 0], []⟩ 8 (by kernel_rfl) (by kernel_rfl) (by kernel_rfl)
      (x := ([.nil, .nil], [], [])) (by kernel_rfl) rfl (by kernel_rfl)) ?_
  intro W base args ds gs before hval hW _ hk _
  exact contract_CrcCombines H enc W base args ds gs before hval hW hk

theorem proved_CrcCombines : Rows.CrcCombinesUptoSaid :=
  OpenClaim.holds_of_cond 5 Try.f5 rfl rfl rfl rfl rfl rfl rfl ⟨rfl, rfl, rfl, rfl, rfl⟩ rfl rfl rfl rfl rfl (by kernel_rfl) Try.func5 (by kernel_rfl)
    (of_decide_eq_true (by kernel_rfl)) (by unfold Func.isWrapper; first | (rw [if_pos (by decide +kernel)]; kernel_rfl) | (rw [if_neg (by decide +kernel)]; exact ⟨rfl, rfl⟩))
    (fun os started H enc _ F => lifted_CrcCombines os started H enc F)
end Go.Proofs.Ytgnafdpondmjfaa
