/- CrcAffine: for every three strings the law returns true, and its arguments read as they did. No condition. -/
import Derived.Test.YtgnafdpondmjfaaLawCombines
import Derived.Deep.RegionHeld3
namespace Go.Proofs.Ytgnafdpondmjfaa
open Go.ChangeShapes Go.WideShapes Go.ChangeAt Go.RowKit
set_option linter.unusedVariables false

theorem xor3_next (xs ys zs : List UInt8) (k : Nat) (h1 : k < xs.length) (h2 : k < ys.length) (h3 : k < zs.length) :
    Crc.xor3 (xs.take (k + 1)) (ys.take (k + 1)) (zs.take (k + 1)) = Crc.xor3 (xs.take k) (ys.take k) (zs.take k) ++ [xs[k] ^^^ ys[k] ^^^ zs[k]] := by
  induction xs generalizing ys zs k with
  | nil => simp at h1
  | cons x xs ih =>
    cases ys with
    | nil => simp at h2
    | cons y ys =>
      cases zs with
      | nil => simp at h3
      | cons z zs =>
        cases k with
        | zero => simp [Crc.xor3]
        | succ k =>
          simp only [List.take_succ_cons, Crc.xor3, List.cons_append, List.getElem_cons_succ]
          rw [ih ys zs k (by simpa using h1) (by simpa using h2) (by simpa using h3)]
theorem xor3_length (xs ys zs : List UInt8) (k : Nat) (h1 : k ≤ xs.length) (h2 : k ≤ ys.length) (h3 : k ≤ zs.length) : (Crc.xor3 (xs.take k) (ys.take k) (zs.take k)).length = k := by
  induction k with
  | zero => simp [Crc.xor3]
  | succ k ih => rw [xor3_next xs ys zs k (by omega) (by omega) (by omega), List.length_append, ih (by omega) (by omega) (by omega)]; rfl

set_option maxRecDepth 100000 in
theorem walk_CrcAffine_out (a0 : Option Addr) (len0 cap0 : Nat) (a1 : Option Addr) (len1 cap1 : Nat) (a2 : Option Addr) (len2 cap2 : Nat) (w : World)
    (h : (len1 : Int) < (len0 : Int) ∨ ((len0 : Int) ≤ (len1 : Int) ∧ (len2 : Int) < (len0 : Int))) :
    Calls Try.prog 9 #[.slice a0 len0 cap0, .slice a1 len1 cap1, .slice a2 len2 cap2] w fun e w' => e = .returned (.bool true) ∧ Below w.heap.size w w' := by
  rcases h with h | ⟨h1, h⟩
  all_goals
    go_enter Try.func9, Try.ntmps9
    go_wp2_with fail
    refine (sanity_any _).mono ?_
    rintro e w1 ⟨rfl, hb⟩
    have H1 := Lib.hid hb
    clear hb
    go_wp2_with fail
    go_ret
    exact ⟨rfl, H1.out⟩

set_option maxHeartbeats 1600000 in
set_option maxRecDepth 100000 in
theorem walk_CrcAffine_in (a0 : Option Addr) (len0 cap0 : Nat) (xs : List UInt8) (a1 : Option Addr) (len1 cap1 : Nat) (ys : List UInt8) (a2 : Option Addr) (len2 cap2 : Nat) (zs : List UInt8) (w : World)
    (hl0 : xs.length = len0) (hm0 : len0 ≤ 9223372036854775807) (hrd0 : Rd w w.heap.size a0 (xs.map v8)) (hre0 : len0 ≤ 140737488351232)
    (hl1 : ys.length = len1) (hm1 : len1 ≤ 9223372036854775807) (hrd1 : Rd w w.heap.size a1 (ys.map v8)) (hre1 : len1 ≤ 140737488351232)
    (hl2 : zs.length = len2) (hm2 : len2 ≤ 9223372036854775807) (hrd2 : Rd w w.heap.size a2 (zs.map v8)) (hre2 : len2 ≤ 140737488351232)
    (h1 : len0 ≤ len1) (h2 : len0 ≤ len2) (hc1 : len1 ≤ cap1) (hc2 : len2 ≤ cap2) :
    Calls Try.prog 9 #[.slice a0 len0 cap0, .slice a1 len1 cap1, .slice a2 len2 cap2] w fun e w' => e = .returned (.bool true) ∧ Below w.heap.size w w' := by
  have HR0 := Lib.hid hrd0
  have HR1 := Lib.hid hrd1
  have HR2 := Lib.hid hrd2
  have HL0 := Lib.hid hl0
  have HL1 := Lib.hid hl1
  have HL2 := Lib.hid hl2
  have hd1 : decide (len1 < len0) = false := by simp; omega
  have hd2 : decide (len2 < len0) = false := by simp; omega
  clear hrd0 hrd1 hrd2 hl0 hl1 hl2
  go_enter Try.func9, Try.ntmps9
  go_wp2_with fail
  go_loopw [8, 9] (fun d i wr => ∃ (k c' : Nat) (a' : Option Addr), k ≤ len0 ∧ i = .int .i64 k ∧ d = .slice a' k c' ∧
    Own wr w.heap.size 5 a' k c' ((Crc.xor3 (xs.take k) (ys.take k) (zs.take k)).map v8) ∧ Below w.heap.size w wr) (fun _ i _ => len0 - (intOf i).toNat)
  case atStart => exact ⟨0, 0, none, by omega, rfl, rfl, Own.nil _ _ _, Below.refl _ _⟩
  case round =>
    obtain ⟨k, c', a', hk, rfl, rfl, ho, hb⟩ := hrel
    have HO := Lib.hid ho
    have HB := Lib.hid hb
    clear ho hb
    by_cases hlt : k < len0
    · have hk0 : k < xs.length := by rw [HL0.out]; exact hlt
      have hk1 : k < ys.length := by rw [HL1.out]; omega
      have hk2 : k < zs.length := by rw [HL2.out]; omega
      obtain ⟨x, hx⟩ : ∃ x, x = xs[k] := ⟨_, rfl⟩
      obtain ⟨y, hy⟩ : ∃ y, y = ys[k] := ⟨_, rfl⟩
      obtain ⟨z, hz⟩ : ∃ z, z = zs[k] := ⟨_, rfl⟩
      have HN := Lib.hid (show Crc.xor3 (xs.take (k + 1)) (ys.take (k + 1)) (zs.take (k + 1)) = Crc.xor3 (xs.take k) (ys.take k) (zs.take k) ++ [x ^^^ y ^^^ z] by rw [hx, hy, hz]; exact xor3_next xs ys zs k hk0 hk1 hk2)
      obtain ⟨b0, off0, rfl, _, hcell0⟩ := (HR0.out.below HB.out) k (v8 x) (by rw [List.getElem?_map, List.getElem?_eq_getElem hk0, hx]; rfl)
      obtain ⟨b1, off1, rfl, _, hcell1⟩ := (HR1.out.below HB.out) k (v8 y) (by rw [List.getElem?_map, List.getElem?_eq_getElem hk1, hy]; rfl)
      obtain ⟨b2, off2, rfl, _, hcell2⟩ := (HR2.out.below HB.out) k (v8 z) (by rw [List.getElem?_map, List.getElem?_eq_getElem hk2, hz]; rfl)
      simp only [v8] at hcell0 hcell1 hcell2
      have hkl1 : k < len1 := by omega
      have hkl2 : k < len2 := by omega
      clear hx hy hz hk0 hk1 hk2
      go_wp2_with fail
      go_region_law (refine step_app rfl (.tmp 30) (.tmp 45) 22 rfl w.heap.size 5 (.int .u8 0) 1 Try.underlying22 elem_u8 rfl a' k c' _ rfl ((HO.out.alloc _).drewN 1) _ (some ⟨wr.heap.size, 0, none⟩) 1 1 [.int .u8 (bits .xor .u8 (bits .xor .u8 (x.toNat : Int) (y.toNat : Int)) (z.toNat : Int))] rfl ((Rd.one wr _ _).drewN 1) rfl (by intro u hu; simp only [List.mem_singleton] at hu; subst hu; rfl) (by unfold maxLen; omega) (by omega) (by have := HB.out.size; simp; omega) ?_; intro a2 c2 w2 ho hg; rw [b8_xor, b8_xor] at ho; have HO2 := Lib.hid ho; have HB2 := Lib.hid (below_grown ((HB.out.alloc HB.out.size _).drew) hg ((HO.out.alloc _).drewN 1) (by have := HB.out.size; simp; omega)); clear ho hg)
      all_goals go_wp2_with fail
      all_goals
        go_roundw
        case rel => exact ⟨k + 1, c2, a2, by omega, by go_num, rfl, by rw [HN.out, List.map_append]; exact HO2.out, HB2.out⟩
        case measure => simp [intOf]; omega
    · have HO1 := Lib.hid (show Own wr w.heap.size 5 a' len0 c' ((Crc.xor3 (xs.take len0) (ys.take len0) (zs.take len0)).map v8) by rw [← show k = len0 by omega]; exact HO.out)
      have HT0 := Lib.hid (show xs.take len0 = xs from List.take_of_length_le (by rw [HL0.out]; exact Nat.le_refl _))
      have HT1 := Lib.hid (show (ys.take len0).length = len0 by rw [List.length_take, HL1.out]; omega)
      have HT2 := Lib.hid (show (zs.take len0).length = len0 by rw [List.length_take, HL2.out]; omega)
      have HT3 := Lib.hid (xor3_length xs ys zs len0 (by rw [HL0.out]; exact Nat.le_refl _) (by rw [HL1.out]; exact h1) (by rw [HL2.out]; exact h2))
      have hkk : k = len0 := by omega
      subst hkk
      obtain ⟨X, hX⟩ : ∃ X, X = Crc.crc xs := ⟨_, rfl⟩
      obtain ⟨Y, hY⟩ : ∃ Y, Y = Crc.crc (ys.take k) := ⟨_, rfl⟩
      obtain ⟨Z, hZ⟩ : ∃ Z, Z = Crc.crc (zs.take k) := ⟨_, rfl⟩
      obtain ⟨T, hT⟩ : ∃ T, T = Crc.crc (Crc.xor3 (xs.take k) (ys.take k) (zs.take k)) := ⟨_, rfl⟩
      have HX := Lib.hid hX
      have HY := Lib.hid hY
      have HZ := Lib.hid hZ
      have HT := Lib.hid hT
      have HV := Lib.hid (show X ^^^ Y ^^^ Z = T by
        have h := Crc.affine (xs.take k) (ys.take k) (zs.take k) (by rw [HT0.out, HT1.out, HL0.out]) (by rw [HT0.out, HT2.out, HL0.out])
        rw [HT0.out] at h hT
        rw [hX, hY, hZ, hT, h])
      clear hX hY hZ hT
      have hkc1 : (k : Int) ≤ (cap1 : Int) := by omega
      have hkc2 : (k : Int) ≤ (cap2 : Int) := by omega
      have hkn1 : k ≤ cap1 := by omega
      have hkn2 : k ≤ cap2 := by omega
      have hk0 : (0 : Int) ≤ (k : Int) := by omega
      go_wp2_with fail
      go_region_held3 (fun _ => True) (trivial) (first | (go_at_call 10; ((with_reducible refine (sanity_any _).mono ?_)); rintro e wx ⟨rfl, hb⟩; have HB := Lib.hid (below_call HB.out.drew hb); have HO1 := Lib.hid ((HO1.out.drewN 1).below hb); clear hb) | (go_at_call 11; ((with_reducible refine (of_any a0 k cap0 w.heap.size xs _ HL0.out hm0 HB.out.size (HR0.out.below HB.out)).mono ?_)); rintro e wx ⟨rfl, hb⟩; have HB := Lib.hid (below_call HB.out hb); have HO1 := Lib.hid (HO1.out.below hb); clear hb; rw [← HX.out]; simp only [v32]) | (go_at_call 11; ((with_reducible refine (of_any a1 k cap1 w.heap.size (ys.take k) _ HT1.out hm0 HB.out.size (by rw [List.map_take]; exact (HR1.out.below HB.out).take k)).mono ?_)); rintro e wx ⟨rfl, hb⟩; have HB := Lib.hid (below_call HB.out hb); have HO1 := Lib.hid (HO1.out.below hb); clear hb; rw [← HY.out]; simp only [v32]) | (go_at_call 11; ((with_reducible refine (of_any a2 k cap2 w.heap.size (zs.take k) _ HT2.out hm0 HB.out.size (by rw [List.map_take]; exact (HR2.out.below HB.out).take k)).mono ?_)); rintro e wx ⟨rfl, hb⟩; have HB := Lib.hid (below_call HB.out hb); have HO1 := Lib.hid (HO1.out.below hb); clear hb; rw [← HZ.out]; simp only [v32]) | (go_at_call 11; ((with_reducible refine (of_any a' k c' _ (Crc.xor3 (xs.take k) (ys.take k) (zs.take k)) _ HT3.out hm0 (Nat.le_refl _) HO1.out.rd).mono ?_)); rintro e wx ⟨rfl, hb⟩; have HB := Lib.hid (below_call HB.out hb); have HO1 := Lib.hid (HO1.out.below hb); clear hb; rw [← HT.out]; simp only [v32]))
      all_goals go_wp2_with fail
      all_goals go_ret
      all_goals exact ⟨ret_bool (by rw [b32_xor, b32_xor, HV.out]; simp), HB.out⟩

theorem walk_CrcAffine (a0 : Option Addr) (len0 cap0 : Nat) (xs : List UInt8) (a1 : Option Addr) (len1 cap1 : Nat) (ys : List UInt8) (a2 : Option Addr) (len2 cap2 : Nat) (zs : List UInt8) (w : World)
    (hl0 : xs.length = len0) (hm0 : len0 ≤ 9223372036854775807) (hrd0 : Rd w w.heap.size a0 (xs.map v8)) (hc0 : len0 ≤ cap0) (hre0 : len0 ≤ 140737488351232)
    (hl1 : ys.length = len1) (hm1 : len1 ≤ 9223372036854775807) (hrd1 : Rd w w.heap.size a1 (ys.map v8)) (hc1 : len1 ≤ cap1) (hre1 : len1 ≤ 140737488351232)
    (hl2 : zs.length = len2) (hm2 : len2 ≤ 9223372036854775807) (hrd2 : Rd w w.heap.size a2 (zs.map v8)) (hc2 : len2 ≤ cap2) (hre2 : len2 ≤ 140737488351232) :
    Calls Try.prog 9 #[.slice a0 len0 cap0, .slice a1 len1 cap1, .slice a2 len2 cap2] w fun e w' => e = .returned (.bool true) ∧ Below w.heap.size w w' := by
  by_cases h : (len1 : Int) < (len0 : Int) ∨ ((len0 : Int) ≤ (len1 : Int) ∧ (len2 : Int) < (len0 : Int))
  · exact walk_CrcAffine_out a0 len0 cap0 a1 len1 cap1 a2 len2 cap2 w h
  · exact walk_CrcAffine_in a0 len0 cap0 xs a1 len1 cap1 ys a2 len2 cap2 zs w hl0 hm0 hrd0 hre0 hl1 hm1 hrd1 hre1 hl2 hm2 hrd2 hre2 (by omega) (by omega) hc1 hc2

/-! ### the frame: the arguments opened and shut -/
theorem contract_CrcAffine (H : Type) (enc : TypeId × Value → H) (W : World) (base : Nat) (args : Array Value) (ds gs : List (DataW H)) (before : List MemPlace)
    (hval0 : ∀ (j : Nat) t v, Try.f9.params[j]? = some t → args[j]? = some v → Value.okWide Try.prog W .any base t v)
    (hW : DataW.Whole enc Try.prog Try.f9.params.toList Rows.crcAffineSpec.vars false W args.toList ds gs before) (hsz0 : (DataW.weightsEach Try.prog (Try.f9.params.toList ++ Rows.crcAffineSpec.plain.varTypes Try.prog) (ds ++ gs)).all (· ≤ reachBytes) = true):
    Calls Try.prog 9 args W fun e W' => ∃ v, e = .returned v ∧ Rows.crcAffineSpec.post enc Try.prog Try.f9 false true false false W args v W' := by
  have hval : ∀ (j : Nat) t v, Try.f9.params[j]? = some t → args[j]? = some v → Value.okWide Try.prog W .any base t v := hval0
  have hW' := hW
  obtain ⟨p, q, hA0, hV, rfl, hfz, hnd⟩ := hW
  have hA : DataW.TrodAll enc Try.prog W 0 (fun _ => true) true Try.f9.params.toList args.toList ds p := hA0
  rw [Try.params9] at hA hval
  obtain ⟨v0, vs0, d0, ds0, p0, q0, hargs, rfl, rfl, h0, r0⟩ := trodAll_cons hA
  obtain ⟨v1, vs1, d1, ds1, p1, q1, rfl, rfl, rfl, h1, r1⟩ := trodAll_cons r0
  obtain ⟨v2, vs2, d2, ds2, p2, q2, rfl, rfl, rfl, h2, r2⟩ := trodAll_cons r1
  obtain ⟨rfl, rfl, rfl⟩ := trodAll_nil r2
  obtain rfl : args = #[v0, v1, v2] := by cases args; simp_all
  obtain ⟨rfl, rfl⟩ := trodVars_none hV
  have hsz : (DataW.weightsEach Try.prog [22, 22, 22] ([d0, d1, d2])).all (· ≤ reachBytes) = true := hsz0
  have k0 := h0
  have lt0 : ∀ x ∈ p0, x.block < W.heap.size := by obtain ⟨m, hm⟩ := k0; exact DataW.trod_lt m _ _ _ hm
  have k1 := h1
  have lt1 : ∀ x ∈ p1, x.block < W.heap.size := by obtain ⟨m, hm⟩ := k1; exact DataW.trod_lt m _ _ _ hm
  have k2 := h2
  have lt2 : ∀ x ∈ p2, x.block < W.heap.size := by obtain ⟨m, hm⟩ := k2; exact DataW.trod_lt m _ _ _ hm
  obtain ⟨a0, len0, cap0, rfl⟩ := okWide_slice Try.underlying22 (hval 0 22 v0 rfl rfl)
  obtain ⟨fuel0, hf0⟩ := h0
  obtain ⟨x0, y0, z0, bs0, hcs0, hbl0, hlc0, hcm0, hrd0, hso0⟩ := open_u8s Try.underlying22 Try.underlying5 (by kernel_rfl) hf0
  simp only [Value.cells, List.cons.injEq, Value.slice.injEq, and_true] at hcs0
  obtain ⟨rfl, rfl, rfl⟩ := hcs0
  have hmx0 : len0 ≤ 9223372036854775807 := by unfold maxLen at hcm0; omega
  have hre0 : len0 ≤ 140737488351232 := by
    have hb1 : Try.prog.bytesOf 5 = 1 := by kernel_rfl
    have := SliceOf.reach hsz (j := 0) hso0 rfl rfl Try.underlying22
    rw [hb1] at this; unfold reachBytes at this; omega
  obtain ⟨a1, len1, cap1, rfl⟩ := okWide_slice Try.underlying22 (hval 1 22 v1 rfl rfl)
  obtain ⟨fuel1, hf1⟩ := h1
  obtain ⟨x1, y1, z1, bs1, hcs1, hbl1, hlc1, hcm1, hrd1, hso1⟩ := open_u8s Try.underlying22 Try.underlying5 (by kernel_rfl) hf1
  simp only [Value.cells, List.cons.injEq, Value.slice.injEq, and_true] at hcs1
  obtain ⟨rfl, rfl, rfl⟩ := hcs1
  have hmx1 : len1 ≤ 9223372036854775807 := by unfold maxLen at hcm1; omega
  have hre1 : len1 ≤ 140737488351232 := by
    have hb1 : Try.prog.bytesOf 5 = 1 := by kernel_rfl
    have := SliceOf.reach hsz (j := 1) hso1 rfl rfl Try.underlying22
    rw [hb1] at this; unfold reachBytes at this; omega
  obtain ⟨a2, len2, cap2, rfl⟩ := okWide_slice Try.underlying22 (hval 2 22 v2 rfl rfl)
  obtain ⟨fuel2, hf2⟩ := h2
  obtain ⟨x2, y2, z2, bs2, hcs2, hbl2, hlc2, hcm2, hrd2, hso2⟩ := open_u8s Try.underlying22 Try.underlying5 (by kernel_rfl) hf2
  simp only [Value.cells, List.cons.injEq, Value.slice.injEq, and_true] at hcs2
  obtain ⟨rfl, rfl, rfl⟩ := hcs2
  have hmx2 : len2 ≤ 9223372036854775807 := by unfold maxLen at hcm2; omega
  have hre2 : len2 ≤ 140737488351232 := by
    have hb1 : Try.prog.bytesOf 5 = 1 := by kernel_rfl
    have := SliceOf.reach hsz (j := 2) hso2 rfl rfl Try.underlying22
    rw [hb1] at this; unfold reachBytes at this; omega
  refine (walk_CrcAffine a0 len0 cap0 bs0 a1 len1 cap1 bs1 a2 len2 cap2 bs2 W hbl0 hmx0 hrd0 hlc0 hre0 hbl1 hmx1 hrd1 hlc1 hre1 hbl2 hmx2 hrd2 hlc2 hre2).mono fun e W' ⟨he, bel⟩ => ?_
  subst he
  exact ⟨_, rfl, _, _, _, [], _, [], hW', trodAll_mk1 (shut_bool Try.underlying4 _), (trodAll_cons_mk (Below.trod laidOut (by kernel_rfl) (of_decide_eq_true (by kernel_rfl)) k0 bel lt0) (trodAll_cons_mk (Below.trod laidOut (by kernel_rfl) (of_decide_eq_true (by kernel_rfl)) k1 bel lt1) (trodAll_cons_mk (Below.trod laidOut (by kernel_rfl) (of_decide_eq_true (by kernel_rfl)) k2 bel lt2) trodAll_mk0))), rfl, bel.frame _, fun h => by cases h⟩

set_option maxRecDepth 100000 in
theorem lifted_CrcAffine (os : Os) (started : os.Started) (H : Type) (enc : TypeId × Value → H) :
    ReturnsInHanded {} Try.checked os 9 .any (Rows.crcAffineSpec.pre6 enc Try.prog Try.f9 Rows.crcAffineRow.domain false) (Rows.crcAffineSpec.post enc Try.prog Try.f9 false true false false) := by
  refine returnsInHanded_of_change_sized (C := Try.checked) own started (by kernel_rfl) Try.func9
    (ChangeSpec.witness6 (enc := enc) (C := Try.checked) false ⟨#[], #[.slice none 0 0, .slice none 0 0, .slice none 0 0], []⟩ 8 (by kernel_rfl) (by kernel_rfl) (by kernel_rfl) (by kernel_rfl)) ?_
  intro W base args ds gs before hval hW _ hz _
  exact contract_CrcAffine H enc W base args ds gs before hval hW hz

theorem proved_CrcAffine : Rows.CrcAffineSaid :=
  OpenClaim.holds_of_wide 9 Try.f9 rfl rfl rfl rfl rfl rfl rfl ⟨rfl, rfl, rfl, rfl, rfl⟩ rfl rfl rfl rfl rfl (by kernel_rfl) Try.func9 (by kernel_rfl)
    (of_decide_eq_true (by kernel_rfl)) (by unfold Func.isWrapper; first | (rw [if_pos (by decide +kernel)]; kernel_rfl) | (rw [if_neg (by decide +kernel)]; exact ⟨rfl, rfl⟩))
    (fun os started H enc _ => lifted_CrcAffine os started H enc)
end Go.Proofs.Ytgnafdpondmjfaa
