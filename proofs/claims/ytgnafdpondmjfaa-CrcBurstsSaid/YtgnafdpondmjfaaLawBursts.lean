/- CrcBursts: for every string, position and change of four adjacent bytes the law returns true, and its arguments read as they did. No condition. -/
import Derived.Test.YtgnafdpondmjfaaLawCombines
namespace Go.Proofs.Ytgnafdpondmjfaa
open Go.ChangeShapes Go.WideShapes Go.ChangeAt Go.RowKit
set_option linter.unusedVariables false

/-- '==' of two arrays of four bytes -/
theorem eq4 (n : Nat) (a b c d x y z t : Int) (w : World) : (Op.equalIn (n + 2) 34 (.agg #[.int .u8 a, .int .u8 b, .int .u8 c, .int .u8 d]) (.agg #[.int .u8 x, .int .u8 y, .int .u8 z, .int .u8 t])).run Try.prog w =
    .ok (a == x && b == y && c == z && d == t) w := by
  have h34 := Try.underlying34
  have hc : (sizeOf 5).run Try.prog w = .ok 1 w := by kernel_rfl
  have hu := Try.underlying5
  have hi : (isAgg 5).run Try.prog w = .ok false w := by kernel_rfl
  have key : ∀ p q : Int, (Op.equalIn (n + 1) 5 (.int .u8 p) (.int .u8 q)).run Try.prog w = .ok (p == q) w := fun p q => run_equalIn_int w n 5 .u8 .u8 p q hu
  unfold Op.equalIn
  simp only [Sem.run_bind, run_underlying h34, Result.andThen_ok, hc]
  simp [Std.Legacy.Range.forIn_eq_forIn_range', Std.Legacy.Range.size, List.range', Go.part, hi, key, Sem.run_bind]
  cases h1 : (a == x) <;> simp_all
  cases h2 : (b == y) <;> simp_all
  cases h3 : (c == z) <;> simp_all
  cases h4 : (d == t) <;> simp_all

/-- the bytes from p on, changed one after the other -/
def upd (bs : List UInt8) (p : Nat) (cs : List UInt8) : Nat → List UInt8
  | 0 => bs
  | k + 1 => (upd bs p cs k).set (p + k) ((upd bs p cs k)[p + k]?.getD 0 ^^^ cs[k]?.getD 0)
theorem upd_length (bs : List UInt8) (p : Nat) (cs : List UInt8) (k : Nat) : (upd bs p cs k).length = bs.length := by
  induction k with
  | zero => rfl
  | succ k ih => rw [upd, List.length_set, ih]
theorem upd_four (l m : List UInt8) (x0 x1 x2 x3 c0 c1 c2 c3 : UInt8) :
    upd (l ++ x0 :: x1 :: x2 :: x3 :: m) l.length [c0, c1, c2, c3] 4 = l ++ (x0 ^^^ c0) :: (x1 ^^^ c1) :: (x2 ^^^ c2) :: (x3 ^^^ c3) :: m := by
  simp [upd]
theorem four_at (bs : List UInt8) (p : Nat) (h : p + 4 ≤ bs.length) : ∃ l m x0 x1 x2 x3, bs = l ++ x0 :: x1 :: x2 :: x3 :: m ∧ l.length = p := by
  refine ⟨bs.take p, bs.drop (p + 4), bs[p], bs[p + 1], bs[p + 2], bs[p + 3], ?_, by simp; omega⟩
  conv => lhs; rw [← List.take_append_drop p bs]
  congr 1
  rw [List.drop_eq_getElem_cons (by omega), List.drop_eq_getElem_cons (by omega), List.drop_eq_getElem_cons (by omega), List.drop_eq_getElem_cons (by omega)]
theorem upd_crc (bs : List UInt8) (p : Nat) (c0 c1 c2 c3 : UInt8) (h : p + 4 ≤ bs.length) (hc : ¬ (c0 = 0 ∧ c1 = 0 ∧ c2 = 0 ∧ c3 = 0)) : Crc.crc (upd bs p [c0, c1, c2, c3] 4) ≠ Crc.crc bs := by
  obtain ⟨l, m, x0, x1, x2, x3, rfl, rfl⟩ := four_at bs p h
  rw [upd_four]
  exact (Crc.burst l m x0 x1 x2 x3 c0 c1 c2 c3 hc).symm
theorem v8_toNat (x : UInt8) : ((x.toNat : Int) == 0) = (x == 0) := by
  rw [Bool.eq_iff_iff, beq_iff_eq, beq_iff_eq]
  constructor
  · intro h
    apply UInt8.toNat_inj.1
    show x.toNat = 0
    omega
  · rintro rfl; rfl

set_option maxRecDepth 100000 in
theorem walk_CrcBursts_out (a : Option Addr) (len cap : Nat) (pos : Int) (c0 c1 c2 c3 : UInt8) (w : World) (hm : len ≤ 9223372036854775807) (hp1 : -9223372036854775808 ≤ pos) (hp2 : pos ≤ 9223372036854775807)
    (h : pos < 0 ∨ (0 ≤ pos ∧ (len : Int) - 4 < pos)) :
    Calls Try.prog 7 #[.slice a len cap, .int .i64 pos, .agg #[v8 c0, v8 c1, v8 c2, v8 c3]] w fun e w' => e = .returned (.bool true) ∧ Below w.heap.size w w' := by
  simp only [v8]
  rcases h with h | ⟨h1, h⟩
  all_goals
    go_enter Try.func7, Try.ntmps7
    go_wp2_with fail
    refine (sanity_any _).mono ?_
    rintro e w1 ⟨rfl, hb⟩
    have H1 := Lib.hid (below_call ((Below.refl w.heap.size w).alloc (Nat.le_refl _) _) hb)
    clear hb
    go_wp2_with fail
    go_ret
    exact ⟨rfl, H1.out⟩

set_option maxRecDepth 100000 in
theorem walk_CrcBursts_in (a : Option Addr) (len cap : Nat) (bs : List UInt8) (pos : Int) (c0 c1 c2 c3 : UInt8) (w : World) (hl : bs.length = len) (hm : len ≤ 9223372036854775807) (hrd : Rd w w.heap.size a (bs.map v8)) (hre : len ≤ 140737488351232)
    (hp1 : -9223372036854775808 ≤ pos) (hp2 : pos ≤ 9223372036854775807)
    (h1 : 0 ≤ pos) (h2 : pos ≤ (len : Int) - 4) :
    Calls Try.prog 7 #[.slice a len cap, .int .i64 pos, .agg #[v8 c0, v8 c1, v8 c2, v8 c3]] w fun e w' => e = .returned (.bool true) ∧ Below w.heap.size w w' := by
  by_cases hz : c0 = 0 ∧ c1 = 0 ∧ c2 = 0 ∧ c3 = 0
  · obtain ⟨rfl, rfl, rfl, rfl⟩ := hz
    have he := fun w => eq4 9998 0 0 0 0 0 0 0 0 w
    simp only [v8]
    go_enter Try.func7, Try.ntmps7
    go_wp2_with fail
    refine (sanity_any _).mono ?_
    rintro e w1 ⟨rfl, hb⟩
    have H1 := Lib.hid (below_call ((Below.refl w.heap.size w).alloc (Nat.le_refl _) _) hb)
    clear hb
    go_wp2_with fail
    go_ret
    exact ⟨rfl, H1.out⟩
  · have he := fun w => eq4 9998 c0.toNat c1.toNat c2.toNat c3.toNat 0 0 0 0 w
    have hf : ((c0.toNat : Int) == 0 && (c1.toNat : Int) == 0 && (c2.toNat : Int) == 0 && (c3.toNat : Int) == 0) = false := by
      rw [v8_toNat, v8_toNat, v8_toNat, v8_toNat]
      cases h0 : (c0 == 0) <;> cases h1 : (c1 == 0) <;> cases h2 : (c2 == 0) <;> cases h3 : (c3 == 0) <;> simp_all
    simp only [hf] at he
    have HZ := Lib.hid hz
    have HR := Lib.hid hrd
    have HL := Lib.hid hl
    obtain ⟨p, rfl⟩ := Int.eq_ofNat_of_zero_le h1
    clear hf hz hrd hl
    simp only [v8]
    go_enter Try.func7, Try.ntmps7
    go_wp2_with (refine wpList_app _ rfl (.tmp 24) (.tmp 25) 22 rfl (w.heap.size + 1) 5 (.int .u8 0) 1 Try.underlying22 elem_u8 rfl none 0 0 [] rfl (Own.nil _ _ _) w.heap.size a len cap (bs.map v8) rfl (HR.out.alloc (Nat.le_refl _) _) (by rw [List.length_map]; exact HL.out) (v8_one bs) (by unfold maxLen; omega) (by omega) (by simp) ?_; intro a' c' w1 ho hg; rw [Nat.zero_add, List.nil_append] at ho; rw [Nat.zero_add]; have HO := Lib.hid ho; have HB := Lib.hid (below_grown2 ((Below.refl w.heap.size w).alloc (Nat.le_refl _) _) hg (Own.nil _ (w.heap.size + 1) 5) (by simp) (by omega)); have HA := Lib.hid (show Row w1 w.heap.size 34 #[v8 c0, v8 c1, v8 c2, v8 c3] from (hg.block w.heap.size (by simp) (by simp [Value.ownBlock])).trans (Row.new w _ _)); clear ho hg)
    obtain ⟨g, rfl, hgB, _⟩ := HO.out.at_ (show 0 < len by omega)
    have HG := Lib.hid (show w.heap.size ≠ g by omega)
    have HgB := Lib.hid (show w.heap.size ≤ g by omega)
    clear hgB he
    go_loopw [8] (fun i wr => ∃ k : Nat, k ≤ 4 ∧ i = .int .i64 k ∧ Own wr (w.heap.size + 1) 5 (some ⟨g, 0, none⟩) len c' ((upd bs p [c0, c1, c2, c3] k).map v8) ∧ Row wr w.heap.size 34 #[v8 c0, v8 c1, v8 c2, v8 c3] ∧ Below w.heap.size w wr) (fun i _ => 4 - (intOf i).toNat)
    case atStart => exact ⟨0, by omega, rfl, HO.out, HA.out, HB.out⟩
    case round =>
      obtain ⟨k, hk, rfl, ho, ha, hb⟩ := hrel
      have HO1 := Lib.hid ho
      have HA1 := Lib.hid ha
      have HB1 := Lib.hid hb
      clear ho ha hb
      by_cases hlt : k < 4
      · obtain ⟨x, hx⟩ : ∃ x, x = (upd bs p [c0, c1, c2, c3] k)[p + k]?.getD 0 := ⟨_, rfl⟩
        obtain ⟨y, hy⟩ : ∃ y, y = ([c0, c1, c2, c3] : List UInt8)[k]?.getD 0 := ⟨_, rfl⟩
        have hpk : p + k < len := by omega
        have hxc : wr.cell? ⟨g, p + k, none⟩ = some (.int .u8 (x.toNat : Int)) := by
          obtain ⟨g2, e2, _, _, hc, _⟩ := HO1.out.at_ hpk
          injection e2 with e2
          injection e2 with e2
          subst e2
          have hlen : p + k < (upd bs p [c0, c1, c2, c3] k).length := by rw [upd_length, HL.out]; exact hpk
          rw [hc, List.getElem?_map, List.getElem?_eq_getElem hlen, hx, List.getElem?_eq_getElem hlen]; rfl
        have hxf : wr.frozen? ⟨g, p + k, none⟩ = false := by
          obtain ⟨g2, e2, _, _, _, hf⟩ := HO1.out.at_ hpk
          injection e2 with e2
          injection e2 with e2
          subst e2
          exact hf
        have hyc : wr.cell? ⟨w.heap.size, k, none⟩ = some (.int .u8 (y.toNat : Int)) := by
          rw [HA1.out.cell, hy, ← Array.getElem?_toList]
          have : k = 0 ∨ k = 1 ∨ k = 2 ∨ k = 3 := by omega
          rcases this with rfl | rfl | rfl | rfl <;> rfl
        have HXY := Lib.hid (show upd bs p [c0, c1, c2, c3] (k + 1) = (upd bs p [c0, c1, c2, c3] k).set (p + k) (x ^^^ y) by rw [upd, ← hx, ← hy])
        have hb8 := b8_xor x y
        clear hx hy
        go_wp2_with fail
        go_region
        all_goals go_wp2_with fail
        all_goals
          go_roundw
          case rel =>
            have hv : Value.int .u8 ((x.toNat ^^^ y.toNat : Nat) : Int) = v8 (x ^^^ y) := by rw [v8, UInt8.toNat_xor]
            refine ⟨k + 1, by omega, by go_num, ?_, ?_, ?_⟩
            · rw [HXY.out, List.map_set, hv]
              exact HO1.out.put hpk _
            · exact HA1.out.far HG.out _
            · exact (HB1.out.setCell HgB.out _).drew
          case measure => simp [intOf]; omega
      · have HK := Lib.hid (show Own wr (w.heap.size + 1) 5 (some ⟨g, 0, none⟩) len c' ((upd bs p [c0, c1, c2, c3] 4).map v8) by rw [← show k = 4 by omega]; exact HO1.out)
        go_wp2_with fail
        refine (sanity_any _).mono ?_
        rintro e w2 ⟨rfl, hb⟩
        have H2 := Lib.hid (below_call HB1.out hb)
        have HO2 := Lib.hid (HK.out.below hb)
        clear hb
        go_wp2_with fail
        refine (of_any _ len c' _ (upd bs p [c0, c1, c2, c3] 4) _ (by rw [upd_length, HL.out]) hm (Nat.le_refl _) HO2.out.rd).mono ?_
        rintro e w3 ⟨rfl, hb⟩
        have H3 := Lib.hid (below_call H2.out hb)
        clear hb
        obtain ⟨X, hX⟩ : ∃ X, X = Crc.crc (upd bs p [c0, c1, c2, c3] 4) := ⟨_, rfl⟩
        rw [← hX]
        have HX := Lib.hid hX
        clear hX
        simp only [v32]
        go_wp2_with fail
        refine (of_any a len cap w.heap.size bs _ HL.out hm H3.out.size (HR.out.below H3.out)).mono ?_
        rintro e w4 ⟨rfl, hb⟩
        have H4 := Lib.hid (below_call H3.out hb)
        clear hb
        obtain ⟨Y, hY⟩ : ∃ Y, Y = Crc.crc bs := ⟨_, rfl⟩
        rw [← hY]
        have hne : ((X.toNat : Int) != (Y.toNat : Int)) = true := by
          rw [bne_iff_ne]
          intro h
          have h2 : X.toNat = Y.toNat := by omega
          have h3 : X = Y := BitVec.eq_of_toNat_eq h2
          rw [HX.out, hY] at h3
          exact upd_crc bs p c0 c1 c2 c3 (by rw [HL.out]; omega) HZ.out h3
        clear hY
        simp only [v32]
        go_wp2_with fail
        go_ret
        exact ⟨rfl, H4.out⟩

set_option maxRecDepth 100000 in
theorem walk_CrcBursts (a : Option Addr) (len cap : Nat) (bs : List UInt8) (pos : Int) (c0 c1 c2 c3 : UInt8) (w : World) (hl : bs.length = len) (hm : len ≤ 9223372036854775807) (hrd : Rd w w.heap.size a (bs.map v8)) (hre : len ≤ 140737488351232)
    (hp1 : -9223372036854775808 ≤ pos) (hp2 : pos ≤ 9223372036854775807) :
    Calls Try.prog 7 #[.slice a len cap, .int .i64 pos, .agg #[v8 c0, v8 c1, v8 c2, v8 c3]] w fun e w' => e = .returned (.bool true) ∧ Below w.heap.size w w' := by
  by_cases h : pos < 0 ∨ (0 ≤ pos ∧ (len : Int) - 4 < pos)
  · exact walk_CrcBursts_out a len cap pos c0 c1 c2 c3 w hm hp1 hp2 h
  · exact walk_CrcBursts_in a len cap bs pos c0 c1 c2 c3 w hl hm hrd hre hp1 hp2 (by omega) (by omega)

/-! ### the frame: the arguments opened and shut -/
theorem contract_CrcBursts (H : Type) (enc : TypeId × Value → H) (W : World) (base : Nat) (args : Array Value) (ds gs : List (DataW H)) (before : List MemPlace)
    (hval0 : ∀ (j : Nat) t v, Try.f7.params[j]? = some t → args[j]? = some v → Value.okWide Try.prog W .any base t v)
    (hW : DataW.Whole enc Try.prog Try.f7.params.toList Rows.crcBurstsSpec.vars false W args.toList ds gs before) (hsz0 : (DataW.weightsEach Try.prog (Try.f7.params.toList ++ Rows.crcBurstsSpec.plain.varTypes Try.prog) (ds ++ gs)).all (· ≤ reachBytes) = true):
    Calls Try.prog 7 args W fun e W' => ∃ v, e = .returned v ∧ Rows.crcBurstsSpec.post enc Try.prog Try.f7 false true false false W args v W' := by
  have hval : ∀ (j : Nat) t v, Try.f7.params[j]? = some t → args[j]? = some v → Value.okWide Try.prog W .any base t v := hval0
  have hW' := hW
  obtain ⟨p, q, hA0, hV, rfl, hfz, hnd⟩ := hW
  have hA : DataW.TrodAll enc Try.prog W 0 (fun _ => true) true Try.f7.params.toList args.toList ds p := hA0
  rw [Try.params7] at hA hval
  obtain ⟨v0, vs0, d0, ds0, p0, q0, hargs, rfl, rfl, h0, r0⟩ := trodAll_cons hA
  obtain ⟨v1, vs1, d1, ds1, p1, q1, rfl, rfl, rfl, h1, r1⟩ := trodAll_cons r0
  obtain ⟨v2, vs2, d2, ds2, p2, q2, rfl, rfl, rfl, h2, r2⟩ := trodAll_cons r1
  obtain ⟨rfl, rfl, rfl⟩ := trodAll_nil r2
  obtain rfl : args = #[v0, v1, v2] := by cases args; simp_all
  obtain ⟨rfl, rfl⟩ := trodVars_none hV
  have hsz : (DataW.weightsEach Try.prog [22, 3, 34] ([d0, d1, d2])).all (· ≤ reachBytes) = true := hsz0
  have k0 := h0
  have lt0 : ∀ x ∈ p0, x.block < W.heap.size := by obtain ⟨m, hm⟩ := k0; exact DataW.trod_lt m _ _ _ hm
  have k1 := h1
  have lt1 : ∀ x ∈ p1, x.block < W.heap.size := by obtain ⟨m, hm⟩ := k1; exact DataW.trod_lt m _ _ _ hm
  have k2 := h2
  have lt2 : ∀ x ∈ p2, x.block < W.heap.size := by obtain ⟨m, hm⟩ := k2; exact DataW.trod_lt m _ _ _ hm
  obtain ⟨a0, len0, cap0, rfl⟩ := okWide_slice Try.underlying22 (hval 0 22 v0 rfl rfl)
  obtain ⟨fuel0, hf0⟩ := h0
  obtain ⟨x0, y0, z0, bs0, hcs0, hbl0, hlc0, hcm0, hrd0, hso0⟩ := open_u8s Try.underlying22 Try.underlying5 (by kernel_rfl) hf0
  simp only [Value.cells, List.cons.injEq, Value.slice.injEq, and_true] at hcs0
  obtain ⟨rfl, rfl, rfl⟩ := hcs0
  have hmx0 : len0 ≤ 9223372036854775807 := by unfold maxLen at hcm0; omega
  have hre0 : len0 ≤ 140737488351232 := by
    have hb1 : Try.prog.bytesOf 5 = 1 := by kernel_rfl
    have := SliceOf.reach hsz (j := 0) hso0 rfl rfl Try.underlying22
    rw [hb1] at this; unfold reachBytes at this; omega
  obtain ⟨n1, rfl, rfl, rfl, w1⟩ := open_int Try.underlying3 (hval 1 3 v1 rfl rfl) h1
  obtain ⟨cs2, rfl, _⟩ := okWide_arr Try.underlying34 (hval 2 34 v2 rfl rfl)
  obtain ⟨fuel2, hf2⟩ := h2
  obtain ⟨ca2, cb2, cc2, cd2, hcs2⟩ := open_arr4 Try.underlying34 Try.underlying5 (by kernel_rfl) (by kernel_rfl) hf2
  obtain rfl : cs2 = #[v8 ca2, v8 cb2, v8 cc2, v8 cd2] := by apply Array.toList_inj.1; simpa [Value.cells] using hcs2
  refine (walk_CrcBursts a0 len0 cap0 bs0 n1 ca2 cb2 cc2 cd2 W hbl0 hmx0 hrd0 hre0 (wf_i64 w1).1 (wf_i64 w1).2).mono fun e W' ⟨he, bel⟩ => ?_
  subst he
  exact ⟨_, rfl, _, _, _, [], _, [], hW', trodAll_mk1 (shut_bool Try.underlying4 _), (trodAll_cons_mk (Below.trod laidOut (by kernel_rfl) (of_decide_eq_true (by kernel_rfl)) k0 bel lt0) (trodAll_cons_mk (Below.trod laidOut (by kernel_rfl) (of_decide_eq_true (by kernel_rfl)) k1 bel lt1) (trodAll_cons_mk (Below.trod laidOut (by kernel_rfl) (of_decide_eq_true (by kernel_rfl)) k2 bel lt2) trodAll_mk0))), rfl, bel.frame _, fun h => by cases h⟩

set_option maxRecDepth 100000 in
theorem lifted_CrcBursts (os : Os) (started : os.Started) (H : Type) (enc : TypeId × Value → H) :
    ReturnsInHanded {} Try.checked os 7 .any (Rows.crcBurstsSpec.pre6 enc Try.prog Try.f7 Rows.crcBurstsRow.domain false) (Rows.crcBurstsSpec.post enc Try.prog Try.f7 false true false false) := by
  refine returnsInHanded_of_change_sized (C := Try.checked) own started (by kernel_rfl) Try.func7
    (ChangeSpec.witness6 (enc := enc) (C := Try.checked) false ⟨#[], #[.slice none 0 0, .int .i64 0, .agg #[.int .u8 0, .int .u8 0, .int .u8 0, .int .u8 0]], []⟩ 8 (by kernel_rfl) (by kernel_rfl) (by kernel_rfl) (by kernel_rfl)) ?_
  intro W base args ds gs before hval hW _ hz _
  exact contract_CrcBursts H enc W base args ds gs before hval hW hz

theorem proved_CrcBursts : Rows.CrcBurstsSaid :=
  OpenClaim.holds_of_wide 7 Try.f7 rfl rfl rfl rfl rfl rfl rfl ⟨rfl, rfl, rfl, rfl, rfl⟩ rfl rfl rfl rfl rfl (by kernel_rfl) Try.func7 (by kernel_rfl)
    (of_decide_eq_true (by kernel_rfl)) (by unfold Func.isWrapper; first | (rw [if_pos (by decide +kernel)]; kernel_rfl) | (rw [if_neg (by decide +kernel)]; exact ⟨rfl, rfl⟩))
    (fun os started H enc _ => lifted_CrcBursts os started H enc)
end Go.Proofs.Ytgnafdpondmjfaa
