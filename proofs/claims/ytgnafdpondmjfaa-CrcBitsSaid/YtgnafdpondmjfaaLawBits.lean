/- CrcBits: for every string and three bit positions the law returns true, and its arguments read as they did. No condition. -/
import Derived.Test.YtgnafdpondmjfaaLawCombines
import Derived.Test.YtgnafdpondmjfaaCrcB
namespace Go.Proofs.Ytgnafdpondmjfaa
open Go.ChangeShapes Go.WideShapes Go.ChangeAt Go.RowKit
set_option linter.unusedVariables false

set_option maxRecDepth 100000 in
theorem walk_CrcBits_out (a : Option Addr) (len cap : Nat) (x y z : Int) (w : World)
    (h : (64 < (len : Int)) ∨ ((len : Int) ≤ 64 ∧ x < 0) ∨ ((len : Int) ≤ 64 ∧ 0 ≤ x ∧ y < 0) ∨ ((len : Int) ≤ 64 ∧ 0 ≤ x ∧ 0 ≤ y ∧ z < 0) ∨
      ((len : Int) ≤ 64 ∧ 0 ≤ x ∧ 0 ≤ y ∧ 0 ≤ z ∧ 8 * (len : Int) ≤ x) ∨ ((len : Int) ≤ 64 ∧ 0 ≤ x ∧ 0 ≤ y ∧ 0 ≤ z ∧ x < 8 * (len : Int) ∧ 8 * (len : Int) ≤ y) ∨
      ((len : Int) ≤ 64 ∧ 0 ≤ x ∧ 0 ≤ y ∧ 0 ≤ z ∧ x < 8 * (len : Int) ∧ y < 8 * (len : Int) ∧ 8 * (len : Int) ≤ z)) :
    Calls Try.prog 8 #[.slice a len cap, .int .i64 x, .int .i64 y, .int .i64 z] w fun e w' => e = .returned (.bool true) ∧ Below w.heap.size w w' := by
  rcases h with h | ⟨h0, h⟩ | ⟨h0, h1, h⟩ | ⟨h0, h1, h2, h⟩ | ⟨h0, h1, h2, h3, h⟩ | ⟨h0, h1, h2, h3, h4, h⟩ | ⟨h0, h1, h2, h3, h4, h5, h⟩
  all_goals
    go_enter Try.func8, Try.ntmps8
    go_wp2_with fail
    refine (sanity_any _).mono ?_
    rintro e w1 ⟨rfl, hb⟩
    have H1 := Lib.hid hb
    clear hb
    go_wp2_with fail
    go_ret
    exact ⟨rfl, H1.out⟩

theorem bit_pow (p : Nat) (h : p < 8) : ((Crc.bitOf p).toNat : Int) = 2 ^ p := by
  have : ∀ j : Fin 8, (Crc.bitOf j.val).toNat = 2 ^ j.val := by decide
  rw [this ⟨p, h⟩]; simp
theorem bit_go (x : UInt8) (p : Nat) : Value.int .u8 (bits .xor .u8 (x.toNat : Int) (2 ^ (p % 8) % 256)) = v8 (x ^^^ Crc.bitOf (p % 8)) := by
  have h8 : p % 8 < 8 := Nat.mod_lt _ (by decide)
  have e : (2 : Int) ^ (p % 8) % 256 = ((Crc.bitOf (p % 8)).toNat : Int) := by
    rw [← bit_pow _ h8]; have := (Crc.bitOf (p % 8)).toNat_lt; omega
  rw [e, b8_xor]; rfl
/-- what a place of a row of one's own holds -/
theorem Own.byte {w : World} {B : Nat} {e : TypeId} {g n c : Nat} {bs : List UInt8} (h : Own w B e (some ⟨g, 0, none⟩) n c (bs.map v8)) {k : Nat} (hk : k < n) :
    w.cell? ⟨g, k, none⟩ = some (.int .u8 ((bs[k]?.getD 0).toNat : Int)) ∧ w.frozen? ⟨g, k, none⟩ = false := by
  obtain ⟨g2, e2, _, _, hc, hf⟩ := h.at_ hk
  injection e2 with e2
  injection e2 with e2
  subst e2
  have hl := h.len
  rw [List.length_map] at hl
  have hkb : k < bs.length := by omega
  refine ⟨?_, hf⟩
  rw [hc, List.getElem?_map, List.getElem?_eq_getElem hkb]; rfl
theorem Own.flip {w : World} {B : Nat} {e : TypeId} {g n c : Nat} {bs : List UInt8} (h : Own w B e (some ⟨g, 0, none⟩) n c (bs.map v8)) {p : Nat} (hp : p < 8 * n) :
    Own (w.setCell ⟨g, p / 8, none⟩ (v8 (bs[p / 8]?.getD 0 ^^^ Crc.bitOf (p % 8)))) B e (some ⟨g, 0, none⟩) n c ((Crc.flip p bs).map v8) := by
  have hl := h.len
  rw [List.length_map] at hl
  rw [Crc.flip_set _ _ (by rw [hl]; exact hp), List.map_set]
  exact h.put (by omega) _

set_option maxHeartbeats 1600000 in
set_option maxRecDepth 100000 in
theorem walk_CrcBits_in (a : Option Addr) (len cap : Nat) (bs : List UInt8) (x y z : Nat) (w : World) (hl : bs.length = len) (hrd : Rd w w.heap.size a (bs.map v8))
    (hlen : len ≤ 64) (hx : x < 8 * len) (hy : y < 8 * len) (hz : z < 8 * len) :
    Calls Try.prog 8 #[.slice a len cap, .int .i64 x, .int .i64 y, .int .i64 z] w fun e w' => e = .returned (.bool true) ∧ Below w.heap.size w w' := by
  have HR := Lib.hid hrd
  have HL := Lib.hid hl
  have hd0 : decide (64 < (len : Int)) = false := by simp; omega
  clear hrd hl
  go_enter Try.func8, Try.ntmps8
  go_wp2_with (refine wpList_app _ rfl (.tmp 45) (.tmp 46) 22 rfl w.heap.size 5 (.int .u8 0) 1 Try.underlying22 elem_u8 rfl none 0 0 [] rfl (Own.nil _ _ _) w.heap.size a len cap (bs.map v8) rfl HR.out (by rw [List.length_map]; exact HL.out) (v8_one bs) (by unfold maxLen; omega) (by omega) (by simp) ?_; intro a' c' w1 ho hg; rw [Nat.zero_add, List.nil_append] at ho; rw [Nat.zero_add]; have HO := Lib.hid ho; have HB := Lib.hid (below_grown (Below.refl w.heap.size w) hg (Own.nil _ w.heap.size 5) (Nat.le_refl _)); clear ho hg)
  obtain ⟨g, rfl, hgB, _⟩ := HO.out.at_ (show 0 < len by omega)
  have HgB := Lib.hid hgB
  clear hgB
  have hk1 : x / 8 < len := by omega
  obtain ⟨hc1, hf1⟩ := HO.out.byte hk1
  go_wp2_with fail
  go_region
  obtain ⟨W1, hW⟩ : ∃ W, W = ((w1.setCell ⟨g, x / 8, none⟩ (Value.int IntKind.u8 (bits BinOp.xor IntKind.u8 ((bs[x / 8]?.getD 0).toNat : Int) (2 ^ (x % 8) % 256)))).drew) := ⟨_, rfl⟩
  rw [← hW]
  have HO1 := Lib.hid (show Own W1 w.heap.size 5 (some ⟨g, 0, none⟩) len c' ((Crc.flip x bs).map v8) by rw [hW, bit_go]; exact ((HO.out.flip (by omega)).drewN 1))
  have HB1 := Lib.hid (show Below w.heap.size w W1 by rw [hW]; exact (HB.out.setCell HgB.out _).drew)
  clear hW hc1 hf1
  by_cases hyx : y = x
  · subst hyx
    by_cases hzx : z = y
    · subst hzx
      have hq1 : ((z : Int) != (z : Int)) = false := by simp
      go_wp2_with fail
      refine (sanity_any _).mono ?_
      rintro e w5 ⟨rfl, hb⟩
      have H5 := Lib.hid (below_call HB1.out hb)
      have HO5 := Lib.hid (HO1.out.below hb)
      clear hb
      go_wp2_with fail
      refine (of_any _ len c' _ (Crc.flip z bs) _ (by first | rw [Crc.flip_length, Crc.flip_length, Crc.flip_length, HL.out] | rw [Crc.flip_length, Crc.flip_length, HL.out] | rw [Crc.flip_length, HL.out]) (by omega) (Nat.le_refl _) HO5.out.rd).mono ?_
      rintro e w6 ⟨rfl, hb⟩
      have H6 := Lib.hid (below_call H5.out hb)
      clear hb
      obtain ⟨X, hX⟩ : ∃ X, X = Crc.crc (Crc.flip z bs) := ⟨_, rfl⟩
      rw [← hX]
      have HX := Lib.hid hX
      clear hX
      simp only [v32]
      go_wp2_with fail
      refine (of_any a len cap w.heap.size bs _ HL.out (by omega) H6.out.size (HR.out.below H6.out)).mono ?_
      rintro e w7 ⟨rfl, hb⟩
      have H7 := Lib.hid (below_call H6.out hb)
      clear hb
      obtain ⟨Y, hY⟩ : ∃ Y, Y = Crc.crc bs := ⟨_, rfl⟩
      rw [← hY]
      have hne : ((X.toNat : Int) != (Y.toNat : Int)) = true := by
        rw [bne_iff_ne]
        intro h
        have h2 : X.toNat = Y.toNat := by omega
        have h3 : X = Y := BitVec.eq_of_toNat_eq h2
        rw [HX.out, hY] at h3
        exact Crc.bits1 bs z (by rw [HL.out]; exact hz) h3
      clear hY
      simp only [v32]
      go_wp2_with fail
      go_ret
      exact ⟨rfl, H7.out⟩
    · have hq1 : ((y : Int) != (y : Int)) = false := by simp
      have hq2 : ((z : Int) != (y : Int)) = true := by rw [bne_iff_ne]; omega
      have hk2 : z / 8 < len := by omega
      obtain ⟨hc2, hf2⟩ := HO1.out.byte hk2
      go_wp2_with fail
      go_region
      obtain ⟨W2, hW⟩ : ∃ W, W = ((W1.setCell ⟨g, z / 8, none⟩ (Value.int IntKind.u8 (bits BinOp.xor IntKind.u8 (((Crc.flip y bs)[z / 8]?.getD 0).toNat : Int) (2 ^ (z % 8) % 256)))).drew) := ⟨_, rfl⟩
      rw [← hW]
      have HO2 := Lib.hid (show Own W2 w.heap.size 5 (some ⟨g, 0, none⟩) len c' ((Crc.flip z (Crc.flip y bs)).map v8) by rw [hW, bit_go]; exact ((HO1.out.flip (by omega)).drewN 1))
      have HB2 := Lib.hid (show Below w.heap.size w W2 by rw [hW]; exact (HB1.out.setCell HgB.out _).drew)
      clear hW hc2 hf2
      go_wp2_with fail
      refine (sanity_any _).mono ?_
      rintro e w5 ⟨rfl, hb⟩
      have H5 := Lib.hid (below_call HB2.out hb)
      have HO5 := Lib.hid (HO2.out.below hb)
      clear hb
      go_wp2_with fail
      refine (of_any _ len c' _ (Crc.flip z (Crc.flip y bs)) _ (by first | rw [Crc.flip_length, Crc.flip_length, Crc.flip_length, HL.out] | rw [Crc.flip_length, Crc.flip_length, HL.out] | rw [Crc.flip_length, HL.out]) (by omega) (Nat.le_refl _) HO5.out.rd).mono ?_
      rintro e w6 ⟨rfl, hb⟩
      have H6 := Lib.hid (below_call H5.out hb)
      clear hb
      obtain ⟨X, hX⟩ : ∃ X, X = Crc.crc (Crc.flip z (Crc.flip y bs)) := ⟨_, rfl⟩
      rw [← hX]
      have HX := Lib.hid hX
      clear hX
      simp only [v32]
      go_wp2_with fail
      refine (of_any a len cap w.heap.size bs _ HL.out (by omega) H6.out.size (HR.out.below H6.out)).mono ?_
      rintro e w7 ⟨rfl, hb⟩
      have H7 := Lib.hid (below_call H6.out hb)
      clear hb
      obtain ⟨Y, hY⟩ : ∃ Y, Y = Crc.crc bs := ⟨_, rfl⟩
      rw [← hY]
      have hne : ((X.toNat : Int) != (Y.toNat : Int)) = true := by
        rw [bne_iff_ne]
        intro h
        have h2 : X.toNat = Y.toNat := by omega
        have h3 : X = Y := BitVec.eq_of_toNat_eq h2
        rw [HX.out, hY] at h3
        exact Crc.bits2 bs y z (by rw [HL.out]; exact hlen) (by rw [HL.out]; exact hy) (by rw [HL.out]; exact hz) hzx h3
      clear hY
      simp only [v32]
      go_wp2_with fail
      go_ret
      exact ⟨rfl, H7.out⟩
  · have hq1 : ((y : Int) != (x : Int)) = true := by rw [bne_iff_ne]; omega
    have hk2 : y / 8 < len := by omega
    obtain ⟨hc2, hf2⟩ := HO1.out.byte hk2
    go_wp2_with fail
    go_region
    obtain ⟨W2, hW⟩ : ∃ W, W = ((W1.setCell ⟨g, y / 8, none⟩ (Value.int IntKind.u8 (bits BinOp.xor IntKind.u8 (((Crc.flip x bs)[y / 8]?.getD 0).toNat : Int) (2 ^ (y % 8) % 256)))).drew) := ⟨_, rfl⟩
    rw [← hW]
    have HO2 := Lib.hid (show Own W2 w.heap.size 5 (some ⟨g, 0, none⟩) len c' ((Crc.flip y (Crc.flip x bs)).map v8) by rw [hW, bit_go]; exact ((HO1.out.flip (by omega)).drewN 1))
    have HB2 := Lib.hid (show Below w.heap.size w W2 by rw [hW]; exact (HB1.out.setCell HgB.out _).drew)
    clear hW hc2 hf2
    by_cases hzx : z = x
    · subst hzx
      have hq2 : ((z : Int) != (z : Int)) = false := by simp
      go_wp2_with fail
      refine (sanity_any _).mono ?_
      rintro e w5 ⟨rfl, hb⟩
      have H5 := Lib.hid (below_call HB2.out hb)
      have HO5 := Lib.hid (HO2.out.below hb)
      clear hb
      go_wp2_with fail
      refine (of_any _ len c' _ (Crc.flip y (Crc.flip z bs)) _ (by first | rw [Crc.flip_length, Crc.flip_length, Crc.flip_length, HL.out] | rw [Crc.flip_length, Crc.flip_length, HL.out] | rw [Crc.flip_length, HL.out]) (by omega) (Nat.le_refl _) HO5.out.rd).mono ?_
      rintro e w6 ⟨rfl, hb⟩
      have H6 := Lib.hid (below_call H5.out hb)
      clear hb
      obtain ⟨X, hX⟩ : ∃ X, X = Crc.crc (Crc.flip y (Crc.flip z bs)) := ⟨_, rfl⟩
      rw [← hX]
      have HX := Lib.hid hX
      clear hX
      simp only [v32]
      go_wp2_with fail
      refine (of_any a len cap w.heap.size bs _ HL.out (by omega) H6.out.size (HR.out.below H6.out)).mono ?_
      rintro e w7 ⟨rfl, hb⟩
      have H7 := Lib.hid (below_call H6.out hb)
      clear hb
      obtain ⟨Y, hY⟩ : ∃ Y, Y = Crc.crc bs := ⟨_, rfl⟩
      rw [← hY]
      have hne : ((X.toNat : Int) != (Y.toNat : Int)) = true := by
        rw [bne_iff_ne]
        intro h
        have h2 : X.toNat = Y.toNat := by omega
        have h3 : X = Y := BitVec.eq_of_toNat_eq h2
        rw [HX.out, hY] at h3
        exact Crc.bits2 bs z y (by rw [HL.out]; exact hlen) (by rw [HL.out]; exact hz) (by rw [HL.out]; exact hy) hyx h3
      clear hY
      simp only [v32]
      go_wp2_with fail
      go_ret
      exact ⟨rfl, H7.out⟩
    · by_cases hzy : z = y
      · subst hzy
        have hq2 : ((z : Int) != (x : Int)) = true := by rw [bne_iff_ne]; omega
        have hq3 : ((z : Int) != (z : Int)) = false := by simp
        go_wp2_with fail
        refine (sanity_any _).mono ?_
        rintro e w5 ⟨rfl, hb⟩
        have H5 := Lib.hid (below_call HB2.out hb)
        have HO5 := Lib.hid (HO2.out.below hb)
        clear hb
        go_wp2_with fail
        refine (of_any _ len c' _ (Crc.flip z (Crc.flip x bs)) _ (by first | rw [Crc.flip_length, Crc.flip_length, Crc.flip_length, HL.out] | rw [Crc.flip_length, Crc.flip_length, HL.out] | rw [Crc.flip_length, HL.out]) (by omega) (Nat.le_refl _) HO5.out.rd).mono ?_
        rintro e w6 ⟨rfl, hb⟩
        have H6 := Lib.hid (below_call H5.out hb)
        clear hb
        obtain ⟨X, hX⟩ : ∃ X, X = Crc.crc (Crc.flip z (Crc.flip x bs)) := ⟨_, rfl⟩
        rw [← hX]
        have HX := Lib.hid hX
        clear hX
        simp only [v32]
        go_wp2_with fail
        refine (of_any a len cap w.heap.size bs _ HL.out (by omega) H6.out.size (HR.out.below H6.out)).mono ?_
        rintro e w7 ⟨rfl, hb⟩
        have H7 := Lib.hid (below_call H6.out hb)
        clear hb
        obtain ⟨Y, hY⟩ : ∃ Y, Y = Crc.crc bs := ⟨_, rfl⟩
        rw [← hY]
        have hne : ((X.toNat : Int) != (Y.toNat : Int)) = true := by
          rw [bne_iff_ne]
          intro h
          have h2 : X.toNat = Y.toNat := by omega
          have h3 : X = Y := BitVec.eq_of_toNat_eq h2
          rw [HX.out, hY] at h3
          exact Crc.bits2 bs x z (by rw [HL.out]; exact hlen) (by rw [HL.out]; exact hx) (by rw [HL.out]; exact hz) hyx h3
        clear hY
        simp only [v32]
        go_wp2_with fail
        go_ret
        exact ⟨rfl, H7.out⟩
      · have hq2 : ((z : Int) != (x : Int)) = true := by rw [bne_iff_ne]; omega
        have hq3 : ((z : Int) != (y : Int)) = true := by rw [bne_iff_ne]; omega
        have hk3 : z / 8 < len := by omega
        obtain ⟨hc3, hf3⟩ := HO2.out.byte hk3
        go_wp2_with fail
        go_region
        obtain ⟨W3, hW⟩ : ∃ W, W = ((W2.setCell ⟨g, z / 8, none⟩ (Value.int IntKind.u8 (bits BinOp.xor IntKind.u8 (((Crc.flip y (Crc.flip x bs))[z / 8]?.getD 0).toNat : Int) (2 ^ (z % 8) % 256)))).drew) := ⟨_, rfl⟩
        rw [← hW]
        have HO3 := Lib.hid (show Own W3 w.heap.size 5 (some ⟨g, 0, none⟩) len c' ((Crc.flip z (Crc.flip y (Crc.flip x bs))).map v8) by rw [hW, bit_go]; exact ((HO2.out.flip (by omega)).drewN 1))
        have HB3 := Lib.hid (show Below w.heap.size w W3 by rw [hW]; exact (HB2.out.setCell HgB.out _).drew)
        clear hW hc3 hf3
        go_wp2_with fail
        refine (sanity_any _).mono ?_
        rintro e w5 ⟨rfl, hb⟩
        have H5 := Lib.hid (below_call HB3.out hb)
        have HO5 := Lib.hid (HO3.out.below hb)
        clear hb
        go_wp2_with fail
        refine (of_any _ len c' _ (Crc.flip z (Crc.flip y (Crc.flip x bs))) _ (by first | rw [Crc.flip_length, Crc.flip_length, Crc.flip_length, HL.out] | rw [Crc.flip_length, Crc.flip_length, HL.out] | rw [Crc.flip_length, HL.out]) (by omega) (Nat.le_refl _) HO5.out.rd).mono ?_
        rintro e w6 ⟨rfl, hb⟩
        have H6 := Lib.hid (below_call H5.out hb)
        clear hb
        obtain ⟨X, hX⟩ : ∃ X, X = Crc.crc (Crc.flip z (Crc.flip y (Crc.flip x bs))) := ⟨_, rfl⟩
        rw [← hX]
        have HX := Lib.hid hX
        clear hX
        simp only [v32]
        go_wp2_with fail
        refine (of_any a len cap w.heap.size bs _ HL.out (by omega) H6.out.size (HR.out.below H6.out)).mono ?_
        rintro e w7 ⟨rfl, hb⟩
        have H7 := Lib.hid (below_call H6.out hb)
        clear hb
        obtain ⟨Y, hY⟩ : ∃ Y, Y = Crc.crc bs := ⟨_, rfl⟩
        rw [← hY]
        have hne : ((X.toNat : Int) != (Y.toNat : Int)) = true := by
          rw [bne_iff_ne]
          intro h
          have h2 : X.toNat = Y.toNat := by omega
          have h3 : X = Y := BitVec.eq_of_toNat_eq h2
          rw [HX.out, hY] at h3
          exact Crc.bits3 bs x y z (by rw [HL.out]; exact hx) (by rw [HL.out]; exact hy) (by rw [HL.out]; exact hz) h3
        clear hY
        simp only [v32]
        go_wp2_with fail
        go_ret
        exact ⟨rfl, H7.out⟩

theorem walk_CrcBits (a : Option Addr) (len cap : Nat) (bs : List UInt8) (x y z : Int) (w : World) (hl : bs.length = len) (hm : len ≤ 9223372036854775807) (hrd : Rd w w.heap.size a (bs.map v8))
    (hx1 : -9223372036854775808 ≤ x) (hx2 : x ≤ 9223372036854775807) (hy1 : -9223372036854775808 ≤ y) (hy2 : y ≤ 9223372036854775807) (hz1 : -9223372036854775808 ≤ z) (hz2 : z ≤ 9223372036854775807) :
    Calls Try.prog 8 #[.slice a len cap, .int .i64 x, .int .i64 y, .int .i64 z] w fun e w' => e = .returned (.bool true) ∧ Below w.heap.size w w' := by
  by_cases h : (64 < (len : Int)) ∨ ((len : Int) ≤ 64 ∧ x < 0) ∨ ((len : Int) ≤ 64 ∧ 0 ≤ x ∧ y < 0) ∨ ((len : Int) ≤ 64 ∧ 0 ≤ x ∧ 0 ≤ y ∧ z < 0) ∨
      ((len : Int) ≤ 64 ∧ 0 ≤ x ∧ 0 ≤ y ∧ 0 ≤ z ∧ 8 * (len : Int) ≤ x) ∨ ((len : Int) ≤ 64 ∧ 0 ≤ x ∧ 0 ≤ y ∧ 0 ≤ z ∧ x < 8 * (len : Int) ∧ 8 * (len : Int) ≤ y) ∨
      ((len : Int) ≤ 64 ∧ 0 ≤ x ∧ 0 ≤ y ∧ 0 ≤ z ∧ x < 8 * (len : Int) ∧ y < 8 * (len : Int) ∧ 8 * (len : Int) ≤ z)
  · exact walk_CrcBits_out a len cap x y z w h
  · obtain ⟨x, rfl⟩ := Int.eq_ofNat_of_zero_le (show 0 ≤ x by omega)
    obtain ⟨y, rfl⟩ := Int.eq_ofNat_of_zero_le (show 0 ≤ y by omega)
    obtain ⟨z, rfl⟩ := Int.eq_ofNat_of_zero_le (show 0 ≤ z by omega)
    exact walk_CrcBits_in a len cap bs x y z w hl hrd (by omega) (by omega) (by omega) (by omega)

/-! ### the frame: the arguments opened and shut -/
theorem contract_CrcBits (H : Type) (enc : TypeId × Value → H) (W : World) (base : Nat) (args : Array Value) (ds gs : List (DataW H)) (before : List MemPlace)
    (hval0 : ∀ (j : Nat) t v, Try.f8.params[j]? = some t → args[j]? = some v → Value.okWide Try.prog W .any base t v)
    (hW : DataW.Whole enc Try.prog Try.f8.params.toList Rows.crcBitsSpec.vars false W args.toList ds gs before) :
    Calls Try.prog 8 args W fun e W' => ∃ v, e = .returned v ∧ Rows.crcBitsSpec.post enc Try.prog Try.f8 false true false false W args v W' := by
  have hval : ∀ (j : Nat) t v, Try.f8.params[j]? = some t → args[j]? = some v → Value.okWide Try.prog W .any base t v := hval0
  have hW' := hW
  obtain ⟨p, q, hA0, hV, rfl, hfz, hnd⟩ := hW
  have hA : DataW.TrodAll enc Try.prog W 0 (fun _ => true) true Try.f8.params.toList args.toList ds p := hA0
  rw [Try.params8] at hA hval
  obtain ⟨v0, vs0, d0, ds0, p0, q0, hargs, rfl, rfl, h0, r0⟩ := trodAll_cons hA
  obtain ⟨v1, vs1, d1, ds1, p1, q1, rfl, rfl, rfl, h1, r1⟩ := trodAll_cons r0
  obtain ⟨v2, vs2, d2, ds2, p2, q2, rfl, rfl, rfl, h2, r2⟩ := trodAll_cons r1
  obtain ⟨v3, vs3, d3, ds3, p3, q3, rfl, rfl, rfl, h3, r3⟩ := trodAll_cons r2
  obtain ⟨rfl, rfl, rfl⟩ := trodAll_nil r3
  obtain rfl : args = #[v0, v1, v2, v3] := by cases args; simp_all
  obtain ⟨rfl, rfl⟩ := trodVars_none hV
  have k0 := h0
  have lt0 : ∀ x ∈ p0, x.block < W.heap.size := by obtain ⟨m, hm⟩ := k0; exact DataW.trod_lt m _ _ _ hm
  have k1 := h1
  have lt1 : ∀ x ∈ p1, x.block < W.heap.size := by obtain ⟨m, hm⟩ := k1; exact DataW.trod_lt m _ _ _ hm
  have k2 := h2
  have lt2 : ∀ x ∈ p2, x.block < W.heap.size := by obtain ⟨m, hm⟩ := k2; exact DataW.trod_lt m _ _ _ hm
  have k3 := h3
  have lt3 : ∀ x ∈ p3, x.block < W.heap.size := by obtain ⟨m, hm⟩ := k3; exact DataW.trod_lt m _ _ _ hm
  obtain ⟨a0, len0, cap0, rfl⟩ := okWide_slice Try.underlying22 (hval 0 22 v0 rfl rfl)
  obtain ⟨fuel0, hf0⟩ := h0
  obtain ⟨x0, y0, z0, bs0, hcs0, hbl0, hlc0, hcm0, hrd0, hso0⟩ := open_u8s Try.underlying22 Try.underlying5 (by kernel_rfl) hf0
  simp only [Value.cells, List.cons.injEq, Value.slice.injEq, and_true] at hcs0
  obtain ⟨rfl, rfl, rfl⟩ := hcs0
  have hmx0 : len0 ≤ 9223372036854775807 := by unfold maxLen at hcm0; omega
  obtain ⟨n1, rfl, rfl, rfl, w1⟩ := open_int Try.underlying3 (hval 1 3 v1 rfl rfl) h1
  obtain ⟨n2, rfl, rfl, rfl, w2⟩ := open_int Try.underlying3 (hval 2 3 v2 rfl rfl) h2
  obtain ⟨n3, rfl, rfl, rfl, w3⟩ := open_int Try.underlying3 (hval 3 3 v3 rfl rfl) h3
  refine (walk_CrcBits a0 len0 cap0 bs0 n1 n2 n3 W hbl0 hmx0 hrd0 (wf_i64 w1).1 (wf_i64 w1).2 (wf_i64 w2).1 (wf_i64 w2).2 (wf_i64 w3).1 (wf_i64 w3).2).mono fun e W' ⟨he, bel⟩ => ?_
  subst he
  exact ⟨_, rfl, _, _, _, [], _, [], hW', trodAll_mk1 (shut_bool Try.underlying4 _), (trodAll_cons_mk (Below.trod laidOut (by kernel_rfl) (of_decide_eq_true (by kernel_rfl)) k0 bel lt0) (trodAll_cons_mk (Below.trod laidOut (by kernel_rfl) (of_decide_eq_true (by kernel_rfl)) k1 bel lt1) (trodAll_cons_mk (Below.trod laidOut (by kernel_rfl) (of_decide_eq_true (by kernel_rfl)) k2 bel lt2) (trodAll_cons_mk (Below.trod laidOut (by kernel_rfl) (of_decide_eq_true (by kernel_rfl)) k3 bel lt3) trodAll_mk0)))), rfl, bel.frame _, fun h => by cases h⟩

set_option maxRecDepth 100000 in
theorem lifted_CrcBits (os : Os) (started : os.Started) (H : Type) (enc : TypeId × Value → H) :
    ReturnsInHanded {} Try.checked os 8 .any (Rows.crcBitsSpec.pre6 enc Try.prog Try.f8 Rows.crcBitsRow.domain false) (Rows.crcBitsSpec.post enc Try.prog Try.f8 false true false false) := by
  refine returnsInHanded_of_change (C := Try.checked) own started (by kernel_rfl) Try.func8
    (ChangeSpec.witness6 (enc := enc) (C := Try.checked) false ⟨#[], #[.slice none 0 0, .int .i64 0, .int .i64 0, .int .i64 0], []⟩ 8 (by kernel_rfl) (by kernel_rfl) (by kernel_rfl) (by kernel_rfl)) ?_
  intro W base args ds gs before hval hW _ _
  exact contract_CrcBits H enc W base args ds gs before hval hW

theorem proved_CrcBits : Rows.CrcBitsSaid :=
  OpenClaim.holds_of_wide 8 Try.f8 rfl rfl rfl rfl rfl rfl rfl ⟨rfl, rfl, rfl, rfl, rfl⟩ rfl rfl rfl rfl rfl (by kernel_rfl) Try.func8 (by kernel_rfl)
    (of_decide_eq_true (by kernel_rfl)) (by unfold Func.isWrapper; first | (rw [if_pos (by decide +kernel)]; kernel_rfl) | (rw [if_neg (by decide +kernel)]; exact ⟨rfl, rfl⟩))
    (fun os started H enc _ => lifted_CrcBits os started H enc)
end Go.Proofs.Ytgnafdpondmjfaa
