/- The walks of the reference: Feed, Extend, Of, Zeros, Combine -/
import Derived.Test.YtgnafdpondmjfaaCrcW3
namespace Go.Proofs.Ytgnafdpondmjfaa
open Go.RowKit

theorem bit_val (S : BitVec 32) : bits .and .u32 (S.toNat : Int) 1 = ((if S.getLsbD 0 then 1#32 else 0#32 : BitVec 32).toNat : Int) := by
  have e0 : bits .and .u32 (S.toNat : Int) 1 = ((S &&& 1#32).toNat : Int) := b32_and S 1#32
  rw [e0, lsb]
theorem half_val (S : BitVec 32) : (S.toNat : Int) / (2 : Int) = ((S >>> 1).toNat : Int) := by have := b32_shr S 1; omega
theorem bit_yes (S : BitVec 32) (h : S.getLsbD 0 = true) : (bits .and .u32 (S.toNat : Int) 1 == 1) = true := by rw [bit_val, h]; rfl
theorem bit_no (S : BitVec 32) (h : S.getLsbD 0 = false) : (bits .and .u32 (S.toNat : Int) 1 == 1) = false := by rw [bit_val, h]; rfl
theorem s1_yes (S : BitVec 32) (h : S.getLsbD 0 = true) : bits .xor .u32 ((S.toNat : Int) / 2) 2197175160 = ((Crc.s1 S).toNat : Int) := by
  have e2 := half_val S
  have eP : (2197175160 : Int) = ((Crc.P).toNat : Int) := rfl
  rw [e2, eP, b32_xor, Crc.s1, h]; rfl
theorem s1_no (S : BitVec 32) (h : S.getLsbD 0 = false) : (S.toNat : Int) / 2 = ((Crc.s1 S).toNat : Int) := by
  have e2 := half_val S
  rw [e2, Crc.s1, h]; rfl
theorem up_val (R : BitVec 32) (x : UInt8) : bits .xor .u32 (R.toNat : Int) (x.toNat : Int) = ((R ^^^ Crc.up x).toNat : Int) := by
  have e : (x.toNat : Int) = ((Crc.up x).toNat : Int) := by
    unfold Crc.up; rw [BitVec.toNat_ofNat]; have := x.toNat_lt; omega
  rw [e, b32_xor]

set_option maxRecDepth 100000 in
theorem rfeed_any (r : BitVec 32) (a : Option Addr) (len cap B : Nat) (bs : List UInt8) (w : World) (hl : bs.length = len) (hm : len ≤ 9223372036854775807)
    (hrd : Rd w B a (bs.map v8)) :
    Calls Try.prog 20 #[v32 r, .slice a len cap] w fun e w' =>
      e = .returned (v32 (Crc.feed r bs)) ∧ w = w' := by
  have HRd := Lib.hid hrd
  clear hrd
  simp only [v32]
  go_enter Try.func20, Try.ntmps20
  go_wp2_with fail
  go_loop [0, 5] (fun r' i => ∃ (k : Nat) (R : BitVec 32), k ≤ len ∧ i = .int .i64 k ∧ r' = v32 R ∧ Crc.feed r bs = Crc.feed R (bs.drop k)) (fun _ i => len - (intOf i).toNat)
  case atStart => exact ⟨0, r, by omega, rfl, rfl, rfl⟩
  case round =>
    obtain ⟨k, R, hk, rfl, rfl, hd⟩ := hrel
    have HD := Lib.hid hd
    clear hd
    simp only [v32]
    by_cases hlt : k < len
    · have hkb : k < bs.length := by omega
      have hdr : bs.drop k = bs[k] :: bs.drop (k + 1) := List.drop_eq_getElem_cons hkb
      obtain ⟨x, hx⟩ : ∃ x, x = bs[k] := ⟨_, rfl⟩
      rw [← hx] at hdr
      have HDR := Lib.hid hdr
      obtain ⟨b, off, rfl, hb, hc⟩ := HRd.out k (.int .u8 (x.toNat : Int)) (by rw [List.getElem?_map, List.getElem?_eq_getElem hkb, hx]; rfl)
      obtain ⟨T, hT⟩ : ∃ T, T = R ^^^ Crc.up x := ⟨_, rfl⟩
      have hv : bits .xor .u32 (R.toNat : Int) (x.toNat : Int) = (T.toNat : Int) := by rw [up_val, hT]
      have HT := Lib.hid hT
      have hxb : (x.toNat : Int) ≤ 255 := by have := x.toNat_lt; omega
      clear hx hdr hkb hb hl hT
      go_wp2_with fail
      go_loop [0, 6] (fun r' i => ∃ (j : Nat) (S : BitVec 32), j ≤ 8 ∧ i = .int .i64 j ∧ r' = v32 S ∧ S = Crc.it Crc.s1 j T) (fun _ i => 8 - (intOf i).toNat)
      case atStart => exact ⟨0, T, by omega, rfl, rfl, rfl⟩
      case round =>
        obtain ⟨j, S, hj, rfl, rfl, hd⟩ := hrel
        have HS := Lib.hid hd
        clear hd
        simp only [v32]
        by_cases hj8 : j < 8
        · cases h0 : S.getLsbD 0 with
          | true =>
            have hy := bit_yes S h0
            have H0 := Lib.hid (s1_yes S h0)
            clear h0
            go_wp2_with fail
            go_round
            case rel => exact ⟨j + 1, Crc.s1 S, by omega, by go_num, by rw [H0.out], by rw [HS.out, Crc.it_succ]⟩
            case measure => simp [intOf]; omega
          | false =>
            have hy := bit_no S h0
            have H0 := Lib.hid (s1_no S h0)
            clear h0
            go_wp2_with fail
            go_round
            case rel => exact ⟨j + 1, Crc.s1 S, by omega, by go_num, by rw [H0.out], by rw [HS.out, Crc.it_succ]⟩
            case measure => simp [intOf]; omega
        · have HS2 := Lib.hid (show S = Crc.s8 (R ^^^ Crc.up x) by rw [HS.out, HT.out, show j = 8 by omega]; rfl)
          go_wp2_with fail
          go_round
          case rel => exact ⟨k + 1, S, by omega, by go_num, rfl, by rw [HD.out, HDR.out, HS2.out]; rfl⟩
          case measure => simp [intOf]; omega
    · have HF := Lib.hid (show Crc.feed r bs = R by rw [HD.out, List.drop_of_length_le (by omega)]; rfl)
      clear hl
      go_wp2_with fail
      go_ret
      exact ⟨ret_int (by rw [HF.out]), rfl⟩

set_option maxRecDepth 100000 in
theorem rextend_any (c : BitVec 32) (a : Option Addr) (len cap B : Nat) (bs : List UInt8) (w : World) (hl : bs.length = len) (hm : len ≤ 9223372036854775807)
    (hrd : Rd w B a (bs.map v8)) :
    Calls Try.prog 14 #[v32 c, .slice a len cap] w fun e w' =>
      e = .returned (v32 (Crc.ext c bs)) ∧ w = w' := by
  have HRd := Lib.hid hrd
  have HN := Lib.hid (not_go c)
  clear hrd
  simp only [v32]
  go_enter Try.func14, Try.ntmps14
  go_wp2_with fail
  rw [HN.out]
  refine (rfeed_any (~~~c) a len cap B bs w hl hm HRd.out).mono ?_
  rintro e w1 ⟨rfl, rfl⟩
  simp only [v32]
  obtain ⟨X, hX⟩ : ∃ X, X = Crc.feed (~~~c) bs := ⟨_, rfl⟩
  rw [← hX]
  have HX := Lib.hid hX
  clear hX
  go_wp2_with fail
  go_ret
  exact ⟨ret_int (by rw [not_go, HX.out]; rfl), rfl⟩

set_option maxRecDepth 100000 in
theorem rof_any (a : Option Addr) (len cap B : Nat) (bs : List UInt8) (w : World) (hl : bs.length = len) (hm : len ≤ 9223372036854775807)
    (hrd : Rd w B a (bs.map v8)) :
    Calls Try.prog 12 #[.slice a len cap] w fun e w' =>
      e = .returned (v32 (Crc.crc bs)) ∧ w = w' := by
  have HRd := Lib.hid hrd
  clear hrd
  go_enter Try.func12, Try.ntmps12
  go_wp2_with fail
  refine (rextend_any 0#32 a len cap B bs w hl hm HRd.out).mono ?_
  rintro e w1 ⟨rfl, rfl⟩
  go_wp2_with fail
  go_ret
  exact ⟨rfl, rfl⟩

theorem info_u8 : (Try.prog.info? 5).map (fun i => (i.zero, i.size, i.bytes)) = some (some (.int .u8 0), 1, 1) := by kernel_rfl
set_option maxRecDepth 100000 in
theorem rzeros_any (c : BitVec 32) (n : Int) (w : World) (hn1 : -9223372036854775808 ≤ n) (hn2 : n ≤ 100000) :
    Calls Try.prog 16 #[v32 c, .int .i64 n] w fun e w' =>
      e = .returned (v32 (Crc.zeros c n.toNat)) ∧ Below w.heap.size w w' := by
  simp only [v32]
  by_cases hneg : n < 0
  · have HZ := Lib.hid (show Crc.zeros c n.toNat = c by rw [show n.toNat = 0 by omega, Crc.zeros_none])
    go_enter Try.func16, Try.ntmps16
    go_wp2_with fail
    go_ret
    exact ⟨ret_int (by rw [HZ.out]), Below.refl _ _⟩
  · obtain ⟨m, rfl⟩ := Int.eq_ofNat_of_zero_le (show 0 ≤ n by omega)
    obtain ⟨i0, hi, hz0, hz1, hz2⟩ := info_parts info_u8
    have hmk : ∀ u : World, (Instr.makeSlice 22 (.int .i64 (m : Int)) (.int .i64 (m : Int))).run Try.prog u =
        .ok (.slice (some ⟨u.heap.size, 0, none⟩) m m) (u.alloc (.cells (madeCells #[.int .u8 0] m) 5)) := fun u => by
      have h := run_make (P := Try.prog) u 22 5 i0 (.int .u8 0) Try.underlying22 hi hz0 .i64 .i64 (m : Int) (m : Int) (by omega) (Int.le_refl _) (by rw [hz2]; omega) (by omega)
      have e : (m : Int).toNat = m := by omega
      rw [e] at h
      simpa [hz1, Value.cells] using h
    clear hi hz0 hz1 hz2
    go_enter Try.func16, Try.ntmps16
    go_wp2_with fail
    have hrd : Rd (w.alloc (.cells (madeCells #[.int .u8 0] m) 5)) (w.heap.size + 1) (some ⟨w.heap.size, 0, none⟩) ((List.replicate m (0 : UInt8)).map v8) := by
      refine Rd.row (Row.new _ _ _) (Nat.lt_succ_self _) fun j u hu => made_get _ _ _ _ ?_
      rw [List.map_replicate] at hu; exact hu
    refine (rextend_any c _ m m _ (List.replicate m 0) _ (by simp) (by omega) hrd).mono ?_
    rintro e w1 ⟨rfl, rfl⟩
    clear hrd hmk
    rw [← Crc.zeros_eq]
    simp only [v32]
    go_wp2_with fail
    go_ret
    exact ⟨rfl, (Below.refl _ _).alloc (Nat.le_refl _) _⟩

set_option maxRecDepth 100000 in
theorem rcombine_any (a b : BitVec 32) (n : Int) (w : World) (hn1 : -9223372036854775808 ≤ n) (hn2 : n ≤ 100000) :
    Calls Try.prog 18 #[v32 a, v32 b, .int .i64 n] w fun e w' =>
      e = .returned (v32 (Crc.comb a b n.toNat)) ∧ Below w.heap.size w w' := by
  simp only [v32]
  go_enter Try.func18, Try.ntmps18
  go_wp2_with fail
  refine (rzeros_any a n _ hn1 hn2).mono ?_
  rintro e w1 ⟨rfl, hb1⟩
  have Hb1 := Lib.hid hb1
  clear hb1
  simp only [v32]
  obtain ⟨X, hX⟩ : ∃ X, X = Crc.zeros a n.toNat := ⟨_, rfl⟩
  rw [← hX]
  have HX := Lib.hid hX
  clear hX
  go_wp2_with fail
  refine (rzeros_any 0#32 n _ hn1 hn2).mono ?_
  rintro e w2 ⟨rfl, hb2⟩
  have Hb2 := Lib.hid hb2
  clear hb2
  simp only [v32]
  obtain ⟨Y, hY⟩ : ∃ Y, Y = Crc.zeros 0#32 n.toNat := ⟨_, rfl⟩
  rw [← hY]
  have HY := Lib.hid hY
  clear hY
  go_wp2_with fail
  go_ret
  exact ⟨ret_int (by rw [HX.out, HY.out, comb_val]), Hb1.out.trans (Hb2.out.mono Hb1.out.size)⟩
end Go.Proofs.Ytgnafdpondmjfaa
