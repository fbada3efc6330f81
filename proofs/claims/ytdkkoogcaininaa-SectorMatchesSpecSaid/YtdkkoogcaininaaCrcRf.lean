/- The walks of the reference: Feed, Extend, Of (the head of CrcR, without what hangs on Zeros) -/
import Derived.Test.YtdkkoogcaininaaCrcW2
import Derived.Test.YtdkkoogcaininaaCrcZ
namespace Go.Proofs.Ytdkkoogcaininaa
open Go.RowKit

theorem bit_val (S : BitVec 32) : bits .and .u32 (S.toNat : Int) 1 = ((if S.getLsbD 0 then 1#32 else 0#32 : BitVec 32).toNat : Int) := by
  have e0 : bits .and .u32 (S.toNat : Int) 1 = ((S &&& 1#32).toNat : Int) := b32_and S 1#32
  rw [e0, lsb]
theorem half_val (S : BitVec 32) : (S.toNat : Int) / (2 : Int) = ((S >>> 1).toNat : Int) := by have := b32_shr S 1; omega
theorem bit_yes (S : BitVec 32) (h : S.getLsbD 0 = true) : (bits .and .u32 (S.toNat : Int) 1 == 1) = true := by rw [bit_val, h]; rfl
theorem bit_no (S : BitVec 32) (h : S.getLsbD 0 = false) : (bits .and .u32 (S.toNat : Int) 1 == 1) = false := by rw [bit_val, h]; rfl
theorem s1_yes (S : BitVec 32) (h : S.getLsbD 0 = true) : bits .xor .u32 ((S.toNat : Int) / 2) 2197175160 = ((Crc.s1 S).toNat : Int) := by
  have e2 := half_val S
  have eP : (2197175160 : Int) = ((Crc.P).toNat : Int) := rfl
  rw [e2, eP, b32_xor, Crc.s1, h]; rfl
theorem s1_no (S : BitVec 32) (h : S.getLsbD 0 = false) : (S.toNat : Int) / 2 = ((Crc.s1 S).toNat : Int) := by
  have e2 := half_val S
  rw [e2, Crc.s1, h]; rfl
theorem up_val (R : BitVec 32) (x : UInt8) : bits .xor .u32 (R.toNat : Int) (x.toNat : Int) = ((R ^^^ Crc.up x).toNat : Int) := by
  have e : (x.toNat : Int) = ((Crc.up x).toNat : Int) := by
    unfold Crc.up; rw [BitVec.toNat_ofNat]; have := x.toNat_lt; omega
  rw [e, b32_xor]

set_option maxRecDepth 100000 in
theorem rfeed_any (r : BitVec 32) (a : Option Addr) (len cap B : Nat) (bs : List UInt8) (w : World) (hl : bs.length = len) (hm : len ≤ 9223372036854775807)
    (hrd : Rd w B a (bs.map v8)) :
    Calls Try.prog 41 #[v32 r, .slice a len cap] w fun e w' =>
      e = .returned (v32 (Crc.feed r bs)) ∧ w = w' := by
  have HRd := Lib.hid hrd
  clear hrd
  simp only [v32]
  go_enter Try.func41, Try.ntmps41
  go_wp2_with fail
  go_loop [0, 5] (fun r' i => ∃ (k : Nat) (R : BitVec 32), k ≤ len ∧ i = .int .i64 k ∧ r' = v32 R ∧ Crc.feed r bs = Crc.feed R (bs.drop k)) (fun _ i => len - (intOf i).toNat)
  case atStart => exact ⟨0, r, by omega, rfl, rfl, rfl⟩
  case round =>
    obtain ⟨k, R, hk, rfl, rfl, hd⟩ := hrel
    have HD := Lib.hid hd
    clear hd
    simp only [v32]
    by_cases hlt : k < len
    · have hkb : k < bs.length := by omega
      have hdr : bs.drop k = bs[k] :: bs.drop (k + 1) := List.drop_eq_getElem_cons hkb
      obtain ⟨x, hx⟩ : ∃ x, x = bs[k] := ⟨_, rfl⟩
      rw [← hx] at hdr
      have HDR := Lib.hid hdr
      obtain ⟨b, off, rfl, hb, hc⟩ := HRd.out k (.int .u8 (x.toNat : Int)) (by rw [List.getElem?_map, List.getElem?_eq_getElem hkb, hx]; rfl)
      obtain ⟨T, hT⟩ : ∃ T, T = R ^^^ Crc.up x := ⟨_, rfl⟩
      have hv : bits .xor .u32 (R.toNat : Int) (x.toNat : Int) = (T.toNat : Int) := by rw [up_val, hT]
      have HT := Lib.hid hT
      have hxb : (x.toNat : Int) ≤ 255 := by have := x.toNat_lt; omega
      clear hx hdr hkb hb hl hT
      go_wp2_with fail
      go_loop [0, 6] (fun r' i => ∃ (j : Nat) (S : BitVec 32), j ≤ 8 ∧ i = .int .i64 j ∧ r' = v32 S ∧ S = Crc.it Crc.s1 j T) (fun _ i => 8 - (intOf i).toNat)
      case atStart => exact ⟨0, T, by omega, rfl, rfl, rfl⟩
      case round =>
        obtain ⟨j, S, hj, rfl, rfl, hd⟩ := hrel
        have HS := Lib.hid hd
        clear hd
        simp only [v32]
        by_cases hj8 : j < 8
        · cases h0 : S.getLsbD 0 with
          | true =>
            have hy := bit_yes S h0
            have H0 := Lib.hid (s1_yes S h0)
            clear h0
            go_wp2_with fail
            go_round
            case rel => exact ⟨j + 1, Crc.s1 S, by omega, by go_num, by rw [H0.out], by rw [HS.out, Crc.it_succ]⟩
            case measure => simp [intOf]; omega
          | false =>
            have hy := bit_no S h0
            have H0 := Lib.hid (s1_no S h0)
            clear h0
            go_wp2_with fail
            go_round
            case rel => exact ⟨j + 1, Crc.s1 S, by omega, by go_num, by rw [H0.out], by rw [HS.out, Crc.it_succ]⟩
            case measure => simp [intOf]; omega
        · have HS2 := Lib.hid (show S = Crc.s8 (R ^^^ Crc.up x) by rw [HS.out, HT.out, show j = 8 by omega]; rfl)
          go_wp2_with fail
          go_round
          case rel => exact ⟨k + 1, S, by omega, by go_num, rfl, by rw [HD.out, HDR.out, HS2.out]; rfl⟩
          case measure => simp [intOf]; omega
    · have HF := Lib.hid (show Crc.feed r bs = R by rw [HD.out, List.drop_of_length_le (by omega)]; rfl)
      clear hl
      go_wp2_with fail
      go_ret
      exact ⟨ret_int (by rw [HF.out]), rfl⟩

set_option maxRecDepth 100000 in
theorem rextend_any (c : BitVec 32) (a : Option Addr) (len cap B : Nat) (bs : List UInt8) (w : World) (hl : bs.length = len) (hm : len ≤ 9223372036854775807)
    (hrd : Rd w B a (bs.map v8)) :
    Calls Try.prog 37 #[v32 c, .slice a len cap] w fun e w' =>
      e = .returned (v32 (Crc.ext c bs)) ∧ w = w' := by
  have HRd := Lib.hid hrd
  have HN := Lib.hid (not_go c)
  clear hrd
  simp only [v32]
  go_enter Try.func37, Try.ntmps37
  go_wp2_with fail
  rw [HN.out]
  refine (rfeed_any (~~~c) a len cap B bs w hl hm HRd.out).mono ?_
  rintro e w1 ⟨rfl, rfl⟩
  simp only [v32]
  obtain ⟨X, hX⟩ : ∃ X, X = Crc.feed (~~~c) bs := ⟨_, rfl⟩
  rw [← hX]
  have HX := Lib.hid hX
  clear hX
  go_wp2_with fail
  go_ret
  exact ⟨ret_int (by rw [not_go, HX.out]; rfl), rfl⟩

set_option maxRecDepth 100000 in
theorem rof_any (a : Option Addr) (len cap B : Nat) (bs : List UInt8) (w : World) (hl : bs.length = len) (hm : len ≤ 9223372036854775807)
    (hrd : Rd w B a (bs.map v8)) :
    Calls Try.prog 27 #[.slice a len cap] w fun e w' =>
      e = .returned (v32 (Crc.crc bs)) ∧ w = w' := by
  have HRd := Lib.hid hrd
  clear hrd
  go_enter Try.func27, Try.ntmps27
  go_wp2_with fail
  refine (rextend_any 0#32 a len cap B bs w hl hm HRd.out).mono ?_
  rintro e w1 ⟨rfl, rfl⟩
  go_wp2_with fail
  go_ret
  exact ⟨rfl, rfl⟩
end Go.Proofs.Ytdkkoogcaininaa
