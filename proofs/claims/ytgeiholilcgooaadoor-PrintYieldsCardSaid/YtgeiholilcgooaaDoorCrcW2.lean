/- The walks of crc.Extend and crc.Of -/
import Derived.Test.YtgeiholilcgooaaDoorCrcW1
import Derived.Deep.DeepMust
namespace Go.Proofs.YtgeiholilcgooaaDoor
open Go.RowKit

/-- the place in the table -/
def slot (r : BitVec 32) (x : UInt8) : Nat := (r.toNat % 256) ^^^ x.toNat
theorem slot_lt (r : BitVec 32) (x : UInt8) : slot r x < 256 :=
  Nat.xor_lt_two_pow (n := 8) (Nat.mod_lt _ (by decide)) x.toNat_lt
theorem slot_go (r : BitVec 32) (x : UInt8) : bits .xor .u8 ((r.toNat : Int) % 256) (x.toNat : Int) = (slot r x : Int) := by
  have e : (r.toNat : Int) % (256 : Int) = ((r.toNat % 256 : Nat) : Int) := by omega
  rw [e, u8_xor_nat _ _ (Nat.mod_lt _ (by decide)) x.toNat_lt]; rfl
theorem slot_tab (r : BitVec 32) (x : UInt8) : tabAt (slot r x) = Crc.s8 ((r ^^^ Crc.up x) &&& 255#32) := by
  unfold tabAt
  congr 1
  apply BitVec.eq_of_toNat_eq
  have h := slot_lt r x
  rw [BitVec.toNat_ofNat, BitVec.toNat_and, BitVec.toNat_xor]
  have e1 : (Crc.up x).toNat = x.toNat := by
    unfold Crc.up; rw [BitVec.toNat_ofNat]; have := x.toNat_lt; omega
  rw [e1]
  have e2 : (r.toNat ^^^ x.toNat) &&& 255 = (r.toNat ^^^ x.toNat) % 2 ^ 8 := Nat.and_two_pow_sub_one_eq_mod _ 8
  show _ = (r.toNat ^^^ x.toNat) &&& 255
  rw [e2, Nat.xor_mod_two_pow]
  have e3 : x.toNat % 2 ^ 8 = x.toNat := Nat.mod_eq_of_lt x.toNat_lt
  rw [e3, Nat.mod_eq_of_lt (by omega)]; rfl
theorem step_go (r : BitVec 32) (x : UInt8) : bits .xor .u32 ((r.toNat : Int) / 256) ((tabAt (slot r x)).toNat : Int) = ((Crc.s8 (r ^^^ Crc.up x)).toNat : Int) := by
  have e : (r.toNat : Int) / (256 : Int) = ((r >>> 8).toNat : Int) := by have := b32_shr r 8; omega
  rw [e, b32_xor, slot_tab, Crc.s8_table (r ^^^ Crc.up x)]
  congr 3
  rw [Crc.shr_xor]
  have : Crc.up x >>> 8 = 0#32 := by
    apply BitVec.eq_of_toNat_eq
    unfold Crc.up
    rw [BitVec.toNat_ushiftRight, BitVec.toNat_ofNat, Nat.shiftRight_eq_div_pow]
    have := x.toNat_lt
    simp; omega
  rw [this, BitVec.xor_zero]
theorem not_go (x : BitVec 32) : bits .xor .u32 IntKind.u32.max (x.toNat : Int) = ((~~~x).toNat : Int) := by
  show bits .xor .u32 4294967295 (x.toNat : Int) = _
  have e : (4294967295 : Int) = ((4294967295#32).toNat : Int) := rfl
  rw [e, b32_xor]
  congr 2

set_option maxRecDepth 100000 in
theorem extend_any (c : BitVec 32) (a : Option Addr) (len cap B : Nat) (bs : List UInt8) (w : World) (hl : bs.length = len) (hm : len ≤ 9223372036854775807) (hB : B ≤ w.heap.size)
    (hrd : Rd w B a (bs.map v8)) :
    Calls Tryd.prog 19 #[v32 c, .slice a len cap] w fun e w' =>
      e = .returned (v32 (Crc.ext c bs)) ∧ Below w.heap.size w w' := by
  have hz := zero_tab
  have HB := Lib.hid hB
  have HR := Lib.hid hrd
  clear hrd
  simp only [v32]
  go_enter Tryd.func19, Tryd.ntmps19
  go_wp2_with fail
  refine (table_any _).mono ?_
  rintro e w1 ⟨rfl, hb1⟩
  have Hb1 := Lib.hid hb1
  clear hb1
  go_wp2_with (refine wpList_store_row rfl 42 (.tmp 5) (.tmp 9) rfl w1.heap.size (part 256) rfl rfl 42 (part 0) (Row.new _ _ _) (by rw [part_size]; exact info_tab) (by rw [part_size, part_size]) (part_cells 256) ?_; go_must (obtain ⟨W, hW⟩ : ∃ W, W = (w1.alloc (.cells (part 0) 42)).setRow w1.heap.size (part 256) := ⟨_, rfl⟩; rw [← hW]; have HT := Lib.hid (show Row W w1.heap.size 42 (part 256) by rw [hW]; exact (Row.new _ _ _).whole _); have HRd := Lib.hid (show Rd W B a (bs.map v8) by rw [hW]; exact (((HR.out.below (Hb1.out.mono HB.out)).alloc (Nat.le_trans HB.out Hb1.out.size) _).whole (Nat.le_trans HB.out Hb1.out.size) _)); have HW := Lib.hid (show Below w.heap.size w W by rw [hW]; exact below_whole (Hb1.out.alloc Hb1.out.size _) Hb1.out.size _); clear hW))
  go_loop [6, 14] (fun r i => ∃ (k : Nat) (R : BitVec 32), k ≤ len ∧ i = .int .i64 k ∧ r = v32 R ∧ Crc.feed (~~~c) bs = Crc.feed R (bs.drop k)) (fun _ i => len - (intOf i).toNat)
  case atStart => exact ⟨0, ~~~c, by omega, rfl, by rw [not_go]; rfl, rfl⟩
  case round =>
    obtain ⟨k, R, hk, rfl, rfl, hd⟩ := hrel
    have HD := Lib.hid hd
    clear hd hz
    simp only [v32]
    by_cases hlt : k < len
    · have hkb : k < bs.length := by omega
      have hdr : bs.drop k = bs[k] :: bs.drop (k + 1) := List.drop_eq_getElem_cons hkb
      obtain ⟨x, hx⟩ : ∃ x, x = bs[k] := ⟨_, rfl⟩
      rw [← hx] at hdr
      have HDR := Lib.hid hdr
      obtain ⟨b, off, rfl, hb, hc⟩ := HRd.out k (.int .u8 (x.toNat : Int)) (by rw [List.getElem?_map, List.getElem?_eq_getElem hkb, hx]; rfl)
      have hs := slot_go R x
      have hs256 := slot_lt R x
      have ht : W.cell? ⟨w1.heap.size, slot R x, none⟩ = some (.int .u32 ((tabAt (slot R x)).toNat : Int)) := by
        rw [HT.out.cell, part_get 256 _ hs256, if_pos hs256]; rfl
      have HS := Lib.hid (step_go R x)
      clear hx hdr hkb hb hl
      go_wp2_with fail
      go_round
      case rel => exact ⟨k + 1, _, by omega, by go_num, by rw [HS.out], by rw [HD.out, HDR.out]; rfl⟩
      case measure => simp [intOf]; omega
    · have hf : Crc.feed (~~~c) bs = R := by rw [HD.out, List.drop_of_length_le (by omega)]; rfl
      have HF := Lib.hid hf
      have HN := Lib.hid (not_go R)
      clear hf hl
      go_wp2_with fail
      go_ret
      exact ⟨ret_int (by rw [HN.out, ← HF.out]; rfl), HW.out⟩

set_option maxRecDepth 100000 in
theorem of_any (a : Option Addr) (len cap B : Nat) (bs : List UInt8) (w : World) (hl : bs.length = len) (hm : len ≤ 9223372036854775807) (hB : B ≤ w.heap.size)
    (hrd : Rd w B a (bs.map v8)) :
    Calls Tryd.prog 15 #[.slice a len cap] w fun e w' =>
      e = .returned (v32 (Crc.crc bs)) ∧ Below w.heap.size w w' := by
  have HR := Lib.hid hrd
  clear hrd
  go_enter Tryd.func15, Tryd.ntmps15
  go_wp2_with fail
  refine (extend_any 0#32 a len cap B bs w hl hm hB HR.out).mono ?_
  rintro e w1 ⟨rfl, hb1⟩
  have Hb1 := Lib.hid hb1
  clear hb1
  go_wp2_with fail
  go_ret
  exact ⟨rfl, Hb1.out⟩
end Go.Proofs.YtgeiholilcgooaaDoor
