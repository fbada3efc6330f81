/- The walk of the sanity examples -/
import Derived.Test.YtgnafdpondmjfaaCrcW3
namespace Go.Proofs.Ytgnafdpondmjfaa
open Go.RowKit

def digA : List UInt8 := [49, 50, 51, 52]
def digB : List UInt8 := [53, 54, 55, 56, 57]
def digC : List UInt8 := [49, 50, 51, 52, 53, 54, 55, 56, 57]
theorem v32_lit (x : BitVec 32) (n : Nat) (h : x.toNat = n) : v32 x = .int .u32 (n : Int) := by rw [v32, h]
theorem valA : v32 (Crc.crc digA) = .int .u32 4131058926 := v32_lit _ 4131058926 (by decide +kernel)
theorem valB : v32 (Crc.crc digB) = .int .u32 2209703384 := v32_lit _ 2209703384 (by decide +kernel)
theorem valC : v32 (Crc.crc digC) = .int .u32 3808858755 := v32_lit _ 3808858755 (by decide +kernel)
theorem val0 : v32 (Crc.crc []) = .int .u32 0 := v32_lit _ 0 (by decide +kernel)
theorem valE : v32 (Crc.ext 4131058926#32 digB) = .int .u32 3808858755 := v32_lit _ 3808858755 (by decide +kernel)
theorem valD : v32 (Crc.comb 4131058926#32 2209703384#32 (5 : Int).toNat) = .int .u32 3808858755 := v32_lit _ 3808858755 (by decide +kernel)
theorem valF : v32 (Crc.comb 7#32 5#32 (0 : Int).toNat) = .int .u32 2 := v32_lit _ 2 (by decide +kernel)
theorem valG : v32 (Crc.comb 7#32 5#32 (-1 : Int).toNat) = .int .u32 2 := v32_lit _ 2 (by decide +kernel)
theorem valH : v32 (Crc.zeros 7#32 (-1 : Int).toNat) = .int .u32 7 := v32_lit _ 7 (by decide +kernel)
theorem rowA (j : Nat) (u : Value) (h : (digA.map v8)[j]? = some u) : (#[Value.int .u8 49, .int .u8 50, .int .u8 51, .int .u8 52] : Array Value)[j]? = some u := by
  rw [← h, ← Array.getElem?_toList]; rfl
theorem rowB (j : Nat) (u : Value) (h : (digB.map v8)[j]? = some u) : (#[Value.int .u8 53, .int .u8 54, .int .u8 55, .int .u8 56, .int .u8 57] : Array Value)[j]? = some u := by
  rw [← h, ← Array.getElem?_toList]; rfl
theorem rowC (j : Nat) (u : Value) (h : (digC.map v8)[j]? = some u) : (#[Value.int .u8 49, .int .u8 50, .int .u8 51, .int .u8 52, .int .u8 53, .int .u8 54, .int .u8 55, .int .u8 56, .int .u8 57] : Array Value)[j]? = some u := by
  rw [← h, ← Array.getElem?_toList]; rfl
set_option maxRecDepth 100000 in
theorem sanity_any (w : World) :
    Calls Try.prog 10 #[] w fun e w' =>
      e = .returned (.bool true) ∧ Below w.heap.size w w' := by
  have kc := fun (w : World) (C : Array Value) (n c : Nat) => Lib.run_convert_bytes_const (P := Try.prog) w 22 5 C n c Try.underlying22 Try.underlying5
  go_enter Try.func10, Try.ntmps10
  go_wp2_with fail
  refine (of_any _ 4 4 _ digA _ rfl (by decide) (Nat.le_refl _) ((Rd.mark w 5 _ 4 5 (digA.map v8) rowA).more (by simp [go_sem]))).mono ?_
  rintro e w1 ⟨rfl, hb⟩
  have H1 := Lib.hid (below_call ((Below.refl w.heap.size w).alloc (Nat.le_refl _) _) hb)
  clear hb
  rw [valA]
  go_wp2_with fail
  refine (of_any _ 5 5 _ digB _ rfl (by decide) (Nat.le_refl _) ((Rd.mark w1 5 _ 5 6 (digB.map v8) rowB).more (by simp [go_sem]))).mono ?_
  rintro e w2 ⟨rfl, hb⟩
  have H2 := Lib.hid (below_call (H1.out.alloc H1.out.size _) hb)
  clear hb
  rw [valB]
  go_wp2_with fail
  refine (of_any _ 9 9 _ digC _ rfl (by decide) (Nat.le_refl _) ((Rd.mark w2 5 _ 9 10 (digC.map v8) rowC).more (by simp [go_sem]))).mono ?_
  rintro e w3 ⟨rfl, hb⟩
  have H3 := Lib.hid (below_call (H2.out.alloc H2.out.size _) hb)
  clear hb
  rw [valC]
  go_wp2_with fail
  refine (of_any none 0 0 0 [] _ rfl (by decide) (Nat.zero_le _) (Rd.nil _ _ _)).mono ?_
  rintro e w4 ⟨rfl, hb⟩
  have H4 := Lib.hid (below_call H3.out hb)
  clear hb
  rw [val0]
  go_wp2_with fail
  refine (extend_any 4131058926#32 _ 5 5 _ digB _ rfl (by decide) (Nat.le_refl _) ((Rd.mark w4 5 _ 5 6 (digB.map v8) rowB).more (by simp [go_sem]))).mono ?_
  rintro e w5 ⟨rfl, hb⟩
  have H5 := Lib.hid (below_call (H4.out.alloc H4.out.size _) hb)
  clear hb
  rw [valE]
  go_wp2_with fail
  refine (combine_any 4131058926#32 2209703384#32 5 _ (by decide) (by decide)).mono ?_
  rintro e w6 ⟨rfl, hb⟩
  have H6 := Lib.hid (below_call H5.out hb)
  clear hb
  rw [valD]
  go_wp2_with fail
  refine (combine_any 7#32 5#32 0 _ (by decide) (by decide)).mono ?_
  rintro e w7 ⟨rfl, hb⟩
  have H7 := Lib.hid (below_call H6.out hb)
  clear hb
  rw [valF]
  go_wp2_with fail
  refine (combine_any 7#32 5#32 (-1) _ (by decide) (by decide)).mono ?_
  rintro e w8 ⟨rfl, hb⟩
  have H8 := Lib.hid (below_call H7.out hb)
  clear hb
  rw [valG]
  go_wp2_with fail
  refine (zeros_any 7#32 (-1) _ (by decide) (by decide)).mono ?_
  rintro e w9 ⟨rfl, hb⟩
  have H9 := Lib.hid (below_call H8.out hb)
  clear hb
  rw [valH]
  go_wp2_with fail
  go_ret
  exact ⟨rfl, H9.out⟩
end Go.Proofs.Ytgnafdpondmjfaa
