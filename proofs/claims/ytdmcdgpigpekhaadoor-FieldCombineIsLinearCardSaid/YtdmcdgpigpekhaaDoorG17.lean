/- Fields: the sanity examples of the laws of chapter 05. -/
import Derived.Test.YtdmcdgpigpekhaaDoorG16
namespace Go.Proofs.YtdmcdgpigpekhaaDoor
set_option linter.unusedSimpArgs false
set_option linter.unusedVariables false
open Go.RowKit Go.Lib

theorem sm1 (w : World) (ht : Tab w) : Calls Tryd.prog 17 #[.int .i64 8, .int .i64 2, .int .i64 128] w fun e w' => e = .returned (.tuple #[.int .i64 29, .int .i64 0]) ∧ Below w.heap.size w w' := by
  have h := fmul_yes 8 2 128 (.inl rfl) (by decide) (by decide) w ht
  rw [show (Fld.mul 8 2 128 : Int) = 29 by decide +kernel] at h
  exact h
theorem sm2 (w : World) (ht : Tab w) : Calls Tryd.prog 17 #[.int .i64 16, .int .i64 2, .int .i64 32768] w fun e w' => e = .returned (.tuple #[.int .i64 4107, .int .i64 0]) ∧ Below w.heap.size w w' := by
  have h := fmul_yes 16 2 32768 (.inr rfl) (by decide) (by decide) w ht
  rw [show (Fld.mul 16 2 32768 : Int) = 4107 by decide +kernel] at h
  exact h
theorem sm3 (w : World) (ht : Tab w) : Calls Tryd.prog 21 #[.int .i64 8, .int .i64 0] w fun e w' => e = .returned (.tuple #[.int .i64 0, .int .i64 12]) ∧ Below w.heap.size w w' := by
  have h := finv_any 8 0 w ht
  rw [show invX 8 0 = 0 by decide +kernel, show invE 8 0 = 12 by decide +kernel] at h
  exact h
theorem sm4 (w : World) (ht : Tab w) : Calls Tryd.prog 12 #[.int .i64 16, .int .i64 2, .string ⟨#[128, 0]⟩] w fun e w' => e = .returned (.tuple #[.string ⟨#[16, 11]⟩, .int .i64 0]) ∧ Below w.heap.size w w' := by
  have h := fscale_any 16 2 ⟨#[128, 0]⟩ w ht (by decide)
  rw [show pairS (sclS 16 2 ⟨#[128, 0]⟩) (sclE 16 2 (⟨#[128, 0]⟩ : ByteArray).size) = .tuple #[.string ⟨#[16, 11]⟩, .int .i64 0] by
    have h1 : sclS 16 2 ⟨#[128, 0]⟩ = [16, 11] := by decide +kernel
    have h2 : sclE 16 2 (⟨#[128, 0]⟩ : ByteArray).size = 0 := by decide +kernel
    rw [h1, h2]; rfl] at h
  exact h
set_option maxRecDepth 100000 in
set_option maxHeartbeats 1600000 in
theorem sanity_any (w : World) (ht : Tab w) : Calls Tryd.prog 9 #[] w fun e w' => e = .returned (.bool true) ∧ Below w.heap.size w w' := by
  have HT := Lib.hid ht
  clear ht
  go_enter Tryd.func9, Tryd.ntmps9
  go_wp2_with fail
  refine (sm1 _ HT.out).mono ?_
  rintro e w1 ⟨rfl, hb⟩
  have HB := Lib.hid hb
  clear hb
  go_wp2_with fail
  refine (sm2 _ (HT.out.next HB.out)).mono ?_
  rintro e w2 ⟨rfl, hb⟩
  have HB2 := Lib.hid (below_call HB.out hb)
  clear hb
  go_wp2_with fail
  refine (sm3 _ (HT.out.next HB2.out)).mono ?_
  rintro e w3 ⟨rfl, hb⟩
  have HB3 := Lib.hid (below_call HB2.out hb)
  clear hb
  go_wp2_with fail
  refine (sm4 _ (HT.out.next HB3.out)).mono ?_
  rintro e w4 ⟨rfl, hb⟩
  have HB4 := Lib.hid (below_call HB3.out hb)
  clear hb
  go_wp2_with fail
  refine (valid_any 8 255 _ (HT.out.next HB4.out)).mono ?_
  rw [show allB 8 [255] = true by decide]
  rintro e w5 ⟨rfl, hb⟩
  have HB5 := Lib.hid (below_call HB4.out hb)
  clear hb
  go_wp2_with fail
  refine (valid_any 8 256 _ (HT.out.next HB5.out)).mono ?_
  rw [show allB 8 [256] = false by decide]
  rintro e w6 ⟨rfl, hb⟩
  have HB6 := Lib.hid (below_call HB5.out hb)
  clear hb
  go_wp2_with fail
  go_ret
  exact ⟨rfl, HB6.out⟩
end Go.Proofs.YtdmcdgpigpekhaaDoor
