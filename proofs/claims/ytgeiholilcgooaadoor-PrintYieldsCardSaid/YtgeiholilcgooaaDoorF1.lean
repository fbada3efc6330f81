/- Fingerprint: Twin, both ways; the table of exponents is a package variable. -/
import Derived.Test.YtgeiholilcgooaaDoorF0
namespace Go.Proofs.YtgeiholilcgooaaDoor
set_option linter.unusedSimpArgs false
set_option linter.unusedVariables false
open Go.RowKit Go.Lib

def expV : Array Value := (Crc.exps.map fun g => Value.int .i64 (g : Nat)).toArray
/-- the package variable's row (block 0) -/
def Tab (w : World) : Prop := ∃ t fr, w.heap[0]? = some (.cells expV t fr)
theorem Tab.below {w w' : World} {B : Nat} (h : Tab w) (hb : Below B w w') (hB : 0 < B) : Tab w' := by
  obtain ⟨t, fr, h⟩ := h
  exact ⟨t, fr, (hb.block 0 hB).trans h⟩
theorem Tab.lt {w : World} (h : Tab w) : 0 < w.heap.size := by
  obtain ⟨t, fr, h⟩ := h
  exact (Array.getElem?_eq_some_iff.1 h).1
theorem expV_size : expV.size = 18 := by decide
theorem index_exp (w : World) : ∀ j : Nat, j < 18 → (Instr.index 36 (.agg expV) (.int .i64 (j : Int))).run Tryd.prog w = .ok (.int .i64 ((Crc.exps.getD j 0 : Nat) : Int)) w
  | 0, _ => by kernel_rfl
  | 1, _ => by kernel_rfl
  | 2, _ => by kernel_rfl
  | 3, _ => by kernel_rfl
  | 4, _ => by kernel_rfl
  | 5, _ => by kernel_rfl
  | 6, _ => by kernel_rfl
  | 7, _ => by kernel_rfl
  | 8, _ => by kernel_rfl
  | 9, _ => by kernel_rfl
  | 10, _ => by kernel_rfl
  | 11, _ => by kernel_rfl
  | 12, _ => by kernel_rfl
  | 13, _ => by kernel_rfl
  | 14, _ => by kernel_rfl
  | 15, _ => by kernel_rfl
  | 16, _ => by kernel_rfl
  | 17, _ => by kernel_rfl
  | n + 18, h => absurd h (by omega)
theorem info_exp : (Tryd.prog.info? 36).map (·.size) = some 18 := by kernel_rfl
/-- the flips of the first j exponents -/
theorem flips_snoc (k : Nat) (gs : List Nat) (g : Nat) (l : List UInt8) : Crc.flips k (gs ++ [g]) l = Crc.flip (k + 32 - g) (Crc.flips k gs l) := by
  simp [Crc.flips]

set_option maxRecDepth 100000 in
theorem ftwin_no (s : ByteArray) (k : Int) (w : World) (hs : s.size ≤ 1000000000000) (h : k < 0 ∨ (space s.size : Int) ≤ k) :
    Calls Tryd.prog 9 #[.string s, .int .i64 k] w fun e w' => e = .returned (.tuple #[.string ⟨#[]⟩, .int .i64 1]) ∧ Below w.heap.size w w' := by
  by_cases h0 : k < 0
  · go_enter Tryd.func9, Tryd.ntmps9
    go_wp2_with fail
    refine bodyPost_ret (v := .tuple #[.string ⟨#[]⟩, .int .i64 1]) ?_ rfl ⟨rfl, Below.refl _ _⟩
    rw [results_tmp2 rfl]; rfl
  · have h1 : 0 ≤ k := by omega
    have h2 : (space s.size : Int) ≤ k := by omega
    clear h h0
    go_enter Tryd.func9, Tryd.ntmps9
    go_wp2_with fail
    refine (fspace_any s.size _ hs).mono ?_
    rintro e w1 ⟨rfl, rfl⟩
    go_wp2_with fail
    refine bodyPost_ret (v := .tuple #[.string ⟨#[]⟩, .int .i64 1]) ?_ rfl ⟨rfl, Below.refl _ _⟩
    rw [results_tmp2 rfl]; rfl
set_option maxRecDepth 100000 in
set_option maxHeartbeats 1600000 in
theorem ftwin_ok (s : ByteArray) (k : Nat) (w : World) (ht : Tab w) (hk : k < space s.size) :
    Calls Tryd.prog 9 #[.string s, .int .i64 (k : Int)] w fun e w' => e = .returned (.tuple #[.string (strB (Crc.twin k s.data.toList)), .int .i64 0]) ∧ Below w.heap.size w w' := by
  have hs : s.size ≤ 2000 := by unfold space at hk; split at hk <;> omega
  have hk8 : k + 32 < 8 * s.size := by unfold space at hk; split at hk <;> omega
  have hd1 : decide ((k : Int) < 0) = false := by simp
  have hd2 : decide ((space s.size : Int) ≤ (k : Int)) = false := by simp; omega
  obtain ⟨cB, wB, hcv, hbB, hB⟩ := conv_bytes w s
  have HB := Lib.hid hbB
  have HR := Lib.hid hB
  obtain ⟨t0, fr0, hT0⟩ := ht.below hbB ht.lt
  have HT := Lib.hid hT0
  have HL := Lib.hid ht.lt
  clear hbB hB ht hT0
  go_enter Tryd.func9, Tryd.ntmps9
  go_wp2_with fail
  refine (fspace_any s.size _ (by omega)).mono ?_
  rintro e w1 ⟨rfl, rfl⟩
  go_wp2_with (refine wpList_load_row rfl _ _ rfl 0 rfl _ expV _ _ HT.out Tryd.underlying36 rfl (by rw [expV_size]; exact info_exp) ?_)
  go_loopw [22] (fun i wr => ∃ j : Nat, j ≤ 18 ∧ i = .int .i64 j ∧ Byt wr w1.heap.size (Crc.flips k (Crc.exps.take j) s.data.toList) ∧ Below w1.heap.size w1 wr) (fun i _ => 18 - (intOf i).toNat)
  case atStart => exact ⟨0, by omega, rfl, HR.out, HB.out⟩
  case round =>
    obtain ⟨j, hj, rfl, hb, hbel⟩ := hrel
    have HBy := Lib.hid hb
    have HBl := Lib.hid hbel
    clear hb hbel
    by_cases hlt : j < 18
    · have hix := fun u => index_exp u j hlt
      obtain ⟨g, hg⟩ : ∃ g, Crc.exps.getD j 0 = g := ⟨_, rfl⟩
      simp only [hg] at hix
      have hjl : j < Crc.exps.length := hlt
      have hge : Crc.exps[j]? = some g := by
        rw [List.getD_eq_getElem?_getD, List.getElem?_eq_getElem hjl, Option.getD_some] at hg
        rw [List.getElem?_eq_getElem hjl, hg]
      have hg32 : g ≤ 32 := Crc.exps_le _ (List.mem_of_getElem? hge)
      have HG := Lib.hid (show Crc.exps.take (j + 1) = Crc.exps.take j ++ [g] by rw [List.take_add_one, hge]; rfl)
      clear hg hge hjl
      obtain ⟨p, hp⟩ : ∃ p : Nat, p = k + 32 - g := ⟨_, rfl⟩
      have hpi : (k : Int) + 32 - (g : Int) = (p : Int) := by omega
      have hp8 : p / 8 < s.size := by omega
      have HP := Lib.hid hp
      have hfl : (Crc.flips k (Crc.exps.take j) s.data.toList).length = s.size := by rw [Crc.flips_length, len_data]
      obtain ⟨hc, hf⟩ := HBy.out.cell (k := p / 8) (by rw [hfl]; exact hp8)
      have HFL := Lib.hid hfl
      clear hp hfl
      go_wp2_with fail
      go_region
      obtain ⟨W1, hW⟩ : ∃ W, W = (wr.setCell ⟨w1.heap.size, p / 8, none⟩ (Value.int IntKind.u8 (bits BinOp.xor IntKind.u8 (((Crc.flips k (Crc.exps.take j) s.data.toList)[p / 8]?.getD 0).toNat : Int) (2 ^ (p % 8) % 256)))).drew := ⟨_, rfl⟩
      rw [← hW]
      have HB1 := Lib.hid (show Byt W1 w1.heap.size (Crc.flips k (Crc.exps.take (j + 1)) s.data.toList) by
        rw [hW, bit_go, HG.out, flips_snoc, ← HP.out]
        exact (HBy.out.flip (by rw [HFL.out]; omega)).drew)
      have HBl1 := Lib.hid (show Below w1.heap.size w1 W1 by rw [hW]; exact (HBl.out.setCell (Nat.le_refl _) _).drew)
      clear hW hc hf hix
      go_wp2_with fail
      go_roundw
      case rel => exact ⟨j + 1, by omega, by go_num, HB1.out, HBl1.out⟩
      case measure => simp [intOf]; omega
    · have h18 : j = 18 := by omega
      subst h18
      have hfl : (Crc.flips k (Crc.exps.take 18) s.data.toList).length = s.size := by rw [Crc.flips_length, len_data]
      have hcv2 := conv_str wr 32 9 5 _ s.size cB _ Tryd.underlying32 Tryd.underlying5 Tryd.underlying9 HBy.out.rd hfl (by omega)
      clear hfl
      go_wp2_with fail
      refine bodyPost_ret (v := .tuple #[.string (strB (Crc.twin k s.data.toList)), .int .i64 0]) ?_ rfl ⟨rfl, HBl.out⟩
      rw [results_tmp2 rfl]; rfl
end Go.Proofs.YtgeiholilcgooaaDoor
