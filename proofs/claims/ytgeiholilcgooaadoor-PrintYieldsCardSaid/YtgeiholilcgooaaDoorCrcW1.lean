/- The walk of crc.table -/
import Derived.Test.YtgeiholilcgooaaDoorLib
import Derived.Test.YtgeiholilcgooaaDoorCrcM
namespace Go.Proofs.YtgeiholilcgooaaDoor
open Go.RowKit

def tabAt (i : Nat) : BitVec 32 := Crc.s8 (BitVec.ofNat 32 i)
/-- the table after k rounds -/
def part (k : Nat) : Array Value := ((List.range 256).map fun i => if i < k then v32 (tabAt i) else .int .u32 0).toArray
theorem part_size (k : Nat) : (part k).size = 256 := by simp [part]
theorem part_get (k i : Nat) (h : i < 256) : (part k)[i]? = some (if i < k then v32 (tabAt i) else .int .u32 0) := by
  simp [part, h]
theorem part_put (k : Nat) : (part k).setIfInBounds k (v32 (tabAt k)) = part (k + 1) := by
  apply Array.ext
  · simp [part]
  · intro i h1 h2
    rw [Array.size_setIfInBounds, part_size] at h1
    have a := part_get k i h1
    have b := part_get (k + 1) i h1
    rw [Array.getElem?_eq_getElem (by rw [part_size]; exact h1)] at a b
    injection a with a
    injection b with b
    rw [Array.getElem_setIfInBounds (by rw [part_size]; exact h1), b, a]
    by_cases hk : k = i
    · subst hk; simp
    · rw [if_neg hk]
      by_cases hi : i < k
      · rw [if_pos hi, if_pos (by omega)]
      · rw [if_neg hi, if_neg (by omega)]
theorem part_cells (k : Nat) : (part k).all (·.oneCell') = true := by
  rw [Array.all_eq_true_iff_forall_mem]
  intro x hx
  simp only [part, List.mem_toArray, List.mem_map] at hx
  obtain ⟨i, _, rfl⟩ := hx
  split <;> rfl
theorem zero_tab (w : World) : (zeroValue 42).run Tryd.prog w = .ok (.agg (part 0)) w := by kernel_rfl
theorem info_tab : (Tryd.prog.info? 42).map (·.size) = some 256 := by kernel_rfl

theorem lsb (r : BitVec 32) : r &&& 1#32 = if r.getLsbD 0 then 1#32 else 0#32 := by
  apply BitVec.eq_of_toNat_eq
  rw [BitVec.toNat_and]
  show r.toNat &&& 1 = _
  have : r.getLsbD 0 = decide (r.toNat % 2 = 1) := by rw [BitVec.getLsbD]; simp [Nat.testBit_zero]
  rw [this, Nat.and_one_is_mod]
  by_cases h : r.toNat % 2 = 1
  · simp [h]
  · have : r.toNat % 2 = 0 := by omega
    simp [this]
theorem s1_mask (r : BitVec 32) : (r >>> 1) ^^^ (Crc.P &&& -(r &&& 1#32)) = Crc.s1 r := by
  unfold Crc.s1
  rw [lsb]
  have h1 : Crc.P &&& -(1#32) = Crc.P := by decide
  have h0 : Crc.P &&& -(0#32) = 0#32 := by decide
  cases r.getLsbD 0
  · simp only [Bool.false_eq_true, if_false, h0, BitVec.xor_zero]
  · simp only [if_true, h1]
theorem s1_go (r : BitVec 32) :
    bits .xor .u32 ((r.toNat : Int) / 2) (bits .and .u32 2197175160 (-bits .and .u32 (r.toNat : Int) 1 % 4294967296)) = ((Crc.s1 r).toNat : Int) := by
  have eP : (2197175160 : Int) = ((Crc.P).toNat : Int) := rfl
  have e0 : bits .and .u32 (r.toNat : Int) 1 = ((r &&& 1#32).toNat : Int) := b32_and r 1#32
  have e1 : -((r &&& 1#32).toNat : Int) % 4294967296 = ((-(r &&& 1#32)).toNat : Int) := by
    have := b32_neg (r &&& 1#32)
    rw [IntKind.wrap_u32, Int.zero_sub] at this
    exact this
  have e2 : (r.toNat : Int) / (2 : Int) = ((r >>> 1).toNat : Int) := by have := b32_shr r 1; omega
  rw [e2, e0, e1, eP, b32_and, b32_xor, s1_mask]

set_option maxRecDepth 100000 in
theorem table_any (w : World) :
    Calls Tryd.prog 21 #[] w fun e w' =>
      e = .returned (.agg (part 256)) ∧ Below w.heap.size w w' := by
  have hz := zero_tab
  go_enter Tryd.func21, Tryd.ntmps21
  go_wp2_with fail
  go_loopw [3] (fun i wr => ∃ k : Nat, k ≤ 256 ∧ i = .int .i64 k ∧ Row wr w.heap.size 42 (part k) ∧ Below w.heap.size w wr) (fun i _ => 256 - (intOf i).toNat)
  case atStart => exact ⟨0, by omega, rfl, Row.new _ _ _, (Below.refl _ _).alloc (Nat.le_refl _) _⟩
  case round =>
    obtain ⟨k, hk, rfl, hrow, hbel⟩ := hrel
    by_cases hlt : k < 256
    · have hc : wr.cell? ⟨w.heap.size, k, none⟩ = some (.int .u32 0) := by rw [hrow.cell, part_get k k hlt, if_neg (by omega)]
      have hf := hrow.frozen k
      have Hr := Lib.hid hrow
      have Hb := Lib.hid hbel
      clear hrow hbel hz
      go_wp2_with fail
      go_loop [2, 8] (fun r j => ∃ (n : Nat), n ≤ 8 ∧ j = .int .i64 n ∧ r = v32 (Crc.it Crc.s1 n (BitVec.ofNat 32 k))) (fun _ j => 8 - (intOf j).toNat)
      case atStart =>
        refine ⟨0, by omega, rfl, ?_⟩
        simp only [v32, Crc.it, BitVec.toNat_ofNat]
        congr 1; omega
      case round =>
        obtain ⟨n, hn, rfl, rfl⟩ := hrel
        by_cases hn8 : n < 8
        · have hs := s1_go (Crc.it Crc.s1 n (BitVec.ofNat 32 k))
          have H := Lib.hid hs
          clear hs
          simp only [v32]
          go_wp2_with fail
          go_round
          case rel => exact ⟨n + 1, by omega, by go_num, by rw [H.out, Crc.it_succ]⟩
          case measure => simp [intOf]; omega
        · obtain rfl : n = 8 := by omega
          simp only [v32]
          go_wp2_with fail
          go_roundw
          case rel => exact ⟨k + 1, by omega, by go_num, by rw [← part_put k]; exact Hr.out.put k _, Hb.out.setCell (Nat.le_refl _) _⟩
          case measure => simp [intOf]; omega
    · have hk6 : k = 256 := by omega
      have hrow6 : Row wr w.heap.size 42 (part 256) := by rw [← hk6]; exact hrow
      have Hb := Lib.hid hbel
      have Hr := Lib.hid hrow6
      clear hrow hbel hz hk6 hrow6
      go_wp2_with (first | (refine wpList_load_row rfl _ _ rfl w.heap.size rfl _ (part 256) (0, 0) _ Hr.out Tryd.underlying42 rfl (by rw [part_size]; exact info_tab) ?_) | (refine wpList_store_row rfl _ _ _ rfl w.heap.size (part 256) rfl rfl _ (part 256) Hr.out (by rw [part_size]; exact info_tab) rfl (part_cells 256) ?_))
      refine bodyPost_ret (v := .agg (part 256)) ?_ rfl ⟨rfl, below_whole Hb.out (Nat.le_refl _) _⟩
      exact results_cell_row rfl _ _ w.heap.size _ (part 256) (0, 0) _ rfl (Hr.out.whole _) Tryd.underlying42 rfl (by rw [part_size]; exact info_tab)
end Go.Proofs.YtgeiholilcgooaaDoor
