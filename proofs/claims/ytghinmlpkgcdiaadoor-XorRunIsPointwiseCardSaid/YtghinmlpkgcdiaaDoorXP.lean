/- Schedules: the bit planes of a unit, the program's walk. Schedules: a unit out of its bit planes, the plain words. Schedules: a unit out of its bit planes, the program's walk. Schedules: are all units of one length? Schedules: slices.Chunk at rows of numbers. -/
import Derived.Test.YtghinmlpkgcdiaaDoorXE
import Derived.Test.YtghinmlpkgcdiaaDoorStr
import Derived.Shelf.Abstract
import Derived.Shelf.RegionOpen
import Derived.WalkKit
import Derived.OwnWalkIn
import Derived.TacticsInMore
import Derived.LoopNIn
import Derived.LoopIn
/-! Schedules: the bit planes of a unit, the program's walk. -/
namespace Go.Proofs.YtghinmlpkgcdiaaDoor
set_option linter.unusedSimpArgs false
set_option linter.unusedVariables false
open Go.RowKit Go.Lib

theorem conv_byt (w : World) (s : ByteArray) : ∃ (c : Nat) (w' : World), (convert 9 91 (.string s)).run Tryd.prog w = .ok (.slice (some ⟨w.heap.size, 0, none⟩) s.size c) w' ∧
    Below w.heap.size w w' ∧ w.heap.size < w'.heap.size ∧ ∀ j, j < s.size → w'.cell? ⟨w.heap.size, j, none⟩ = some (.int .u8 ((s.data.toList[j]?.getD 0).toNat : Int)) := by
  refine ⟨_, _, Go.Lib.run_convert_string_bytes (P := Tryd.prog) w 9 91 5 s Tryd.underlying9 Tryd.underlying91 Tryd.underlying5, below_bytes _ _ _, by rw [bytesWorld_size]; omega, ?_⟩
  intro j hj
  rw [bytesWorld_cell w _ s j hj, List.getD_eq_getElem?_getD]
theorem words0 (W : Nat) : List.replicate W (Value.int .u64 0) = wordsL W (Xp.word 0) := by
  unfold wordsL
  symm
  rw [List.eq_replicate_iff]
  refine ⟨by simp, fun b hb => ?_⟩
  obtain ⟨p, _, rfl⟩ := List.mem_map.1 hb
  have : Xp.word 0 p = 0 := by unfold Xp.word; simp
  rw [this]; rfl
theorem take_set {α : Type} {l : List α} {k : Nat} (h : k < l.length) (v : α) : (l.set k v).take (k + 1) = l.take k ++ [v] := by
  rw [List.take_add_one, List.take_set_of_le (Nat.le_refl _), List.getElem?_set_self h]; rfl
theorem u8_and1 (y : Nat) (hy : y < 256) : bits .and .u8 (y : Int) 1 = ((y % 2 : Nat) : Int) := by
  show IntKind.u8.wrap ((BitVec.ofInt 8 (y : Int) &&& BitVec.ofInt 8 ((1 : Nat) : Int)).toNat : Int) = _
  rw [BitVec.ofInt_natCast, BitVec.toNat_and, BitVec.toNat_ofNat, Nat.mod_eq_of_lt (show y < 2 ^ 8 by omega)]
  rw [show (BitVec.ofInt 8 ((1 : Nat) : Int)).toNat = 1 by decide, Nat.and_one_is_mod, IntKind.wrap_u8]
  omega
theorem or_bit {wd f b A : Nat} (hwd : wd < 2 ^ 64) (hf : f < 256) : bits .or .u64 (wd : Int) (IntKind.u64.wrap (IntKind.u64.wrap (bits .and .u8 ((f : Int) / 2 ^ b) 1) * 2 ^ (A % 64))) = ((wd ||| (f / 2 ^ b % 2) <<< (A % 64) : Nat) : Int) := by
  have e : ((f : Int) / 2 ^ b) = ((f / 2 ^ b : Nat) : Int) := by simp
  have hd : f / 2 ^ b ≤ f := Nat.div_le_self _ _
  generalize f / 2 ^ b = y at e hd ⊢
  rw [e, u8_and1 y (by omega)]
  have h2 : y % 2 < 2 := Nat.mod_lt _ (by decide)
  generalize y % 2 = x at h2 ⊢
  have hp : (2 : Nat) ^ (A % 64) ≤ 2 ^ 63 := Nat.pow_le_pow_right (by decide) (by omega)
  rw [show IntKind.u64.wrap (x : Int) = (x : Int) by rw [IntKind.wrap_u64]; omega]
  rw [show (x : Int) * 2 ^ (A % 64) = ((x <<< (A % 64) : Nat) : Int) by rw [Nat.shiftLeft_eq]; simp]
  have hx : x <<< (A % 64) < 2 ^ 64 := by
    rw [Nat.shiftLeft_eq]
    generalize 2 ^ (A % 64) = t at hp
    rcases (show x = 0 ∨ x = 1 by omega) with rfl | rfl <;> omega
  generalize x <<< (A % 64) = t at hx ⊢
  rw [show IntKind.u64.wrap (t : Int) = (t : Int) by rw [IntKind.wrap_u64]; omega]
  exact bits_or_u64_nat wd t (by omega) (by omega)
set_option maxRecDepth 100000 in
set_option maxHeartbeats 6400000 in
theorem planes_any {m : Nat} (hm : Fld.IsM m) (s : ByteArray) (n W : Nat) (w : World) (hs : s.size = n * (m / 8)) (hs2 : s.size ≤ 1000) (hW : (n + 63) / 64 = W) :
    Calls Tryd.prog 44 #[.int .i64 m, .string s] w fun e w' => (∃ q k vs, e = .returned (.slice q m k) ∧ Own w' w.heap.size 80 q m k vs ∧ FamW w' w.heap.size W vs (Xp.plList m (fun i => (s.data.toList[i]?.getD 0).toNat) s.size 0)) ∧ Below w.heap.size w w' := by
  obtain ⟨z, hz⟩ : ∃ z, m / 8 = z := ⟨_, rfl⟩
  have hz12 : 1 ≤ z ∧ z ≤ 2 := by rcases hm with rfl | rfl <;> omega
  have hm16 : 8 ≤ m ∧ m ≤ 16 := by rcases hm with rfl | rfl <;> omega
  rw [hz] at hs
  have hnl : n ≤ 1000 := by
    have : n * 1 ≤ n * z := Nat.mul_le_mul_left _ hz12.1
    omega
  have hq1 : (m : Int) / 8 = (z : Int) := by omega
  have hq2 : ((s.size : Nat) : Int) / (z : Int) = (n : Int) := by
    rw [hs, ← Int.natCast_ediv, Nat.mul_div_cancel _ (by omega)]
  have hq3 : ((n : Int) + 64 - 1) / 64 = (W : Int) := by omega
  have HML := make_lists m (by omega)
  have HMW := make_words W (by omega)
  have HM := Lib.hid hm
  have HZ := Lib.hid hz
  have HS := Lib.hid hs
  have HWW := Lib.hid hW
  clear hm hz hs hW
  go_enter Tryd.func44, Tryd.ntmps44
  go_wp2_with fail
  have HO0 := Lib.hid (show Own (w.alloc (.cells (madeCells #[.slice none 0 0] m) 80)) w.heap.size 80 (some ⟨w.heap.size, 0, none⟩) m m (List.replicate m (.slice none 0 0)) from by
    have h9 := Own.new w w.heap.size 80 (madeCells #[.slice none 0 0] m) m (Nat.le_refl _) (by rw [← Array.length_toList, toList_madeCells_one, List.length_replicate]) (by unfold maxLen; omega)
    rwa [toList_madeCells_one] at h9)
  go_loopw [24] (fun i wr => ∃ (k : Nat) (vs : List Value), k ≤ m ∧ i = .int .i64 k ∧ Own wr w.heap.size 80 (some ⟨w.heap.size, 0, none⟩) m m vs ∧ FamW wr w.heap.size W (vs.take k) (List.replicate k 0) ∧ Below w.heap.size w wr) (fun i _ => m - (intOf i).toNat)
  case atStart => exact ⟨0, _, Nat.zero_le _, rfl, HO0.out, FamW.nil _ _ _, (Below.refl _ _).alloc (Nat.le_refl _) _⟩
  case round =>
    obtain ⟨k, vs, hkm, rfl, ho, hf, hb⟩ := hrel
    have HO := Lib.hid ho
    have HF := Lib.hid hf
    have HB := Lib.hid hb
    have hsw := hb.size
    clear ho hf hb HO0
    by_cases hlt : k < m
    · have hd : decide ((k : Int) < m) = true := decide_eq_true (by omega)
      obtain ⟨gz, egz, _, hgl, hcz, hfz⟩ := HO.out.at_ hlt
      obtain rfl : w.heap.size = gz := by injection egz with egz; injection egz
      have hvl : k < vs.length := by rw [HO.out.len]; exact hlt
      obtain ⟨v0, hv0⟩ : ∃ v, vs[k]? = some v := ⟨_, List.getElem?_eq_getElem hvl⟩
      rw [hv0] at hcz
      obtain ⟨cs7, hrow7, _⟩ := HO.out.row rfl
      have hsz := size_put wr ⟨w.heap.size, k, none⟩ (.slice (some ⟨wr.heap.size, 0, none⟩) W W)
      have HK7 := Lib.hid (fun (e : TypeId) (he : e ≠ 80) => (Keeps.refl e wr).put (p := ⟨w.heap.size, k, none⟩) hrow7 he (.slice (some ⟨wr.heap.size, 0, none⟩) W W))
      have HO8 := Lib.hid ((HO.out.put hlt (.slice (some ⟨wr.heap.size, 0, none⟩) W W)).alloc (.cells (madeCells #[.int .u64 0] W) 85))
      have HB8 := Lib.hid ((HB.out.setCell (p := ⟨w.heap.size, k, none⟩) (Nat.le_refl _) (.slice (some ⟨wr.heap.size, 0, none⟩) W W)).alloc (by rw [hsz]; exact hsw) (.cells (madeCells #[.int .u64 0] W) 85))
      have HNW := Lib.hid (show Own ((wr.setCell ⟨w.heap.size, k, none⟩ (.slice (some ⟨wr.heap.size, 0, none⟩) W W)).alloc (.cells (madeCells #[.int .u64 0] W) 85)) w.heap.size 85 (some ⟨wr.heap.size, 0, none⟩) W W (wordsL W (Xp.word 0)) from by
        have h9 := Own.new (wr.setCell ⟨w.heap.size, k, none⟩ (.slice (some ⟨wr.heap.size, 0, none⟩) W W)) w.heap.size 85 (madeCells #[.int .u64 0] W) W (by rw [hsz]; exact hsw) (by rw [← Array.length_toList, toList_madeCells_one, List.length_replicate]) (by unfold maxLen; omega)
        rwa [toList_madeCells_one, words0, hsz] at h9)
      have HF8 := Lib.hid (show FamW ((wr.setCell ⟨w.heap.size, k, none⟩ (.slice (some ⟨wr.heap.size, 0, none⟩) W W)).alloc (.cells (madeCells #[.int .u64 0] W) 85)) w.heap.size W ((vs.set k (.slice (some ⟨wr.heap.size, 0, none⟩) W W)).take (k + 1)) (List.replicate (k + 1) 0) from by
        rw [take_set hvl, List.replicate_succ']
        refine ((HF.out.keeps (HK7.out _ (by decide))).keeps ((Keeps.refl _ _).alloc _)).snoc HNW.out (fun j q2 k2 hj g hg hq => ?_)
        have h9 := (HF.out.block hj hg).2
        injection hq with hq
        injection hq with hq
        omega)
      clear hsz
      clear hv0 hrow7 egz
      go_wp2_with fail
      go_roundw
      case rel => exact ⟨k + 1, _, by omega, by go_num, HO8.out, HF8.out, HB8.out⟩
      case measure => simp [intOf]; omega
    · have hd : decide ((k : Int) < m) = false := decide_eq_false (by omega)
      obtain ⟨wl, rfl⟩ : ∃ wl : World, wl = wr := ⟨_, rfl⟩
      have hkm2 : k = m := by omega
      have HF2 := HF.out
      rw [List.take_of_length_le (by rw [HO.out.len]; omega), hkm2, ← Xp.plList_zero m (fun i => (s.data.toList[i]?.getD 0).toNat)] at HF2
      have HF3 := Lib.hid HF2
      have HVB := Lib.hid (fun (i : Nat) (q : Option Addr) (k' : Nat) (hv : vs[i]? = some (.slice q W k')) (g : Nat) (hq : q = some ⟨g, 0, none⟩) => (HF2.block hv hq).2)
      obtain ⟨cB, wB, hcv, hbB, hszB, hcB⟩ := conv_byt wl s
      have HCB := Lib.hid hcB
      have HBB := Lib.hid hbB
      have HO3 := Lib.hid (HO.out.below hbB)
      have HF4 := Lib.hid (HF2.keeps (Keeps.of_below hbB))
      clear HF2 hkm2 hcB
      go_wp2_with fail
      clear hcv
      go_loopw [39] (fun i wr => ∃ i' : Nat, i' ≤ s.size ∧ i = .int .i64 i' ∧ Own wr w.heap.size 80 (some ⟨w.heap.size, 0, none⟩) m m vs ∧ FamW wr w.heap.size W vs (Xp.plList m (fun i => (s.data.toList[i]?.getD 0).toNat) i' 0) ∧ Only (fun b => w.heap.size ≤ b ∧ b < wl.heap.size) wB wr) (fun i _ => s.size - (intOf i).toNat)
      case atStart => exact ⟨0, Nat.zero_le _, rfl, HO3.out, HF4.out, Only.refl _ _⟩
      case round =>
        obtain ⟨i, his, rfl, ho, hf, hon⟩ := hrel
        have HO5 := Lib.hid ho
        have HF5 := Lib.hid hf
        have HON := Lib.hid hon
        clear ho hf hon HF4 HO3
        by_cases hil : i < s.size
        · have hd2 : decide ((i : Int) < s.size) = true := decide_eq_true (by omega)
          have hcb := (World.cell?_of_block (a := ⟨wl.heap.size, i, none⟩) (HON.out.block wl.heap.size hszB (fun h => Nat.lt_irrefl _ h.2))).trans (HCB.out i hil)
          obtain ⟨f, hf⟩ : ∃ f, (s.data.toList[i]?.getD 0).toNat = f := ⟨_, rfl⟩
          have hf256 : f < 256 := by rw [← hf]; exact UInt8.toNat_lt _
          rw [hf] at hcb
          have HFV := Lib.hid hf
          obtain ⟨A, hA⟩ : ∃ A, i / z = A := ⟨_, rfl⟩
          obtain ⟨R, hR⟩ : ∃ R, i % z = R := ⟨_, rfl⟩
          have hRz : R < z := by rw [← hR]; exact Nat.mod_lt i (by omega)
          obtain ⟨H, hH⟩ : ∃ H, 8 * (z - 1 - R) = H := ⟨_, rfl⟩
          have HA := Lib.hid hA
          have HH := Lib.hid (show Xp.high m i = H by unfold Xp.high; rw [HZ.out, hR, hH])
          have hqi : (i : Int) / (z : Int) = (A : Int) := by rw [← Int.natCast_ediv, hA]
          have hri : (i : Int) % (z : Int) = (R : Int) := by rw [← Int.natCast_emod, hR]
          have hAn : A < n := by
            rw [← hA]
            apply Nat.div_lt_of_lt_mul
            rw [Nat.mul_comm, ← HS.out]; exact hil
          have hw1 : IntKind.i64.wrap ((z : Int) - 1) = (z : Int) - 1 := by rw [IntKind.wrap_i64] <;> omega
          have hw2 : IntKind.i64.wrap ((z : Int) - 1 - (R : Int)) = (z : Int) - 1 - (R : Int) := by rw [IntKind.wrap_i64] <;> omega
          have hw3 : IntKind.i64.wrap (8 * ((z : Int) - 1 - (R : Int))) = (H : Int) := by rw [← hH, IntKind.wrap_i64] <;> omega
          clear hf hA hR hH
          go_wp2_with fail
          go_region
          go_wp2_with fail
          clear hcb hw1 hw2 hw3 hri hqi
          go_loopw [54] (fun i2 wr => ∃ k' : Nat, k' ≤ 8 ∧ i2 = .int .i64 k' ∧ Own wr w.heap.size 80 (some ⟨w.heap.size, 0, none⟩) m m vs ∧ FamW wr w.heap.size W vs (Xp.plList m (fun i => (s.data.toList[i]?.getD 0).toNat) i k') ∧ Only (fun b => w.heap.size ≤ b ∧ b < wl.heap.size) wB wr) (fun i2 _ => 8 - (intOf i2).toNat)
          case atStart => exact ⟨0, Nat.zero_le _, rfl, HO5.out, HF5.out.drew, HON.out.trans ⟨rfl, rfl, rfl, Nat.le_refl _, fun _ _ _ => rfl⟩⟩
          case round =>
            obtain ⟨b, hb8, rfl, ho, hf, hon⟩ := hrel
            have HO6 := Lib.hid ho
            have HF6 := Lib.hid hf
            have HON6 := Lib.hid hon
            clear ho hf hon HF5 HO5 HON
            by_cases hb : b < 8
            · have hd3 : decide ((b : Int) < 8) = true := decide_eq_true (by omega)
              obtain ⟨Q, hQ⟩ : ∃ Q, H + b = Q := ⟨_, rfl⟩
              have hQm : Q < m := by rw [← hQ, ← HH.out]; exact Xp.high_lt HM.out hb
              have hwQ : IntKind.i64.wrap ((H : Int) + (b : Int)) = (Q : Int) := by rw [← Int.natCast_add, hQ, IntKind.wrap_i64] <;> omega
              have HQ := Lib.hid hQ
              clear hQ
              obtain ⟨q5, k5, hv5, ho5⟩ := HF6.out.own Q _ (Xp.plList_get hQm)
              have hAW : A / 64 < W := by have := HWW.out; omega
              obtain ⟨g5, rfl, hg5, hg5l, hc5, hf5⟩ := ho5.at_ hAW
              rw [wordsL_get _ hAW] at hc5
              obtain ⟨wd, hwd⟩ : ∃ wd, Xp.word (Xp.plPart m (fun i => (s.data.toList[i]?.getD 0).toNat) i b Q) (A / 64) = wd := ⟨_, rfl⟩
              rw [hwd] at hc5
              obtain ⟨gz, egz, _, hgl, hcz, hfz⟩ := HO6.out.at_ hQm
              obtain rfl : w.heap.size = gz := by injection egz with egz; injection egz
              rw [hv5] at hcz
              have HWD := Lib.hid hwd
              have HV5 := Lib.hid hv5
              have HO9 := Lib.hid ho5
              clear hv5 ho5 hwd egz
              obtain ⟨V, hV⟩ : ∃ V, wd ||| (f / 2 ^ b % 2) <<< (A % 64) = V := ⟨_, rfl⟩
              have HVE := Lib.hid (show bits .or .u64 (wd : Int) (IntKind.u64.wrap (IntKind.u64.wrap (bits .and .u8 ((f : Int) / 2 ^ b) 1) * 2 ^ (A % 64))) = (V : Int) by
                rw [← hV]; exact or_bit (by rw [← HWD.out]; exact Xp.word_lt _ _) hf256)
              have HF7 := Lib.hid (show FamW (wr.setCell ⟨g5, A / 64, none⟩ (.int .u64 (V : Int))) w.heap.size W vs (Xp.plList m (fun i => (s.data.toList[i]?.getD 0).toNat) i (b + 1)) from by
                have h9 := HF6.out.put (n' := Xp.plPart m (fun i => (s.data.toList[i]?.getD 0).toNat) i (b + 1) Q) (v := V) (Xp.plList_get hQm) HV5.out hAW (fun p' => by
                  rw [← HQ.out, ← HH.out, Xp.plPart_put, HZ.out, HA.out, Xp.word_or _ _ _ _ (Nat.mod_lt _ (by decide)), ← Xp.plPart_at]
                  by_cases e : p' = A / 64
                  · rw [if_pos e, if_pos e, e, HH.out, HQ.out, HWD.out, HFV.out, hV]
                  · rw [if_neg e, if_neg e])
                have h8 := Xp.plList_set (m := m) (f := fun i => (s.data.toList[i]?.getD 0).toNat) (i := i) (k := b) (v := Xp.plPart m (fun i => (s.data.toList[i]?.getD 0).toNat) i (b + 1) Q) (by rw [HH.out, HQ.out]; exact hQm) (by rw [HH.out, HQ.out])
                rw [HH.out, HQ.out] at h8
                rwa [h8] at h9)
              have HO7 := Lib.hid (HO6.out.keeps ((Keeps.refl 80 wr).put (p := ⟨g5, A / 64, none⟩) (HO9.out.row rfl).choose_spec.1 (by decide) (.int .u64 (V : Int))))
              have HON7 := Lib.hid (HON6.out.setCell (p := ⟨g5, A / 64, none⟩) ⟨hg5, HVB.out Q _ _ HV5.out g5 rfl⟩ (.int .u64 (V : Int)))
              clear hV
              go_wp2_with fail
              go_region
              go_wp2_with fail
              rw [HVE.out]
              go_roundw
              case rel => exact ⟨b + 1, by omega, by go_num, HO7.out, HF7.out.drew, HON7.out.trans ⟨rfl, rfl, rfl, Nat.le_refl _, fun _ _ _ => rfl⟩⟩
              case measure => simp [intOf]; omega
            · have hd3 : decide ((b : Int) < 8) = false := decide_eq_false (by omega)
              have HF7 := HF6.out
              rw [show b = 8 by omega, Xp.plList_next] at HF7
              have HF8 := Lib.hid HF7
              clear HF7
              go_wp2_with fail
              go_roundw
              case rel => exact ⟨i + 1, by omega, by go_num, HO6.out, HF8.out, HON6.out⟩
              case measure => simp [intOf]; omega
        · have hd2 : decide ((i : Int) < s.size) = false := decide_eq_false (by omega)
          have hE : i = s.size := by omega
          have HBE := Lib.hid (show Below w.heap.size w wr from (below_call HB.out HBB.out).trans (HON.out.below (by have := HBB.out.size; omega) (fun k hk => hk.1)))
          go_wp2_with fail
          go_ret
          exact ⟨⟨some ⟨w.heap.size, 0, none⟩, m, vs, rfl, HO5.out, hE ▸ HF5.out⟩, HBE.out⟩
end Go.Proofs.YtghinmlpkgcdiaaDoor
/-! Schedules: a unit out of its bit planes, the plain words. -/
set_option linter.unusedVariables false
namespace Go.Proofs.YtghinmlpkgcdiaaDoor
namespace Xp

/-- the first k bits of byte i of the unit with the planes R -/
def ubTo (m : Nat) (R : Nat → Nat) (i : Nat) : Nat → Nat
  | 0 => 0
  | k + 1 => ubTo m R i k ||| (R (high m i + k) / 2 ^ (i / (m / 8)) % 2) <<< k
theorem ubTo_lt (m : Nat) (R : Nat → Nat) (i : Nat) : ∀ k, ubTo m R i k < 2 ^ k
  | 0 => by simp [ubTo]
  | k + 1 => by
    have h := ubTo_lt m R i k
    have h2 : (R (high m i + k) / 2 ^ (i / (m / 8)) % 2) <<< k < 2 ^ (k + 1) := by
      have : R (high m i + k) / 2 ^ (i / (m / 8)) % 2 < 2 := Nat.mod_lt _ (by decide)
      generalize R (high m i + k) / 2 ^ (i / (m / 8)) % 2 = x at this ⊢
      rw [Nat.shiftLeft_eq, Nat.pow_succ]
      rcases (show x = 0 ∨ x = 1 by omega) with rfl | rfl
      · have := Nat.two_pow_pos k; omega
      · have := Nat.two_pow_pos k; omega
    have h3 : ubTo m R i k < 2 ^ (k + 1) := by rw [Nat.pow_succ]; omega
    exact Nat.or_lt_two_pow h3 h2
/-- the bytes when i of them are made, and k bits of the next -/
def ubAt (m : Nat) (R : Nat → Nat) (i k p : Nat) : Nat := if p < i then ubTo m R p 8 else if p = i then ubTo m R i k else 0
theorem ubAt_put (m : Nat) (R : Nat → Nat) (i k p : Nat) : (if p = i then ubTo m R i (k + 1) else ubAt m R i k p) = ubAt m R i (k + 1) p := by
  unfold ubAt
  by_cases e : p = i
  · subst e; rw [if_pos rfl, if_neg (Nat.lt_irrefl _), if_pos rfl]
  · rw [if_neg e]
    by_cases e2 : p < i
    · rw [if_pos e2, if_pos e2]
    · rw [if_neg e2, if_neg e2, if_neg e, if_neg e]
theorem ubAt_next (m : Nat) (R : Nat → Nat) (i p : Nat) : ubAt m R i 8 p = ubAt m R (i + 1) 0 p := by
  unfold ubAt
  by_cases e : p < i
  · rw [if_pos e, if_pos (by omega)]
  · rw [if_neg e]
    by_cases e2 : p = i
    · rw [if_pos e2, if_pos (by omega), e2]
    · rw [if_neg e2, if_neg (by omega)]
      split
      · rfl
      · rfl
def unitL (m : Nat) (R : Nat → Nat) (n : Nat) : List UInt8 := (List.range n).map fun i => UInt8.ofNat (ubTo m R i 8)
theorem unitL_length (m : Nat) (R : Nat → Nat) (n : Nat) : (unitL m R n).length = n := by simp [unitL]
end Xp
end Go.Proofs.YtghinmlpkgcdiaaDoor
/-! Schedules: a unit out of its bit planes, the program's walk. -/
namespace Go.Proofs.YtghinmlpkgcdiaaDoor
set_option linter.unusedSimpArgs false
set_option linter.unusedVariables false
open Go.RowKit Go.Lib

def bytesN (n : Nat) (f : Nat → Nat) : List Value := (List.range n).map fun p => .int .u8 (f p : Int)
theorem bytesN_length (n : Nat) (f : Nat → Nat) : (bytesN n f).length = n := by simp [bytesN]
theorem bytesN_get {n p : Nat} (f : Nat → Nat) (h : p < n) : (bytesN n f)[p]? = some (.int .u8 (f p : Int)) := by
  unfold bytesN; rw [List.getElem?_map, List.getElem?_range h]; rfl
theorem bytesN_set {n p : Nat} (f : Nat → Nat) (v : Nat) : (bytesN n f).set p (.int .u8 (v : Int)) = bytesN n (fun q => if q = p then v else f q) := by
  apply List.ext_getElem?
  intro j
  rw [List.getElem?_set]
  by_cases hj : j < n
  · rw [bytesN_get _ hj, bytesN_get _ hj, bytesN_length]
    by_cases e : p = j
    · subst e; rw [if_pos rfl, if_pos hj, if_pos rfl]
    · rw [if_neg e, if_neg (fun h => e h.symm)]
  · rw [List.getElem?_eq_none (by rw [bytesN_length]; omega), List.getElem?_eq_none (by rw [bytesN_length]; omega), bytesN_length]
    by_cases e : p = j
    · rw [if_pos e, if_neg (by omega)]
    · rw [if_neg e]
theorem bytesN_congr {n : Nat} {f f' : Nat → Nat} (h : ∀ p, p < n → f p = f' p) : bytesN n f = bytesN n f' := by
  unfold bytesN
  apply List.map_congr_left
  intro p hp
  rw [h p (List.mem_range.1 hp)]
theorem bytes0 (n : Nat) : List.replicate n (Value.int .u8 0) = bytesN n (fun _ => 0) := by
  unfold bytesN
  symm
  rw [List.eq_replicate_iff]
  refine ⟨by simp, fun b hb => ?_⟩
  obtain ⟨p, _, rfl⟩ := List.mem_map.1 hb
  rfl
theorem bytesN_unit (m : Nat) (R : Nat → Nat) (n : Nat) : bytesN n (fun p => Xp.ubTo m R p 8) = (Xp.unitL m R n).map v8 := by
  unfold bytesN Xp.unitL
  rw [List.map_map]
  apply List.map_congr_left
  intro p _
  have := Xp.ubTo_lt m R p 8
  simp only [Function.comp, v8]
  rw [UInt8.toNat_ofNat', Nat.mod_eq_of_lt (by omega)]
theorem u64_and1 (y : Nat) (hy : y < 18446744073709551616) : bits .and .u64 (y : Int) 1 = ((y % 2 : Nat) : Int) := by
  rw [show (1 : Int) = ((1 : Nat) : Int) from rfl, bits_and_u64_nat y 1 (by omega) (by omega), Nat.and_one_is_mod]
theorem u8_or (a b : Nat) (ha : a < 256) (hb : b < 256) : bits .or .u8 (a : Int) (b : Int) = ((a ||| b : Nat) : Int) := by
  have h : a ||| b < 2 ^ 8 := Nat.or_lt_two_pow (by omega) (by omega)
  show IntKind.u8.wrap ((BitVec.ofInt 8 (a : Int) ||| BitVec.ofInt 8 (b : Int)).toNat : Int) = _
  rw [BitVec.ofInt_natCast, BitVec.ofInt_natCast, BitVec.toNat_or, BitVec.toNat_ofNat, BitVec.toNat_ofNat, Nat.mod_eq_of_lt (show a < 2 ^ 8 by omega), Nat.mod_eq_of_lt (show b < 2 ^ 8 by omega), IntKind.wrap_u8]
  omega
theorem or8_bit {c N A b : Nat} (hc : c < 256) (hb : b < 8) : bits .or .u8 (c : Int) (IntKind.u8.wrap (IntKind.u8.wrap (bits .and .u64 ((Xp.word N (A / 64) : Int) / 2 ^ (A % 64)) 1) * 2 ^ b)) = ((c ||| (N / 2 ^ A % 2) <<< b : Nat) : Int) := by
  have hl := Xp.word_lt N (A / 64)
  have h := Xp.bit_read N A
  have e : ((Xp.word N (A / 64) : Int) / 2 ^ (A % 64)) = ((Xp.word N (A / 64) / 2 ^ (A % 64) : Nat) : Int) := by simp
  have hd : Xp.word N (A / 64) / 2 ^ (A % 64) ≤ Xp.word N (A / 64) := Nat.div_le_self _ _
  generalize Xp.word N (A / 64) / 2 ^ (A % 64) = y at e h hd ⊢
  rw [e, u64_and1 y (by omega), h, testBit_div]
  have hx : (if N.testBit A then 1 else 0 : Nat) < 2 := by split <;> decide
  generalize (if N.testBit A then 1 else 0 : Nat) = x at hx ⊢
  have hp : (2 : Nat) ^ b ≤ 2 ^ 7 := Nat.pow_le_pow_right (by decide) (by omega)
  rw [show IntKind.u8.wrap (x : Int) = (x : Int) by rw [IntKind.wrap_u8]; omega]
  rw [show (x : Int) * 2 ^ b = ((x <<< b : Nat) : Int) by rw [Nat.shiftLeft_eq]; simp]
  have hx2 : x <<< b < 256 := by
    rw [Nat.shiftLeft_eq]
    generalize 2 ^ b = t at hp
    rcases (show x = 0 ∨ x = 1 by omega) with rfl | rfl <;> omega
  generalize x <<< b = t at hx2 ⊢
  rw [show IntKind.u8.wrap (t : Int) = (t : Int) by rw [IntKind.wrap_u8]; omega]
  exact u8_or c t hc hx2
theorem or8_bit2 {c N A b : Nat} (hc : c < 256) (hb : b < 8) : bits .or .u8 (c : Int) (bits .and .u64 ((Xp.word N (A / 64) : Int) / 2 ^ (A % 64)) 1 % 256 * 2 ^ b % 256) = ((c ||| (N / 2 ^ A % 2) <<< b : Nat) : Int) := by
  have h := or8_bit (c := c) (N := N) (A := A) (b := b) hc hb
  rw [IntKind.wrap_u8, IntKind.wrap_u8] at h
  exact h
set_option maxRecDepth 100000 in
set_option maxHeartbeats 6400000 in
theorem unit_any {m : Nat} (hm : Fld.IsM m) (ql : Option Addr) (kl n ns' W : Nat) (vs : List Value) (ns : List Nat) (w : World) (hn : n = ns' * (m / 8)) (hn2 : n ≤ 1000) (hW : (ns' + 63) / 64 = W) (hl : ns.length = m) (hr : Rd w w.heap.size ql vs) (hrg : RegsOf w W vs ns) :
    Calls Tryd.prog 47 #[.slice ql m kl, .int .i64 n] w fun e w' => e = .returned (.string (strB (Xp.unitL m (fun K => ns[K]?.getD 0) n))) ∧ Below w.heap.size w w' := by
  obtain ⟨z, hz⟩ : ∃ z, m / 8 = z := ⟨_, rfl⟩
  have hz12 : 1 ≤ z ∧ z ≤ 2 := by rcases hm with rfl | rfl <;> omega
  have hm16 : 8 ≤ m ∧ m ≤ 16 := by rcases hm with rfl | rfl <;> omega
  rw [hz] at hn
  have hnl : ns' ≤ 1000 := by
    have : ns' * 1 ≤ ns' * z := Nat.mul_le_mul_left _ hz12.1
    omega
  have hq1 : (m : Int) / 8 = (z : Int) := by omega
  have HMB := make_bytes n (by omega)
  have HM := Lib.hid hm
  have HZ := Lib.hid hz
  have HS := Lib.hid hn
  have HWW := Lib.hid hW
  have HL := Lib.hid hl
  have HR := Lib.hid hr
  have HRG := Lib.hid hrg
  obtain ⟨RF, hRF⟩ : ∃ RF : Nat → Nat, (fun K => ns[K]?.getD 0) = RF := ⟨_, rfl⟩
  have HRF := Lib.hid (fun K => congrFun hRF K)
  rw [hRF]
  clear hm hz hn hW hl hr hrg hRF
  go_enter Tryd.func47, Tryd.ntmps47
  go_wp2_with fail
  have HO0 := Lib.hid (show Own (w.alloc (.cells (madeCells #[.int .u8 0] n) 5)) w.heap.size 5 (some ⟨w.heap.size, 0, none⟩) n n (bytesN n (Xp.ubAt m RF 0 0)) from by
    have h9 := Own.new w w.heap.size 5 (madeCells #[.int .u8 0] n) n (Nat.le_refl _) (by rw [← Array.length_toList, toList_madeCells_one, List.length_replicate]) (by unfold maxLen; omega)
    rw [toList_madeCells_one, bytes0] at h9
    rwa [bytesN_congr (f' := Xp.ubAt m RF 0 0)] at h9
    intro p _
    unfold Xp.ubAt
    rw [if_neg (Nat.not_lt_zero _)]
    split <;> rfl)
  go_loopw [18] (fun i wr => ∃ i' : Nat, i' ≤ n ∧ i = .int .i64 i' ∧ Own wr w.heap.size 5 (some ⟨w.heap.size, 0, none⟩) n n (bytesN n (Xp.ubAt m RF i' 0)) ∧ Below w.heap.size w wr) (fun i _ => n - (intOf i).toNat)
  case atStart => exact ⟨0, Nat.zero_le _, rfl, HO0.out, (Below.refl _ _).alloc (Nat.le_refl _) _⟩
  case round =>
    obtain ⟨i, hin, rfl, ho, hb⟩ := hrel
    have HO := Lib.hid ho
    have HB := Lib.hid hb
    clear ho hb HO0
    by_cases hil : i < n
    · have hd : decide ((i : Int) < n) = true := decide_eq_true (by omega)
      obtain ⟨A, hA⟩ : ∃ A, i / z = A := ⟨_, rfl⟩
      obtain ⟨R, hR⟩ : ∃ R, i % z = R := ⟨_, rfl⟩
      have hRz : R < z := by rw [← hR]; exact Nat.mod_lt i (by omega)
      obtain ⟨H, hH⟩ : ∃ H, 8 * (z - 1 - R) = H := ⟨_, rfl⟩
      have HA := Lib.hid hA
      have HH := Lib.hid (show Xp.high m i = H by unfold Xp.high; rw [HZ.out, hR, hH])
      have hqi : (i : Int) / (z : Int) = (A : Int) := by rw [← Int.natCast_ediv, hA]
      have hri : (i : Int) % (z : Int) = (R : Int) := by rw [← Int.natCast_emod, hR]
      have hAn : A < ns' := by
        rw [← hA]
        apply Nat.div_lt_of_lt_mul
        rw [Nat.mul_comm, ← HS.out]; exact hil
      have hw1 : IntKind.i64.wrap ((z : Int) - 1) = (z : Int) - 1 := by rw [IntKind.wrap_i64] <;> omega
      have hw2 : IntKind.i64.wrap ((z : Int) - 1 - (R : Int)) = (z : Int) - 1 - (R : Int) := by rw [IntKind.wrap_i64] <;> omega
      have hw3 : IntKind.i64.wrap (8 * ((z : Int) - 1 - (R : Int))) = (H : Int) := by rw [← hH, IntKind.wrap_i64] <;> omega
      clear hA hR hH
      go_wp2_with fail
      go_region
      go_wp2_with fail
      clear hw1 hw2 hw3 hri hqi
      go_loopw [31] (fun i2 wr => ∃ k' : Nat, k' ≤ 8 ∧ i2 = .int .i64 k' ∧ Own wr w.heap.size 5 (some ⟨w.heap.size, 0, none⟩) n n (bytesN n (Xp.ubAt m RF i k')) ∧ Below w.heap.size w wr) (fun i2 _ => 8 - (intOf i2).toNat)
      case atStart => exact ⟨0, Nat.zero_le _, rfl, HO.out.drewN 1, HB.out.drew⟩
      case round =>
        obtain ⟨b, hb8, rfl, ho, hb⟩ := hrel
        have HO2 := Lib.hid ho
        have HB2 := Lib.hid hb
        clear ho hb HO HB
        by_cases hb : b < 8
        · have hd3 : decide ((b : Int) < 8) = true := decide_eq_true (by omega)
          obtain ⟨Q, hQ⟩ : ∃ Q, H + b = Q := ⟨_, rfl⟩
          have hQm : Q < m := by rw [← hQ, ← HH.out]; exact Xp.high_lt HM.out hb
          have hwQ : IntKind.i64.wrap ((H : Int) + (b : Int)) = (Q : Int) := by rw [← Int.natCast_add, hQ, IntKind.wrap_i64] <;> omega
          have HQ := Lib.hid hQ
          clear hQ
          have hAW : A / 64 < W := by have := HWW.out; omega
          obtain ⟨N, hN⟩ : ∃ N, ns[Q]? = some N := ⟨_, List.getElem?_eq_getElem (by rw [HL.out]; exact hQm)⟩
          obtain ⟨v5, hv5, q5, k5, rfl, hbit⟩ := HRG.out.2 Q N hN
          obtain ⟨g5, cs5, rfl, hr5, hc5⟩ := hbit (by omega)
          obtain ⟨bl, ol, rfl, hbl, hcl⟩ := (HR.out.below HB2.out) Q _ hv5
          have hcw := (((hr5.below HB2.out hr5.lt) : Row wr g5 85 cs5).cell (A / 64)).trans (hc5 _ hAW)
          have hRFQ : RF Q = N := by rw [← HRF.out Q, hN]; rfl
          obtain ⟨gz, egz, _, hgl, hcz, hfz⟩ := HO2.out.at_ hil
          obtain rfl : w.heap.size = gz := by injection egz with egz; injection egz
          rw [bytesN_get _ hil] at hcz
          obtain ⟨c, hc⟩ : ∃ c, Xp.ubTo m RF i b = c := ⟨_, rfl⟩
          have hcc : Xp.ubAt m RF i b i = c := by unfold Xp.ubAt; rw [if_neg (Nat.lt_irrefl _), if_pos rfl, hc]
          rw [hcc] at hcz
          have hc256 : c < 256 := by
            have h9 := Xp.ubTo_lt m RF i b
            have h8 : (2 : Nat) ^ b ≤ 2 ^ 7 := Nat.pow_le_pow_right (by decide) (by omega)
            omega
          obtain ⟨V, hV⟩ : ∃ V, c ||| (N / 2 ^ A % 2) <<< b = V := ⟨_, rfl⟩
          have hV2 : Xp.ubTo m RF i (b + 1) = V := by
            show Xp.ubTo m RF i b ||| (RF (Xp.high m i + b) / 2 ^ (i / (m / 8)) % 2) <<< b = V
            rw [hc, HH.out, HQ.out, HZ.out, HA.out, hRFQ, hV]
          have HVE := Lib.hid ((or8_bit2 (c := c) (N := N) (A := A) (b := b) hc256 hb).trans (by rw [hV]))
          obtain ⟨wd, hwd⟩ : ∃ wd, Xp.word N (A / 64) = wd := ⟨_, rfl⟩
          rw [hwd] at hcw HVE
          have HO7 := Lib.hid (show Own (wr.setCell ⟨w.heap.size, i, none⟩ (.int .u8 (V : Int))) w.heap.size 5 (some ⟨w.heap.size, 0, none⟩) n n (bytesN n (Xp.ubAt m RF i (b + 1))) from by
            have h9 := HO2.out.put hil (.int .u8 (V : Int))
            rw [bytesN_set] at h9
            rwa [bytesN_congr (f' := Xp.ubAt m RF i (b + 1))] at h9
            intro p _
            rw [← Xp.ubAt_put, hV2])
          have HB7 := Lib.hid (HB2.out.setCell (p := ⟨w.heap.size, i, none⟩) (Nat.le_refl _) (.int .u8 (V : Int)))
          clear hN hv5 hbit hr5 hc5 hRFQ egz hc hcc hV hV2 hwd
          go_wp2_with fail
          go_region
          go_wp2_with fail
          rw [HVE.out]
          go_roundw
          case rel => exact ⟨b + 1, by omega, by go_num, HO7.out.drewN 1, HB7.out.drew⟩
          case measure => simp [intOf]; omega
        · have hd3 : decide ((b : Int) < 8) = false := decide_eq_false (by omega)
          have HO8 := Lib.hid (show Own wr w.heap.size 5 (some ⟨w.heap.size, 0, none⟩) n n (bytesN n (Xp.ubAt m RF (i + 1) 0)) from by
            have h9 := HO2.out
            rwa [show b = 8 by omega, bytesN_congr (f' := Xp.ubAt m RF (i + 1) 0) (fun p _ => Xp.ubAt_next m RF i p)] at h9)
          go_wp2_with fail
          go_roundw
          case rel => exact ⟨i + 1, by omega, by go_num, HO8.out, HB2.out⟩
          case measure => simp [intOf]; omega
    · have hd : decide ((i : Int) < n) = false := decide_eq_false (by omega)
      have hcv := conv_all wr (some ⟨w.heap.size, 0, none⟩) n n (Xp.unitL m RF n) (B := wr.heap.size) (by
        have h9 := HO.out.rd
        rwa [bytesN_congr (f' := fun p => Xp.ubTo m RF p 8) (fun p hp => by unfold Xp.ubAt; rw [if_pos (by omega)]), bytesN_unit] at h9) (Xp.unitL_length _ _ _)
      go_wp2_with fail
      go_ret
      exact ⟨rfl, HB.out⟩
end Go.Proofs.YtghinmlpkgcdiaaDoor
/-! Schedules: are all units of one length? -/
namespace Go.Proofs.YtghinmlpkgcdiaaDoor
set_option linter.unusedSimpArgs false
set_option linter.unusedVariables false
open Go.RowKit Go.Lib

def strs (l : List ByteArray) : List Value := l.map .string
set_option maxRecDepth 100000 in
theorem rcell_any (n : Int) (s : ByteArray) (g : Nat) (w : World) (hg : Row w g 3 #[.int .i64 n]) :
    Calls Tryd.prog 43 #[.string s, .pointer (some ⟨g, 0, none⟩)] w fun e w' => e = .returned (.bool ((s.size : Int) != n)) ∧ w' = w := by
  have hc := hg.cell 0
  simp only [List.getElem?_toArray, List.getElem?_cons_zero] at hc
  clear hg
  go_enter Tryd.func43, Tryd.ntmps43
  go_wp2
  go_ret
  exact ⟨rfl, rfl⟩
set_option maxRecDepth 100000 in
theorem rindex_any (n : Int) (g : Nat) (a : Option Addr) (m k0 : Nat) (ss : List ByteArray) (w : World) (hl : ss.length = m) (hm : m ≤ 1000000) (hr : Rd w w.heap.size a (strs ss)) (hg : Row w g 3 #[.int .i64 n]) :
    Calls Tryd.prog 75 #[.slice a m k0, .func (.func 43) #[] #[.pointer (some ⟨g, 0, none⟩)]] w fun e w' => Found (ss.any fun s => (s.size : Int) != n) e ∧ w' = w := by
  have HR := Lib.hid hr
  have HL := Lib.hid hl
  have HF := Lib.hid (fun (s : ByteArray) => rcell_any n s g w hg)
  clear hr hl hg
  go_enter Tryd.func75, Tryd.ntmps75
  go_wp2
  go_loop [8] (fun i => ∃ k : Nat, k ≤ m ∧ i = .int .i64 k ∧ (ss.take k).any (fun s => (s.size : Int) != n) = false) (fun i => m - (intOf i).toNat)
  case atStart => exact ⟨0, by omega, rfl, rfl⟩
  case round =>
    obtain ⟨k, hk, rfl, ha⟩ := hrel
    have HA := Lib.hid ha
    clear ha
    by_cases hlt : k < m
    · obtain ⟨s, hx⟩ : ∃ x, ss[k]? = some x := ⟨_, List.getElem?_eq_getElem (by rw [HL.out]; exact hlt)⟩
      obtain ⟨b, off, rfl, hb, hc⟩ := HR.out k (.string s) (by rw [strs, List.getElem?_map, hx]; rfl)
      have HX := Lib.hid hx
      clear hx
      obtain ⟨bx, hbx⟩ : ∃ bx, ((s.size : Int) != n) = bx := ⟨_, rfl⟩
      have HC := Lib.hid (HF.out s)
      rw [hbx] at HC
      have HBX := Lib.hid hbx
      clear hbx
      go_wp2_with fail
      refine HC.out.mono ?_
      rintro e w1 ⟨rfl, rfl⟩
      cases bx
      · go_wp2
        go_round
        case rel => exact ⟨k + 1, by omega, by go_num, by rw [any_take2 HA.out HX.out]; exact HBX.out⟩
        case measure => simp [intOf]; omega
      · go_wp2
        go_ret
        refine ⟨.inr ⟨?_, k, rfl⟩, rfl⟩
        rw [List.any_eq_true]
        exact ⟨s, List.mem_of_getElem? HX.out, HBX.out⟩
    · have h1 : k = m := by omega
      have HA2 := Lib.hid (show ss.any (fun s => (s.size : Int) != n) = false by
        have := HA.out
        rwa [List.take_of_length_le (by rw [HL.out]; omega)] at this)
      clear h1
      go_wp2
      go_ret
      exact ⟨.inl ⟨HA2.out, rfl⟩, rfl⟩
set_option maxRecDepth 100000 in
theorem rcont_any (n : Int) (g : Nat) (a : Option Addr) (m k0 : Nat) (ss : List ByteArray) (w : World) (hl : ss.length = m) (hm : m ≤ 1000000) (hr : Rd w w.heap.size a (strs ss)) (hg : Row w g 3 #[.int .i64 n]) :
    Calls Tryd.prog 42 #[.slice a m k0, .func (.func 43) #[] #[.pointer (some ⟨g, 0, none⟩)]] w fun e w' => e = .returned (.bool (ss.any fun s => (s.size : Int) != n)) ∧ w' = w := by
  have h := rindex_any n g a m k0 ss w hl hm hr hg
  generalize (ss.any fun s => (s.size : Int) != n) = b at h ⊢
  have H := Lib.hid h
  clear h hl hm hr hg
  go_enter Tryd.func42, Tryd.ntmps42
  go_wp2_with fail
  refine H.out.mono ?_
  rintro e w1 ⟨hf, rfl⟩
  rcases hf with ⟨rfl, rfl⟩ | ⟨rfl, k, rfl⟩
  · go_wp2
    go_ret
    exact ⟨rfl, rfl⟩
  · have hd : decide (0 ≤ (k : Int)) = true := by simp
    go_wp2
    go_ret
    exact ⟨rfl, rfl⟩
end Go.Proofs.YtghinmlpkgcdiaaDoor
/-! Schedules: slices.Chunk at rows of numbers. -/
namespace Go.Proofs.YtghinmlpkgcdiaaDoor
set_option linter.unusedSimpArgs false
set_option linter.unusedVariables false
open Go.RowKit Go.Shelf Go.Lib
attribute [local go_sem] Oper.semAt_some

theorem addr_add (b off I : Nat) : (⟨b, off, none⟩ : Addr).add I = ⟨b, off + I, none⟩ := by unfold Addr.add; split <;> simp_all
/-- the chunks' values -/
def chunkV (b off m : Nat) (c : Nat) : Array Value := #[.slice (some ⟨b, off + c * m, none⟩) m m]
theorem range_take {P k : Nat} (h : k < P) : (List.range P).take (k + 1) = (List.range P).take k ++ [k] := by
  rw [List.take_add_one, List.getElem?_range h]; rfl
set_option maxRecDepth 100000 in
theorem chunk_any (q : Option Addr) (n k : Nat) (m : Int) (hm : 1 ≤ m) (w : World) :
    Calls Tryd.prog 46 #[.slice q n k, .int .i64 m] w fun e w' => e = .returned (.func (.func 78) #[] #[.pointer (some ⟨w.heap.size, 0, none⟩), .pointer (some ⟨w.heap.size + 1, 0, none⟩)]) ∧ w' = (w.alloc (.cells #[.slice q n k] 27)).alloc (.cells #[.int .i64 m] 3) := by
  have hd : decide (m < 1) = false := decide_eq_false (by omega)
  go_enter Tryd.func46, Tryd.ntmps46
  go_wp2_with fail
  go_ret
  exact ⟨rfl, rfl⟩
set_option maxRecDepth 100000 in
set_option maxHeartbeats 2000000 in
theorem chunk_gives (qx : Option Addr) (b off nx kx m P B1 B2 : Nat) (w : World) (hqx : 0 < P → qx = some ⟨b, off, none⟩) (h1 : Row w B1 27 #[.slice qx nx kx]) (h2 : Row w B2 3 #[.int .i64 (m : Int)]) (hm : 1 ≤ m) (hm2 : m ≤ 16) (hn : nx = P * m) (hk : nx ≤ kx) (hx : nx ≤ 512) (hkm : kx ≤ maxLen) :
    Gives Tryd.prog 78 #[.pointer (some ⟨B1, 0, none⟩), .pointer (some ⟨B2, 0, none⟩)] (chunkV b off m) (fun k => k = B1 ∨ k = B2) (List.range P) w := fun l X J Jx W hW hX hN hJ hJx hY h0 => by
  unfold maxLen at hkm
  have h1' := h1.below hW h1.lt
  have h2' := h2.below hW h2.lt
  have H1 := Lib.hid h1'
  have H2 := Lib.hid h2'
  have HY := Lib.hid hY
  have HJ := Lib.hid hJ
  have HN := Lib.hid hN
  have HNX := Lib.hid hn
  clear h1 h2 h1' h2' hY hJ hN hn
  refine callsIn_of_wp Tryd.func78 rfl trivial ?_ rfl
  simp only [Tryd.ntmps78, List.size_toArray, List.length_cons, List.length_nil, Nat.reduceAdd, Nat.reduceSub, Array.replicate_succ, Array.replicate_zero, List.push_toArray, List.append_toArray, List.nil_append, List.cons_append]
  gi_wp2
  gi_loopw [4] (fun i wr => ∃ k I : Nat, k ≤ P ∧ I = k * m ∧ i = .int .i64 I ∧ J ((List.range P).take k) wr ∧ Row wr B1 27 #[.slice qx nx kx] ∧ Row wr B2 3 #[.int .i64 (m : Int)] ∧ W.heap.size ≤ wr.heap.size) (fun i _ => nx + 1 - (intOf i).toNat)
  case atStart => exact ⟨0, 0, Nat.zero_le _, by omega, rfl, h0, H1.out, H2.out, Nat.le_refl _⟩
  case round =>
    obtain ⟨k, I, hkP, hI, rfl, hj, hr1, hr2, hsz⟩ := hrel
    have hc1 : wr.cell? ⟨B1, 0, none⟩ = some (.slice qx nx kx) := hr1.cell 0
    have hc2 : wr.cell? ⟨B2, 0, none⟩ = some (.int .i64 (m : Int)) := hr2.cell 0
    have HI := Lib.hid hI
    have HR1 := Lib.hid hr1
    have HR2 := Lib.hid hr2
    have HJ2 := Lib.hid hj
    have hle : I ≤ nx := by rw [hI, HNX.out]; exact Nat.mul_le_mul_right m hkP
    by_cases hlt : k < P
    · have hq9 := hqx (by omega)
      subst hq9
      have hIm : I + m ≤ nx := by
        rw [hI, HNX.out]
        have := Nat.mul_le_mul_right m (show k + 1 ≤ P from hlt)
        rw [Nat.add_mul, Nat.one_mul] at this
        exact this
      have HP := Lib.hid (show (List.range P).take k ++ [k] <+: List.range P by rw [← range_take hlt]; exact List.take_prefix _ _)
      have HT := Lib.hid (range_take hlt)
      obtain ⟨fn, tmps, assign, body, hy, hR⟩ := HY.out _ _ wr.drew HP.out hsz (HJ.out _ _ _ hsz HJ2.out (Below.refl _ wr).drew)
      unfold chunkV at hy
      rw [← HI.out] at hy
      have HRR := Lib.hid hR
      have hd : decide (I < nx) = true := decide_eq_true (by omega)
      have hsl : ∀ w, (Instr.slice 27 (.slice (some ⟨b, off, none⟩) nx kx) (some (.int .i64 (I : Int))) none none).run Tryd.prog w = .ok (.slice (some ⟨b, off + I, none⟩) (nx - I) (kx - I)) w := fun w => by
        rw [run_slice_l w 27 _ nx kx Tryd.underlying27 .i64 (I : Int) (by omega) (by omega)]
        rw [show (sizeOf (Tryd.prog.elem 27)).run Tryd.prog w = .ok 1 w by kernel_rfl]
        unfold sliced
        simp only [Result.andThen, Int.toNat_natCast, Nat.mul_one]
        rw [if_neg (by omega)]
        rw [Option.map_some, addr_add]
      have hsl2 : ∀ w, (Instr.slice 27 (.slice (some ⟨b, off, none⟩) nx kx) (some (.int .i64 (I : Int))) (some (.int .i64 ((I : Int) + (m : Int)))) (some (.int .i64 ((I : Int) + (m : Int))))).run Tryd.prog w = .ok (.slice (some ⟨b, off + I, none⟩) m m) w := fun w => by
        rw [run_slice_lhm w 27 _ nx kx Tryd.underlying27 .i64 .i64 .i64 (I : Int) ((I : Int) + (m : Int)) ((I : Int) + (m : Int)) (by omega) (by omega) (by omega) (by omega)]
        rw [show (sizeOf (Tryd.prog.elem 27)).run Tryd.prog w = .ok 1 w by kernel_rfl]
        unfold sliced
        simp only [Result.andThen, Int.toNat_natCast, Nat.mul_one, show ((I : Int) + (m : Int)).toNat = I + m by omega, Nat.add_sub_cancel_left]
        rw [if_neg (by omega)]
        rw [Option.map_some, addr_add]
      have hmin : ∀ (ts : Array TypeId) (t : TypeId) (W : World), (Builtin.min_ ts t #[.int .i64 (m : Int), .int .i64 ((nx - I : Nat) : Int)]).run Tryd.prog W = .ok (.int .i64 (m : Int)) W := fun ts t W => by
        rw [min_two, if_neg (by omega)]
      clear hr1 hr2 hj hI hR
      gi_wp2
      gi_region
      gi_wp2
      refine (HRR.out _).mono ?_
      rintro e W3 ⟨ho, (⟨rfl, hJ3⟩ | ⟨rfl, hJx3⟩)⟩
      · have hW3 : W.heap.size ≤ W3.heap.size := Nat.le_trans hsz ho.size
        have HR13 := Lib.hid (ho.row HR1.out.drew (HN.out B1 (.inl rfl)))
        have HR23 := Lib.hid (ho.row HR2.out.drew (HN.out B2 (.inr rfl)))
        have hc3 : W3.cell? ⟨B2, 0, none⟩ = some (.int .i64 (m : Int)) := HR23.out.cell 0
        have HJ3 := Lib.hid (show J ((List.range P).take (k + 1)) W3 by rw [HT.out]; exact hJ3)
        clear ho hJ3 hy hc1 hc2
        gi_wp2
        go_roundw
        case rel => exact ⟨k + 1, I + m, by omega, by rw [HI.out, Nat.add_mul, Nat.one_mul], by go_num, HJ3.out, HR13.out, HR23.out, hW3⟩
        case measure => simp [intOf]; omega
      · have HJx3 := Lib.hid hJx3
        clear ho hJx3 hy
        gi_wp2
        refine bodyPost_ret (results_none rfl _ _ _) rfl ?_
        exact ⟨⟨_, rfl⟩, .inr ⟨_, HP.out, HJx3.out⟩⟩
    · have h1 : k = P := by omega
      have HJ3 := Lib.hid (show J (List.range P) wr by rw [← List.take_of_length_le (l := List.range P) (i := k) (by rw [List.length_range]; omega)]; exact hj)
      have hd : decide (I < nx) = false := decide_eq_false (by rw [HNX.out, hI, h1]; omega)
      clear hr1 hr2 hj hI h1
      gi_wp2
      go_end0
      exact ⟨⟨_, rfl⟩, .inl HJ3.out⟩
end Go.Proofs.YtghinmlpkgcdiaaDoor
