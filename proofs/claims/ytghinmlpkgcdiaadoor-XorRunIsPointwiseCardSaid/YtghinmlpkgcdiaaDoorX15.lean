/- Schedules: the bit planes of a unit, the program's walk. -/
import Derived.Test.YtghinmlpkgcdiaaDoorX14
import Derived.Test.YtghinmlpkgcdiaaDoorStr
namespace Go.Proofs.YtghinmlpkgcdiaaDoor
set_option linter.unusedSimpArgs false
set_option linter.unusedVariables false
open Go.RowKit Go.Lib

theorem conv_byt (w : World) (s : ByteArray) : ∃ (c : Nat) (w' : World), (convert 9 91 (.string s)).run Tryd.prog w = .ok (.slice (some ⟨w.heap.size, 0, none⟩) s.size c) w' ∧
    Below w.heap.size w w' ∧ w.heap.size < w'.heap.size ∧ ∀ j, j < s.size → w'.cell? ⟨w.heap.size, j, none⟩ = some (.int .u8 ((s.data.toList[j]?.getD 0).toNat : Int)) := by
  refine ⟨_, _, Go.Lib.run_convert_string_bytes (P := Tryd.prog) w 9 91 5 s Tryd.underlying9 Tryd.underlying91 Tryd.underlying5, below_bytes _ _ _, by rw [bytesWorld_size]; omega, ?_⟩
  intro j hj
  rw [bytesWorld_cell w _ s j hj, List.getD_eq_getElem?_getD]
theorem words0 (W : Nat) : List.replicate W (Value.int .u64 0) = wordsL W (Xp.word 0) := by
  unfold wordsL
  symm
  rw [List.eq_replicate_iff]
  refine ⟨by simp, fun b hb => ?_⟩
  obtain ⟨p, _, rfl⟩ := List.mem_map.1 hb
  have : Xp.word 0 p = 0 := by unfold Xp.word; simp
  rw [this]; rfl
theorem take_set {α : Type} {l : List α} {k : Nat} (h : k < l.length) (v : α) : (l.set k v).take (k + 1) = l.take k ++ [v] := by
  rw [List.take_add_one, List.take_set_of_le (Nat.le_refl _), List.getElem?_set_self h]; rfl
theorem u8_and1 (y : Nat) (hy : y < 256) : bits .and .u8 (y : Int) 1 = ((y % 2 : Nat) : Int) := by
  show IntKind.u8.wrap ((BitVec.ofInt 8 (y : Int) &&& BitVec.ofInt 8 ((1 : Nat) : Int)).toNat : Int) = _
  rw [BitVec.ofInt_natCast, BitVec.toNat_and, BitVec.toNat_ofNat, Nat.mod_eq_of_lt (show y < 2 ^ 8 by omega)]
  rw [show (BitVec.ofInt 8 ((1 : Nat) : Int)).toNat = 1 by decide, Nat.and_one_is_mod, IntKind.wrap_u8]
  omega
theorem or_bit {wd f b A : Nat} (hwd : wd < 2 ^ 64) (hf : f < 256) : bits .or .u64 (wd : Int) (IntKind.u64.wrap (IntKind.u64.wrap (bits .and .u8 ((f : Int) / 2 ^ b) 1) * 2 ^ (A % 64))) = ((wd ||| (f / 2 ^ b % 2) <<< (A % 64) : Nat) : Int) := by
  have e : ((f : Int) / 2 ^ b) = ((f / 2 ^ b : Nat) : Int) := by simp
  have hd : f / 2 ^ b ≤ f := Nat.div_le_self _ _
  generalize f / 2 ^ b = y at e hd ⊢
  rw [e, u8_and1 y (by omega)]
  have h2 : y % 2 < 2 := Nat.mod_lt _ (by decide)
  generalize y % 2 = x at h2 ⊢
  have hp : (2 : Nat) ^ (A % 64) ≤ 2 ^ 63 := Nat.pow_le_pow_right (by decide) (by omega)
  rw [show IntKind.u64.wrap (x : Int) = (x : Int) by rw [IntKind.wrap_u64]; omega]
  rw [show (x : Int) * 2 ^ (A % 64) = ((x <<< (A % 64) : Nat) : Int) by rw [Nat.shiftLeft_eq]; simp]
  have hx : x <<< (A % 64) < 2 ^ 64 := by
    rw [Nat.shiftLeft_eq]
    generalize 2 ^ (A % 64) = t at hp
    rcases (show x = 0 ∨ x = 1 by omega) with rfl | rfl <;> omega
  generalize x <<< (A % 64) = t at hx ⊢
  rw [show IntKind.u64.wrap (t : Int) = (t : Int) by rw [IntKind.wrap_u64]; omega]
  exact bits_or_u64_nat wd t (by omega) (by omega)
set_option maxRecDepth 100000 in
set_option maxHeartbeats 6400000 in
theorem planes_any {m : Nat} (hm : Fld.IsM m) (s : ByteArray) (n W : Nat) (w : World) (hs : s.size = n * (m / 8)) (hs2 : s.size ≤ 1000) (hW : (n + 63) / 64 = W) :
    Calls Tryd.prog 44 #[.int .i64 m, .string s] w fun e w' => (∃ q k vs, e = .returned (.slice q m k) ∧ Own w' w.heap.size 80 q m k vs ∧ FamW w' w.heap.size W vs (Xp.plList m (fun i => (s.data.toList[i]?.getD 0).toNat) s.size 0)) ∧ Below w.heap.size w w' := by
  obtain ⟨z, hz⟩ : ∃ z, m / 8 = z := ⟨_, rfl⟩
  have hz12 : 1 ≤ z ∧ z ≤ 2 := by rcases hm with rfl | rfl <;> omega
  have hm16 : 8 ≤ m ∧ m ≤ 16 := by rcases hm with rfl | rfl <;> omega
  rw [hz] at hs
  have hnl : n ≤ 1000 := by
    have : n * 1 ≤ n * z := Nat.mul_le_mul_left _ hz12.1
    omega
  have hq1 : (m : Int) / 8 = (z : Int) := by omega
  have hq2 : ((s.size : Nat) : Int) / (z : Int) = (n : Int) := by
    rw [hs, ← Int.natCast_ediv, Nat.mul_div_cancel _ (by omega)]
  have hq3 : ((n : Int) + 64 - 1) / 64 = (W : Int) := by omega
  have HML := make_lists m (by omega)
  have HMW := make_words W (by omega)
  have HM := Lib.hid hm
  have HZ := Lib.hid hz
  have HS := Lib.hid hs
  have HWW := Lib.hid hW
  clear hm hz hs hW
  go_enter Tryd.func44, Tryd.ntmps44
  go_wp2_with fail
  have HO0 := Lib.hid (show Own (w.alloc (.cells (madeCells #[.slice none 0 0] m) 80)) w.heap.size 80 (some ⟨w.heap.size, 0, none⟩) m m (List.replicate m (.slice none 0 0)) from by
    have h9 := Own.new w w.heap.size 80 (madeCells #[.slice none 0 0] m) m (Nat.le_refl _) (by rw [← Array.length_toList, toList_madeCells_one, List.length_replicate]) (by unfold maxLen; omega)
    rwa [toList_madeCells_one] at h9)
  go_loopw [24] (fun i wr => ∃ (k : Nat) (vs : List Value), k ≤ m ∧ i = .int .i64 k ∧ Own wr w.heap.size 80 (some ⟨w.heap.size, 0, none⟩) m m vs ∧ FamW wr w.heap.size W (vs.take k) (List.replicate k 0) ∧ Below w.heap.size w wr) (fun i _ => m - (intOf i).toNat)
  case atStart => exact ⟨0, _, Nat.zero_le _, rfl, HO0.out, FamW.nil _ _ _, (Below.refl _ _).alloc (Nat.le_refl _) _⟩
  case round =>
    obtain ⟨k, vs, hkm, rfl, ho, hf, hb⟩ := hrel
    have HO := Lib.hid ho
    have HF := Lib.hid hf
    have HB := Lib.hid hb
    have hsw := hb.size
    clear ho hf hb HO0
    by_cases hlt : k < m
    · have hd : decide ((k : Int) < m) = true := decide_eq_true (by omega)
      obtain ⟨gz, egz, _, hgl, hcz, hfz⟩ := HO.out.at_ hlt
      obtain rfl : w.heap.size = gz := by injection egz with egz; injection egz
      have hvl : k < vs.length := by rw [HO.out.len]; exact hlt
      obtain ⟨v0, hv0⟩ : ∃ v, vs[k]? = some v := ⟨_, List.getElem?_eq_getElem hvl⟩
      rw [hv0] at hcz
      obtain ⟨cs7, hrow7, _⟩ := HO.out.row rfl
      have hsz := size_put wr ⟨w.heap.size, k, none⟩ (.slice (some ⟨wr.heap.size, 0, none⟩) W W)
      have HK7 := Lib.hid (fun (e : TypeId) (he : e ≠ 80) => (Keeps.refl e wr).put (p := ⟨w.heap.size, k, none⟩) hrow7 he (.slice (some ⟨wr.heap.size, 0, none⟩) W W))
      have HO8 := Lib.hid ((HO.out.put hlt (.slice (some ⟨wr.heap.size, 0, none⟩) W W)).alloc (.cells (madeCells #[.int .u64 0] W) 85))
      have HB8 := Lib.hid ((HB.out.setCell (p := ⟨w.heap.size, k, none⟩) (Nat.le_refl _) (.slice (some ⟨wr.heap.size, 0, none⟩) W W)).alloc (by rw [hsz]; exact hsw) (.cells (madeCells #[.int .u64 0] W) 85))
      have HNW := Lib.hid (show Own ((wr.setCell ⟨w.heap.size, k, none⟩ (.slice (some ⟨wr.heap.size, 0, none⟩) W W)).alloc (.cells (madeCells #[.int .u64 0] W) 85)) w.heap.size 85 (some ⟨wr.heap.size, 0, none⟩) W W (wordsL W (Xp.word 0)) from by
        have h9 := Own.new (wr.setCell ⟨w.heap.size, k, none⟩ (.slice (some ⟨wr.heap.size, 0, none⟩) W W)) w.heap.size 85 (madeCells #[.int .u64 0] W) W (by rw [hsz]; exact hsw) (by rw [← Array.length_toList, toList_madeCells_one, List.length_replicate]) (by unfold maxLen; omega)
        rwa [toList_madeCells_one, words0, hsz] at h9)
      have HF8 := Lib.hid (show FamW ((wr.setCell ⟨w.heap.size, k, none⟩ (.slice (some ⟨wr.heap.size, 0, none⟩) W W)).alloc (.cells (madeCells #[.int .u64 0] W) 85)) w.heap.size W ((vs.set k (.slice (some ⟨wr.heap.size, 0, none⟩) W W)).take (k + 1)) (List.replicate (k + 1) 0) from by
        rw [take_set hvl, List.replicate_succ']
        refine ((HF.out.keeps (HK7.out _ (by decide))).keeps ((Keeps.refl _ _).alloc _)).snoc HNW.out (fun j q2 k2 hj g hg hq => ?_)
        have h9 := (HF.out.block hj hg).2
        injection hq with hq
        injection hq with hq
        omega)
      clear hsz
      clear hv0 hrow7 egz
      go_wp2_with fail
      go_roundw
      case rel => exact ⟨k + 1, _, by omega, by go_num, HO8.out, HF8.out, HB8.out⟩
      case measure => simp [intOf]; omega
    · have hd : decide ((k : Int) < m) = false := decide_eq_false (by omega)
      obtain ⟨wl, rfl⟩ : ∃ wl : World, wl = wr := ⟨_, rfl⟩
      have hkm2 : k = m := by omega
      have HF2 := HF.out
      rw [List.take_of_length_le (by rw [HO.out.len]; omega), hkm2, ← Xp.plList_zero m (fun i => (s.data.toList[i]?.getD 0).toNat)] at HF2
      have HF3 := Lib.hid HF2
      have HVB := Lib.hid (fun (i : Nat) (q : Option Addr) (k' : Nat) (hv : vs[i]? = some (.slice q W k')) (g : Nat) (hq : q = some ⟨g, 0, none⟩) => (HF2.block hv hq).2)
      obtain ⟨cB, wB, hcv, hbB, hszB, hcB⟩ := conv_byt wl s
      have HCB := Lib.hid hcB
      have HBB := Lib.hid hbB
      have HO3 := Lib.hid (HO.out.below hbB)
      have HF4 := Lib.hid (HF2.keeps (Keeps.of_below hbB))
      clear HF2 hkm2 hcB
      go_wp2_with fail
      clear hcv
      go_loopw [39] (fun i wr => ∃ i' : Nat, i' ≤ s.size ∧ i = .int .i64 i' ∧ Own wr w.heap.size 80 (some ⟨w.heap.size, 0, none⟩) m m vs ∧ FamW wr w.heap.size W vs (Xp.plList m (fun i => (s.data.toList[i]?.getD 0).toNat) i' 0) ∧ Only (fun b => w.heap.size ≤ b ∧ b < wl.heap.size) wB wr) (fun i _ => s.size - (intOf i).toNat)
      case atStart => exact ⟨0, Nat.zero_le _, rfl, HO3.out, HF4.out, Only.refl _ _⟩
      case round =>
        obtain ⟨i, his, rfl, ho, hf, hon⟩ := hrel
        have HO5 := Lib.hid ho
        have HF5 := Lib.hid hf
        have HON := Lib.hid hon
        clear ho hf hon HF4 HO3
        by_cases hil : i < s.size
        · have hd2 : decide ((i : Int) < s.size) = true := decide_eq_true (by omega)
          have hcb := (World.cell?_of_block (a := ⟨wl.heap.size, i, none⟩) (HON.out.block wl.heap.size hszB (fun h => Nat.lt_irrefl _ h.2))).trans (HCB.out i hil)
          obtain ⟨f, hf⟩ : ∃ f, (s.data.toList[i]?.getD 0).toNat = f := ⟨_, rfl⟩
          have hf256 : f < 256 := by rw [← hf]; exact UInt8.toNat_lt _
          rw [hf] at hcb
          have HFV := Lib.hid hf
          obtain ⟨A, hA⟩ : ∃ A, i / z = A := ⟨_, rfl⟩
          obtain ⟨R, hR⟩ : ∃ R, i % z = R := ⟨_, rfl⟩
          have hRz : R < z := by rw [← hR]; exact Nat.mod_lt i (by omega)
          obtain ⟨H, hH⟩ : ∃ H, 8 * (z - 1 - R) = H := ⟨_, rfl⟩
          have HA := Lib.hid hA
          have HH := Lib.hid (show Xp.high m i = H by unfold Xp.high; rw [HZ.out, hR, hH])
          have hqi : (i : Int) / (z : Int) = (A : Int) := by rw [← Int.natCast_ediv, hA]
          have hri : (i : Int) % (z : Int) = (R : Int) := by rw [← Int.natCast_emod, hR]
          have hAn : A < n := by
            rw [← hA]
            apply Nat.div_lt_of_lt_mul
            rw [Nat.mul_comm, ← HS.out]; exact hil
          have hw1 : IntKind.i64.wrap ((z : Int) - 1) = (z : Int) - 1 := by rw [IntKind.wrap_i64] <;> omega
          have hw2 : IntKind.i64.wrap ((z : Int) - 1 - (R : Int)) = (z : Int) - 1 - (R : Int) := by rw [IntKind.wrap_i64] <;> omega
          have hw3 : IntKind.i64.wrap (8 * ((z : Int) - 1 - (R : Int))) = (H : Int) := by rw [← hH, IntKind.wrap_i64] <;> omega
          clear hf hA hR hH
          go_wp2_with fail
          go_region
          go_wp2_with fail
          clear hcb hw1 hw2 hw3 hri hqi
          go_loopw [54] (fun i2 wr => ∃ k' : Nat, k' ≤ 8 ∧ i2 = .int .i64 k' ∧ Own wr w.heap.size 80 (some ⟨w.heap.size, 0, none⟩) m m vs ∧ FamW wr w.heap.size W vs (Xp.plList m (fun i => (s.data.toList[i]?.getD 0).toNat) i k') ∧ Only (fun b => w.heap.size ≤ b ∧ b < wl.heap.size) wB wr) (fun i2 _ => 8 - (intOf i2).toNat)
          case atStart => exact ⟨0, Nat.zero_le _, rfl, HO5.out, HF5.out.drew, HON.out.trans ⟨rfl, rfl, rfl, Nat.le_refl _, fun _ _ _ => rfl⟩⟩
          case round =>
            obtain ⟨b, hb8, rfl, ho, hf, hon⟩ := hrel
            have HO6 := Lib.hid ho
            have HF6 := Lib.hid hf
            have HON6 := Lib.hid hon
            clear ho hf hon HF5 HO5 HON
            by_cases hb : b < 8
            · have hd3 : decide ((b : Int) < 8) = true := decide_eq_true (by omega)
              obtain ⟨Q, hQ⟩ : ∃ Q, H + b = Q := ⟨_, rfl⟩
              have hQm : Q < m := by rw [← hQ, ← HH.out]; exact Xp.high_lt HM.out hb
              have hwQ : IntKind.i64.wrap ((H : Int) + (b : Int)) = (Q : Int) := by rw [← Int.natCast_add, hQ, IntKind.wrap_i64] <;> omega
              have HQ := Lib.hid hQ
              clear hQ
              obtain ⟨q5, k5, hv5, ho5⟩ := HF6.out.own Q _ (Xp.plList_get hQm)
              have hAW : A / 64 < W := by have := HWW.out; omega
              obtain ⟨g5, rfl, hg5, hg5l, hc5, hf5⟩ := ho5.at_ hAW
              rw [wordsL_get _ hAW] at hc5
              obtain ⟨wd, hwd⟩ : ∃ wd, Xp.word (Xp.plPart m (fun i => (s.data.toList[i]?.getD 0).toNat) i b Q) (A / 64) = wd := ⟨_, rfl⟩
              rw [hwd] at hc5
              obtain ⟨gz, egz, _, hgl, hcz, hfz⟩ := HO6.out.at_ hQm
              obtain rfl : w.heap.size = gz := by injection egz with egz; injection egz
              rw [hv5] at hcz
              have HWD := Lib.hid hwd
              have HV5 := Lib.hid hv5
              have HO9 := Lib.hid ho5
              clear hv5 ho5 hwd egz
              obtain ⟨V, hV⟩ : ∃ V, wd ||| (f / 2 ^ b % 2) <<< (A % 64) = V := ⟨_, rfl⟩
              have HVE := Lib.hid (show bits .or .u64 (wd : Int) (IntKind.u64.wrap (IntKind.u64.wrap (bits .and .u8 ((f : Int) / 2 ^ b) 1) * 2 ^ (A % 64))) = (V : Int) by
                rw [← hV]; exact or_bit (by rw [← HWD.out]; exact Xp.word_lt _ _) hf256)
              have HF7 := Lib.hid (show FamW (wr.setCell ⟨g5, A / 64, none⟩ (.int .u64 (V : Int))) w.heap.size W vs (Xp.plList m (fun i => (s.data.toList[i]?.getD 0).toNat) i (b + 1)) from by
                have h9 := HF6.out.put (n' := Xp.plPart m (fun i => (s.data.toList[i]?.getD 0).toNat) i (b + 1) Q) (v := V) (Xp.plList_get hQm) HV5.out hAW (fun p' => by
                  rw [← HQ.out, ← HH.out, Xp.plPart_put, HZ.out, HA.out, Xp.word_or _ _ _ _ (Nat.mod_lt _ (by decide)), ← Xp.plPart_at]
                  by_cases e : p' = A / 64
                  · rw [if_pos e, if_pos e, e, HH.out, HQ.out, HWD.out, HFV.out, hV]
                  · rw [if_neg e, if_neg e])
                have h8 := Xp.plList_set (m := m) (f := fun i => (s.data.toList[i]?.getD 0).toNat) (i := i) (k := b) (v := Xp.plPart m (fun i => (s.data.toList[i]?.getD 0).toNat) i (b + 1) Q) (by rw [HH.out, HQ.out]; exact hQm) (by rw [HH.out, HQ.out])
                rw [HH.out, HQ.out] at h8
                rwa [h8] at h9)
              have HO7 := Lib.hid (HO6.out.keeps ((Keeps.refl 80 wr).put (p := ⟨g5, A / 64, none⟩) (HO9.out.row rfl).choose_spec.1 (by decide) (.int .u64 (V : Int))))
              have HON7 := Lib.hid (HON6.out.setCell (p := ⟨g5, A / 64, none⟩) ⟨hg5, HVB.out Q _ _ HV5.out g5 rfl⟩ (.int .u64 (V : Int)))
              clear hV
              go_wp2_with fail
              go_region
              go_wp2_with fail
              rw [HVE.out]
              go_roundw
              case rel => exact ⟨b + 1, by omega, by go_num, HO7.out, HF7.out.drew, HON7.out.trans ⟨rfl, rfl, rfl, Nat.le_refl _, fun _ _ _ => rfl⟩⟩
              case measure => simp [intOf]; omega
            · have hd3 : decide ((b : Int) < 8) = false := decide_eq_false (by omega)
              have HF7 := HF6.out
              rw [show b = 8 by omega, Xp.plList_next] at HF7
              have HF8 := Lib.hid HF7
              clear HF7
              go_wp2_with fail
              go_roundw
              case rel => exact ⟨i + 1, by omega, by go_num, HO6.out, HF8.out, HON6.out⟩
              case measure => simp [intOf]; omega
        · have hd2 : decide ((i : Int) < s.size) = false := decide_eq_false (by omega)
          have hE : i = s.size := by omega
          have HBE := Lib.hid (show Below w.heap.size w wr from (below_call HB.out HBB.out).trans (HON.out.below (by have := HBB.out.size; omega) (fun k hk => hk.1)))
          go_wp2_with fail
          go_ret
          exact ⟨⟨some ⟨w.heap.size, 0, none⟩, m, vs, rfl, HO5.out, hE ▸ HF5.out⟩, HBE.out⟩
end Go.Proofs.YtghinmlpkgcdiaaDoor
