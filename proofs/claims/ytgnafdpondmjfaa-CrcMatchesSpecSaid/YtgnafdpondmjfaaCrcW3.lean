/- The walks of crc.Zeros and its inner function -/
import Derived.Test.YtgnafdpondmjfaaCrcW2
import Derived.Test.YtgnafdpondmjfaaCrcZ
import Derived.Deep.DeepCutAuto
import Derived.Deep.Cut
namespace Go.Proofs.Ytgnafdpondmjfaa
open Go.RowKit

theorem neg_go (x : BitVec 32) : -(x.toNat : Int) % 4294967296 = ((-x).toNat : Int) := by
  have := b32_neg x
  rw [IntKind.wrap_u32, Int.zero_sub] at this
  exact this
theorem ap_go (S m r : BitVec 32) (k : Nat) :
    bits .xor .u32 (S.toNat : Int) (bits .and .u32 (m.toNat : Int) (-bits .and .u32 ((r.toNat : Int) / 2 ^ k) 1 % 4294967296)) = ((S ^^^ (m &&& -(r >>> k &&& 1#32))).toNat : Int) := by
  rw [← b32_shr]
  have e0 : bits .and .u32 ((r >>> k).toNat : Int) 1 = ((r >>> k &&& 1#32).toNat : Int) := b32_and _ 1#32
  rw [e0, neg_go, b32_and, b32_xor]

theorem shl_go (k : Nat) : (2 : Int) ^ k % 4294967296 = ((1#32 <<< k).toNat : Int) := by
  rw [BitVec.toNat_shiftLeft, Nat.shiftLeft_eq]
  simp
theorem and1_go (N : Int) (h0 : 0 ≤ N) (h1 : N ≤ 9223372036854775807) : bits .and .i64 N 1 = N % 2 := by
  have := bits_mask .i64 63 (by decide) (fun n a b => IntWalk.i64_in n (by omega)) 1 (by decide) N h0 (by omega)
  simpa using this
theorem step0_go (r : BitVec 32) : bits .xor .u32 ((r.toNat : Int) / 256) ((tabAt (r.toNat % 256)).toNat : Int) = ((Crc.s8 r).toNat : Int) := by
  have h := step_go r 0
  have e : slot r 0 = r.toNat % 256 := by unfold slot; simp
  have e2 : Crc.up 0 = 0#32 := rfl
  rw [e, e2, BitVec.xor_zero] at h
  exact h

set_option maxRecDepth 100000 in
theorem apply_any (g : Nat) (M : Nat → BitVec 32) (r : BitVec 32) (w : World) (hM : ∀ i, i < 32 → w.cell? ⟨g, i, none⟩ = some (v32 (M i))) :
    Calls Try.prog 21 #[.pointer (some ⟨g, 0, none⟩), v32 r] w fun e w' =>
      e = .returned (v32 (Crc.ap M r 32)) ∧ ∃ n, w' = w.drewN n := by
  have HM := Lib.hid hM
  clear hM
  simp only [v32]
  go_enter Try.func21, Try.ntmps21
  go_wp2_with fail
  go_loopw [5, 7] (fun s i wr => ∃ k : Nat, k ≤ 32 ∧ i = .int .i64 k ∧ s = v32 (Crc.ap M r k) ∧ ∃ n, wr = w.drewN n) (fun _ i _ => 32 - (intOf i).toNat)
  case atStart => exact ⟨0, by omega, rfl, rfl, 0, rfl⟩
  case round =>
    obtain ⟨k, hk, rfl, rfl, n, rfl⟩ := hrel
    simp only [v32]
    by_cases hlt : k < 32
    · have hc : w.cell? ⟨g, k, none⟩ = some (.int .u32 ((M k).toNat : Int)) := HM.out k hlt
      obtain ⟨S, hS⟩ : ∃ S, S = Crc.ap M r k := ⟨_, rfl⟩
      rw [← hS]
      have HS := Lib.hid hS
      clear hS
      go_wp2_with fail
      go_quiet (fail)
      go_wp2_with fail
      go_roundw
      case rel => exact ⟨k + 1, by omega, by go_num, by rw [ap_go, HS.out]; rfl, _, rfl⟩
      case measure => simp [intOf]; omega
    · obtain ⟨S, hS⟩ : ∃ S, S = Crc.ap M r k := ⟨_, rfl⟩
      rw [← hS]
      have HS := Lib.hid (show S = Crc.ap M r 32 by rw [hS, show k = 32 by omega])
      clear hS
      go_wp2_with fail
      go_ret
      exact ⟨ret_int (by rw [HS.out]), n, rfl⟩

def zstep : Array Value := ((List.range 32).map fun _ => Value.int .u32 0).toArray
/-- the images of the bits under 2^j byte steps, the first k of them filled in *-/
def matv (j k : Nat) : Array Value := ((List.range 32).map fun i => if i < k then v32 (Crc.mat j i) else .int .u32 0).toArray
theorem matv_size (j k : Nat) : (matv j k).size = 32 := by simp [matv]
theorem matv_get (j k i : Nat) (h : i < 32) : (matv j k)[i]? = some (if i < k then v32 (Crc.mat j i) else .int .u32 0) := by
  simp [matv, h]
theorem matv_put (j k : Nat) : (matv j k).setIfInBounds k (v32 (Crc.mat j k)) = matv j (k + 1) := by
  apply Array.ext
  · simp [matv]
  · intro i h1 h2
    rw [Array.size_setIfInBounds, matv_size] at h1
    have a := matv_get j k i h1
    have b := matv_get j (k + 1) i h1
    rw [Array.getElem?_eq_getElem (by rw [matv_size]; exact h1)] at a b
    injection a with a
    injection b with b
    rw [Array.getElem_setIfInBounds (by rw [matv_size]; exact h1), b, a]
    by_cases hk : k = i
    · subst hk; simp
    · rw [if_neg hk]
      by_cases hi : i < k
      · rw [if_pos hi, if_pos (by omega)]
      · rw [if_neg hi, if_neg (by omega)]
theorem matv_cells (j k : Nat) : (matv j k).all (·.oneCell') = true := by
  rw [Array.all_eq_true_iff_forall_mem]
  intro x hx
  simp only [matv, List.mem_toArray, List.mem_map] at hx
  obtain ⟨i, _, rfl⟩ := hx
  split <;> rfl
theorem matv_none (j : Nat) : matv j 0 = zstep := by simp [matv, zstep]
theorem zero_lin (w : World) : (zeroValue 43).run Try.prog w = .ok (.agg zstep) w := by kernel_rfl
theorem info_lin : (Try.prog.info? 43).map (·.size) = some 32 := by kernel_rfl

set_option maxRecDepth 100000 in
theorem zeros_any (c : BitVec 32) (n : Int) (w : World) (hn1 : -9223372036854775808 ≤ n) (hn2 : n ≤ 9223372036854775807) :
    Calls Try.prog 15 #[v32 c, .int .i64 n] w fun e w' =>
      e = .returned (v32 (Crc.zeros c n.toNat)) ∧ Below w.heap.size w w' := by
  have hz := zero_tab
  have hz2 := zero_lin
  simp only [v32]
  go_enter Try.func15, Try.ntmps15
  go_wp2_with fail
  refine (table_any _).mono ?_
  rintro e w1 ⟨rfl, hb1⟩
  have Hb1 := Lib.hid hb1
  clear hb1
  go_wp2_with (refine wpList_store_row rfl 38 (.tmp 6) (.tmp 13) rfl w1.heap.size (part 256) rfl rfl 38 (part 0) (Row.new _ _ _) (by rw [part_size]; exact info_tab) (by rw [part_size, part_size]) (part_cells 256) ?_; go_must (obtain ⟨W, hW⟩ : ∃ W, W = (w1.alloc (.cells (part 0) 38)).setRow w1.heap.size (part 256) := ⟨_, rfl⟩; rw [← hW]; have HT := Lib.hid (show Row W w1.heap.size 38 (part 256) by rw [hW]; exact (Row.new _ _ _).whole _); have HW := Lib.hid (show Below w.heap.size w W by rw [hW]; exact below_whole (Hb1.out.alloc Hb1.out.size _) Hb1.out.size _); clear hW))
  have HT1 := Lib.hid (show w1.heap.size ≠ W.heap.size from Nat.ne_of_lt HT.out.lt)
  go_loopw [14] (fun i wr => ∃ k : Nat, k ≤ 32 ∧ i = .int .i64 k ∧ Row wr w1.heap.size 38 (part 256) ∧ Row wr W.heap.size 43 (matv 0 k) ∧ Below w.heap.size w wr) (fun i _ => 32 - (intOf i).toNat)
  case atStart => exact ⟨0, by omega, rfl, HT.out.alloc _, by rw [matv_none]; exact Row.new _ _ _, HW.out.alloc HW.out.size _⟩
  case round =>
    obtain ⟨k, hk, rfl, hr1, hr2, hb⟩ := hrel
    have HR1 := Lib.hid hr1
    have HR2 := Lib.hid hr2
    have HB := Lib.hid hb
    clear hr1 hr2 hb hz
    by_cases hlt : k < 32
    · have hc : wr.cell? ⟨W.heap.size, k, none⟩ = some (.int .u32 0) := by rw [HR2.out.cell, matv_get 0 k k hlt, if_neg (by omega)]
      have hf := HR2.out.frozen k
      obtain ⟨E, hE⟩ : ∃ E : BitVec 32, E = 1#32 <<< k := ⟨_, rfl⟩
      have he : (2 : Int) ^ k % 4294967296 = (E.toNat : Int) := by rw [hE]; exact shl_go k
      have HE := Lib.hid hE
      clear hE
      have hs256 : E.toNat % 256 < 256 := Nat.mod_lt _ (by decide)
      have ht : wr.cell? ⟨w1.heap.size, E.toNat % 256, none⟩ = some (.int .u32 ((tabAt (E.toNat % 256)).toNat : Int)) := by
        rw [HR1.out.cell, part_get 256 _ hs256, if_pos hs256]; rfl
      have HS := Lib.hid (step0_go E)
      go_wp2_with fail
      go_roundw
      case rel => exact ⟨k + 1, by omega, by go_num, HR1.out.far HT1.out _, by rw [← matv_put 0 k, HS.out, HE.out]; exact HR2.out.put k _, HB.out.setCell HW.out.size _⟩
      case measure => simp [intOf]; omega
    · have HK := Lib.hid (show k = 32 by omega)
      have HR3 := Lib.hid (show Row wr W.heap.size 43 (matv 0 32) by rw [← HK.out]; exact HR2.out)
      clear HR2
      go_wp2_with fail
      have HN := Lib.hid (not_go c)
      go_loopw [1, 10] (fun n' r wx => ∃ (N : Int) (j : Nat) (R : BitVec 32), -9223372036854775808 ≤ N ∧ N ≤ 9223372036854775807 ∧ n' = .int .i64 N ∧ r = v32 R ∧ Row wx W.heap.size 43 (matv j 32) ∧ Below w.heap.size w wx ∧
        Crc.it Crc.s8 n.toNat (~~~c) = Crc.it Crc.s8 (N.toNat * 2 ^ j) R) (fun n' _ _ => (intOf n').toNat)
      case atStart => exact ⟨n, 0, ~~~c, hn1, hn2, rfl, by rw [HN.out]; rfl, HR3.out, HB.out, by simp⟩
      case round =>
        clear hlt hk HK HR1 HR3 HB HN
        obtain ⟨N, j, R, hN1, hN2, rfl, rfl, hr, hb, hf⟩ := hrel
        obtain ⟨wo, rfl⟩ : ∃ wo : World, wo = wr := ⟨_, rfl⟩
        have HR := Lib.hid hr
        have HB := Lib.hid hb
        have HF := Lib.hid hf
        clear hr hb hf
        simp only [v32]
        by_cases hpos : 0 < N
        · have hb1 : bits .and .i64 N 1 = N % 2 := and1_go N (by omega) hN2
          go_upto_if 37 with fail
          go_cut [10] (fun s w' => s = .int .u32 ((if N % 2 = 1 then Crc.it Crc.s8 (2 ^ j) R else R).toNat : Int) ∧ ∃ n, w' = wo.drewN n)
          case first =>
            rcases Int.emod_two_eq N with hp | hp
            · have hq : (N % 2 == 1) = false := by rw [hp]; rfl
              have HP := Lib.hid hp
              clear hp hb1
              go_wp2_with fail
              go_meet
              exact ⟨by rw [if_neg (by rw [HP.out]; decide)], 0, rfl⟩
            · have hq : (N % 2 == 1) = true := by rw [hp]; rfl
              have HP := Lib.hid hp
              clear hp hb1
              go_wp2_with fail
              refine (apply_any W.heap.size (Crc.mat j) R _ (fun i hi => by rw [HR.out.cell, matv_get j 32 i hi, if_pos hi])).mono ?_
              rintro e w2 ⟨rfl, n2, rfl⟩
              simp only [v32]
              rw [Crc.mat_ap]
              go_wp2_with fail
              go_meet
              exact ⟨by rw [if_pos (by rw [HP.out])], n2, rfl⟩
          case rest =>
            obtain ⟨rfl, n1, rfl⟩ := hcut
            obtain ⟨R2, hR2⟩ : ∃ R2, R2 = (if N % 2 = 1 then Crc.it Crc.s8 (2 ^ j) R else R) := ⟨_, rfl⟩
            rw [← hR2]
            have HR2 := Lib.hid hR2
            clear hR2 hb1
            go_wp2_with fail
            have HT2 := Lib.hid (show W.heap.size ≠ wo.heap.size from Nat.ne_of_lt HR.out.lt)
            have HTW := Lib.hid (show w.heap.size ≤ wo.heap.size from HB.out.size)
            go_loopw [41] (fun i wy => ∃ k : Nat, k ≤ 32 ∧ i = .int .i64 k ∧ Row wy W.heap.size 43 (matv j 32) ∧ Row wy wo.heap.size 43 (matv (j + 1) k) ∧ Below w.heap.size w wy) (fun i _ => 32 - (intOf i).toNat)
            case atStart => exact ⟨0, by omega, rfl, HR.out.alloc _, by rw [matv_none]; exact Row.new (wo.drewN n1) _ _, (below_drewN HB.out n1).alloc HB.out.size _⟩
            case round =>
              obtain ⟨k2, hk2, rfl, hra, hrb, hbb⟩ := hrel
              have HRA := Lib.hid hra
              have HRB := Lib.hid hrb
              have HBB := Lib.hid hbb
              clear hra hrb hbb
              by_cases hlt2 : k2 < 32
              · have hc1 : wr.cell? ⟨W.heap.size, k2, none⟩ = some (.int .u32 ((Crc.mat j k2).toNat : Int)) := by rw [HRA.out.cell, matv_get j 32 k2 hlt2, if_pos hlt2]; rfl
                have hc2 : wr.cell? ⟨wo.heap.size, k2, none⟩ = some (.int .u32 0) := by rw [HRB.out.cell, matv_get (j + 1) k2 k2 hlt2, if_neg (by omega)]
                have hf2 := HRB.out.frozen k2
                go_wp2_with fail
                refine (apply_any W.heap.size (Crc.mat j) (Crc.mat j k2) _ (fun i hi => by rw [HRA.out.cell, matv_get j 32 i hi, if_pos hi])).mono ?_
                rintro e w2 ⟨rfl, n2, rfl⟩
                simp only [v32]
                rw [Crc.mat_next]
                go_wp2_with fail
                go_roundw
                case rel => exact ⟨k2 + 1, by omega, by go_num, HRA.out.far HT2.out _, by rw [← matv_put (j + 1) k2]; exact HRB.out.put k2 _, (below_drewN HBB.out n2).setCell HTW.out _⟩
                case measure => simp [intOf]; omega
              · have HRB2 := Lib.hid (show Row wr wo.heap.size 43 (matv (j + 1) 32) by rw [← show k2 = 32 by omega]; exact HRB.out)
                go_wp2_with (first | (refine wpList_load_row rfl 43 (.tmp 11) rfl wo.heap.size rfl 43 (matv (j + 1) 32) (0, 0) _ HRB2.out Try.underlying43 rfl (by rw [matv_size]; exact info_lin) ?_) | (refine wpList_store_row rfl 43 (.tmp 7) (.tmp 52) rfl W.heap.size (matv (j + 1) 32) rfl rfl 43 (matv j 32) HRA.out (by rw [matv_size]; exact info_lin) (by rw [matv_size, matv_size]) (matv_cells _ _) ?_))
                have hfin : Crc.it Crc.s8 n.toNat (~~~c) = Crc.it Crc.s8 ((N / 2).toNat * 2 ^ (j + 1)) R2 := by
                  have e1 : (N / 2).toNat = N.toNat / 2 := by omega
                  have e2 : (N % 2 = 1) = (N.toNat % 2 = 1) := by apply propext; omega
                  rw [HF.out, HR2.out, Crc.bit_step, e1]
                  simp only [e2]
                go_roundw
                case rel => exact ⟨N / 2, j + 1, R2, by omega, by omega, rfl, rfl, HRA.out.whole _, below_whole HBB.out HW.out.size _, hfin⟩
                case measure => simp [intOf]; omega
        · have HF2 := Lib.hid (show Crc.it Crc.s8 n.toNat (~~~c) = R by rw [HF.out, show N.toNat = 0 by omega]; simp [Crc.it])
          have HNR := Lib.hid (not_go R)
          go_wp2_with fail
          go_ret
          exact ⟨ret_int (by rw [HNR.out, Crc.zeros, HF2.out]), HB.out⟩

theorem comb_val (a b : BitVec 32) (n : Nat) : bits .xor .u32 (bits .xor .u32 (b.toNat : Int) ((Crc.zeros a n).toNat : Int)) ((Crc.zeros 0#32 n).toNat : Int) = ((Crc.comb a b n).toNat : Int) := by
  rw [b32_xor, b32_xor]; rfl
set_option maxRecDepth 100000 in
theorem combine_any (a b : BitVec 32) (n : Int) (w : World) (hn1 : -9223372036854775808 ≤ n) (hn2 : n ≤ 9223372036854775807) :
    Calls Try.prog 17 #[v32 a, v32 b, .int .i64 n] w fun e w' =>
      e = .returned (v32 (Crc.comb a b n.toNat)) ∧ Below w.heap.size w w' := by
  simp only [v32]
  go_enter Try.func17, Try.ntmps17
  go_wp2_with fail
  refine (zeros_any a n _ hn1 hn2).mono ?_
  rintro e w1 ⟨rfl, hb1⟩
  have Hb1 := Lib.hid hb1
  clear hb1
  simp only [v32]
  obtain ⟨X, hX⟩ : ∃ X, X = Crc.zeros a n.toNat := ⟨_, rfl⟩
  rw [← hX]
  have HX := Lib.hid hX
  clear hX
  go_wp2_with fail
  refine (zeros_any 0#32 n _ hn1 hn2).mono ?_
  rintro e w2 ⟨rfl, hb2⟩
  have Hb2 := Lib.hid hb2
  clear hb2
  simp only [v32]
  obtain ⟨Y, hY⟩ : ∃ Y, Y = Crc.zeros 0#32 n.toNat := ⟨_, rfl⟩
  rw [← hY]
  have HY := Lib.hid hY
  clear hY
  go_wp2_with fail
  go_ret
  exact ⟨ret_int (by rw [HX.out, HY.out, comb_val]), Hb1.out.trans (Hb2.out.mono Hb1.out.size)⟩
end Go.Proofs.Ytgnafdpondmjfaa
