/- Schedules: a unit out of its bit planes, the program's walk. -/
import Derived.Test.YtghinmlpkgcdiaaDoorX15
import Derived.Test.YtghinmlpkgcdiaaDoorXK
namespace Go.Proofs.YtghinmlpkgcdiaaDoor
set_option linter.unusedSimpArgs false
set_option linter.unusedVariables false
open Go.RowKit Go.Lib

def bytesN (n : Nat) (f : Nat → Nat) : List Value := (List.range n).map fun p => .int .u8 (f p : Int)
theorem bytesN_length (n : Nat) (f : Nat → Nat) : (bytesN n f).length = n := by simp [bytesN]
theorem bytesN_get {n p : Nat} (f : Nat → Nat) (h : p < n) : (bytesN n f)[p]? = some (.int .u8 (f p : Int)) := by
  unfold bytesN; rw [List.getElem?_map, List.getElem?_range h]; rfl
theorem bytesN_set {n p : Nat} (f : Nat → Nat) (v : Nat) : (bytesN n f).set p (.int .u8 (v : Int)) = bytesN n (fun q => if q = p then v else f q) := by
  apply List.ext_getElem?
  intro j
  rw [List.getElem?_set]
  by_cases hj : j < n
  · rw [bytesN_get _ hj, bytesN_get _ hj, bytesN_length]
    by_cases e : p = j
    · subst e; rw [if_pos rfl, if_pos hj, if_pos rfl]
    · rw [if_neg e, if_neg (fun h => e h.symm)]
  · rw [List.getElem?_eq_none (by rw [bytesN_length]; omega), List.getElem?_eq_none (by rw [bytesN_length]; omega), bytesN_length]
    by_cases e : p = j
    · rw [if_pos e, if_neg (by omega)]
    · rw [if_neg e]
theorem bytesN_congr {n : Nat} {f f' : Nat → Nat} (h : ∀ p, p < n → f p = f' p) : bytesN n f = bytesN n f' := by
  unfold bytesN
  apply List.map_congr_left
  intro p hp
  rw [h p (List.mem_range.1 hp)]
theorem bytes0 (n : Nat) : List.replicate n (Value.int .u8 0) = bytesN n (fun _ => 0) := by
  unfold bytesN
  symm
  rw [List.eq_replicate_iff]
  refine ⟨by simp, fun b hb => ?_⟩
  obtain ⟨p, _, rfl⟩ := List.mem_map.1 hb
  rfl
theorem bytesN_unit (m : Nat) (R : Nat → Nat) (n : Nat) : bytesN n (fun p => Xp.ubTo m R p 8) = (Xp.unitL m R n).map v8 := by
  unfold bytesN Xp.unitL
  rw [List.map_map]
  apply List.map_congr_left
  intro p _
  have := Xp.ubTo_lt m R p 8
  simp only [Function.comp, v8]
  rw [UInt8.toNat_ofNat', Nat.mod_eq_of_lt (by omega)]
theorem u64_and1 (y : Nat) (hy : y < 18446744073709551616) : bits .and .u64 (y : Int) 1 = ((y % 2 : Nat) : Int) := by
  rw [show (1 : Int) = ((1 : Nat) : Int) from rfl, bits_and_u64_nat y 1 (by omega) (by omega), Nat.and_one_is_mod]
theorem u8_or (a b : Nat) (ha : a < 256) (hb : b < 256) : bits .or .u8 (a : Int) (b : Int) = ((a ||| b : Nat) : Int) := by
  have h : a ||| b < 2 ^ 8 := Nat.or_lt_two_pow (by omega) (by omega)
  show IntKind.u8.wrap ((BitVec.ofInt 8 (a : Int) ||| BitVec.ofInt 8 (b : Int)).toNat : Int) = _
  rw [BitVec.ofInt_natCast, BitVec.ofInt_natCast, BitVec.toNat_or, BitVec.toNat_ofNat, BitVec.toNat_ofNat, Nat.mod_eq_of_lt (show a < 2 ^ 8 by omega), Nat.mod_eq_of_lt (show b < 2 ^ 8 by omega), IntKind.wrap_u8]
  omega
theorem or8_bit {c N A b : Nat} (hc : c < 256) (hb : b < 8) : bits .or .u8 (c : Int) (IntKind.u8.wrap (IntKind.u8.wrap (bits .and .u64 ((Xp.word N (A / 64) : Int) / 2 ^ (A % 64)) 1) * 2 ^ b)) = ((c ||| (N / 2 ^ A % 2) <<< b : Nat) : Int) := by
  have hl := Xp.word_lt N (A / 64)
  have h := Xp.bit_read N A
  have e : ((Xp.word N (A / 64) : Int) / 2 ^ (A % 64)) = ((Xp.word N (A / 64) / 2 ^ (A % 64) : Nat) : Int) := by simp
  have hd : Xp.word N (A / 64) / 2 ^ (A % 64) ≤ Xp.word N (A / 64) := Nat.div_le_self _ _
  generalize Xp.word N (A / 64) / 2 ^ (A % 64) = y at e h hd ⊢
  rw [e, u64_and1 y (by omega), h, testBit_div]
  have hx : (if N.testBit A then 1 else 0 : Nat) < 2 := by split <;> decide
  generalize (if N.testBit A then 1 else 0 : Nat) = x at hx ⊢
  have hp : (2 : Nat) ^ b ≤ 2 ^ 7 := Nat.pow_le_pow_right (by decide) (by omega)
  rw [show IntKind.u8.wrap (x : Int) = (x : Int) by rw [IntKind.wrap_u8]; omega]
  rw [show (x : Int) * 2 ^ b = ((x <<< b : Nat) : Int) by rw [Nat.shiftLeft_eq]; simp]
  have hx2 : x <<< b < 256 := by
    rw [Nat.shiftLeft_eq]
    generalize 2 ^ b = t at hp
    rcases (show x = 0 ∨ x = 1 by omega) with rfl | rfl <;> omega
  generalize x <<< b = t at hx2 ⊢
  rw [show IntKind.u8.wrap (t : Int) = (t : Int) by rw [IntKind.wrap_u8]; omega]
  exact u8_or c t hc hx2
theorem or8_bit2 {c N A b : Nat} (hc : c < 256) (hb : b < 8) : bits .or .u8 (c : Int) (bits .and .u64 ((Xp.word N (A / 64) : Int) / 2 ^ (A % 64)) 1 % 256 * 2 ^ b % 256) = ((c ||| (N / 2 ^ A % 2) <<< b : Nat) : Int) := by
  have h := or8_bit (c := c) (N := N) (A := A) (b := b) hc hb
  rw [IntKind.wrap_u8, IntKind.wrap_u8] at h
  exact h
set_option maxRecDepth 100000 in
set_option maxHeartbeats 6400000 in
theorem unit_any {m : Nat} (hm : Fld.IsM m) (ql : Option Addr) (kl n ns' W : Nat) (vs : List Value) (ns : List Nat) (w : World) (hn : n = ns' * (m / 8)) (hn2 : n ≤ 1000) (hW : (ns' + 63) / 64 = W) (hl : ns.length = m) (hr : Rd w w.heap.size ql vs) (hrg : RegsOf w W vs ns) :
    Calls Tryd.prog 47 #[.slice ql m kl, .int .i64 n] w fun e w' => e = .returned (.string (strB (Xp.unitL m (fun K => ns[K]?.getD 0) n))) ∧ Below w.heap.size w w' := by
  obtain ⟨z, hz⟩ : ∃ z, m / 8 = z := ⟨_, rfl⟩
  have hz12 : 1 ≤ z ∧ z ≤ 2 := by rcases hm with rfl | rfl <;> omega
  have hm16 : 8 ≤ m ∧ m ≤ 16 := by rcases hm with rfl | rfl <;> omega
  rw [hz] at hn
  have hnl : ns' ≤ 1000 := by
    have : ns' * 1 ≤ ns' * z := Nat.mul_le_mul_left _ hz12.1
    omega
  have hq1 : (m : Int) / 8 = (z : Int) := by omega
  have HMB := make_bytes n (by omega)
  have HM := Lib.hid hm
  have HZ := Lib.hid hz
  have HS := Lib.hid hn
  have HWW := Lib.hid hW
  have HL := Lib.hid hl
  have HR := Lib.hid hr
  have HRG := Lib.hid hrg
  obtain ⟨RF, hRF⟩ : ∃ RF : Nat → Nat, (fun K => ns[K]?.getD 0) = RF := ⟨_, rfl⟩
  have HRF := Lib.hid (fun K => congrFun hRF K)
  rw [hRF]
  clear hm hz hn hW hl hr hrg hRF
  go_enter Tryd.func47, Tryd.ntmps47
  go_wp2_with fail
  have HO0 := Lib.hid (show Own (w.alloc (.cells (madeCells #[.int .u8 0] n) 5)) w.heap.size 5 (some ⟨w.heap.size, 0, none⟩) n n (bytesN n (Xp.ubAt m RF 0 0)) from by
    have h9 := Own.new w w.heap.size 5 (madeCells #[.int .u8 0] n) n (Nat.le_refl _) (by rw [← Array.length_toList, toList_madeCells_one, List.length_replicate]) (by unfold maxLen; omega)
    rw [toList_madeCells_one, bytes0] at h9
    rwa [bytesN_congr (f' := Xp.ubAt m RF 0 0)] at h9
    intro p _
    unfold Xp.ubAt
    rw [if_neg (Nat.not_lt_zero _)]
    split <;> rfl)
  go_loopw [18] (fun i wr => ∃ i' : Nat, i' ≤ n ∧ i = .int .i64 i' ∧ Own wr w.heap.size 5 (some ⟨w.heap.size, 0, none⟩) n n (bytesN n (Xp.ubAt m RF i' 0)) ∧ Below w.heap.size w wr) (fun i _ => n - (intOf i).toNat)
  case atStart => exact ⟨0, Nat.zero_le _, rfl, HO0.out, (Below.refl _ _).alloc (Nat.le_refl _) _⟩
  case round =>
    obtain ⟨i, hin, rfl, ho, hb⟩ := hrel
    have HO := Lib.hid ho
    have HB := Lib.hid hb
    clear ho hb HO0
    by_cases hil : i < n
    · have hd : decide ((i : Int) < n) = true := decide_eq_true (by omega)
      obtain ⟨A, hA⟩ : ∃ A, i / z = A := ⟨_, rfl⟩
      obtain ⟨R, hR⟩ : ∃ R, i % z = R := ⟨_, rfl⟩
      have hRz : R < z := by rw [← hR]; exact Nat.mod_lt i (by omega)
      obtain ⟨H, hH⟩ : ∃ H, 8 * (z - 1 - R) = H := ⟨_, rfl⟩
      have HA := Lib.hid hA
      have HH := Lib.hid (show Xp.high m i = H by unfold Xp.high; rw [HZ.out, hR, hH])
      have hqi : (i : Int) / (z : Int) = (A : Int) := by rw [← Int.natCast_ediv, hA]
      have hri : (i : Int) % (z : Int) = (R : Int) := by rw [← Int.natCast_emod, hR]
      have hAn : A < ns' := by
        rw [← hA]
        apply Nat.div_lt_of_lt_mul
        rw [Nat.mul_comm, ← HS.out]; exact hil
      have hw1 : IntKind.i64.wrap ((z : Int) - 1) = (z : Int) - 1 := by rw [IntKind.wrap_i64] <;> omega
      have hw2 : IntKind.i64.wrap ((z : Int) - 1 - (R : Int)) = (z : Int) - 1 - (R : Int) := by rw [IntKind.wrap_i64] <;> omega
      have hw3 : IntKind.i64.wrap (8 * ((z : Int) - 1 - (R : Int))) = (H : Int) := by rw [← hH, IntKind.wrap_i64] <;> omega
      clear hA hR hH
      go_wp2_with fail
      go_region
      go_wp2_with fail
      clear hw1 hw2 hw3 hri hqi
      go_loopw [31] (fun i2 wr => ∃ k' : Nat, k' ≤ 8 ∧ i2 = .int .i64 k' ∧ Own wr w.heap.size 5 (some ⟨w.heap.size, 0, none⟩) n n (bytesN n (Xp.ubAt m RF i k')) ∧ Below w.heap.size w wr) (fun i2 _ => 8 - (intOf i2).toNat)
      case atStart => exact ⟨0, Nat.zero_le _, rfl, HO.out.drewN 1, HB.out.drew⟩
      case round =>
        obtain ⟨b, hb8, rfl, ho, hb⟩ := hrel
        have HO2 := Lib.hid ho
        have HB2 := Lib.hid hb
        clear ho hb HO HB
        by_cases hb : b < 8
        · have hd3 : decide ((b : Int) < 8) = true := decide_eq_true (by omega)
          obtain ⟨Q, hQ⟩ : ∃ Q, H + b = Q := ⟨_, rfl⟩
          have hQm : Q < m := by rw [← hQ, ← HH.out]; exact Xp.high_lt HM.out hb
          have hwQ : IntKind.i64.wrap ((H : Int) + (b : Int)) = (Q : Int) := by rw [← Int.natCast_add, hQ, IntKind.wrap_i64] <;> omega
          have HQ := Lib.hid hQ
          clear hQ
          have hAW : A / 64 < W := by have := HWW.out; omega
          obtain ⟨N, hN⟩ : ∃ N, ns[Q]? = some N := ⟨_, List.getElem?_eq_getElem (by rw [HL.out]; exact hQm)⟩
          obtain ⟨v5, hv5, q5, k5, rfl, hbit⟩ := HRG.out.2 Q N hN
          obtain ⟨g5, cs5, rfl, hr5, hc5⟩ := hbit (by omega)
          obtain ⟨bl, ol, rfl, hbl, hcl⟩ := (HR.out.below HB2.out) Q _ hv5
          have hcw := (((hr5.below HB2.out hr5.lt) : Row wr g5 85 cs5).cell (A / 64)).trans (hc5 _ hAW)
          have hRFQ : RF Q = N := by rw [← HRF.out Q, hN]; rfl
          obtain ⟨gz, egz, _, hgl, hcz, hfz⟩ := HO2.out.at_ hil
          obtain rfl : w.heap.size = gz := by injection egz with egz; injection egz
          rw [bytesN_get _ hil] at hcz
          obtain ⟨c, hc⟩ : ∃ c, Xp.ubTo m RF i b = c := ⟨_, rfl⟩
          have hcc : Xp.ubAt m RF i b i = c := by unfold Xp.ubAt; rw [if_neg (Nat.lt_irrefl _), if_pos rfl, hc]
          rw [hcc] at hcz
          have hc256 : c < 256 := by
            have h9 := Xp.ubTo_lt m RF i b
            have h8 : (2 : Nat) ^ b ≤ 2 ^ 7 := Nat.pow_le_pow_right (by decide) (by omega)
            omega
          obtain ⟨V, hV⟩ : ∃ V, c ||| (N / 2 ^ A % 2) <<< b = V := ⟨_, rfl⟩
          have hV2 : Xp.ubTo m RF i (b + 1) = V := by
            show Xp.ubTo m RF i b ||| (RF (Xp.high m i + b) / 2 ^ (i / (m / 8)) % 2) <<< b = V
            rw [hc, HH.out, HQ.out, HZ.out, HA.out, hRFQ, hV]
          have HVE := Lib.hid ((or8_bit2 (c := c) (N := N) (A := A) (b := b) hc256 hb).trans (by rw [hV]))
          obtain ⟨wd, hwd⟩ : ∃ wd, Xp.word N (A / 64) = wd := ⟨_, rfl⟩
          rw [hwd] at hcw HVE
          have HO7 := Lib.hid (show Own (wr.setCell ⟨w.heap.size, i, none⟩ (.int .u8 (V : Int))) w.heap.size 5 (some ⟨w.heap.size, 0, none⟩) n n (bytesN n (Xp.ubAt m RF i (b + 1))) from by
            have h9 := HO2.out.put hil (.int .u8 (V : Int))
            rw [bytesN_set] at h9
            rwa [bytesN_congr (f' := Xp.ubAt m RF i (b + 1))] at h9
            intro p _
            rw [← Xp.ubAt_put, hV2])
          have HB7 := Lib.hid (HB2.out.setCell (p := ⟨w.heap.size, i, none⟩) (Nat.le_refl _) (.int .u8 (V : Int)))
          clear hN hv5 hbit hr5 hc5 hRFQ egz hc hcc hV hV2 hwd
          go_wp2_with fail
          go_region
          go_wp2_with fail
          rw [HVE.out]
          go_roundw
          case rel => exact ⟨b + 1, by omega, by go_num, HO7.out.drewN 1, HB7.out.drew⟩
          case measure => simp [intOf]; omega
        · have hd3 : decide ((b : Int) < 8) = false := decide_eq_false (by omega)
          have HO8 := Lib.hid (show Own wr w.heap.size 5 (some ⟨w.heap.size, 0, none⟩) n n (bytesN n (Xp.ubAt m RF (i + 1) 0)) from by
            have h9 := HO2.out
            rwa [show b = 8 by omega, bytesN_congr (f' := Xp.ubAt m RF (i + 1) 0) (fun p _ => Xp.ubAt_next m RF i p)] at h9)
          go_wp2_with fail
          go_roundw
          case rel => exact ⟨i + 1, by omega, by go_num, HO8.out, HB2.out⟩
          case measure => simp [intOf]; omega
    · have hd : decide ((i : Int) < n) = false := decide_eq_false (by omega)
      have hcv := conv_all wr (some ⟨w.heap.size, 0, none⟩) n n (Xp.unitL m RF n) (B := wr.heap.size) (by
        have h9 := HO.out.rd
        rwa [bytesN_congr (f' := fun p => Xp.ubTo m RF p 8) (fun p hp => by unfold Xp.ubAt; rw [if_pos (by omega)]), bytesN_unit] at h9) (Xp.unitL_length _ _ _)
      go_wp2_with fail
      go_ret
      exact ⟨rfl, HB.out⟩
end Go.Proofs.YtghinmlpkgcdiaaDoor
