/- Fields: products. -/
import Derived.Test.YtghinmlpkgcdiaaDoorG2
namespace Go.Proofs.YtghinmlpkgcdiaaDoor
set_option linter.unusedSimpArgs false
set_option linter.unusedVariables false
open Go.RowKit Go.Lib

theorem ofInt64 (a : Nat) (ha : a < 18446744073709551616) : (BitVec.ofInt 64 (a : Int)).toNat = a := by
  rw [BitVec.ofInt_natCast, BitVec.toNat_ofNat]; exact Nat.mod_eq_of_lt (by omega)
theorem i64_xor (a b : Nat) (ha : a < 9223372036854775808) (hb : b < 9223372036854775808) : bits .xor .i64 (a : Int) (b : Int) = ((a ^^^ b : Nat) : Int) := by
  have hx : a ^^^ b < 2 ^ 63 := Nat.xor_lt_two_pow (by omega) (by omega)
  show IntKind.i64.wrap ((BitVec.ofInt 64 (a : Int) ^^^ BitVec.ofInt 64 (b : Int)).toNat : Int) = _
  rw [BitVec.toNat_xor, ofInt64 a (by omega), ofInt64 b (by omega), IntKind.wrap_i64]
  omega
theorem i64_and1 (a : Nat) (ha : a < 9223372036854775808) : bits .and .i64 (a : Int) 1 = ((a % 2 : Nat) : Int) := by
  show IntKind.i64.wrap ((BitVec.ofInt 64 (a : Int) &&& BitVec.ofInt 64 ((1 : Nat) : Int)).toNat : Int) = _
  rw [BitVec.toNat_and, ofInt64 a (by omega), ofInt64 1 (by omega), IntKind.wrap_i64, Nat.and_one_is_mod]
  omega
theorem modv_pol {m : Nat} (hm : Fld.IsM m) : modv (m : Int) = (Fld.pol m : Int) := by
  rcases hm with rfl | rfl <;> rfl
theorem m_le {m : Nat} (hm : Fld.IsM m) : m ≤ 16 := by rcases hm with rfl | rfl <;> omega
theorem pow_le {m x : Nat} (hm : Fld.IsM m) (h : x < 2 ^ m) : x < 65536 := by
  rcases hm with rfl | rfl
  · have : (2 : Nat) ^ 8 = 256 := by decide
    omega
  · have : (2 : Nat) ^ 16 = 65536 := by decide
    omega
theorem pol_small {m : Nat} (hm : Fld.IsM m) : Fld.pol m < 131072 := by rcases hm with rfl | rfl <;> decide
theorem top_bit {m o : Nat} (h : o < 2 ^ m) : ((o : Int) * 2 / 2 ^ m != 0) = (2 * o).testBit m := by
  rw [Nat.testBit_eq_decide_div_mod_eq]
  have hp := Nat.two_pow_pos m
  have e : ((o : Int) * 2 / 2 ^ m) = ((2 * o / 2 ^ m : Nat) : Int) := by
    rw [Int.natCast_ediv, Int.natCast_mul, Int.natCast_pow, Int.mul_comm]; rfl
  rw [e, Bool.eq_iff_iff, bne_iff_ne, decide_eq_true_eq]
  have : 2 * o / 2 ^ m < 2 := by rw [Nat.div_lt_iff_lt_mul hp]; omega
  clear e
  generalize 2 * o / 2 ^ m = d at *
  omega
theorem low_bit {b j : Nat} (h : b < 9223372036854775808) : (bits .and .i64 ((b : Int) / 2 ^ j) 1 != 0) = (b / 2 ^ j).testBit 0 := by
  have hd : b / 2 ^ j ≤ b := Nat.div_le_self _ _
  have e : ((b : Int) / 2 ^ j) = ((b / 2 ^ j : Nat) : Int) := by
    rw [Int.natCast_ediv]; simp
  rw [e, i64_and1 _ (by omega), Nat.testBit_zero, Bool.eq_iff_iff, bne_iff_ne, decide_eq_true_eq]
  omega
theorem sh_int {m o p : Nat} (hm : Fld.IsM m) (ho : o < 2 ^ m) (hp : Fld.pol m = p) :
    (((o : Int) * 2 / 2 ^ m != 0) = true → bits .xor .i64 ((o : Int) * 2) (p : Int) = ((Fld.sh m o : Nat) : Int)) ∧ (((o : Int) * 2 / 2 ^ m != 0) = false → (o : Int) * 2 = ((Fld.sh m o : Nat) : Int)) := by
  have h16 := pow_le hm ho
  have hps := pol_small hm
  subst hp
  rw [top_bit ho]
  unfold Fld.sh
  constructor
  · intro h
    rw [h, if_pos rfl, show (o : Int) * 2 = ((2 * o : Nat) : Int) by omega, i64_xor _ _ (by omega) (by omega)]
  · intro h
    rw [h, if_neg (by decide)]; omega
theorem prod_step {m a b j o p : Nat} (hm : Fld.IsM m) (ha : a < 2 ^ m) (hb : b < 2 ^ m) (hj : j + 1 ≤ m) (hp : Fld.pol m = p) (hmul : Fld.mulN m (m - (j + 1)) a (b / 2 ^ (j + 1)) = o) (t1 t2 : Bool)
    (h1 : ((o : Int) * 2 / 2 ^ m != 0) = t1) (h2 : (bits .and .i64 ((b : Int) / 2 ^ j) 1 != 0) = t2) :
    (match t1, t2 with
      | true, true => bits .xor .i64 (bits .xor .i64 ((o : Int) * 2) (p : Int)) (a : Int)
      | true, false => bits .xor .i64 ((o : Int) * 2) (p : Int)
      | false, true => bits .xor .i64 ((o : Int) * 2) (a : Int)
      | false, false => (o : Int) * 2) = ((Fld.mulN m (m - j) a (b / 2 ^ j) : Nat) : Int) := by
  have ho : o < 2 ^ m := by rw [← hmul]; exact Fld.mulN_lt hm _ _ _ ha
  have hs := Fld.sh_lt hm ho
  have h16 := pow_le hm hs
  have ha16 := pow_le hm ha
  have hb16 := pow_le hm hb
  obtain ⟨s1, s2⟩ := sh_int hm ho hp
  rw [low_bit (by omega)] at h2
  have e : Fld.mulN m (m - j) a (b / 2 ^ j) = Fld.sh m o ^^^ (if (b / 2 ^ j).testBit 0 then a else 0) := by
    rw [show m - j = (m - (j + 1)) + 1 by omega, Fld.mulN_horner, Nat.div_div_eq_div_mul, ← Nat.pow_succ, hmul]
  rw [e, h2]
  cases t1 <;> cases t2 <;> simp only [if_true, Bool.false_eq_true, if_false, Nat.xor_zero]
  · exact s2 h1
  · rw [s2 h1, i64_xor _ _ (by omega) (by omega)]
  · exact s1 h1
  · rw [s1 h1, i64_xor _ _ (by omega) (by omega)]

set_option maxRecDepth 100000 in
theorem product_any (m a b : Nat) (hm : Fld.IsM m) (ha : a < 2 ^ m) (hb : b < 2 ^ m) (w : World) (ht : Tab w) :
    Calls Tryd.prog 66 #[.int .i64 (m : Int), .int .i64 (a : Int), .int .i64 (b : Int)] w fun e w' => e = .returned (.int .i64 (Fld.mul m a b : Int)) ∧ Below w.heap.size w w' := by
  have HT := Lib.hid ht
  have HM := Lib.hid hm
  have hm16 : m ≤ 16 := by rcases hm with rfl | rfl <;> omega
  have hm8 : 8 ≤ m := by rcases hm with rfl | rfl <;> omega
  have HA := Lib.hid ha
  have HBB := Lib.hid hb
  obtain ⟨p, hp⟩ : ∃ p, Fld.pol m = p := ⟨_, rfl⟩
  have HP := Lib.hid hp
  have HV := Lib.hid (modv_pol hm)
  clear ht hm ha hb hp
  go_enter Tryd.func66, Tryd.ntmps66
  go_wp2_with fail
  refine (modulus_any _ _ HT.out).mono ?_
  rw [HV.out, HP.out]
  rintro e w1 ⟨rfl, hb⟩
  have HB := Lib.hid hb
  clear hb
  go_wp2_with fail
  go_loopw [8, 9] (fun o i wr => Below w.heap.size w wr ∧ ∃ k : Nat, k ≤ m ∧ i = .int .i64 ((k : Int) - 1) ∧ o = .int .i64 (Fld.mulN m (m - k) a (b / 2 ^ k) : Int)) (fun _ i _ => (intOf i + 1).toNat)
  case atStart =>
    refine ⟨HB.out, m, Nat.le_refl _, rfl, ?_⟩
    rw [Nat.sub_self]; rfl
  case round =>
    obtain ⟨hbel, k, hk, rfl, rfl⟩ := hrel
    have HBl := Lib.hid hbel
    clear hbel
    by_cases h0 : k = 0
    · have HF := Lib.hid (show Fld.mulN m (m - k) a (b / 2 ^ k) = Fld.mul m a b by rw [h0]; simp [Fld.mul])
      have hd : decide (1 ≤ (k : Int)) = false := by simp; omega
      have hd0 : decide (0 ≤ (k : Int) - 1) = false := by simp; omega
      clear h0
      go_wp2
      go_ret
      exact ⟨ret_int (by rw [HF.out]), HBl.out⟩
    · obtain ⟨j, rfl⟩ : ∃ j, k = j + 1 := ⟨k - 1, by omega⟩
      clear h0
      obtain ⟨o, ho⟩ : ∃ o, Fld.mulN m (m - (j + 1)) a (b / 2 ^ (j + 1)) = o := ⟨_, rfl⟩
      have HO := Lib.hid ho
      rw [ho]
      clear ho
      rw [show ((j + 1 : Nat) : Int) - 1 = (j : Int) by omega]
      have hd : decide (0 ≤ (j : Int)) = true := by simp
      have ho16 : o < 65536 := by rw [← HO.out]; exact pow_le HM.out (Fld.mulN_lt HM.out _ _ _ HA.out)
      have HS := Lib.hid (prod_step HM.out HA.out HBB.out hk HP.out HO.out)
      cases h1 : ((o : Int) * 2 / 2 ^ m != 0) <;> cases h2 : (bits .and .i64 ((b : Int) / 2 ^ j) 1 != 0)
      all_goals
        go_wp2
        go_roundw
        case rel => exact ⟨HBl.out, j, by omega, rfl, congrArg (Value.int .i64) (HS.out _ _ h1 h2)⟩
        case measure => simp [intOf]
end Go.Proofs.YtghinmlpkgcdiaaDoor
