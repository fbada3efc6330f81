/- Sector: get. -/
import Derived.Test.YtdkkoogcaininaaS7
import Derived.Deep.RegionHeld3
namespace Go.Proofs.Ytdkkoogcaininaa
set_option linter.unusedSimpArgs false
set_option linter.unusedVariables false
open Go.RowKit

theorem numOf_snoc (l : List UInt8) (b : UInt8) : numOf (l ++ [b]) = numOf l + 256 ^ l.length * b.toNat := by
  induction l with
  | nil => simp [numOf]
  | cons x xs ih =>
    simp only [List.cons_append, numOf, ih, List.length_cons, Nat.pow_succ]
    rw [Nat.mul_add, Nat.mul_comm (256 ^ xs.length) 256, Nat.mul_assoc]; omega
theorem numOf_take (s : ByteArray) (j : Nat) (h : j < s.size) : numOf (s.data.toList.take (j + 1)) = numOf (s.data.toList.take j) + 256 ^ j * s[j].toNat := by
  have hl := len_data s
  rw [List.take_succ_eq_append_getElem (by omega), numOf_snoc, List.length_take, Nat.min_eq_left (by omega)]
  rfl
theorem i64_or (x y k : Nat) (h : x < 2 ^ k) (hy : 2 ^ k * y + x < 9223372036854775808) : bits .or .i64 (x : Int) ((2 ^ k * y : Nat) : Int) = ((x + 2 ^ k * y : Nat) : Int) := by
  unfold bits
  show IntKind.i64.wrap ((BitVec.ofInt 64 (x : Int) ||| BitVec.ofInt 64 ((2 ^ k * y : Nat) : Int)).toNat : Int) = _
  rw [BitVec.toNat_or, BitVec.ofInt_natCast, BitVec.ofInt_natCast, BitVec.toNat_ofNat, BitVec.toNat_ofNat, Nat.mod_eq_of_lt (by omega), Nat.mod_eq_of_lt (by omega)]
  rw [Nat.or_comm, ← Nat.two_pow_add_eq_or_of_lt h, IntWalk.i64_in _ (by omega), Nat.add_comm]
set_option maxRecDepth 100000 in
theorem get_any (s : ByteArray) (w : World) (hs : s.size ≤ 4) :
    Calls Try.prog 28 #[.string s] w fun e w' => e = .returned (.int .i64 (numOf s.data.toList)) ∧ w = w' := by
  go_enter Try.func28, Try.ntmps28
  go_wp2_with fail
  go_loop [3, 7] (fun nv iv => ∃ k : Nat, k ≤ s.size ∧ iv = .int .i64 k ∧ nv = .int .i64 (numOf (s.data.toList.take k))) (fun _ iv => s.size - (intOf iv).toNat)
  case atStart => exact ⟨0, by omega, rfl, rfl⟩
  case round =>
    obtain ⟨k, hk, rfl, rfl⟩ := hrel
    by_cases hlt : k < s.size
    · have hd : decide ((k : Int) < (s.size : Int)) = true := by simpa using hlt
      have HN := Lib.hid (numOf_take s k hlt)
      have hb := numOf_lt (s.data.toList.take k)
      rw [List.length_take, len_data, Nat.min_eq_left (by omega)] at hb
      obtain ⟨D, hD⟩ : ∃ D, D = numOf (s.data.toList.take k) := ⟨_, rfl⟩
      rw [← hD] at HN hb ⊢
      have hx : s[k].toNat < 256 := s[k].toNat_lt
      clear hD
      rcases (show k = 0 ∨ k = 1 ∨ k = 2 ∨ k = 3 by omega) with rfl | rfl | rfl | rfl
      · go_wp2_with fail
        have e := i64_or D s[0].toNat 0 (by simpa using hb) (by omega)
        rw [show ((2 ^ 0 * s[0].toNat : Nat) : Int) = (s[0].toNat : Int) by simp] at e
        refine ⟨⟨1, by omega, rfl, ?_⟩, by simp [intOf]; omega⟩
        rw [e, HN.out]
      · go_wp2_with fail
        have e := i64_or D s[1].toNat 8 (by simpa using hb) (by omega)
        rw [show ((2 ^ 8 * s[1].toNat : Nat) : Int) = (s[1].toNat : Int) * 256 by simp; omega] at e
        refine ⟨⟨2, by omega, rfl, ?_⟩, by simp [intOf]; omega⟩
        rw [e, HN.out]
      · go_wp2_with fail
        have e := i64_or D s[2].toNat 16 (by simpa using hb) (by omega)
        rw [show ((2 ^ 16 * s[2].toNat : Nat) : Int) = (s[2].toNat : Int) * 65536 by simp; omega] at e
        refine ⟨⟨3, by omega, rfl, ?_⟩, by simp [intOf]; omega⟩
        rw [e, HN.out]
      · go_wp2_with fail
        have e := i64_or D s[3].toNat 24 (by simpa using hb) (by omega)
        rw [show ((2 ^ 24 * s[3].toNat : Nat) : Int) = (s[3].toNat : Int) * 16777216 by simp; omega] at e
        refine ⟨⟨4, by omega, rfl, ?_⟩, by simp [intOf]; omega⟩
        rw [e, HN.out]
    · obtain rfl : k = s.size := by omega
      go_wp2_with fail
      go_ret
      exact ⟨ret_int (by rw [List.take_of_length_le (by rw [len_data]; exact Nat.le_refl _)]), rfl⟩
theorem or_any (a : Option Addr) (B : Nat) (x y : Int) (w : World) (hr : Rd w B a [.int .i64 x, .int .i64 y]) :
    Calls Try.prog 31 #[.slice a 2 2] w fun e w' => e = .returned (.int .i64 (if x = 0 then y else x)) ∧ w = w' := by
  obtain ⟨b, off, rfl, _, hc0⟩ := hr 0 _ rfl
  obtain ⟨b', off', e, _, hc1⟩ := hr 1 _ rfl
  injection e with e
  injection e with e1 e2
  subst e1 e2
  clear hr
  simp only [Nat.add_zero] at hc0
  go_enter Try.func31, Try.ntmps31
  go_wp2_with fail
  go_loop [8] (fun iv => ∃ k : Nat, k ≤ 2 ∧ iv = .int .i64 k ∧ (0 < k → x = 0) ∧ (1 < k → y = 0)) (fun iv => 2 - (intOf iv).toNat)
  case atStart => exact ⟨0, by omega, rfl, by omega, by omega⟩
  case round =>
    obtain ⟨k, hk, rfl, hx, hy⟩ := hrel
    rcases (show k = 0 ∨ k = 1 ∨ k = 2 by omega) with rfl | rfl | rfl
    · by_cases h0 : x = 0
      · have hd : decide (x = 0) = true := by simpa using h0
        go_wp2_with fail
        go_round
        case rel => exact ⟨1, by omega, by go_num, fun _ => h0, by omega⟩
        case measure => simp [intOf]
      · have hd : decide (x = 0) = false := by simpa using h0
        go_wp2_with fail
        go_ret
        exact ⟨ret_int (by first | rfl | rw [if_neg h0]), rfl⟩
    · have h0 := hx (by omega)
      clear hx hy
      by_cases h1 : y = 0
      · have hd : decide (y = 0) = true := by simpa using h1
        go_wp2_with fail
        go_round
        case rel => exact ⟨2, by omega, by go_num, fun _ => h0, fun _ => h1⟩
        case measure => simp [intOf]
      · have hd : decide (y = 0) = false := by simpa using h1
        go_wp2_with fail
        go_ret
        exact ⟨ret_int (by first | rfl | rw [if_pos h0]), rfl⟩
    · have h0 := hx (by omega)
      have h1 := hy (by omega)
      clear hx hy
      go_wp2_with fail
      go_ret
      exact ⟨ret_int (by first | rfl | rw [if_pos h0, h1]), rfl⟩
theorem newer_val (e1 c1 e2 c2 : Int) : decide (0 < (if cmpB e1 e2 = 0 then cmpB c1 c2 else cmpB e1 e2)) = newerB e1 c1 e2 c2 := by
  unfold cmpB newerB
  by_cases h1 : e1 < e2
  · simp [h1]; omega
  · by_cases h2 : e2 < e1
    · simp [h1, h2]
    · obtain rfl : e1 = e2 := by omega
      by_cases h3 : c1 < c2
      · simp [h3]; omega
      · by_cases h4 : c2 < c1
        · simp [h3, h4]
        · simp [h3, h4]
theorem snewer_any (e1 c1 e2 c2 : Int) (w : World) :
    Calls Try.prog 18 #[.agg #[.int .i64 e1, .int .i64 c1], .agg #[.int .i64 e2, .int .i64 c2]] w fun x w' => x = .returned (.bool (newerB e1 c1 e2 c2)) ∧ Below w.heap.size w w' := by
  obtain ⟨V, hV⟩ : ∃ V, (if cmpB e1 e2 = 0 then cmpB c1 c2 else cmpB e1 e2) = V := ⟨_, rfl⟩
  have HV := Lib.hid hV
  rw [← newer_val, hV]
  clear hV
  go_enter Try.func18, Try.ntmps18
  go_wp2_with fail
  go_region_held3 (fun w' => w'.cell? ⟨w.heap.size, 0, none⟩ = some (.int .i64 e1) ∧ w'.cell? ⟨w.heap.size, 1, none⟩ = some (.int .i64 c1) ∧ w'.cell? ⟨w.heap.size + 1, 0, none⟩ = some (.int .i64 e2) ∧ w'.cell? ⟨w.heap.size + 1, 1, none⟩ = some (.int .i64 c2)) (first | exact HS | (refine ⟨?_, ?_, ?_, ?_⟩ <;> simp [go_sem])) (first | (go_at_call 32; ((with_reducible refine (cmp_any _ _ _).mono ?_)); rintro e w1 ⟨rfl, rfl⟩) | (go_at_call 31; refine (or_any _ (w.heap.size + 1 + 1 + 1) _ _ _ (Rd.row (Row.drew (Row.made _ _ (by simp))) (by omega) fun j u hu => by rw [← hu, ← Array.getElem?_toList])).mono ?_; rintro e w1 ⟨rfl, rfl⟩; rw [HV.out]))
  go_wp2_with fail
  go_ret
  exact ⟨rfl, below_drewN ((((Below.refl _ _).alloc (Nat.le_refl _) _).alloc (by simp) _).alloc (by simp; omega) _) 1⟩
end Go.Proofs.Ytdkkoogcaininaa
