/- Fields: powers, inverses and quotients, the program's and the reference's. -/
import Derived.Test.YtaijjhddgecieaaDoorG6
namespace Go.Proofs.YtaijjhddgecieaaDoor
set_option linter.unusedSimpArgs false
set_option linter.unusedVariables false
open Go.RowKit Go.Lib

theorem pw_step {m A : Nat} (hm : Fld.IsM m) (hA : A < 2 ^ m) (N : Nat) : Fld.pw m A N = Fld.mul m (if N % 2 = 1 then A else 1) (Fld.pw m (Fld.mul m A A) (N / 2)) := by
  rw [Fld.pw_sq hm hA]
  by_cases h : N % 2 = 1
  · rw [if_pos h]
    have e : N = 2 * (N / 2) + 1 := by omega
    conv => lhs; rw [e]
    show Fld.mul m (Fld.pw m A (2 * (N / 2))) A = _
    exact Fld.mul_comm hm (Fld.pw_lt hm hA _) hA
  · rw [if_neg h, Fld.one_mul hm (Fld.pw_lt hm hA _)]
    congr 1; omega
/-- one round of square and multiply -/
theorem pow_round {m A O : Nat} (hm : Fld.IsM m) (hA : A < 2 ^ m) (hO : O < 2 ^ m) (N : Nat) :
    Fld.mul m (if N % 2 = 1 then Fld.mul m O A else O) (Fld.pw m (Fld.mul m A A) (N / 2)) = Fld.mul m O (Fld.pw m A N) := by
  rw [pw_step hm hA N]
  have hAA := Fld.mul_lt hm A hA
  have hp := Fld.pw_lt hm hAA (N / 2)
  split
  · rw [Fld.mul_assoc hm hO hA hp]
  · rw [Fld.one_mul hm hp]

set_option maxRecDepth 100000 in
theorem rpower_any (m a n : Nat) (hm : Fld.IsM m) (ha : a < 2 ^ m) (hn : n < 9223372036854775808) (w : World) :
    Calls Tryd.prog 58 #[.int .i64 (m : Int), .int .i64 (a : Int), .int .i64 (n : Int)] w fun e w' => e = .returned (.int .i64 (Fld.pw m a n : Int)) ∧ w' = w := by
  have HM := Lib.hid hm
  have HA := Lib.hid ha
  clear hm ha
  go_enter Tryd.func58, Tryd.ntmps58
  go_wp2_with fail
  go_loopw [1, 2, 7] (fun x y o wr => wr = w ∧ ∃ A N O : Nat, x = .int .i64 A ∧ y = .int .i64 N ∧ o = .int .i64 O ∧ A < 2 ^ m ∧ N < 9223372036854775808 ∧ O < 2 ^ m ∧ Fld.mul m O (Fld.pw m A N) = Fld.pw m a n) (fun _ y _ _ => (intOf y).toNat)
  case atStart => exact ⟨rfl, a, n, 1, rfl, rfl, rfl, HA.out, hn, Fld.one_lt HM.out, Fld.one_mul HM.out (Fld.pw_lt HM.out HA.out n)⟩
  case round =>
    obtain ⟨rfl, A, N, O, rfl, rfl, rfl, hA, hN, hO, hinv⟩ := hrel
    have HI := Lib.hid hinv
    have HA2 := Lib.hid hA
    have HO2 := Lib.hid hO
    clear hinv hA hO
    by_cases h0 : N = 0
    · have HF := Lib.hid (show O = Fld.pw m a n by rw [← HI.out, h0, Fld.pw, Fld.mul_one HM.out])
      have hd : decide (0 < N) = false := by simp; omega
      clear h0
      go_wp2
      go_ret
      exact ⟨ret_int (by rw [HF.out]), rfl⟩
    · have hd : decide (0 < N) = true := by simp; omega
      have HR := Lib.hid (pow_round HM.out HA2.out HO2.out N)
      have HNN := Lib.hid (show N / 2 < N by omega)
      clear h0
      by_cases h1 : N % 2 = 1
      · have hb : ((N : Int) % 2 == 1) = true := by rw [beq_iff_eq]; omega
        have H1 := Lib.hid h1
        clear h1
        go_wp2_with fail
        refine (times_any m O A HM.out HO2.out HA2.out _).mono ?_
        rintro e w1 ⟨rfl, rfl⟩
        go_wp2_with fail
        refine (times_any m A A HM.out HA2.out HA2.out _).mono ?_
        rintro e w2 ⟨rfl, rfl⟩
        go_wp2_with fail
        go_roundw
        case rel => exact ⟨trivial, Fld.mul m A A, N / 2, Fld.mul m O A, rfl, rfl, rfl, Fld.mul_lt HM.out _ HA2.out, by omega, Fld.mul_lt HM.out _ HO2.out, by have := HR.out; rw [if_pos H1.out] at this; rw [this]; exact HI.out⟩
        case measure => exact HNN.out
      · have hb : ((N : Int) % 2 == 1) = false := by rw [beq_eq_false_iff_ne]; omega
        have H1 := Lib.hid h1
        clear h1
        go_wp2_with fail
        refine (times_any m A A HM.out HA2.out HA2.out _).mono ?_
        rintro e w2 ⟨rfl, rfl⟩
        go_wp2_with fail
        go_roundw
        case rel => exact ⟨trivial, Fld.mul m A A, N / 2, O, rfl, rfl, rfl, Fld.mul_lt HM.out _ HA2.out, by omega, HO2.out, by have := HR.out; rw [if_neg H1.out] at this; rw [this]; exact HI.out⟩
        case measure => exact HNN.out

/-! ### one answer a function -/
def mulX (m a b : Int) : Int := if allB m [a, b] then (Fld.mul m.toNat a.toNat b.toNat : Int) else 0
def mulE (m a b : Int) : Int := if allB m [a, b] then 0 else 1
def addX (m a b : Int) : Int := if allB m [a, b] then ((a.toNat ^^^ b.toNat : Nat) : Int) else 0
def invX (m a : Int) : Int := if allB m [a] = true ∧ a ≠ 0 then (Fld.inv m.toNat a.toNat : Int) else 0
def invE (m a : Int) : Int := if allB m [a] = true then (if a = 0 then 12 else 0) else 1
def divX (m a b : Int) : Int := if allB m [a, b] = true ∧ b ≠ 0 then (Fld.mul m.toNat a.toNat (Fld.inv m.toNat b.toNat) : Int) else 0
def divE (m a b : Int) : Int := if allB m [a, b] = true then (if b = 0 then 12 else 0) else 1
theorem two_get {m a b : Int} (h : allB m [a, b] = true) : ∃ k x y : Nat, Fld.IsM k ∧ m = k ∧ a = x ∧ b = y ∧ x < 2 ^ k ∧ y < 2 ^ k := by
  obtain ⟨k, hk, rfl, hx⟩ := allB_get h
  obtain ⟨x, rfl, h1⟩ := hx a (by simp)
  obtain ⟨y, rfl, h2⟩ := hx b (by simp)
  exact ⟨k, x, y, hk, rfl, rfl, rfl, h1, h2⟩
theorem one_get {m a : Int} (h : allB m [a] = true) : ∃ k x : Nat, Fld.IsM k ∧ m = k ∧ a = x ∧ x < 2 ^ k := by
  obtain ⟨k, hk, rfl, hx⟩ := allB_get h
  obtain ⟨x, rfl, h1⟩ := hx a (by simp)
  exact ⟨k, x, hk, rfl, rfl, h1⟩
theorem fmul_any (m a b : Int) (w : World) (ht : Tab w) :
    Calls Tryd.prog 54 #[.int .i64 m, .int .i64 a, .int .i64 b] w fun e w' => e = .returned (pairV (mulX m a b) (mulE m a b)) ∧ Below w.heap.size w w' := by
  cases h : allB m [a, b] with
  | false => rw [mulX, mulE, h]; exact fmul_no m a b w ht h
  | true =>
    rw [mulX, mulE, h]
    obtain ⟨k, x, y, hk, rfl, rfl, rfl, h1, h2⟩ := two_get h
    exact fmul_yes k x y hk h1 h2 w ht
theorem rmul_any (m a b : Int) (w : World) :
    Calls Tryd.prog 53 #[.int .i64 m, .int .i64 a, .int .i64 b] w fun e w' => e = .returned (pairV (mulX m a b) (mulE m a b)) ∧ w' = w := by
  cases h : allB m [a, b] with
  | false => rw [mulX, mulE, h]; exact rmul_no m a b w h
  | true =>
    rw [mulX, mulE, h]
    obtain ⟨k, x, y, hk, rfl, rfl, rfl, h1, h2⟩ := two_get h
    exact rmul_yes k x y hk h1 h2 w

set_option maxRecDepth 100000 in
theorem finv_any (m a : Int) (w : World) (ht : Tab w) :
    Calls Tryd.prog 49 #[.int .i64 m, .int .i64 a] w fun e w' => e = .returned (pairV (invX m a) (invE m a)) ∧ Below w.heap.size w w' := by
  have HT := Lib.hid ht
  clear ht
  cases h : allB m [a] with
  | false =>
    have HV := Lib.hid (show pairV (invX m a) (invE m a) = pairV 0 1 by rw [invX, invE, h]; rfl)
    have H := Lib.hid h
    rw [HV.out]
    clear h
    go_enter Tryd.func49, Tryd.ntmps49
    go_wp2_with fail
    refine (all_any m _ 1 1 [a] _ (HT.out.next ((Below.refl _ w).alloc (Nat.le_refl _) _)) rfl (by omega) ((Rd.one w 3 (.int .i64 a)).more (by simp))).mono ?_
    rw [H.out]
    rintro e w1 ⟨rfl, hb⟩
    have HB := Lib.hid (below_call ((Below.refl _ w).alloc (Nat.le_refl _) _) hb)
    clear hb
    go_wp2
    go_ret2
    exact ⟨rfl, HB.out⟩
  | true =>
    have H := Lib.hid h
    obtain ⟨k, x, hk, rfl, rfl, hx⟩ := one_get h
    by_cases h0 : x = 0
    · subst h0
      have HV := Lib.hid (show pairV (invX (k : Int) ((0 : Nat) : Int)) (invE (k : Int) ((0 : Nat) : Int)) = pairV 0 12 by rw [invX, invE, h]; rfl)
      rw [HV.out]
      clear h
      go_enter Tryd.func49, Tryd.ntmps49
      go_wp2_with fail
      refine (all_any (k : Int) _ 1 1 [((0 : Nat) : Int)] _ (HT.out.next ((Below.refl _ w).alloc (Nat.le_refl _) _)) rfl (by omega) ((Rd.one w 3 (.int .i64 ((0 : Nat) : Int))).more (by simp))).mono ?_
      rw [H.out]
      rintro e w1 ⟨rfl, hb⟩
      have HB := Lib.hid (below_call ((Below.refl _ w).alloc (Nat.le_refl _) _) hb)
      clear hb
      go_wp2
      go_ret2
      exact ⟨rfl, HB.out⟩
    · have HV := Lib.hid (show pairV (invX (k : Int) (x : Int)) (invE (k : Int) (x : Int)) = pairV (Fld.inv k x : Int) 0 by
        rw [invX, invE, h, if_pos ⟨rfl, by omega⟩, if_pos rfl, if_neg (by omega)]; rfl)
      rw [HV.out]
      have HC := Lib.hid (fun wn (ht : Tab wn) => inverse_any k x hk hx h0 wn ht)
      have hb0 : ((x : Int) == 0) = false := by rw [beq_eq_false_iff_ne]; omega
      clear h h0 hk hx
      go_enter Tryd.func49, Tryd.ntmps49
      go_wp2_with fail
      refine (all_any (k : Int) _ 1 1 [(x : Int)] _ (HT.out.next ((Below.refl _ w).alloc (Nat.le_refl _) _)) rfl (by omega) ((Rd.one w 3 (.int .i64 (x : Int))).more (by simp))).mono ?_
      rw [H.out]
      rintro e w1 ⟨rfl, hb⟩
      have HB := Lib.hid (below_call ((Below.refl _ w).alloc (Nat.le_refl _) _) hb)
      clear hb
      go_wp2_with fail
      refine (HC.out _ (HT.out.next HB.out)).mono ?_
      rintro e w2 ⟨rfl, hb⟩
      have HB2 := Lib.hid (below_call HB.out hb)
      clear hb
      go_wp2
      go_ret2
      exact ⟨rfl, HB2.out⟩
theorem q_sub {m : Nat} (hm : Fld.IsM m) : ((2 : Int) ^ m - 2) = ((Fld.q m - 1 : Nat) : Int) ∧ Fld.q m - 1 < 65535 := by rcases hm with rfl | rfl <;> decide
set_option maxRecDepth 100000 in
theorem rinv_any (m a : Int) (w : World) :
    Calls Tryd.prog 51 #[.int .i64 m, .int .i64 a] w fun e w' => e = .returned (pairV (invX m a) (invE m a)) ∧ w' = w := by
  cases h : allB m [a] with
  | false =>
    have HV := Lib.hid (show pairV (invX m a) (invE m a) = pairV 0 1 by rw [invX, invE, h]; rfl)
    have H := Lib.hid h
    rw [HV.out]
    clear h
    go_enter Tryd.func51, Tryd.ntmps51
    go_wp2_with fail
    refine (rvalid_any m a _).mono ?_
    rw [H.out]
    rintro e w1 ⟨rfl, rfl⟩
    go_wp2
    go_ret2
    exact ⟨rfl, rfl⟩
  | true =>
    have H := Lib.hid h
    obtain ⟨k, x, hk, rfl, rfl, hx⟩ := one_get h
    by_cases h0 : x = 0
    · subst h0
      have HV := Lib.hid (show pairV (invX (k : Int) ((0 : Nat) : Int)) (invE (k : Int) ((0 : Nat) : Int)) = pairV 0 12 by rw [invX, invE, h]; rfl)
      rw [HV.out]
      clear h
      go_enter Tryd.func51, Tryd.ntmps51
      go_wp2_with fail
      refine (rvalid_any _ ((0 : Nat) : Int) _).mono ?_
      rw [H.out]
      rintro e w1 ⟨rfl, rfl⟩
      go_wp2
      go_ret2
      exact ⟨rfl, rfl⟩
    · have HV := Lib.hid (show pairV (invX (k : Int) (x : Int)) (invE (k : Int) (x : Int)) = pairV (Fld.pw k x (Fld.q k - 1) : Int) 0 by
        rw [invX, invE, h, if_pos ⟨rfl, by omega⟩, if_pos rfl, if_neg (by omega)]; rfl)
      rw [HV.out]
      have hk16 := m_le hk
      obtain ⟨q1, q2⟩ := q_sub hk
      have hw := wrap_pow hk
      have HC := Lib.hid (fun wn => rpower_any k x (Fld.q k - 1) hk hx (by omega) wn)
      have hb0 : ((x : Int) == 0) = false := by rw [beq_eq_false_iff_ne]; omega
      have hp : (0 : Int) < 2 ^ k ∧ (2 : Int) ^ k ≤ 65536 := by rcases hk with rfl | rfl <;> decide
      obtain ⟨p1, p2⟩ := hp
      have HQ := Lib.hid q1
      clear h h0 hk hx q1
      go_enter Tryd.func51, Tryd.ntmps51
      go_wp2_with fail
      refine (rvalid_any _ (x : Int) _).mono ?_
      rw [H.out]
      rintro e w1 ⟨rfl, rfl⟩
      go_wp2_with fail
      rw [HQ.out]
      refine (HC.out _).mono ?_
      rintro e w1 ⟨rfl, rfl⟩
      go_wp2
      go_ret2
      exact ⟨rfl, rfl⟩
end Go.Proofs.YtaijjhddgecieaaDoor
