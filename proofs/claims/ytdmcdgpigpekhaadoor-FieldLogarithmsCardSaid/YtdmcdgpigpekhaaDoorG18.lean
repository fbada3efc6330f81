/- Fields: logarithms, the program's and the reference's. -/
import Derived.Test.YtdmcdgpigpekhaaDoorG9
namespace Go.Proofs.YtdmcdgpigpekhaaDoor
set_option linter.unusedSimpArgs false
set_option linter.unusedVariables false
open Go.RowKit Go.Lib

theorem E_zero (m : Nat) : Fld.E m 0 = 1 := rfl
set_option maxRecDepth 100000 in
set_option maxHeartbeats 1600000 in
theorem flog_at (m t a : Nat) (hm : Fld.IsM m) (htq : t < Fld.q m) (ha : Fld.E m t = a) (w : World) (ht : Tab w) :
    Calls Tryd.prog 29 #[.int .i64 (m : Int), .int .i64 (a : Int)] w fun e w' => e = .returned (pairV (t : Int) 0) ∧ Below w.heap.size w w' := by
  have HT := Lib.hid ht
  have HM := Lib.hid hm
  have hm16 := m_le hm
  have haE : a < 2 ^ m := by rw [← ha]; exact Fld.E_lt hm t
  have ha16 := pow_le hm haE
  have H := Lib.hid (allB_one hm haE)
  have ha0 : a ≠ 0 := by rw [← ha]; exact Fld.E_ne hm t
  have hb0 : ((a : Int) == 0) = false := by rw [beq_eq_false_iff_ne]; omega
  have HA := Lib.hid ha
  have HQ := Lib.hid htq
  have hq : t < 65535 := by have : Fld.q m ≤ 65535 := (by rcases hm with rfl | rfl <;> decide); omega
  obtain ⟨p, hp⟩ : ∃ p, Fld.pol m = p := ⟨_, rfl⟩
  have HP := Lib.hid hp
  have HV := Lib.hid (modv_pol hm)
  clear ht hm haE ha0 ha htq hp
  go_enter Tryd.func29, Tryd.ntmps29
  go_wp2_with fail
  refine (all_any (m : Int) _ 1 1 [(a : Int)] _ (HT.out.next ((Below.refl _ w).alloc (Nat.le_refl _) _)) rfl (by omega) ((Rd.one w 3 (.int .i64 (a : Int))).more (by simp))).mono ?_
  rw [H.out]
  rintro e w1 ⟨rfl, hb⟩
  have HB := Lib.hid (below_call ((Below.refl _ w).alloc (Nat.le_refl _) _) hb)
  clear hb
  go_wp2_with fail
  go_loopw [6, 7] (fun n x wr => ∃ N X : Nat, N ≤ t ∧ n = .int .i64 N ∧ x = .int .i64 X ∧ Fld.E m N = X ∧ Below w.heap.size w wr) (fun n _ _ => t - (intOf n).toNat)
  case atStart => exact ⟨0, 1, by omega, rfl, rfl, rfl, HB.out⟩
  case round =>
    obtain ⟨N, X, hN, rfl, rfl, hE, hbel⟩ := hrel
    have HB2 := Lib.hid hbel
    have HE := Lib.hid hE
    have hXm : X < 2 ^ m := by rw [← hE]; exact Fld.E_lt HM.out N
    have hX16 := pow_le HM.out hXm
    obtain ⟨s1, s2⟩ := sh_int HM.out hXm HP.out
    have hs : Fld.sh m X = Fld.E m (N + 1) := by rw [← hE, Fld.E_succ]
    rw [hs] at s1 s2
    obtain ⟨X2, hX2⟩ : ∃ X2, Fld.E m (N + 1) = X2 := ⟨_, rfl⟩
    rw [hX2] at s1 s2
    have HX2 := Lib.hid hX2
    have HS1 := Lib.hid s1
    have HS2 := Lib.hid s2
    clear hbel hE hXm s1 s2 hs hX2
    by_cases heq : N = t
    · have hx : X = a := by rw [← HE.out, heq, HA.out]
      have hbx : ((X : Int) != (a : Int)) = false := by rw [hx]; simp
      have hbx2 : (X != a) = false := by rw [hx]; simp
      have HN := Lib.hid heq
      clear hx heq
      go_wp2
      go_ret2
      exact ⟨by rw [← HN.out]; rfl, HB2.out⟩
    · have hx : X ≠ a := by
        rw [← HE.out, ← HA.out]
        intro e
        exact heq (Fld.E_inj_lt HM.out (Nat.lt_of_le_of_lt hN HQ.out) HQ.out e)
      have hbx : ((X : Int) != (a : Int)) = true := by rw [bne_iff_ne]; omega
      have hbx2 : (X != a) = true := by rw [bne_iff_ne]; exact hx
      have hlt : N < t := by omega
      clear hx heq
      cases h1 : ((X : Int) * 2 / 2 ^ m != 0)
      · go_wp2_with fail
        go_roundw
        case rel => exact ⟨N + 1, X2, by omega, by go_num, congrArg (Value.int .i64) (HS2.out h1), HX2.out, HB2.out⟩
        case measure => simp [intOf]; omega
      · go_wp2_with fail
        refine (modulus_any _ _ (HT.out.next HB2.out)).mono ?_
        rw [HV.out, HP.out]
        rintro e w2 ⟨rfl, hb⟩
        have HB3 := Lib.hid (below_call HB2.out hb)
        clear hb
        go_wp2_with fail
        go_roundw
        case rel => exact ⟨N + 1, X2, by omega, by go_num, congrArg (Value.int .i64) (HS1.out h1), HX2.out, HB3.out⟩
        case measure => simp [intOf]; omega
set_option maxRecDepth 100000 in
theorem flog_zero (m : Nat) (hm : Fld.IsM m) (w : World) (ht : Tab w) :
    Calls Tryd.prog 29 #[.int .i64 (m : Int), .int .i64 0] w fun e w' => e = .returned (pairV 0 12) ∧ Below w.heap.size w w' := by
  have HT := Lib.hid ht
  have H := Lib.hid (show allB (m : Int) [0] = true from allB_one hm (Nat.two_pow_pos m))
  clear ht hm
  go_enter Tryd.func29, Tryd.ntmps29
  go_wp2_with fail
  refine (all_any (m : Int) _ 1 1 [0] _ (HT.out.next ((Below.refl _ w).alloc (Nat.le_refl _) _)) rfl (by omega) ((Rd.one w 3 (.int .i64 0)).more (by simp))).mono ?_
  rw [H.out]
  rintro e w1 ⟨rfl, hb⟩
  have HB := Lib.hid (below_call ((Below.refl _ w).alloc (Nat.le_refl _) _) hb)
  clear hb
  go_wp2_with fail
  go_ret2
  exact ⟨rfl, HB.out⟩
set_option maxRecDepth 100000 in
theorem flog_bad (m : Nat) (a : Int) (h : allB (m : Int) [a] = false) (w : World) (ht : Tab w) :
    Calls Tryd.prog 29 #[.int .i64 (m : Int), .int .i64 a] w fun e w' => e = .returned (pairV 0 1) ∧ Below w.heap.size w w' := by
  have HT := Lib.hid ht
  have H := Lib.hid h
  clear ht h
  go_enter Tryd.func29, Tryd.ntmps29
  go_wp2_with fail
  refine (all_any (m : Int) _ 1 1 [a] _ (HT.out.next ((Below.refl _ w).alloc (Nat.le_refl _) _)) rfl (by omega) ((Rd.one w 3 (.int .i64 a)).more (by simp))).mono ?_
  rw [H.out]
  rintro e w1 ⟨rfl, hb⟩
  have HB := Lib.hid (below_call ((Below.refl _ w).alloc (Nat.le_refl _) _) hb)
  clear hb
  go_wp2_with fail
  go_ret2
  exact ⟨rfl, HB.out⟩
theorem times_two (m x : Nat) (hm : Fld.IsM m) (hx : x < 2 ^ m) (w : World) :
    Calls Tryd.prog 35 #[.int .i64 (m : Int), .int .i64 (x : Int), .int .i64 2] w fun e w' => e = .returned (.int .i64 (Fld.sh m x : Int)) ∧ w' = w := by
  have h := times_any m x 2 hm hx (by rcases hm with rfl | rfl <;> decide) w
  rw [show Fld.mul m x 2 = Fld.sh m x by
    rw [Fld.mul_comm hm hx (by rcases hm with rfl | rfl <;> decide), show (2 : Nat) = Fld.sh m 1 by rcases hm with rfl | rfl <;> decide, Fld.mul_sh, Fld.one_mul hm hx]] at h
  exact h
set_option maxRecDepth 100000 in
set_option maxHeartbeats 1600000 in
theorem rlog_at (m t a : Nat) (hm : Fld.IsM m) (htq : t < Fld.q m) (ha : Fld.E m t = a) (w : World) :
    Calls Tryd.prog 30 #[.int .i64 (m : Int), .int .i64 (a : Int)] w fun e w' => e = .returned (pairV (t : Int) 0) ∧ w' = w := by
  have HM := Lib.hid hm
  have hm16 := m_le hm
  have haE : a < 2 ^ m := by rw [← ha]; exact Fld.E_lt hm t
  have H := Lib.hid (allB_one hm haE)
  have HA := Lib.hid ha
  have HQ := Lib.hid htq
  have hw := wrap_pow hm
  obtain ⟨Q, hQ⟩ : ∃ Q : Int, (2 : Int) ^ m - 1 = Q := ⟨_, rfl⟩
  have hQt : (t : Int) < Q ∧ Q ≤ 65535 ∧ (0 : Int) < 2 ^ m ∧ (2 : Int) ^ m ≤ 65536 := by rw [← hQ]; rcases hm with rfl | rfl <;> (simp [Fld.q] at htq ⊢; omega)
  obtain ⟨q1, q2, q3, q4⟩ := hQt
  clear hm haE ha htq
  go_enter Tryd.func30, Tryd.ntmps30
  go_wp2_with fail
  refine (rvalid_any (m : Int) (a : Int) _).mono ?_
  rw [H.out]
  rintro e w1 ⟨rfl, rfl⟩
  go_wp2_with fail
  go_loopw [7, 8] (fun x n wr => wr = w1 ∧ ∃ N X : Nat, N ≤ t ∧ n = .int .i64 N ∧ x = .int .i64 X ∧ Fld.E m N = X) (fun _ n _ => t + 1 - (intOf n).toNat)
  case atStart => exact ⟨rfl, 0, 1, by omega, rfl, rfl, rfl⟩
  case round =>
    obtain ⟨rfl, N, X, hN, rfl, rfl, hE⟩ := hrel
    have HE := Lib.hid hE
    have HXm := Lib.hid (show X < 2 ^ m by rw [← hE]; exact Fld.E_lt HM.out N)
    have HS := Lib.hid (show Fld.sh m X = Fld.E m (N + 1) by rw [← hE, Fld.E_succ])
    clear hE
    have hNQ : (N : Int) < Q := by omega
    by_cases heq : N = t
    · have hx : X = a := by rw [← HE.out, heq, HA.out]
      have hbx : ((X : Int) == (a : Int)) = true := by rw [hx]; simp
      have hbx2 : (X == a) = true := by rw [hx]; simp
      have HN := Lib.hid heq
      clear hx heq
      go_wp2
      go_ret2
      exact ⟨by rw [← HN.out]; rfl, rfl⟩
    · have hx : X ≠ a := by
        rw [← HE.out, ← HA.out]
        intro e
        exact heq (Fld.E_inj_lt HM.out (Nat.lt_of_le_of_lt hN HQ.out) HQ.out e)
      have hbx : ((X : Int) == (a : Int)) = false := by rw [beq_eq_false_iff_ne]; omega
      have hbx2 : (X == a) = false := by rw [beq_eq_false_iff_ne]; exact hx
      have hlt : N < t := by omega
      clear hx heq
      go_wp2_with fail
      refine (times_two m X HM.out HXm.out _).mono ?_
      rw [HS.out]
      rintro e w2 ⟨rfl, rfl⟩
      go_wp2_with fail
      go_roundw
      case rel => exact ⟨trivial, N + 1, _, by omega, by go_num, rfl, rfl⟩
      case measure => simp [intOf]; omega
end Go.Proofs.YtdmcdgpigpekhaaDoor
