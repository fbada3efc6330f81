/- Fields: quotients and powers, the program's and the reference's. -/
import Derived.Test.YtdmcdgpigpekhaaDoorG7
namespace Go.Proofs.YtdmcdgpigpekhaaDoor
set_option linter.unusedSimpArgs false
set_option linter.unusedVariables false
open Go.RowKit Go.Lib

set_option maxRecDepth 100000 in
theorem fdiv_any (m a b : Int) (w : World) (ht : Tab w) :
    Calls Tryd.prog 19 #[.int .i64 m, .int .i64 a, .int .i64 b] w fun e w' => e = .returned (pairV (divX m a b) (divE m a b)) ∧ Below w.heap.size w w' := by
  have HT := Lib.hid ht
  clear ht
  cases h : allB m [a, b] with
  | false =>
    have HV := Lib.hid (show pairV (divX m a b) (divE m a b) = pairV 0 1 by rw [divX, divE, h]; rfl)
    have H := Lib.hid h
    rw [HV.out]
    clear h
    go_enter Tryd.func19, Tryd.ntmps19
    go_wp2_with fail
    refine (all_any m _ 2 2 [a, b] _ (HT.out.next ((Below.refl _ w).alloc (Nat.le_refl _) _)) rfl (by omega) (rd_two w 3 a b)).mono ?_
    rw [H.out]
    rintro e w1 ⟨rfl, hb⟩
    have HB := Lib.hid (below_call ((Below.refl _ w).alloc (Nat.le_refl _) _) hb)
    clear hb
    go_wp2
    go_ret2
    exact ⟨rfl, HB.out⟩
  | true =>
    have H := Lib.hid h
    obtain ⟨k, x, y, hk, rfl, rfl, rfl, hx, hy⟩ := two_get h
    by_cases h0 : y = 0
    · subst h0
      have HV := Lib.hid (show pairV (divX (k : Int) (x : Int) ((0 : Nat) : Int)) (divE (k : Int) (x : Int) ((0 : Nat) : Int)) = pairV 0 12 by rw [divX, divE, h]; rfl)
      rw [HV.out]
      clear h
      go_enter Tryd.func19, Tryd.ntmps19
      go_wp2_with fail
      refine (all_any (k : Int) _ 2 2 [(x : Int), ((0 : Nat) : Int)] _ (HT.out.next ((Below.refl _ w).alloc (Nat.le_refl _) _)) rfl (by omega) (rd_two w 3 (x : Int) ((0 : Nat) : Int))).mono ?_
      rw [H.out]
      rintro e w1 ⟨rfl, hb⟩
      have HB := Lib.hid (below_call ((Below.refl _ w).alloc (Nat.le_refl _) _) hb)
      clear hb
      go_wp2
      go_ret2
      exact ⟨rfl, HB.out⟩
    · have HV := Lib.hid (show pairV (divX (k : Int) (x : Int) (y : Int)) (divE (k : Int) (x : Int) (y : Int)) = pairV (Fld.mul k x (Fld.inv k y) : Int) 0 by
        rw [divX, divE, h, if_pos ⟨rfl, by omega⟩, if_pos rfl, if_neg (by omega)]; rfl)
      rw [HV.out]
      have HC := Lib.hid (fun wn (ht : Tab wn) => inverse_any k y hk hy h0 wn ht)
      have HP := Lib.hid (fun wn (ht : Tab wn) => product_any k x (Fld.inv k y) hk hx (Fld.inv_lt hk hy) wn ht)
      have hb0 : ((y : Int) == 0) = false := by rw [beq_eq_false_iff_ne]; omega
      clear h h0 hk hx hy
      go_enter Tryd.func19, Tryd.ntmps19
      go_wp2_with fail
      refine (all_any (k : Int) _ 2 2 [(x : Int), (y : Int)] _ (HT.out.next ((Below.refl _ w).alloc (Nat.le_refl _) _)) rfl (by omega) (rd_two w 3 (x : Int) (y : Int))).mono ?_
      rw [H.out]
      rintro e w1 ⟨rfl, hb⟩
      have HB := Lib.hid (below_call ((Below.refl _ w).alloc (Nat.le_refl _) _) hb)
      clear hb
      go_wp2_with fail
      refine (HC.out _ (HT.out.next HB.out)).mono ?_
      rintro e w2 ⟨rfl, hb⟩
      have HB2 := Lib.hid (below_call HB.out hb)
      clear hb
      go_wp2_with fail
      refine (HP.out _ (HT.out.next HB2.out)).mono ?_
      rintro e w3 ⟨rfl, hb⟩
      have HB3 := Lib.hid (below_call HB2.out hb)
      clear hb
      go_wp2
      go_ret2
      exact ⟨rfl, HB3.out⟩
set_option maxRecDepth 100000 in
theorem rdiv_any (m a b : Int) (w : World) :
    Calls Tryd.prog 25 #[.int .i64 m, .int .i64 a, .int .i64 b] w fun e w' => e = .returned (pairV (divX m a b) (divE m a b)) ∧ w' = w := by
  cases h : allB m [a, b] with
  | false =>
    have HV := Lib.hid (show pairV (divX m a b) (divE m a b) = pairV 0 1 by rw [divX, divE, h]; rfl)
    rw [HV.out]
    rw [allB_two_iff] at h
    cases h1 : allB m [a]
    all_goals
      have H1 := Lib.hid h1
      try (rw [h1, Bool.true_and] at h)
      cases h2 : allB m [b]
      all_goals first | (exfalso; rw [h2] at h; cases h; done) | skip
      all_goals
        have H2 := Lib.hid h2
        try clear h
        try clear h1
        try clear h2
        go_enter Tryd.func25, Tryd.ntmps25
        go_wp2_with fail
        refine (rvalid_any m a _).mono ?_
        rw [H1.out]
        rintro e w1 ⟨rfl, rfl⟩
        go_wp2_with fail
        refine (rvalid_any m b _).mono ?_
        rw [H2.out]
        rintro e w2 ⟨rfl, rfl⟩
        go_wp2
        go_ret2
        exact ⟨rfl, rfl⟩
  | true =>
    obtain ⟨k, x, y, hk, rfl, rfl, rfl, hx, hy⟩ := two_get h
    have H1 := Lib.hid (allB_one hk hx)
    have H2 := Lib.hid (allB_one hk hy)
    by_cases h0 : y = 0
    · subst h0
      have HV := Lib.hid (show pairV (divX (k : Int) (x : Int) ((0 : Nat) : Int)) (divE (k : Int) (x : Int) ((0 : Nat) : Int)) = pairV 0 12 by rw [divX, divE, h]; rfl)
      have HI := Lib.hid (show pairV (invX (k : Int) ((0 : Nat) : Int)) (invE (k : Int) ((0 : Nat) : Int)) = pairV 0 12 by rw [invX, invE, H2.out]; rfl)
      rw [HV.out]
      clear h
      go_enter Tryd.func25, Tryd.ntmps25
      go_wp2_with fail
      refine (rvalid_any _ (x : Int) _).mono ?_
      rw [H1.out]
      rintro e w1 ⟨rfl, rfl⟩
      go_wp2_with fail
      refine (rvalid_any _ ((0 : Nat) : Int) _).mono ?_
      rw [H2.out]
      rintro e w1 ⟨rfl, rfl⟩
      go_wp2_with fail
      refine (rinv_any _ ((0 : Nat) : Int) _).mono ?_
      rw [HI.out, pairV]
      rintro e w1 ⟨rfl, rfl⟩
      go_wp2
      go_ret2
      exact ⟨rfl, rfl⟩
    · have HV := Lib.hid (show pairV (divX (k : Int) (x : Int) (y : Int)) (divE (k : Int) (x : Int) (y : Int)) = pairV (Fld.mul k x (Fld.inv k y) : Int) 0 by
        rw [divX, divE, h, if_pos ⟨rfl, by omega⟩, if_pos rfl, if_neg (by omega)]; rfl)
      have HI := Lib.hid (show pairV (invX (k : Int) (y : Int)) (invE (k : Int) (y : Int)) = pairV (Fld.inv k y : Int) 0 by
        rw [invX, invE, H2.out, if_pos ⟨rfl, by omega⟩, if_pos rfl, if_neg (by omega)]; rfl)
      rw [HV.out]
      have HP := Lib.hid (fun wn => times_any k x (Fld.inv k y) hk hx (Fld.inv_lt hk hy) wn)
      clear h h0 hk hx hy
      go_enter Tryd.func25, Tryd.ntmps25
      go_wp2_with fail
      refine (rvalid_any _ (x : Int) _).mono ?_
      rw [H1.out]
      rintro e w1 ⟨rfl, rfl⟩
      go_wp2_with fail
      refine (rvalid_any _ (y : Int) _).mono ?_
      rw [H2.out]
      rintro e w1 ⟨rfl, rfl⟩
      go_wp2_with fail
      refine (rinv_any _ (y : Int) _).mono ?_
      rw [HI.out, pairV]
      rintro e w1 ⟨rfl, rfl⟩
      go_wp2_with fail
      refine (HP.out _).mono ?_
      rintro e w1 ⟨rfl, rfl⟩
      go_wp2
      go_ret2
      exact ⟨rfl, rfl⟩

/-! ### powers -/
/-- the exponent, brought into the range from 0 on -/
def expo (q n : Int) : Int := (n.tmod q + q).tmod q
def powX (m a n : Int) : Int := if allB m [a] = true then (if a = 0 then (if n = 0 then 1 else 0) else (Fld.pw m.toNat a.toNat (expo (2 ^ m.toNat - 1) n).toNat : Int)) else 0
def powE (m a n : Int) : Int := if allB m [a] = true then (if a = 0 ∧ n < 0 then 12 else 0) else 1
theorem expo_facts {q : Int} (hq : 0 < q) (n : Int) : -q < n.tmod q ∧ n.tmod q < q ∧ 0 ≤ expo q n ∧ expo q n < q := by
  have h1 := Int.lt_tmod_of_pos n hq
  have h2 := Int.tmod_lt_of_pos n hq
  have h3 : 0 ≤ n.tmod q + q := by omega
  refine ⟨h1, h2, ?_, ?_⟩
  · unfold expo; rw [Int.tmod_eq_emod_of_nonneg h3]; exact Int.emod_nonneg _ (by omega)
  · unfold expo; exact Int.tmod_lt_of_pos _ hq
theorem low_nat {N : Nat} (h : N < 9223372036854775808) : (bits .and .i64 (N : Int) 1 != 0) = decide (N % 2 = 1) := by
  rw [i64_and1 _ h, Bool.eq_iff_iff, bne_iff_ne, decide_eq_true_eq]; omega
set_option maxRecDepth 100000 in
set_option maxHeartbeats 1600000 in
theorem fpow_any (m a n : Int) (w : World) (ht : Tab w) (hn1 : -9223372036854775808 ≤ n) (hn2 : n ≤ 9223372036854775807) :
    Calls Tryd.prog 20 #[.int .i64 m, .int .i64 a, .int .i64 n] w fun e w' => e = .returned (pairV (powX m a n) (powE m a n)) ∧ Below w.heap.size w w' := by
  have HT := Lib.hid ht
  clear ht
  cases h : allB m [a] with
  | false =>
    have HV := Lib.hid (show pairV (powX m a n) (powE m a n) = pairV 0 1 by rw [powX, powE, h]; rfl)
    have H := Lib.hid h
    rw [HV.out]
    clear h
    go_enter Tryd.func20, Tryd.ntmps20
    go_wp2_with fail
    refine (all_any m _ 1 1 [a] _ (HT.out.next ((Below.refl _ w).alloc (Nat.le_refl _) _)) rfl (by omega) ((Rd.one w 3 (.int .i64 a)).more (by simp))).mono ?_
    rw [H.out]
    rintro e w1 ⟨rfl, hb⟩
    have HB := Lib.hid (below_call ((Below.refl _ w).alloc (Nat.le_refl _) _) hb)
    clear hb
    go_wp2
    go_ret2
    exact ⟨rfl, HB.out⟩
  | true =>
    have H := Lib.hid h
    obtain ⟨k, x, hk, rfl, rfl, hx⟩ := one_get h
    by_cases hz : x = 0 ∧ n ≠ 0
    · obtain ⟨rfl, hn0⟩ := hz
      by_cases hneg : n < 0
      · have HV := Lib.hid (show pairV (powX (k : Int) ((0 : Nat) : Int) n) (powE (k : Int) ((0 : Nat) : Int) n) = pairV 0 12 by rw [powX, powE, h]; simp [hn0, hneg])
        rw [HV.out]
        clear h hn0
        go_enter Tryd.func20, Tryd.ntmps20
        go_wp2_with fail
        refine (all_any (k : Int) _ 1 1 [((0 : Nat) : Int)] _ (HT.out.next ((Below.refl _ w).alloc (Nat.le_refl _) _)) rfl (by omega) ((Rd.one w 3 (.int .i64 ((0 : Nat) : Int))).more (by simp))).mono ?_
        rw [H.out]
        rintro e w1 ⟨rfl, hb⟩
        have HB := Lib.hid (below_call ((Below.refl _ w).alloc (Nat.le_refl _) _) hb)
        clear hb
        go_wp2
        go_ret2
        exact ⟨rfl, HB.out⟩
      · have HV := Lib.hid (show pairV (powX (k : Int) ((0 : Nat) : Int) n) (powE (k : Int) ((0 : Nat) : Int) n) = pairV 0 0 by rw [powX, powE, h]; simp [hn0, hneg])
        have hpos : 0 < n := by omega
        rw [HV.out]
        clear h hn0
        go_enter Tryd.func20, Tryd.ntmps20
        go_wp2_with fail
        refine (all_any (k : Int) _ 1 1 [((0 : Nat) : Int)] _ (HT.out.next ((Below.refl _ w).alloc (Nat.le_refl _) _)) rfl (by omega) ((Rd.one w 3 (.int .i64 ((0 : Nat) : Int))).more (by simp))).mono ?_
        rw [H.out]
        rintro e w1 ⟨rfl, hb⟩
        have HB := Lib.hid (below_call ((Below.refl _ w).alloc (Nat.le_refl _) _) hb)
        clear hb
        go_wp2
        go_ret2
        exact ⟨rfl, HB.out⟩
    · have hw := wrap_pow hk
      have hp : (0 : Int) < 2 ^ k - 1 ∧ (2 : Int) ^ k ≤ 65536 := by rcases hk with rfl | rfl <;> decide
      obtain ⟨p1, p2⟩ := hp
      have hm16 := m_le hk
      obtain ⟨f1, f2, f3, f4⟩ := expo_facts p1 n
      have HV := Lib.hid (show pairV (powX (k : Int) (x : Int) n) (powE (k : Int) (x : Int) n) = pairV (Fld.pw k x (expo (2 ^ k - 1) n).toNat : Int) 0 by
        rw [powX, powE, h, if_pos rfl, if_pos rfl]
        by_cases e : x = 0
        · have hn0 : n = 0 := by omega
          subst e; subst hn0
          have : expo (2 ^ k - 1) 0 = 0 := by rcases hk with rfl | rfl <;> decide
          rw [this]; simp; rfl
        · rw [if_neg (by omega), if_neg (by omega)]; rfl)
      rw [HV.out]
      have HK := Lib.hid hk
      have HX := Lib.hid hx
      obtain ⟨Q, hQ⟩ : ∃ Q : Int, (2 : Int) ^ k - 1 = Q := ⟨_, rfl⟩
      rw [hQ] at p1 f1 f2 f3 f4
      rw [hQ]
      have hQ2 : Q ≤ 65535 := by omega
      obtain ⟨T, hT⟩ : ∃ T : Int, n.tmod Q = T := ⟨_, rfl⟩
      have hexp : expo Q n = (T + Q).tmod Q := by rw [expo, hT]
      rw [hT] at f1 f2
      obtain ⟨N0, hN0⟩ : ∃ N0 : Nat, expo Q n = (N0 : Int) := ⟨(expo Q n).toNat, by omega⟩
      rw [hN0] at f3 f4 ⊢
      have hE : (T + Q).tmod Q = (N0 : Int) := hexp.symm.trans hN0
      have hE2 : (T + Q) % Q = (N0 : Int) := by rw [← hE, Int.tmod_eq_emod_of_nonneg (by omega)]
      have hN65 : N0 < 65535 := by omega
      have hcase : ((((x : Int) == 0) = false)) ∨ (x = 0 ∧ n = 0) := by
        by_cases e : x = 0
        · exact .inr ⟨e, by omega⟩
        · exact .inl (by rw [beq_eq_false_iff_ne]; omega)
      clear h hk hx hN0 hexp hz HV hE
      rw [Int.toNat_natCast]
      rcases hcase with hb0 | ⟨rfl, rfl⟩
      · go_enter Tryd.func20, Tryd.ntmps20
        go_wp2_with fail
        refine (all_any (k : Int) _ 1 1 [(x : Int)] _ (HT.out.next ((Below.refl _ w).alloc (Nat.le_refl _) _)) rfl (by omega) ((Rd.one w 3 (.int .i64 (x : Int))).more (by simp))).mono ?_
        rw [H.out]
        rintro e w1 ⟨rfl, hb⟩
        have HB := Lib.hid (below_call ((Below.refl _ w).alloc (Nat.le_refl _) _) hb)
        clear hb
        go_wp2_with fail
        rw [hE2]
        go_loopw [1, 2, 9] (fun x2 y o wr => Below w.heap.size w wr ∧ ∃ A N O : Nat, x2 = .int .i64 A ∧ y = .int .i64 N ∧ o = .int .i64 O ∧ A < 2 ^ k ∧ N < 65536 ∧ O < 2 ^ k ∧ Fld.mul k O (Fld.pw k A N) = Fld.pw k x N0) (fun _ y _ _ => (intOf y).toNat)
        case atStart => exact ⟨HB.out, x, N0, 1, rfl, rfl, rfl, HX.out, by omega, Fld.one_lt HK.out, Fld.one_mul HK.out (Fld.pw_lt HK.out HX.out _)⟩
        case round =>
          obtain ⟨hbel, A, N, O, rfl, rfl, rfl, hA, hN, hO, hinv⟩ := hrel
          have HB2 := Lib.hid hbel
          have HI := Lib.hid hinv
          have HA2 := Lib.hid hA
          have HO2 := Lib.hid hO
          clear hbel hinv hA hO
          by_cases h0 : N = 0
          · have HF := Lib.hid (show O = Fld.pw k x N0 by rw [← HI.out, h0, Fld.pw, Fld.mul_one HK.out])
            have hd : decide (0 < N) = false := by simp; omega
            clear h0
            go_wp2
            go_ret2
            exact ⟨by rw [← HF.out]; rfl, HB2.out⟩
          · have hd : decide (0 < N) = true := by simp; omega
            have HR := Lib.hid (pow_round HK.out HA2.out HO2.out N)
            have HNN := Lib.hid (show N / 2 < N by omega)
            clear h0
            have hlow := low_nat (N := N) (by omega)
            by_cases h1 : N % 2 = 1
            · rw [decide_eq_true h1] at hlow
              have H1 := Lib.hid h1
              clear h1
              go_wp2_with fail
              refine (product_any k O A HK.out HO2.out HA2.out _ (HT.out.next HB2.out)).mono ?_
              rintro e w2 ⟨rfl, hb⟩
              have HB3 := Lib.hid (below_call HB2.out hb)
              clear hb
              go_wp2_with fail
              refine (product_any k A A HK.out HA2.out HA2.out _ (HT.out.next HB3.out)).mono ?_
              rintro e w3 ⟨rfl, hb⟩
              have HB4 := Lib.hid (below_call HB3.out hb)
              clear hb
              go_wp2_with fail
              go_roundw
              case rel => exact ⟨HB4.out, Fld.mul k A A, N / 2, Fld.mul k O A, rfl, rfl, rfl, Fld.mul_lt HK.out _ HA2.out, by omega, Fld.mul_lt HK.out _ HO2.out, by have := HR.out; rw [if_pos H1.out] at this; rw [this]; exact HI.out⟩
              case measure => exact HNN.out
            · rw [decide_eq_false h1] at hlow
              have H1 := Lib.hid h1
              clear h1
              go_wp2_with fail
              refine (product_any k A A HK.out HA2.out HA2.out _ (HT.out.next HB2.out)).mono ?_
              rintro e w3 ⟨rfl, hb⟩
              have HB4 := Lib.hid (below_call HB2.out hb)
              clear hb
              go_wp2_with fail
              go_roundw
              case rel => exact ⟨HB4.out, Fld.mul k A A, N / 2, O, rfl, rfl, rfl, Fld.mul_lt HK.out _ HA2.out, by omega, HO2.out, by have := HR.out; rw [if_neg H1.out] at this; rw [this]; exact HI.out⟩
              case measure => exact HNN.out
      · have hT0 : T = 0 := by rw [← hT]; simp
        subst hT0
        have hN00 : N0 = 0 := by rw [Int.zero_add, Int.emod_self] at hE2; omega
        subst hN00
        clear hE2 hT
        go_enter Tryd.func20, Tryd.ntmps20
        go_wp2_with fail
        refine (all_any (k : Int) _ 1 1 [(((0 : Nat) : Int) : Int)] _ (HT.out.next ((Below.refl _ w).alloc (Nat.le_refl _) _)) rfl (by omega) ((Rd.one w 3 (.int .i64 (((0 : Nat) : Int) : Int))).more (by simp))).mono ?_
        rw [H.out]
        rintro e w1 ⟨rfl, hb⟩
        have HB := Lib.hid (below_call ((Below.refl _ w).alloc (Nat.le_refl _) _) hb)
        clear hb
        go_wp2_with fail
        go_loopw [1, 2, 9] (fun x2 y o wr => Below w.heap.size w wr ∧ ∃ A N O : Nat, x2 = .int .i64 A ∧ y = .int .i64 N ∧ o = .int .i64 O ∧ A < 2 ^ k ∧ N < 65536 ∧ O < 2 ^ k ∧ Fld.mul k O (Fld.pw k A N) = Fld.pw k 0 0) (fun _ y _ _ => (intOf y).toNat)
        case atStart => exact ⟨HB.out, 0, 0, 1, rfl, rfl, rfl, HX.out, by omega, Fld.one_lt HK.out, Fld.one_mul HK.out (Fld.pw_lt HK.out HX.out _)⟩
        case round =>
          obtain ⟨hbel, A, N, O, rfl, rfl, rfl, hA, hN, hO, hinv⟩ := hrel
          have HB2 := Lib.hid hbel
          have HI := Lib.hid hinv
          have HA2 := Lib.hid hA
          have HO2 := Lib.hid hO
          clear hbel hinv hA hO
          by_cases h0 : N = 0
          · have HF := Lib.hid (show O = Fld.pw k 0 0 by rw [← HI.out, h0, Fld.pw, Fld.mul_one HK.out])
            have hd : decide (0 < N) = false := by simp; omega
            clear h0
            go_wp2
            go_ret2
            exact ⟨by rw [← HF.out]; rfl, HB2.out⟩
          · have hd : decide (0 < N) = true := by simp; omega
            have HR := Lib.hid (pow_round HK.out HA2.out HO2.out N)
            have HNN := Lib.hid (show N / 2 < N by omega)
            clear h0
            have hlow := low_nat (N := N) (by omega)
            by_cases h1 : N % 2 = 1
            · rw [decide_eq_true h1] at hlow
              have H1 := Lib.hid h1
              clear h1
              go_wp2_with fail
              refine (product_any k O A HK.out HO2.out HA2.out _ (HT.out.next HB2.out)).mono ?_
              rintro e w2 ⟨rfl, hb⟩
              have HB3 := Lib.hid (below_call HB2.out hb)
              clear hb
              go_wp2_with fail
              refine (product_any k A A HK.out HA2.out HA2.out _ (HT.out.next HB3.out)).mono ?_
              rintro e w3 ⟨rfl, hb⟩
              have HB4 := Lib.hid (below_call HB3.out hb)
              clear hb
              go_wp2_with fail
              go_roundw
              case rel => exact ⟨HB4.out, Fld.mul k A A, N / 2, Fld.mul k O A, rfl, rfl, rfl, Fld.mul_lt HK.out _ HA2.out, by omega, Fld.mul_lt HK.out _ HO2.out, by have := HR.out; rw [if_pos H1.out] at this; rw [this]; exact HI.out⟩
              case measure => exact HNN.out
            · rw [decide_eq_false h1] at hlow
              have H1 := Lib.hid h1
              clear h1
              go_wp2_with fail
              refine (product_any k A A HK.out HA2.out HA2.out _ (HT.out.next HB2.out)).mono ?_
              rintro e w3 ⟨rfl, hb⟩
              have HB4 := Lib.hid (below_call HB2.out hb)
              clear hb
              go_wp2_with fail
              go_roundw
              case rel => exact ⟨HB4.out, Fld.mul k A A, N / 2, O, rfl, rfl, rfl, Fld.mul_lt HK.out _ HA2.out, by omega, HO2.out, by have := HR.out; rw [if_neg H1.out] at this; rw [this]; exact HI.out⟩
              case measure => exact HNN.out
end Go.Proofs.YtdmcdgpigpekhaaDoor
