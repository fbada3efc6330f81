/- Fields: sums and products, the program's and the reference's. -/
import Derived.Test.YtghinmlpkgcdiaaDoorG3
namespace Go.Proofs.YtghinmlpkgcdiaaDoor
set_option linter.unusedSimpArgs false
set_option linter.unusedVariables false
open Go.RowKit Go.Lib

/-- two results: a number and an error -/
def pairV (x e : Int) : Value := .tuple #[.int .i64 x, .int .i64 e]
theorem allB_two_iff (m a b : Int) : allB m [a, b] = (allB m [a] && allB m [b]) := by
  unfold allB
  cases okM m <;> simp

set_option maxRecDepth 100000 in
theorem fmul_no (m a b : Int) (w : World) (ht : Tab w) (h : allB m [a, b] = false) :
    Calls Tryd.prog 29 #[.int .i64 m, .int .i64 a, .int .i64 b] w fun e w' => e = .returned (pairV 0 1) ∧ Below w.heap.size w w' := by
  have HT := Lib.hid ht
  have H := Lib.hid h
  clear ht h
  go_enter Tryd.func29, Tryd.ntmps29
  go_wp2_with fail
  refine (all_any m _ 2 2 [a, b] _ (HT.out.next ((Below.refl _ w).alloc (Nat.le_refl _) _)) rfl (by omega) (rd_two w 3 a b)).mono ?_
  rw [H.out]
  rintro e w1 ⟨rfl, hb⟩
  have HB := Lib.hid (below_call ((Below.refl _ w).alloc (Nat.le_refl _) _) hb)
  clear hb
  go_wp2
  go_ret2
  exact ⟨rfl, HB.out⟩
set_option maxRecDepth 100000 in
theorem fmul_yes (m a b : Nat) (hm : Fld.IsM m) (ha : a < 2 ^ m) (hb : b < 2 ^ m) (w : World) (ht : Tab w) :
    Calls Tryd.prog 29 #[.int .i64 (m : Int), .int .i64 (a : Int), .int .i64 (b : Int)] w fun e w' => e = .returned (pairV (Fld.mul m a b) 0) ∧ Below w.heap.size w w' := by
  have HT := Lib.hid ht
  have H := Lib.hid (allB_two hm ha hb)
  have HM := Lib.hid hm
  have HA := Lib.hid ha
  have HBB := Lib.hid hb
  clear ht hm ha hb
  go_enter Tryd.func29, Tryd.ntmps29
  go_wp2_with fail
  refine (all_any m _ 2 2 [(a : Int), (b : Int)] _ (HT.out.next ((Below.refl _ w).alloc (Nat.le_refl _) _)) rfl (by omega) (rd_two w 3 a b)).mono ?_
  rw [H.out]
  rintro e w1 ⟨rfl, hb⟩
  have HB := Lib.hid (below_call ((Below.refl _ w).alloc (Nat.le_refl _) _) hb)
  clear hb
  go_wp2_with fail
  refine (product_any m a b HM.out HA.out HBB.out w1 (HT.out.next HB.out)).mono ?_
  rintro e w2 ⟨rfl, hb⟩
  have HB2 := Lib.hid (below_call HB.out hb)
  clear hb
  go_wp2
  go_ret2
  exact ⟨rfl, HB2.out⟩

/-! ### the reference -/
set_option maxRecDepth 100000 in
theorem rpoly_any (m : Int) (w : World) :
    Calls Tryd.prog 92 #[.int .i64 m] w fun e w' => e = .returned (.int .i64 (modv m)) ∧ w' = w := by
  by_cases h8 : m = 8
  · subst h8
    go_enter Tryd.func92, Tryd.ntmps92
    go_wp2
    go_ret
    exact ⟨rfl, rfl⟩
  · by_cases h16 : m = 16
    · subst h16
      go_enter Tryd.func92, Tryd.ntmps92
      go_wp2
      go_ret
      exact ⟨rfl, rfl⟩
    · have H := Lib.hid (show modv m = 0 by rw [modv, if_neg h8, if_neg h16])
      have b8 : (m == 8) = false := beq_eq_false_iff_ne.2 h8
      have b16 : (m == 16) = false := beq_eq_false_iff_ne.2 h16
      clear h8 h16
      go_enter Tryd.func92, Tryd.ntmps92
      go_wp2
      go_ret
      exact ⟨ret_int H.out.symm, rfl⟩
set_option maxRecDepth 100000 in
theorem rvalid_any (m a : Int) (w : World) :
    Calls Tryd.prog 79 #[.int .i64 m, .int .i64 a] w fun e w' => e = .returned (.bool (allB m [a])) ∧ w' = w := by
  by_cases hm : okM m = true
  · obtain ⟨k, hk, rfl⟩ := okM_iff.1 hm
    have HA : Hid (allB (k : Int) [a] = !(badE k a)) := Lib.hid (by rw [allB, hm]; simp)
    clear hm
    by_cases h0 : a < 0
    · have HBB := Lib.hid (show badE k a = true by unfold badE; rw [decide_eq_true h0]; rfl)
      rcases hk with rfl | rfl
      all_goals
        go_enter Tryd.func79, Tryd.ntmps79
        go_wp2_with fail
        refine (rpoly_any _ _).mono ?_
        simp only [show modv (8 : Int) = 285 from rfl, show modv (16 : Int) = 69643 from rfl]
        rintro e w1 ⟨rfl, rfl⟩
        go_wp2
        go_ret
        exact ⟨ret_bool (HA.out.trans (by rw [HBB.out]; rfl)).symm, rfl⟩
    · have hge : 0 ≤ a := by omega
      by_cases hlt : a < 2 ^ k
      · have HBB := Lib.hid (show badE k a = false from badE_false.2 ⟨hge, hlt⟩)
        have HLT := Lib.hid hlt
        clear hlt
        rcases hk with rfl | rfl
        all_goals
          have h1 := HLT.out
          first
            | rw [show ((2 : Int) ^ 8) = 256 by decide] at h1
            | rw [show ((2 : Int) ^ 16) = 65536 by decide] at h1
          go_enter Tryd.func79, Tryd.ntmps79
          go_wp2_with fail
          refine (rpoly_any _ _).mono ?_
          simp only [show modv (8 : Int) = 285 from rfl, show modv (16 : Int) = 69643 from rfl]
          rintro e w1 ⟨rfl, rfl⟩
          go_wp2
          go_ret
          exact ⟨ret_bool (by rw [HA.out, HBB.out]; simp [h1]), rfl⟩
      · have HBB := Lib.hid (show badE k a = true by unfold badE; rw [decide_eq_true (show (2 : Int) ^ k ≤ a by omega), Bool.or_true])
        have HLT := Lib.hid hlt
        clear hlt
        rcases hk with rfl | rfl
        all_goals
          have h1 := HLT.out
          first
            | rw [show ((2 : Int) ^ 8) = 256 by decide] at h1
            | rw [show ((2 : Int) ^ 16) = 65536 by decide] at h1
          go_enter Tryd.func79, Tryd.ntmps79
          go_wp2_with fail
          refine (rpoly_any _ _).mono ?_
          simp only [show modv (8 : Int) = 285 from rfl, show modv (16 : Int) = 69643 from rfl]
          rintro e w1 ⟨rfl, rfl⟩
          go_wp2
          go_ret
          exact ⟨ret_bool (by rw [HA.out, HBB.out]; simp [h1]), rfl⟩
  · have HA := Lib.hid (show allB m [a] = false by rw [allB, Bool.eq_false_iff.2 hm]; rfl)
    have hv : modv m = 0 := by
      unfold okM at hm
      rw [Bool.or_eq_true, decide_eq_true_eq, decide_eq_true_eq] at hm
      unfold modv
      rw [if_neg (by omega), if_neg (by omega)]
    have HV := Lib.hid hv
    clear hv hm
    go_enter Tryd.func79, Tryd.ntmps79
    go_wp2_with fail
    refine (rpoly_any _ _).mono ?_
    rw [HV.out]
    rintro e w1 ⟨rfl, rfl⟩
    go_wp2
    go_ret
    exact ⟨ret_bool HA.out.symm, rfl⟩
theorem times_step {m x y o : Nat} (hm : Fld.IsM m) (hy : y < 2 ^ m) :
    o ^^^ Fld.mulN m m x y = (o ^^^ (if y % 2 = 1 then x else 0)) ^^^ Fld.mulN m m (Fld.sh m x) (y / 2) := by
  obtain ⟨n, hn⟩ : ∃ n, m = n + 1 := by rcases hm with rfl | rfl; exact ⟨7, rfl⟩; exact ⟨15, rfl⟩
  have h2 : y / 2 < 2 ^ n := by rw [hn, Nat.pow_succ] at hy; omega
  have e1 : Fld.mulN m m (Fld.sh m x) (y / 2) = Fld.mulN m n (Fld.sh m x) (y / 2) := by
    have := Fld.mulN_more m n (Fld.sh m x) (y / 2) 1 h2
    rwa [← hn] at this
  have e2 : Fld.mulN m m x y = (if y % 2 = 1 then x else 0) ^^^ Fld.mulN m n (Fld.sh m x) (y / 2) := by
    conv => lhs; arg 2; rw [hn]
    simp only [Fld.mulN, Nat.testBit_zero, decide_eq_true_eq]
  rw [e1, e2, Nat.xor_assoc]
theorem two_top {m X : Nat} (h : X < 2 ^ m) : decide ((2 : Int) ^ m ≤ 2 * (X : Int)) = (2 * X).testBit m := by
  rw [← top_bit h, Bool.eq_iff_iff, decide_eq_true_eq, bne_iff_ne, Int.mul_comm]
  have hp : (0 : Int) < 2 ^ m := Int.pow_pos (by decide)
  constructor
  · intro h1 h2
    have h3 := Int.ediv_lt_iff_lt_mul (a := (X : Int) * 2) (b := 1) hp
    have : (X : Int) * 2 < 1 * 2 ^ m := h3.1 (by omega)
    omega
  · intro h1
    apply Decidable.byContradiction
    intro h2
    exact h1 (Int.ediv_eq_zero_of_lt (by omega) (by omega))
theorem wrap_pow {m : Nat} (hm : Fld.IsM m) : IntKind.i64.wrap ((2 : Int) ^ m) = 2 ^ m := by rcases hm with rfl | rfl <;> decide
/-- what the reference's round makes of its factor -/
theorem times_sh {m X p : Nat} (hm : Fld.IsM m) (h : X < 2 ^ m) (hp : Fld.pol m = p) (t : Bool) (ht : decide ((2 : Int) ^ m ≤ 2 * (X : Int)) = t) :
    (bif t then bits .xor .i64 (2 * (X : Int)) (p : Int) else 2 * (X : Int)) = ((Fld.sh m X : Nat) : Int) := by
  have h1 := top_bit h
  rw [← two_top h, ht] at h1
  obtain ⟨s1, s2⟩ := sh_int hm h hp
  cases t
  · rw [← s2 h1]; exact Int.mul_comm _ _
  · rw [← s1 h1, Int.mul_comm]; rfl
theorem times_o {m X O Y : Nat} (hm : Fld.IsM m) (hX : X < 2 ^ m) (hO : O < 2 ^ m) (t : Bool) (ht : ((Y : Int) % 2 == 1) = t) :
    (bif t then bits .xor .i64 (O : Int) (X : Int) else (O : Int)) = ((O ^^^ (if Y % 2 = 1 then X else 0) : Nat) : Int) := by
  have h1 := pow_le hm hX
  have h2 := pow_le hm hO
  cases t
  · have : ¬ Y % 2 = 1 := by rw [beq_eq_false_iff_ne] at ht; omega
    rw [if_neg this, Nat.xor_zero]; rfl
  · have : Y % 2 = 1 := by rw [beq_iff_eq] at ht; omega
    rw [if_pos this]; exact i64_xor _ _ (by omega) (by omega)
set_option maxRecDepth 100000 in
set_option maxHeartbeats 1600000 in
theorem times_any (m a b : Nat) (hm : Fld.IsM m) (ha : a < 2 ^ m) (hb : b < 2 ^ m) (w : World) :
    Calls Tryd.prog 80 #[.int .i64 (m : Int), .int .i64 (a : Int), .int .i64 (b : Int)] w fun e w' => e = .returned (.int .i64 (Fld.mul m a b : Int)) ∧ w' = w := by
  have HA := Lib.hid ha
  have HBB := Lib.hid hb
  have HM := Lib.hid hm
  have hm16 := m_le hm
  have hw := wrap_pow hm
  obtain ⟨p, hp⟩ : ∃ p, Fld.pol m = p := ⟨_, rfl⟩
  have HP := Lib.hid hp
  have HV := Lib.hid (modv_pol hm)
  have hps : p < 131072 := by rw [← hp]; exact pol_small hm
  clear ha hb hm hp
  go_enter Tryd.func80, Tryd.ntmps80
  go_wp2_with fail
  refine (rpoly_any _ _).mono ?_
  rw [HV.out, HP.out]
  rintro e w1 ⟨rfl, rfl⟩
  go_wp2_with fail
  go_loop [1, 2, 8] (fun x y o => ∃ X Y O : Nat, x = .int .i64 X ∧ y = .int .i64 Y ∧ o = .int .i64 O ∧ X < 2 ^ m ∧ Y < 2 ^ m ∧ O < 2 ^ m ∧ O ^^^ Fld.mulN m m X Y = Fld.mul m a b) (fun _ y _ => (intOf y).toNat)
  case atStart => exact ⟨a, b, 0, rfl, rfl, rfl, HA.out, HBB.out, Nat.two_pow_pos m, by rw [Nat.zero_xor]; rfl⟩
  case round =>
    obtain ⟨X, Y, O, rfl, rfl, rfl, hX, hY, hO, hinv⟩ := hrel
    have HI := Lib.hid hinv
    have HX := Lib.hid hX
    have HY := Lib.hid hY
    have HO := Lib.hid hO
    have hX16 := pow_le HM.out hX
    have hY16 := pow_le HM.out hY
    have hO16 := pow_le HM.out hO
    clear hinv hX hY hO
    by_cases h0 : Y = 0
    · have HF := Lib.hid (show O = Fld.mul m a b by rw [← HI.out, h0, Fld.mulN_zero_right, Nat.xor_zero])
      have hd : decide (0 < Y) = false := by simp; omega
      clear h0
      go_wp2
      go_ret
      exact ⟨ret_int (by rw [HF.out]), rfl⟩
    · have hd : decide (0 < Y) = true := by simp; omega
      have HT1 := Lib.hid (times_o HM.out HX.out HO.out (Y := Y))
      have HT2 := Lib.hid (times_sh HM.out HX.out HP.out)
      clear h0
      cases h1 : ((Y : Int) % 2 == 1) <;> cases h2 : decide ((2 : Int) ^ m ≤ 2 * (X : Int))
      all_goals
        go_wp2
        go_round
        case rel =>
          refine ⟨Fld.sh m X, Y / 2, O ^^^ (if Y % 2 = 1 then X else 0), congrArg (Value.int .i64) (HT2.out _ h2), rfl, congrArg (Value.int .i64) (HT1.out _ h1), Fld.sh_lt HM.out HX.out, ?_, ?_, ?_⟩
          · exact Nat.lt_of_le_of_lt (Nat.div_le_self _ _) HY.out
          · refine Nat.xor_lt_two_pow HO.out ?_
            split
            · exact HX.out
            · exact Nat.two_pow_pos m
          · rw [← times_step HM.out HY.out]; exact HI.out
        case measure => have := of_decide_eq_true hd; simp [intOf]; omega
set_option maxRecDepth 100000 in
theorem rmul_no (m a b : Int) (w : World) (h : allB m [a, b] = false) :
    Calls Tryd.prog 49 #[.int .i64 m, .int .i64 a, .int .i64 b] w fun e w' => e = .returned (pairV 0 1) ∧ w' = w := by
  rw [allB_two_iff] at h
  cases h1 : allB m [a]
  all_goals
    have H1 := Lib.hid h1
    try (rw [h1, Bool.true_and] at h)
    cases h2 : allB m [b]
    all_goals first | (exfalso; rw [h2] at h; cases h; done) | skip
    all_goals
      have H2 := Lib.hid h2
      try clear h
      try clear h1
      try clear h2
      go_enter Tryd.func49, Tryd.ntmps49
      go_wp2_with fail
      refine (rvalid_any m a _).mono ?_
      rw [H1.out]
      rintro e w1 ⟨rfl, rfl⟩
      go_wp2_with fail
      refine (rvalid_any m b _).mono ?_
      rw [H2.out]
      rintro e w2 ⟨rfl, rfl⟩
      go_wp2
      go_ret2
      exact ⟨rfl, rfl⟩
set_option maxRecDepth 100000 in
theorem rmul_yes (m a b : Nat) (hm : Fld.IsM m) (ha : a < 2 ^ m) (hb : b < 2 ^ m) (w : World) :
    Calls Tryd.prog 49 #[.int .i64 (m : Int), .int .i64 (a : Int), .int .i64 (b : Int)] w fun e w' => e = .returned (pairV (Fld.mul m a b) 0) ∧ w' = w := by
  have H1 := Lib.hid (allB_one hm ha)
  have H2 := Lib.hid (allB_one hm hb)
  have HT := Lib.hid (times_any m a b hm ha hb w)
  clear hm ha hb
  go_enter Tryd.func49, Tryd.ntmps49
  go_wp2_with fail
  refine (rvalid_any _ _ _).mono ?_
  rw [H1.out]
  rintro e w1 ⟨rfl, rfl⟩
  go_wp2_with fail
  refine (rvalid_any _ _ _).mono ?_
  rw [H2.out]
  rintro e w2 ⟨rfl, rfl⟩
  go_wp2_with fail
  refine HT.out.mono ?_
  rintro e w2 ⟨rfl, rfl⟩
  go_wp2
  go_ret2
  exact ⟨rfl, rfl⟩
end Go.Proofs.YtghinmlpkgcdiaaDoor
