/- Fields: the reference's powers; logarithms, the program's and the reference's. -/
import Derived.Test.YtdmcdgpigpekhaaDoorG8
namespace Go.Proofs.YtdmcdgpigpekhaaDoor
set_option linter.unusedSimpArgs false
set_option linter.unusedVariables false
open Go.RowKit Go.Lib

set_option maxRecDepth 100000 in
set_option maxHeartbeats 1600000 in
theorem rpow_any (m a n : Int) (w : World) (hn1 : -9223372036854775808 ≤ n) (hn2 : n ≤ 9223372036854775807) :
    Calls Tryd.prog 26 #[.int .i64 m, .int .i64 a, .int .i64 n] w fun e w' => e = .returned (pairV (powX m a n) (powE m a n)) ∧ w' = w := by
  cases h : allB m [a] with
  | false =>
    have HV := Lib.hid (show pairV (powX m a n) (powE m a n) = pairV 0 1 by rw [powX, powE, h]; rfl)
    have H := Lib.hid h
    rw [HV.out]
    clear h
    go_enter Tryd.func26, Tryd.ntmps26
    go_wp2_with fail
    refine (rvalid_any m a _).mono ?_
    rw [H.out]
    rintro e w1 ⟨rfl, rfl⟩
    go_wp2
    go_ret2
    exact ⟨rfl, rfl⟩
  | true =>
    have H := Lib.hid h
    obtain ⟨k, x, hk, rfl, rfl, hx⟩ := one_get h
    by_cases hz : x = 0 ∧ n ≠ 0
    · obtain ⟨rfl, hn0⟩ := hz
      by_cases hneg : n < 0
      · have HV := Lib.hid (show pairV (powX (k : Int) ((0 : Nat) : Int) n) (powE (k : Int) ((0 : Nat) : Int) n) = pairV 0 12 by rw [powX, powE, h]; simp [hn0, hneg])
        rw [HV.out]
        clear h hn0
        go_enter Tryd.func26, Tryd.ntmps26
        go_wp2_with fail
        refine (rvalid_any _ ((0 : Nat) : Int) _).mono ?_
        rw [H.out]
        rintro e w1 ⟨rfl, rfl⟩
        go_wp2
        go_ret2
        exact ⟨rfl, rfl⟩
      · have HV := Lib.hid (show pairV (powX (k : Int) ((0 : Nat) : Int) n) (powE (k : Int) ((0 : Nat) : Int) n) = pairV 0 0 by rw [powX, powE, h]; simp [hn0, hneg])
        have hpos : 0 < n := by omega
        rw [HV.out]
        clear h hn0
        go_enter Tryd.func26, Tryd.ntmps26
        go_wp2_with fail
        refine (rvalid_any _ ((0 : Nat) : Int) _).mono ?_
        rw [H.out]
        rintro e w1 ⟨rfl, rfl⟩
        go_wp2
        go_ret2
        exact ⟨rfl, rfl⟩
    · have hw := wrap_pow hk
      have hp : (0 : Int) < 2 ^ k - 1 ∧ (2 : Int) ^ k ≤ 65536 := by rcases hk with rfl | rfl <;> decide
      obtain ⟨p1, p2⟩ := hp
      have hm16 := m_le hk
      obtain ⟨f1, f2, f3, f4⟩ := expo_facts p1 n
      have HV := Lib.hid (show pairV (powX (k : Int) (x : Int) n) (powE (k : Int) (x : Int) n) = pairV (Fld.pw k x (expo (2 ^ k - 1) n).toNat : Int) 0 by
        rw [powX, powE, h, if_pos rfl, if_pos rfl]
        by_cases e : x = 0
        · have hn0 : n = 0 := by omega
          subst e; subst hn0
          have : expo (2 ^ k - 1) 0 = 0 := by rcases hk with rfl | rfl <;> decide
          rw [this]; simp; rfl
        · rw [if_neg (by omega), if_neg (by omega)]; rfl)
      rw [HV.out]
      have HK := Lib.hid hk
      have HX := Lib.hid hx
      obtain ⟨Q, hQ⟩ : ∃ Q : Int, (2 : Int) ^ k - 1 = Q := ⟨_, rfl⟩
      rw [hQ] at p1 f1 f2 f3 f4
      rw [hQ]
      have hQ2 : Q ≤ 65535 := by omega
      obtain ⟨T, hT⟩ : ∃ T : Int, n.tmod Q = T := ⟨_, rfl⟩
      have hexp : expo Q n = (T + Q).tmod Q := by rw [expo, hT]
      rw [hT] at f1 f2
      obtain ⟨N0, hN0⟩ : ∃ N0 : Nat, expo Q n = (N0 : Int) := ⟨(expo Q n).toNat, by omega⟩
      rw [hN0] at f3 f4 ⊢
      have hE : (T + Q).tmod Q = (N0 : Int) := hexp.symm.trans hN0
      have hE2 : (T + Q) % Q = (N0 : Int) := by rw [← hE, Int.tmod_eq_emod_of_nonneg (by omega)]
      have hN65 : N0 < 65535 := by omega
      have HC := Lib.hid (fun wn => rpower_any k x N0 hk hx (by omega) wn)
      have hcase : ((((x : Int) == 0) = false)) ∨ (x = 0 ∧ n = 0) := by
        by_cases e : x = 0
        · exact .inr ⟨e, by omega⟩
        · exact .inl (by rw [beq_eq_false_iff_ne]; omega)
      clear h hk hx hN0 hexp hz HV hE
      rw [Int.toNat_natCast]
      rcases hcase with hb0 | ⟨rfl, rfl⟩
      · go_enter Tryd.func26, Tryd.ntmps26
        go_wp2_with fail
        refine (rvalid_any _ (x : Int) _).mono ?_
        rw [H.out]
        rintro e w1 ⟨rfl, rfl⟩
        go_wp2_with fail
        rw [hE2]
        refine (HC.out _).mono ?_
        rintro e w1 ⟨rfl, rfl⟩
        go_wp2
        go_ret2
        exact ⟨rfl, rfl⟩
      · have hT0 : T = 0 := by rw [← hT]; simp
        subst hT0
        have hN00 : N0 = 0 := by rw [Int.zero_add, Int.emod_self] at hE2; omega
        subst hN00
        clear hE2 hT
        go_enter Tryd.func26, Tryd.ntmps26
        go_wp2_with fail
        refine (rvalid_any _ ((0 : Nat) : Int) _).mono ?_
        rw [H.out]
        rintro e w1 ⟨rfl, rfl⟩
        go_wp2_with fail
        refine (HC.out _).mono ?_
        rintro e w1 ⟨rfl, rfl⟩
        go_wp2
        go_ret2
        exact ⟨rfl, rfl⟩
end Go.Proofs.YtdmcdgpigpekhaaDoor
