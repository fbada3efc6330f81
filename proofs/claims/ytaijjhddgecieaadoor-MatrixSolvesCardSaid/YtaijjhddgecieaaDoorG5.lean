/- Fields: degree, reduce. -/
import Derived.Test.YtaijjhddgecieaaDoorG4
namespace Go.Proofs.YtaijjhddgecieaaDoor
set_option linter.unusedSimpArgs false
set_option linter.unusedVariables false
open Go.RowKit Go.Lib

/-- the degree of a polynomial, -1 for 0 -/
def degI (a : Nat) : Int := if a = 0 then -1 else (a.log2 : Int)
theorem degI_half {x : Nat} (h : x ≠ 0) : degI x = 1 + degI (x / 2) := by
  unfold degI
  rw [if_neg h, Nat.log2_def]
  by_cases h2 : 2 ≤ x
  · rw [if_pos h2, if_neg (by omega)]; omega
  · rw [if_neg (by omega), if_pos (by omega)]; rfl
theorem degI_ge (x : Nat) : -1 ≤ degI x := by unfold degI; split <;> omega
theorem degI_le {x k : Nat} (h : x < 2 ^ k) : degI x < k := by
  unfold degI
  split
  · omega
  · rename_i h0
    have := (Nat.log2_lt h0).2 h
    omega
theorem degI_deg {x d : Nat} (h : Fld.Deg x d) : degI x = d := by
  unfold degI
  have h1 := h.ge
  have h2 := Nat.two_pow_pos d
  rw [if_neg (by omega), h.log]
theorem deg_of_degI {x d : Nat} (h : degI x = d) : Fld.Deg x d := by
  unfold degI at h
  split at h
  · omega
  · rename_i h0
    have := Fld.deg_log h0
    rwa [show x.log2 = d by omega] at this

set_option maxRecDepth 100000 in
theorem degree_any (a : Nat) (ha : a < 1099511627776) (w : World) :
    Calls Tryd.prog 63 #[.int .i64 (a : Int)] w fun e w' => e = .returned (.int .i64 (degI a)) ∧ w' = w := by
  have hd := degI_le (x := a) (k := 40) (by rw [show 2 ^ 40 = 1099511627776 by decide]; exact ha)
  obtain ⟨D, hD⟩ : ∃ D, degI a = D := ⟨_, rfl⟩
  have HD := Lib.hid hD
  rw [hD] at hd
  clear hD
  go_enter Tryd.func63, Tryd.ntmps63
  go_wp2
  go_loop [0, 3] (fun x n => ∃ (X : Nat) (N : Int), X < 1099511627776 ∧ -1 ≤ N ∧ x = .int .i64 X ∧ n = .int .i64 N ∧ D = N + 1 + degI X) (fun x _ => (intOf x).toNat)
  case atStart => exact ⟨a, -1, ha, by omega, rfl, rfl, by rw [HD.out]; omega⟩
  case round =>
    obtain ⟨X, N, hX, hN, rfl, rfl, hinv⟩ := hrel
    have hge := degI_ge X
    have hN2 : N < 41 := by omega
    by_cases h0 : X = 0
    · have HF := Lib.hid (show N = degI a by rw [HD.out, hinv, h0]; show N = N + 1 + -1; omega)
      have hb : ((X : Int) != 0) = false := by simp [h0]
      clear hinv h0 hge
      go_wp2
      go_ret
      exact ⟨ret_int HF.out, rfl⟩
    · have HH := Lib.hid (degI_half h0)
      have HI := Lib.hid hinv
      have hb : ((X : Int) != 0) = true := by rw [bne_iff_ne]; omega
      have hpos : 0 < X := by omega
      clear hinv h0 hge
      go_wp2
      go_round
      case rel => exact ⟨X / 2, N + 1, by omega, by omega, rfl, rfl, by rw [HI.out, HH.out]; omega⟩
      case measure => simp [intOf]; omega

/-- a polynomial of degree m + 1 at most, modulo the field's -/
def red2 (m x : Nat) : Nat := Fld.red m (if x.testBit (m + 1) then x ^^^ Fld.pol m <<< 1 else x)
theorem red2_low {m x : Nat} (h : x < 2 ^ (m + 1)) : red2 m x = Fld.red m x := by unfold red2; rw [Nat.testBit_lt_two_pow h]; rfl
theorem pol_deg {m : Nat} (hm : Fld.IsM m) : Fld.Deg (Fld.pol m) m := ⟨Fld.pol_bit hm, Fld.pol_lt hm⟩
theorem red2_step {m x s : Nat} (hm : Fld.IsM m) (hx : Fld.Deg x (m + s)) (hs : s ≤ 1) : x ^^^ Fld.pol m <<< s < 2 ^ (m + s) ∧ red2 m (x ^^^ Fld.pol m <<< s) = red2 m x := by
  have h1 := hx.xor_deg ((pol_deg hm).shl s)
  refine ⟨h1, ?_⟩
  rcases (show s = 0 ∨ s = 1 by omega) with rfl | rfl
  · rw [Nat.shiftLeft_zero] at h1 ⊢
    rw [Nat.add_zero] at h1 hx
    rw [red2_low hx.2, red2_low (Nat.lt_of_lt_of_le h1 (Nat.pow_le_pow_right (by decide) (by omega))), Fld.red_id h1]
    unfold Fld.red
    rw [hx.1]; rfl
  · rw [red2_low h1]
    unfold red2
    rw [hx.1]; rfl
theorem red2_end {m x : Nat} (h : x < 2 ^ m) : red2 m x = x := by
  rw [red2_low (Nat.lt_of_lt_of_le h (Nat.pow_le_pow_right (by decide) (by omega))), Fld.red_id h]
theorem shl_int {z s : Nat} (h : z <<< s < 1099511627776) : IntKind.i64.wrap ((z : Int) * 2 ^ s) = ((z <<< s : Nat) : Int) := by
  have e : ((z : Int) * 2 ^ s) = ((z <<< s : Nat) : Int) := by rw [Nat.shiftLeft_eq]; simp
  rw [e, IntKind.wrap_i64]
  clear e
  generalize z <<< s = k at *
  omega
theorem pow18 {m x : Nat} (hm : Fld.IsM m) (h : x < 2 ^ (m + 2)) : x < 262144 := by
  rcases hm with rfl | rfl
  · have : (2 : Nat) ^ (8 + 2) = 1024 := by decide
    omega
  · have : (2 : Nat) ^ (16 + 2) = 262144 := by decide
    omega
set_option maxRecDepth 100000 in
theorem reduce_any (m a : Nat) (hm : Fld.IsM m) (ha : a < 2 ^ (m + 2)) (w : World) (ht : Tab w) :
    Calls Tryd.prog 64 #[.int .i64 (m : Int), .int .i64 (a : Int)] w fun e w' => e = .returned (.int .i64 (red2 m a : Int)) ∧ Below w.heap.size w w' := by
  have HT := Lib.hid ht
  have HM := Lib.hid hm
  have hm16 := m_le hm
  have ha18 := pow18 hm ha
  have HA := Lib.hid ha
  obtain ⟨p, hp⟩ : ∃ p, Fld.pol m = p := ⟨_, rfl⟩
  have HP := Lib.hid hp
  have HV := Lib.hid (modv_pol hm)
  clear ht hm ha hp
  go_enter Tryd.func64, Tryd.ntmps64
  go_wp2_with fail
  refine (degree_any a (by omega) _).mono ?_
  rintro e w1 ⟨rfl, rfl⟩
  go_wp2_with fail
  go_loopw [1, 5] (fun x d wr => Below w1.heap.size w1 wr ∧ ∃ X : Nat, X < 2 ^ (m + 2) ∧ x = .int .i64 X ∧ d = .int .i64 (degI X) ∧ red2 m X = red2 m a) (fun x _ _ => (intOf x).toNat)
  case atStart => exact ⟨Below.refl _ _, a, HA.out, rfl, rfl, rfl⟩
  case round =>
    obtain ⟨hbel, X, hX, rfl, rfl, hinv⟩ := hrel
    have HB := Lib.hid hbel
    have HX := Lib.hid hX
    have HI := Lib.hid hinv
    have hge := degI_ge X
    have hle := degI_le hX
    have hX18 := pow18 HM.out hX
    clear hbel hX hinv
    by_cases h0 : degI X < m
    · have hlt : X < 2 ^ m := by
        unfold degI at h0
        split at h0
        · rename_i e; rw [e]; exact Nat.two_pow_pos m
        · rename_i e; exact (Nat.log2_lt e).1 (by omega)
      have HF := Lib.hid (show X = red2 m a by rw [← HI.out, red2_end hlt])
      clear hlt
      go_wp2
      go_ret
      exact ⟨ret_int (by rw [HF.out]), HB.out⟩
    · obtain ⟨s, hs⟩ : ∃ s : Nat, degI X = (m + s : Nat) := ⟨(degI X - m).toNat, by omega⟩
      have hs1 : s ≤ 1 := by omega
      obtain ⟨st1, st2⟩ := red2_step HM.out (deg_of_degI hs) hs1
      rw [HP.out] at st1 st2
      have hxge := (deg_of_degI hs).ge
      have hps : p <<< s < 262144 := by
        have := ((pol_deg HM.out).shl s).2
        rw [HP.out] at this
        exact pow18 HM.out (Nat.lt_of_lt_of_le this (Nat.pow_le_pow_right (by decide) (by omega)))
      obtain ⟨Y, hY⟩ : ∃ Y, X ^^^ p <<< s = Y := ⟨_, rfl⟩
      rw [hY] at st1 st2
      have hYX : Y < X := Nat.lt_of_lt_of_le st1 hxge
      have hY40 : Y < 1099511627776 := Nat.lt_trans hYX (by omega)
      have hw := shl_int (z := p) (s := s) (Nat.lt_trans hps (by decide))
      have hxor := i64_xor X (p <<< s) (Nat.lt_trans hX18 (by decide)) (Nat.lt_trans hps (by decide))
      rw [hY] at hxor
      obtain ⟨Q, hQ⟩ : ∃ Q, p <<< s = Q := ⟨_, rfl⟩
      rw [hQ] at hw hxor hps
      have HS1 := Lib.hid st1
      have HS2 := Lib.hid st2
      obtain ⟨D, hD⟩ : ∃ D, degI X = D := ⟨_, rfl⟩
      rw [hD] at hs hge hle h0 ⊢
      have hsub : D - (m : Int) = (s : Int) := by clear hw hxor; omega
      have HHS := Lib.hid hs
      clear st1 st2 hY hD hxge hs hQ
      go_wp2_with fail
      refine (modulus_any _ _ (HT.out.next HB.out)).mono ?_
      rw [HV.out, HP.out]
      rintro e w2 ⟨rfl, hb⟩
      have HB2 := Lib.hid (below_call HB.out hb)
      clear hb
      go_wp2_with fail
      refine (degree_any Y hY40 _).mono ?_
      rintro e w3 ⟨rfl, rfl⟩
      go_wp2_with fail
      go_roundw
      case rel => exact ⟨HB2.out, Y, Nat.lt_of_lt_of_le HS1.out (Nat.pow_le_pow_right (by decide) (by omega)), rfl, rfl, HS2.out.trans HI.out⟩
      case measure => clear hw hxor; simpa [intOf] using hYX
end Go.Proofs.YtaijjhddgecieaaDoor
