/- Fields: the inverse by Euclid's algorithm. -/
import Derived.Test.YtaijjhddgecieaaDoorG5
namespace Go.Proofs.YtaijjhddgecieaaDoor
set_option linter.unusedSimpArgs false
set_option linter.unusedVariables false
open Go.RowKit Go.Lib

/-- what holds at the head of Euclid's loop -/
def EucI (m a u v x y : Nat) : Prop :=
  (∃ du dv, Fld.Euc m a u v x y du dv) ∨
  (u = 0 ∧ v = 1 ∧ x = Fld.pol m ∧ y < 2 ^ (m + 1) ∧ Fld.mul m (Fld.red m y) a = 1) ∨
  (u = 1 ∧ v = 0 ∧ x < 2 ^ (m + 2) ∧ y < 2 ^ (m + 1) ∧ Fld.mul m (red2 m x) a = 1)
/-- how much is left to do -/
def eucM (u v : Nat) : Nat := 2 * (u.log2 + v.log2) + (if u = 0 then 1 else 0)
theorem lt_more {m x k j : Nat} (h : x < 2 ^ k) (hk : k ≤ j) : x < 2 ^ j := Nat.lt_of_lt_of_le h (Nat.pow_le_pow_right (by decide) hk)
theorem EucI.small {m a u v x y : Nat} (hm : Fld.IsM m) (h : EucI m a u v x y) : u < 2 ^ (m + 1) ∧ v < 2 ^ (m + 1) ∧ x < 2 ^ (m + 2) ∧ y < 2 ^ (m + 1) := by
  have h2 := Nat.two_pow_pos m
  have h1 : 1 < 2 ^ (m + 1) := by rw [Nat.pow_succ]; omega
  rcases h with ⟨du, dv, h⟩ | ⟨rfl, rfl, rfl, hy, _⟩ | ⟨rfl, rfl, hx, hy, _⟩
  · obtain ⟨g1, g2, g3, g4⟩ := h.x_lt
    exact ⟨g3, g4, lt_more (m := m) g1 (by omega), g2⟩
  · exact ⟨by omega, h1, lt_more (m := m) (Fld.pol_lt hm) (by omega), hy⟩
  · exact ⟨h1, by omega, hx, hy⟩
theorem EucI.done {m a v x y : Nat} (hm : Fld.IsM m) (h : EucI m a 1 v x y) : Fld.mul m (red2 m x) a = 1 := by
  rcases h with ⟨du, dv, h⟩ | ⟨h, _⟩ | ⟨_, _, _, _, h⟩
  · rw [red2_low h.x_lt.1, h.ux, Fld.red_id (Fld.one_lt hm)]
  · cases h
  · exact h
/-- one round, as the program takes it: (u, v, x, y) with the pairs exchanged or not, and the shift -/
theorem EucI.round {m a u v x y : Nat} (hm : Fld.IsM m) (ha : a < 2 ^ m) (h0 : a ≠ 0) (h : EucI m a u v x y) (hu : u ≠ 1) :
    (degI v ≤ degI u ∧ ∃ s : Nat, degI u - degI v = s ∧ s ≤ m + 1 ∧ v <<< s < 2 ^ (m + 2) ∧ y <<< s < 2 ^ (m + 2) ∧
      EucI m a (u ^^^ v <<< s) v (x ^^^ y <<< s) y ∧ eucM (u ^^^ v <<< s) v < eucM u v) ∨
    (degI u < degI v ∧ ∃ s : Nat, degI v - degI u = s ∧ s ≤ m + 1 ∧ u <<< s < 2 ^ (m + 2) ∧ x <<< s < 2 ^ (m + 2) ∧
      EucI m a (v ^^^ u <<< s) u (y ^^^ x <<< s) x ∧ eucM (v ^^^ u <<< s) u < eucM u v) := by
  have step : ∀ {u v x y du dv : Nat}, Fld.Euc m a u v x y du dv → dv ≤ du → (u = 1 → v ≠ 1 → False) → (u ≠ 1 ∨ v ≠ 1) →
      ∃ s : Nat, degI u - degI v = s ∧ s ≤ m + 1 ∧ v <<< s < 2 ^ (m + 2) ∧ y <<< s < 2 ^ (m + 2) ∧ EucI m a (u ^^^ v <<< s) v (x ^^^ y <<< s) y ∧ eucM (u ^^^ v <<< s) v < 2 * (u.log2 + v.log2) := by
    intro u v x y du dv h hd hne1 hne
    obtain ⟨s1, s2, s3, s4, s5⟩ := h.step hm ha h0 hd
    have hvs := h.fv.shl (du - dv)
    rw [show dv + (du - dv) = du by omega] at hvs
    have hys : y <<< (du - dv) < 2 ^ (m + 2) := by
      have hy' : y < 2 ^ (m - du + 1) := by
        rcases h.xy with ⟨hx, hy⟩ | ⟨hy, hx⟩
        · exact lt_more (m := m) hy (by omega)
        · exact hy.2
      have := h.hu
      exact lt_more (m := m) (Fld.shl_lt (s := du - dv) hy') (by omega)
    refine ⟨du - dv, ?_, ?_, lt_more (m := m) hvs.2 (by have := h.hu; omega), hys, ?_, ?_⟩
    · rw [degI_deg h.fu, degI_deg h.fv]; omega
    · have := h.hu; omega
    · by_cases hz : u ^^^ v <<< (du - dv) = 0
      · obtain ⟨e1, e2⟩ := s5 hz
        refine .inr (.inl ⟨hz, e2, e1, h.x_lt.2.1, ?_⟩)
        rw [h.vy, e2, Fld.red_id (Fld.one_lt hm)]
      · exact .inl ⟨_, _, s4 hz⟩
    · have hlu := h.fu.log
      have hlv := h.fv.log
      unfold eucM
      by_cases hz : u ^^^ v <<< (du - dv) = 0
      · obtain ⟨e1, e2⟩ := s5 hz
        have hv0 : dv = 0 := by rw [← hlv, e2]; decide
        rw [hz, if_pos rfl, hlv, hlu, hv0]
        have : du ≠ 0 := by
          intro e
          have hu1 := h.fu
          rw [e] at hu1
          have h3 := hu1.2
          have h4 := hu1.ge
          simp at h3 h4
          rcases hne with hne | hne <;> omega
        simp
        omega
      · rw [if_neg hz, hlv, hlu]
        have := (Nat.log2_lt hz).2 s1
        omega
  rcases h with ⟨du, dv, h⟩ | ⟨rfl, rfl, rfl, hy, hmul⟩ | ⟨rfl, _⟩
  · have hu0 : u ≠ 0 := by have := h.fu.ge; have := Nat.two_pow_pos du; omega
    have hv0 : v ≠ 0 := by have := h.fv.ge; have := Nat.two_pow_pos dv; omega
    have e : eucM u v = 2 * (u.log2 + v.log2) := by unfold eucM; rw [if_neg hu0]; rfl
    rcases Nat.lt_or_ge du dv with hlt | hge
    · refine .inr ⟨by rw [degI_deg h.fu, degI_deg h.fv]; omega, ?_⟩
      obtain ⟨s, g1, g2, g3, g4, g5, g6⟩ := step h.swap (by omega) (fun h1 _ => by
        have h2 := h.fv.log
        rw [h1] at h2
        have : (1 : Nat).log2 = 0 := by decide
        omega) (.inr hu)
      exact ⟨s, g1, g2, g3, g4, g5, by rw [e, Nat.add_comm u.log2]; exact g6⟩
    · refine .inl ⟨by rw [degI_deg h.fu, degI_deg h.fv]; omega, ?_⟩
      obtain ⟨s, g1, g2, g3, g4, g5, g6⟩ := step h hge (fun h1 _ => hu h1) (.inl hu)
      exact ⟨s, g1, g2, g3, g4, g5, by rw [e]; exact g6⟩
  · have h1 : 1 < 2 ^ (m + 2) := by have := Nat.two_pow_pos m; rw [Nat.pow_add]; omega
    have hp1 : Fld.pol m <<< 1 < 2 ^ (m + 2) := Fld.shl_lt (Fld.pol_lt hm)
    refine .inr ⟨by decide, 1, by decide, by omega, by simp [Nat.two_pow_pos], hp1, ?_, by decide⟩
    refine .inr (.inr ⟨by decide, rfl, Nat.xor_lt_two_pow (lt_more (m := m) hy (by omega)) hp1, Fld.pol_lt hm, ?_⟩)
    have hd := (pol_deg hm).shl 1
    have hdx : Fld.Deg (y ^^^ Fld.pol m <<< 1) (m + 1) := by rw [Nat.xor_comm]; exact hd.xor_lt hy
    have : red2 m (y ^^^ Fld.pol m <<< 1) = Fld.red m y := by
      unfold red2
      rw [hdx.1, if_pos rfl, Nat.xor_assoc, Nat.xor_self, Nat.xor_zero]
    rw [this]; exact hmul
  · exact absurd rfl hu
theorem red2_lt {m x : Nat} (hm : Fld.IsM m) (h : x < 2 ^ (m + 2)) : red2 m x < 2 ^ m := by
  unfold red2
  apply Fld.red_lt hm
  split
  · rename_i hb
    exact (Fld.xor_top (k := m + 1) h ((pol_deg hm).shl 1).2 hb ((pol_deg hm).shl 1).1)
  · rename_i hb
    exact Fld.lt_of_bit h (Bool.eq_false_iff.2 hb)
theorem EucI.result {m a v x y : Nat} (hm : Fld.IsM m) (ha : a < 2 ^ m) (h : EucI m a 1 v x y) : red2 m x = Fld.inv m a := by
  have hr := red2_lt hm (h.small hm).2.2.1
  exact Fld.inv_of hm ha hr (by rw [Fld.mul_comm hm ha hr]; exact h.done hm)
theorem EucI.start {m a : Nat} (hm : Fld.IsM m) (ha : a < 2 ^ m) (h0 : a ≠ 0) : EucI m a a (Fld.pol m) 1 0 := .inl ⟨_, _, Fld.Euc.start hm ha h0⟩

set_option maxRecDepth 100000 in
set_option maxHeartbeats 1600000 in
theorem inverse_any (m a : Nat) (hm : Fld.IsM m) (ha : a < 2 ^ m) (h0 : a ≠ 0) (w : World) (ht : Tab w) :
    Calls Tryd.prog 56 #[.int .i64 (m : Int), .int .i64 (a : Int)] w fun e w' => e = .returned (.int .i64 (Fld.inv m a : Int)) ∧ Below w.heap.size w w' := by
  have HT := Lib.hid ht
  have HM := Lib.hid hm
  have hm16 := m_le hm
  have HA := Lib.hid ha
  have H0 := Lib.hid h0
  obtain ⟨p, hp⟩ : ∃ p, Fld.pol m = p := ⟨_, rfl⟩
  have HP := Lib.hid hp
  have HV := Lib.hid (modv_pol hm)
  clear ht hm ha hp h0
  go_enter Tryd.func56, Tryd.ntmps56
  go_wp2_with fail
  refine (modulus_any _ _ HT.out).mono ?_
  rw [HV.out, HP.out]
  rintro e w1 ⟨rfl, hb⟩
  have HB := Lib.hid hb
  clear hb
  go_wp2_with fail
  go_loopw [5, 6, 7, 8] (fun u v x y wr => wr = w1 ∧ ∃ U V X Y : Nat, u = .int .i64 U ∧ v = .int .i64 V ∧ x = .int .i64 X ∧ y = .int .i64 Y ∧ EucI m a U V X Y) (fun u v _ _ _ => eucM (intOf u).toNat (intOf v).toNat)
  case atStart => exact ⟨rfl, a, p, 1, 0, rfl, rfl, rfl, rfl, by rw [← HP.out]; exact EucI.start HM.out HA.out H0.out⟩
  case round =>
    obtain ⟨rfl, U, V, X, Y, rfl, rfl, rfl, rfl, hinv⟩ := hrel
    have HI := Lib.hid hinv
    obtain ⟨bu, bv, bx, by_⟩ := hinv.small HM.out
    have bu := pow18 HM.out (lt_more (m := m) bu (by omega))
    have bv := pow18 HM.out (lt_more (m := m) bv (by omega))
    have bx2 := Lib.hid bx
    have bx := pow18 HM.out bx
    have by2 := pow18 HM.out (lt_more (m := m) by_ (by omega))
    clear by_ hinv
    by_cases h1 : U = 1
    · have HD := Lib.hid (h1 ▸ HI.out : EucI m a 1 V X Y)
      have hb : ((U : Int) != 1) = false := by simp [h1]
      clear h1
      go_wp2_with fail
      refine (reduce_any m X HM.out bx2.out _ (HT.out.next HB.out)).mono ?_
      rintro e w2 ⟨rfl, hb⟩
      have HB2 := Lib.hid (below_call HB.out hb)
      clear hb
      go_wp2_with fail
      go_ret
      exact ⟨ret_int (by rw [HD.out.result HM.out HA.out]), HB2.out⟩
    · have hb : ((U : Int) != 1) = true := by rw [bne_iff_ne]; omega
      rcases HI.out.round HM.out HA.out H0.out h1 with ⟨hd, s, g1, g2, g3, g4, g5, g6⟩ | ⟨hd, s, g1, g2, g3, g4, g5, g6⟩
      · have h40 : ∀ {z : Nat}, z < 2 ^ (m + 2) → z < 1099511627776 := fun h => Nat.lt_trans (pow18 HM.out h) (by decide)
        have hw1 := shl_int (h40 g3)
        have hw2 := shl_int (h40 g4)
        have hx1 := i64_xor U (V <<< s) (Nat.lt_trans bu (by decide)) (Nat.lt_trans (h40 g3) (by decide))
        have hx2 := i64_xor X (Y <<< s) (Nat.lt_trans bx (by decide)) (Nat.lt_trans (h40 g4) (by decide))
        obtain ⟨Q1, hQ1⟩ : ∃ Q, V <<< s = Q := ⟨_, rfl⟩
        obtain ⟨Q2, hQ2⟩ : ∃ Q, Y <<< s = Q := ⟨_, rfl⟩
        rw [hQ1] at hw1 hx1 g3 g5 g6
        rw [hQ2] at hw2 hx2 g4 g5
        obtain ⟨U2, hU2⟩ : ∃ Q, U ^^^ Q1 = Q := ⟨_, rfl⟩
        obtain ⟨X2, hX2⟩ : ∃ Q, X ^^^ Q2 = Q := ⟨_, rfl⟩
        rw [hU2] at hx1 g5 g6
        rw [hX2] at hx2 g5
        have hq1 := pow18 HM.out g3
        have hq2 := pow18 HM.out g4
        obtain ⟨D1, hD1⟩ : ∃ D, degI U = D := ⟨_, rfl⟩
        obtain ⟨D2, hD2⟩ : ∃ D, degI V = D := ⟨_, rfl⟩
        have HD1 := Lib.hid hD1
        have HD2 := Lib.hid hD2
        have l1 := degI_ge U
        have l2 := degI_ge V
        have l3 := degI_le (x := U) (k := 18) (by rw [show 2 ^ 18 = 262144 by decide]; exact bu)
        have l4 := degI_le (x := V) (k := 18) (by rw [show 2 ^ 18 = 262144 by decide]; exact bv)
        rw [hD1] at g1 hd l1 l3
        rw [hD2] at g1 hd l2 l4
        have HG5 := Lib.hid g5
        have HG6 := Lib.hid g6
        have hs18 : s ≤ 18 := by omega
        clear hQ1 hQ2 hU2 hX2 hD1 hD2 g5 g6 g3 g4 g2 h1
        have hlt : ¬ D1 - D2 < 0 := by omega
        go_wp2_with fail
        refine (degree_any U (Nat.lt_trans bu (by decide)) _).mono ?_
        rw [HD1.out]
        rintro e w2 ⟨rfl, rfl⟩
        go_wp2_with fail
        refine (degree_any V (Nat.lt_trans bv (by decide)) _).mono ?_
        rw [HD2.out]
        rintro e w2 ⟨rfl, rfl⟩
        go_wp2_with fail
        go_roundw
        case rel => exact ⟨trivial, U2, V, X2, Y, rfl, rfl, rfl, rfl, HG5.out⟩
        case measure => exact HG6.out
      · have h40 : ∀ {z : Nat}, z < 2 ^ (m + 2) → z < 1099511627776 := fun h => Nat.lt_trans (pow18 HM.out h) (by decide)
        have hw1 := shl_int (h40 g3)
        have hw2 := shl_int (h40 g4)
        have hx1 := i64_xor V (U <<< s) (Nat.lt_trans bv (by decide)) (Nat.lt_trans (h40 g3) (by decide))
        have hx2 := i64_xor Y (X <<< s) (Nat.lt_trans by2 (by decide)) (Nat.lt_trans (h40 g4) (by decide))
        obtain ⟨Q1, hQ1⟩ : ∃ Q, U <<< s = Q := ⟨_, rfl⟩
        obtain ⟨Q2, hQ2⟩ : ∃ Q, X <<< s = Q := ⟨_, rfl⟩
        rw [hQ1] at hw1 hx1 g3 g5 g6
        rw [hQ2] at hw2 hx2 g4 g5
        obtain ⟨U2, hU2⟩ : ∃ Q, V ^^^ Q1 = Q := ⟨_, rfl⟩
        obtain ⟨X2, hX2⟩ : ∃ Q, Y ^^^ Q2 = Q := ⟨_, rfl⟩
        rw [hU2] at hx1 g5 g6
        rw [hX2] at hx2 g5
        have hq1 := pow18 HM.out g3
        have hq2 := pow18 HM.out g4
        obtain ⟨D1, hD1⟩ : ∃ D, degI U = D := ⟨_, rfl⟩
        obtain ⟨D2, hD2⟩ : ∃ D, degI V = D := ⟨_, rfl⟩
        have HD1 := Lib.hid hD1
        have HD2 := Lib.hid hD2
        have l1 := degI_ge U
        have l2 := degI_ge V
        have l3 := degI_le (x := U) (k := 18) (by rw [show 2 ^ 18 = 262144 by decide]; exact bu)
        have l4 := degI_le (x := V) (k := 18) (by rw [show 2 ^ 18 = 262144 by decide]; exact bv)
        rw [hD1] at g1 hd l1 l3
        rw [hD2] at g1 hd l2 l4
        have HG5 := Lib.hid g5
        have HG6 := Lib.hid g6
        have hs18 : s ≤ 18 := by omega
        clear hQ1 hQ2 hU2 hX2 hD1 hD2 g5 g6 g3 g4 g2 h1
        have hs0 : 0 < s := by omega
        have hsub : D1 - D2 = -(s : Int) := by omega
        clear g1 hd
        go_wp2_with fail
        refine (degree_any U (Nat.lt_trans bu (by decide)) _).mono ?_
        rw [HD1.out]
        rintro e w2 ⟨rfl, rfl⟩
        go_wp2_with fail
        refine (degree_any V (Nat.lt_trans bv (by decide)) _).mono ?_
        rw [HD2.out]
        rintro e w2 ⟨rfl, rfl⟩
        go_wp2_with fail
        go_roundw
        case rel => exact ⟨trivial, U2, U, X2, X, rfl, rfl, rfl, rfl, HG5.out⟩
        case measure => exact HG6.out
end Go.Proofs.YtaijjhddgecieaaDoor
