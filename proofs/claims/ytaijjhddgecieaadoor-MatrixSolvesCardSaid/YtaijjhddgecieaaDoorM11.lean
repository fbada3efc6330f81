/- Matrices: the exchange of two rows. -/
import Derived.Test.YtaijjhddgecieaaDoorM10
namespace Go.Proofs.YtaijjhddgecieaaDoor
set_option linter.unusedSimpArgs false
set_option linter.unusedVariables false
open Go.RowKit Go.Lib

theorem only_drew {X : Nat → Prop} {a b : World} (h : Only X a b) : Only X a b.drew := ⟨h.os, h.tape, h.output, h.size, h.block⟩
theorem MatR.of_cells2 {w : World} {B m r c k g : Nat} {A : Nat → Nat → Nat} (h : Cells w g (r * c) (Mat.flat c A)) (hg : g < B) (hm : Fld.IsM m) (hr : r ≤ 32) (hc : c ≤ 64) (hk : r * c ≤ k) (hk2 : k ≤ maxLen) (ok : Mat.Ok m r c A) : MatR w B m r c (some ⟨g, 0, none⟩) k A :=
  ⟨hm, hr, hc, hk, hk2, (fun e => by cases e), ok, fun i j hi hj => ⟨g, 0, rfl, hg, by
    rw [Nat.zero_add, h.cell (Mat.at_lt hi hj), Mat.flat_at _ _ hj]⟩⟩
/-- the rows i and k exchanged in the first t columns -/
def swTo (A : Nat → Nat → Nat) (i k t p q : Nat) : Nat := if q < t then Mat.swap A i k p q else A p q
theorem at_inj {c i j p q : Nat} (hj : j < c) (hq : q < c) (h : i * c + j = p * c + q) : i = p ∧ j = q := by
  have h1 : (i * c + j) / c = (p * c + q) / c := by rw [h]
  have h2 : (i * c + j) % c = (p * c + q) % c := by rw [h]
  rw [Nat.mul_comm, Nat.mul_add_div (by omega), Nat.div_eq_of_lt hj, Nat.add_zero, Nat.mul_comm p, Nat.mul_add_div (by omega), Nat.div_eq_of_lt hq, Nat.add_zero] at h1
  rw [Nat.mul_comm, Nat.mul_add_mod, Nat.mod_eq_of_lt hj, Nat.mul_comm p, Nat.mul_add_mod, Nat.mod_eq_of_lt hq] at h2
  exact ⟨h1, h2⟩
theorem swTo_step {r c : Nat} {A : Nat → Nat → Nat} {i k t : Nat} (hi : i < r) (hk : k < r) (ht : t < c) : ∀ p, p < r * c → (if p = k * c + t then A i t else if p = i * c + t then A k t else Mat.flat c (swTo A i k t) p) = Mat.flat c (swTo A i k (t + 1)) p := fun p hp => by
  obtain ⟨h1, h2, h3⟩ := Mat.flat_split hp
  generalize p / c = a at h1 h3
  generalize p % c = b at h2 h3
  subst h3
  rw [Mat.flat_at _ _ h2, Mat.flat_at _ _ h2]
  unfold swTo Mat.swap
  by_cases hb : b = t
  · subst hb
    rw [if_neg (Nat.lt_irrefl _), if_pos (Nat.lt_succ_self _)]
    by_cases ea : a = i
    · subst ea
      rw [if_pos rfl]
      by_cases e2 : a = k
      · subst e2; rw [if_pos rfl, if_pos rfl]
      · rw [if_neg (fun h => e2 (at_inj h2 ht h).1), if_pos rfl]
    · rw [if_neg ea]
      by_cases e2 : a = k
      · subst e2; rw [if_pos rfl, if_pos rfl]
      · rw [if_neg (fun h => e2 (at_inj h2 ht h).1), if_neg (fun h => ea (at_inj h2 ht h).1), if_neg e2]
  · rw [if_neg (fun h => hb (at_inj h2 ht h).2), if_neg (fun h => hb (at_inj h2 ht h).2)]
    by_cases hlt : b < t
    · rw [if_pos hlt, if_pos (show b < t + 1 by omega)]
    · rw [if_neg hlt, if_neg (show ¬ b < t + 1 by omega)]
set_option maxRecDepth 100000 in
set_option maxHeartbeats 3200000 in
theorem mswap_any {m r c kap : Nat} {A : Nat → Nat → Nat} (hm : Fld.IsM m) (hr : r ≤ 32) (hc : c ≤ 64) (hpos : 0 < c) (hk1 : r * c ≤ kap) (hk2 : kap ≤ maxLen) (ok : Mat.Ok m r c A) {i k : Nat} (hi : i < r) (hk : k < r) (gb g : Nat) (hne : gb ≠ g) (w : World) (hbox : Row w gb 24 (matC m r c (some ⟨g, 0, none⟩) (r * c) kap)) (hcell : Cells w g (r * c) (Mat.flat c A)) :
    Calls Tryd.prog 48 #[.int .i64 i, .int .i64 k, .pointer (some ⟨gb, 0, none⟩)] w fun e w' => (∃ v, e = .returned v) ∧ Cells w' g (r * c) (Mat.flat c (Mat.swap A i k)) ∧ Only (fun b => b = g) w w' := by
  have hN : r * c ≤ 32 * 64 := Nat.mul_le_mul hr hc
  have HM := Lib.hid (MatR.of_cells2 hcell (Nat.lt_succ_self g) hm hr hc hk1 hk2 ok)
  have HR0 := Lib.hid (fun j hj W => mrow_any HM.out j hj W)
  have hil := Mat.at_lt (c := c) (j := c - 1) hi (by omega)
  have hkl := Mat.at_lt (c := c) (j := c - 1) hk (by omega)
  have HST := Lib.hid (fun t ht => swTo_step (A := A) (t := t) hi hk (ht : t < c))
  obtain ⟨N, hN0⟩ : ∃ N, r * c = N := ⟨_, rfl⟩
  obtain ⟨oi, hoi⟩ : ∃ o, i * c = o := ⟨_, rfl⟩
  obtain ⟨ok0, hok⟩ : ∃ o, k * c = o := ⟨_, rfl⟩
  have HN := Lib.hid hN0
  have HOI := Lib.hid hoi
  have HOK := Lib.hid hok
  rw [hN0] at hN hbox hcell HR0 hil hkl HST ⊢
  rw [hoi] at hil HST
  rw [hok] at hkl HST
  clear hN0 hoi hok
  have HBX := Lib.hid hbox
  have HC := Lib.hid hcell
  have HBL := Lib.hid (Below.refl w.heap.size w).drew
  obtain ⟨c0, c1, c2, c3⟩ := mbox hbox
  unfold matV at HR0
  clear hbox hcell
  go_enter Tryd.func48, Tryd.ntmps48
  go_wp2_with fail
  go_region_held3 (fun wn => (wn.cell? ⟨gb, 0, none⟩ = some (.int .i64 m) ∧ wn.cell? ⟨gb, 1, none⟩ = some (.int .i64 r) ∧ wn.cell? ⟨gb, 2, none⟩ = some (.int .i64 c) ∧ wn.cell? ⟨gb, 3, none⟩ = some (.slice (some ⟨g, 0, none⟩) N kap))) (first | exact mbox HB2.out | exact mbox HB1.out | exact mbox HBX.out) (first
    | (go_at_call 36; (with_reducible refine (HR0.out i hi _).mono ?_); rintro e5 w5 ⟨q2, k2, rfl, hk21, hk22, hq2, hb5⟩; have HL1 := Lib.hid (show Below w.heap.size w w5 from undrew hb5); have HB1 := Lib.hid (HBX.out.below HL1.out HBX.out.lt); have HQ2 := Lib.hid hq2; clear hq2)
    | (go_at_call 36; (with_reducible refine (HR0.out k hk _).mono ?_); rintro e6 w6 ⟨q3, k3, rfl, hk31, hk32, hq3, hb6⟩; have HL2 := Lib.hid (below_call HL1.out hb6); have HB2 := Lib.hid (HB1.out.below hb6 HB1.out.lt); have HQ3 := Lib.hid hq3; clear hq3))
  have hqi : q2 = some ⟨g, oi, none⟩ := by
    obtain ⟨g9, o9, e9, e10⟩ := HQ2.out hpos
    injection e9 with e9
    injection e9 with e9 e11
    rw [e10, ← e9, ← e11, HOI.out, Nat.zero_add]
  have hqk : q3 = some ⟨g, ok0, none⟩ := by
    obtain ⟨g9, o9, e9, e10⟩ := HQ3.out hpos
    injection e9 with e9
    injection e9 with e9 e11
    rw [e10, ← e9, ← e11, HOK.out, Nat.zero_add]
  subst hqi; subst hqk
  have HC6 := Lib.hid (show Cells w6 g N (Mat.flat c (swTo A i k 0)) from (HC.out.below HL2.out HC.out.lt).congr (fun p _ => by unfold swTo Mat.flat; simp))
  clear hb5 hb6 c0 c1 c2 c3 HR0
  go_wp2_with fail
  go_loopw [16] (fun t wr => ∃ t' : Nat, t' ≤ c ∧ t = .int .i64 t' ∧ Cells wr g N (Mat.flat c (swTo A i k t')) ∧ Only (fun b => b = g) w wr) (fun i _ => c - (intOf i).toNat)
  case atStart => exact ⟨0, Nat.zero_le _, rfl, HC6.out, Only.of_below HL2.out (fun k hk _ => hk)⟩
  case round =>
    obtain ⟨t, htc, rfl, hcw, hon⟩ := hrel
    have HCW := Lib.hid hcw
    have HON := Lib.hid hon
    clear hcw hon
    by_cases hlt : t < c
    · have hd : decide ((t : Int) < c) = true := decide_eq_true (by omega)
      have hia : oi + t < N := by omega
      have hka : ok0 + t < N := by omega
      have hx := HCW.out.cell hia
      have hy := HCW.out.cell hka
      have hfx := HCW.out.frozen (oi + t)
      have hfy := HCW.out.frozen (ok0 + t)
      have ex : Mat.flat c (swTo A i k t) (oi + t) = A i t := by
        rw [← HOI.out, Mat.flat_at _ _ hlt]; unfold swTo; rw [if_neg (Nat.lt_irrefl _)]
      have ey : Mat.flat c (swTo A i k t) (ok0 + t) = A k t := by
        rw [← HOK.out, Mat.flat_at _ _ hlt]; unfold swTo; rw [if_neg (Nat.lt_irrefl _)]
      rw [ex] at hx
      rw [ey] at hy
      obtain ⟨X, hX⟩ : ∃ X, A i t = X := ⟨_, rfl⟩
      obtain ⟨Y, hY⟩ : ∃ Y, A k t = Y := ⟨_, rfl⟩
      have HST1 := Lib.hid (HST.out t hlt)
      have hs1 := (HCW.out.put hia Y).cell hka
      have hs2 := (HCW.out.put hka X).cell hia
      rw [ey, hY, ite_self] at hs1
      rw [ex, hX, ite_self] at hs2
      rw [hX] at hx
      rw [hY] at hy
      rw [hX, hY] at HST1
      clear ex ey hX hY
      go_wp2_with fail
      go_region
      have HC7 := Lib.hid (((HCW.out.put hia Y).put hka X).congr HST1.out)
      go_wp2_with fail
      go_roundw
      case rel => exact ⟨t + 1, by omega, by go_num, HC7.out, only_drew ((HON.out.setCell (p := ⟨g, oi + t, none⟩) rfl _).setCell (p := ⟨g, ok0 + t, none⟩) rfl _)⟩
      case measure => simp [intOf]; omega
    · have hd : decide ((t : Int) < c) = false := decide_eq_false (by omega)
      have htc : t = c := by omega
      subst htc
      go_wp2_with fail
      exact ⟨by simp, _, results_none rfl _ _ _, ⟨_, rfl⟩, HCW.out.congr (fun p hp => by rw [← HN.out] at hp; exact Mat.flat_congr (fun p q h1 h2 => by unfold swTo; rw [if_pos h2]) p hp), HON.out⟩
end Go.Proofs.YtaijjhddgecieaaDoor
