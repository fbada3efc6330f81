/- Schedules: the program's Valid. -/
import Derived.Test.YtghinmlpkgcdiaaDoorX1
import Derived.Test.YtghinmlpkgcdiaaDoorG4
import Derived.Deep.QuietTactic
import Derived.BigQuiet
import Derived.Deep.RegionHeld3
import Derived.IntWalk
namespace Go.Proofs.YtghinmlpkgcdiaaDoor
set_option linter.unusedSimpArgs false
set_option linter.unusedVariables false
open Go.RowKit Go.Lib

theorem outOk_low {T x : Int} (h : x < -1) : Xp.outOk T x = false := by
  unfold Xp.outOk; rw [decide_eq_false (by omega), Bool.false_and]
theorem outOk_high {T x : Int} (h : ¬ x < -1) : Xp.outOk T x = !decide (T ≤ x) := by
  unfold Xp.outOk
  rw [decide_eq_true (show -1 ≤ x by omega), Bool.true_and]
  by_cases h2 : T ≤ x
  · rw [decide_eq_true h2, decide_eq_false (by omega)]; rfl
  · rw [decide_eq_false h2, decide_eq_true (by omega)]; rfl
set_option maxRecDepth 100000 in
theorem xvalidf_any (f d p : Int) (qo : Option Addr) (no ko : Nat) (qx : Option Addr) (nx kx : Nat) (x n T : Int) (g : Nat) (w : World) (hg : Row w g 30 (schC f d p qo no ko qx nx kx))
    (hn : IntKind.i64.wrap (d * f) = n) (hT : IntKind.i64.wrap (n + no) = T) :
    Calls Tryd.prog 55 #[.int .i64 x, .pointer (some ⟨g, 0, none⟩)] w fun e w' => e = .returned (.bool (!Xp.outOk T x)) ∧ Below w.heap.size w w' := by
  have HG := Lib.hid hg
  obtain ⟨c0, c1, c2, c3, c4⟩ := sbox hg
  have HIN := Lib.hid (fun (W : World) => inputs_any f d p (.slice qo no ko) (.slice qx nx kx) n hn W)
  have HT := Lib.hid hT
  clear hg hn
  by_cases h0 : x < -1
  · have hd : decide (x < -1) = true := decide_eq_true h0
    have HO := Lib.hid (outOk_low (T := T) h0)
    clear h0 hT
    rw [HO.out]
    go_enter Tryd.func55, Tryd.ntmps55
    go_wp2
    go_quiet (fail)
    go_wp2
    go_ret
    exact ⟨rfl, below_drewN (Below.refl _ w) _⟩
  · have hd : decide (x < -1) = false := decide_eq_false h0
    have HO := Lib.hid (outOk_high (T := T) h0)
    clear h0
    rw [HO.out, Bool.not_not]
    have HW := Lib.hid ((Below.refl w.heap.size w).drew)
    go_enter Tryd.func55, Tryd.ntmps55
    go_wp2_with fail
    go_region_held3 (fun wn => wn.cell? ⟨g, 0, none⟩ = some (.int .i64 f) ∧ wn.cell? ⟨g, 1, none⟩ = some (.int .i64 d) ∧ wn.cell? ⟨g, 2, none⟩ = some (.int .i64 p) ∧ wn.cell? ⟨g, 3, none⟩ = some (.slice qo no ko) ∧ wn.cell? ⟨g, 4, none⟩ = some (.slice qx nx kx)) (first | exact sbox HR2.out | exact ⟨c0, c1, c2, c3, c4⟩) (first
      | (go_at_call 33; (with_reducible refine (HIN.out _).mono ?_); rintro e2 w2 ⟨rfl, hb2⟩; have HB2 := Lib.hid (show Below w.heap.size w w2 from undrew hb2); have HR2 := Lib.hid (HG.out.below HB2.out HG.out.lt); clear hb2))
    go_wp2
    go_ret
    exact ⟨rfl, HB2.out⟩
set_option maxRecDepth 100000 in
theorem xvalidi_any (f d p : Int) (qo : Option Addr) (no ko : Nat) (qx : Option Addr) (nx kx : Nat) (n T : Int) (a : Option Addr) (m k0 : Nat) (xs : List Int) (g : Nat) (w : World) (hl : xs.length = m) (hm : m ≤ 9223372036854775807) (hr : Rd w w.heap.size a (ints xs)) (hg : Row w g 30 (schC f d p qo no ko qx nx kx))
    (hn : IntKind.i64.wrap (d * f) = n) (hT : IntKind.i64.wrap (n + no) = T) :
    Calls Tryd.prog 69 #[.slice a m k0, .func (.func 55) #[] #[.pointer (some ⟨g, 0, none⟩)]] w fun e w' => Found (xs.any fun x => !Xp.outOk T x) e ∧ Below w.heap.size w w' := by
  have HR := Lib.hid hr
  have HG := Lib.hid hg
  have HL := Lib.hid hl
  have HF := Lib.hid (fun (x : Int) (W : World) (h : Row W g 30 (schC f d p qo no ko qx nx kx)) => xvalidf_any f d p qo no ko qx nx kx x n T g W h hn hT)
  clear hr hg hl hn hT
  go_enter Tryd.func69, Tryd.ntmps69
  go_wp2
  go_loopw [8] (fun i wr => ∃ k : Nat, k ≤ m ∧ i = .int .i64 k ∧ (xs.take k).any (fun x => !Xp.outOk T x) = false ∧ Below w.heap.size w wr) (fun i _ => m - (intOf i).toNat)
  case atStart => exact ⟨0, by omega, rfl, rfl, Below.refl _ _⟩
  case round =>
    obtain ⟨k, hk, rfl, ha, hbw⟩ := hrel
    have HA := Lib.hid ha
    have HBW := Lib.hid hbw
    clear ha hbw
    by_cases hlt : k < m
    · obtain ⟨x, hx⟩ : ∃ x, xs[k]? = some x := ⟨_, List.getElem?_eq_getElem (by rw [HL.out]; exact hlt)⟩
      obtain ⟨b, off, rfl, hb, hc⟩ := (HR.out.below HBW.out) k (.int .i64 x) (by rw [ints, List.getElem?_map, hx]; rfl)
      have HX := Lib.hid hx
      clear hx
      obtain ⟨bx, hbx⟩ : ∃ bx, (!Xp.outOk T x) = bx := ⟨_, rfl⟩
      have HBX := Lib.hid hbx
      clear hbx
      go_wp2_with fail
      refine (HF.out x _ (HG.out.below HBW.out HG.out.lt)).mono ?_
      rw [HBX.out]
      rintro e w1 ⟨rfl, hb1⟩
      have HB1 := Lib.hid (below_call HBW.out hb1)
      clear hb1
      cases bx
      · go_wp2
        go_roundw
        case rel => exact ⟨k + 1, by omega, by go_num, by rw [any_take HA.out HX.out]; exact HBX.out, HB1.out⟩
        case measure => simp [intOf]; omega
      · go_wp2
        go_ret
        refine ⟨.inr ⟨?_, k, rfl⟩, HB1.out⟩
        rw [List.any_eq_true]
        exact ⟨x, List.mem_of_getElem? HX.out, HBX.out⟩
    · have h1 : k = m := by omega
      have HA2 := Lib.hid (show xs.any (fun x => !Xp.outOk T x) = false by
        have := HA.out
        rwa [List.take_of_length_le (by rw [HL.out]; omega)] at this)
      clear h1
      go_wp2
      go_ret
      exact ⟨.inl ⟨HA2.out, rfl⟩, HBW.out⟩
set_option maxRecDepth 100000 in
theorem xvalidc_any (f d p : Int) (qo : Option Addr) (no ko : Nat) (qx : Option Addr) (nx kx : Nat) (n T : Int) (a : Option Addr) (m k0 : Nat) (xs : List Int) (g : Nat) (w : World) (hl : xs.length = m) (hm : m ≤ 9223372036854775807) (hr : Rd w w.heap.size a (ints xs)) (hg : Row w g 30 (schC f d p qo no ko qx nx kx))
    (hn : IntKind.i64.wrap (d * f) = n) (hT : IntKind.i64.wrap (n + no) = T) :
    Calls Tryd.prog 54 #[.slice a m k0, .func (.func 55) #[] #[.pointer (some ⟨g, 0, none⟩)]] w fun e w' => e = .returned (.bool (!xs.all (Xp.outOk T))) ∧ Below w.heap.size w w' := by
  have h := xvalidi_any f d p qo no ko qx nx kx n T a m k0 xs g w hl hm hr hg hn hT
  rw [List.not_all_eq_any_not]
  generalize (xs.any fun x => !Xp.outOk T x) = b at h
  have H := Lib.hid h
  clear h hl hr hg hn hT
  go_enter Tryd.func54, Tryd.ntmps54
  go_wp2_with fail
  refine H.out.mono ?_
  rintro e w1 ⟨hf, hb⟩
  have HB := Lib.hid hb
  clear hb
  rcases hf with ⟨rfl, rfl⟩ | ⟨rfl, k, rfl⟩
  · go_wp2
    go_ret
    exact ⟨rfl, HB.out⟩
  · have hd : decide (0 ≤ (k : Int)) = true := by simp
    go_wp2
    go_ret
    exact ⟨rfl, HB.out⟩
theorem min_two (a b : Int) (ts : Array TypeId) (t : TypeId) (W : World) : (Builtin.min_ ts t #[.int .i64 a, .int .i64 b]).run Tryd.prog W = .ok (.int .i64 (if b < a then b else a)) W := by
  simp [Builtin.min_, Builtin.min2]
theorem max_two (a b : Int) (ts : Array TypeId) (t : TypeId) (W : World) : (Builtin.max_ ts t #[.int .i64 a, .int .i64 b]).run Tryd.prog W = .ok (.int .i64 (if a < b then b else a)) W := by
  simp [Builtin.max_, Builtin.max2]
theorem allB_zero (f : Int) : allB f [0] = (decide (f = 8) || decide (f = 16)) := by
  by_cases h : okM f = true
  · obtain ⟨m, hm, rfl⟩ := okM_iff.1 h
    have := allB_one hm (Nat.two_pow_pos m)
    rw [show ((0 : Nat) : Int) = 0 from rfl] at this
    rw [this]
    rcases hm with rfl | rfl <;> rfl
  · have e : allB f [0] = false := by
      unfold allB
      rw [Bool.not_eq_true] at h
      rw [h]; rfl
    rw [e]
    by_cases h8 : f = 8
    · subst h8; exact absurd rfl h
    · by_cases h16 : f = 16
      · subst h16; exact absurd rfl h
      · rw [decide_eq_false h8, decide_eq_false h16]; rfl
theorem headOk_no {f d p : Int} {no nx : Nat} (h : (decide (f = 8) || decide (f = 16)) = false ∨ d < 1 ∨ p < 0 ∨ 32 < d) : Xp.headOk f d p no nx = false := by
  unfold Xp.headOk
  rcases h with h | h | h | h
  · rw [h]; simp
  · rw [decide_eq_false (show ¬ 1 ≤ d by omega)]; simp
  · rw [decide_eq_false (show ¬ 0 ≤ p by omega)]; simp
  · rw [decide_eq_false (show ¬ d ≤ 32 by omega)]; simp
end Go.Proofs.YtghinmlpkgcdiaaDoor
