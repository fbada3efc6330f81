/- Schedules: the specification's Valid. (Printed by mkrv.py.) Schedules: the elements of exactly one of two increasing lists, the plain words. Schedules: the specification's both. Schedules: lists of sets in memory; the specification's SameInts and SameSets. -/
import Derived.Test.YtghinmlpkgcdiaaDoorXR
import Derived.BigQuiet
import Derived.Test.YtghinmlpkgcdiaaDoorXB
/-! Schedules: the specification's Valid. (Printed by mkrv.py.) -/
namespace Go.Proofs.YtghinmlpkgcdiaaDoor
set_option linter.unusedSimpArgs false
set_option linter.unusedVariables false
open Go.RowKit Go.Lib

set_option maxRecDepth 100000 in
set_option maxHeartbeats 3200000 in
theorem rvalid_low (f d p : Int) (qo : Option Addr) (no ko : Nat) (qx : Option Addr) (nx kx : Nat) (w : World) (hno : no ≤ 9223372036854775807) (h : (f ≠ 8 ∧ f ≠ 16) ∨ d < 1 ∨ p < 0 ∨ 32 < d ∨ 32 - d < p ∨ 131072 < no) :
    Calls Tryd.prog 25 #[schV f d p qo no ko qx nx kx] w fun e w' => e = .returned (.bool false) ∧ Below w.heap.size w w' := by
  unfold schV
  have HB := Lib.hid ((Below.refl _ w).alloc (Nat.le_refl _) (.cells (schC f d p qo no ko qx nx kx) 30))
  by_cases hf : f ≠ 8 ∧ f ≠ 16
  · have h8 : (f != 8) = true := by simpa using hf.1
    have h16 : (f != 16) = true := by simpa using hf.2
    clear hf h
    go_enter Tryd.func25, Tryd.ntmps25
    go_wp2
    go_ret
    exact ⟨rfl, HB.out⟩
  · have h := h.resolve_left hf
    have hff : f = 8 ∨ f = 16 := by omega
    clear hf
    by_cases h1 : d < 1
    · have e1 : decide (d < 1) = true := decide_eq_true h1
      clear h h1
      rcases hff with rfl | rfl
      · go_enter Tryd.func25, Tryd.ntmps25
        go_wp2
        go_ret
        exact ⟨rfl, HB.out⟩
      · go_enter Tryd.func25, Tryd.ntmps25
        go_wp2
        go_ret
        exact ⟨rfl, HB.out⟩
    have e1 : decide (d < 1) = false := decide_eq_false h1
    by_cases h2 : p < 0
    · have e2 : decide (p < 0) = true := decide_eq_true h2
      clear h h1 h2
      rcases hff with rfl | rfl
      · go_enter Tryd.func25, Tryd.ntmps25
        go_wp2
        go_ret
        exact ⟨rfl, HB.out⟩
      · go_enter Tryd.func25, Tryd.ntmps25
        go_wp2
        go_ret
        exact ⟨rfl, HB.out⟩
    have e2 : decide (p < 0) = false := decide_eq_false h2
    by_cases h3 : 32 < d
    · have e3 : decide (32 < d) = true := decide_eq_true h3
      clear h h1 h2 h3
      rcases hff with rfl | rfl
      · go_enter Tryd.func25, Tryd.ntmps25
        go_wp2
        go_ret
        exact ⟨rfl, HB.out⟩
      · go_enter Tryd.func25, Tryd.ntmps25
        go_wp2
        go_ret
        exact ⟨rfl, HB.out⟩
    have e3 : decide (32 < d) = false := decide_eq_false h3
    have hwd : IntKind.i64.wrap (32 - d) = 32 - d := by rw [IntKind.wrap_i64] <;> omega
    by_cases h4 : 32 - d < p
    · have e4 : decide (32 - d < p) = true := decide_eq_true h4
      clear h h1 h2 h3 h4
      rcases hff with rfl | rfl
      · go_enter Tryd.func25, Tryd.ntmps25
        go_wp2
        go_ret
        exact ⟨rfl, HB.out⟩
      · go_enter Tryd.func25, Tryd.ntmps25
        go_wp2
        go_ret
        exact ⟨rfl, HB.out⟩
    have e4 : decide (32 - d < p) = false := decide_eq_false h4
    have e5 : decide (131072 < (no : Int)) = true := decide_eq_true (by omega)
    clear h h1 h2 h3 h4
    rcases hff with rfl | rfl
    · go_enter Tryd.func25, Tryd.ntmps25
      go_wp2
      go_ret
      exact ⟨rfl, HB.out⟩
    · go_enter Tryd.func25, Tryd.ntmps25
      go_wp2
      go_ret
      exact ⟨rfl, HB.out⟩
set_option maxRecDepth 100000 in
set_option maxHeartbeats 3200000 in
theorem rvalid_go {m : Nat} (hm : Fld.IsM m) (d p : Int) (qo : Option Addr) (no ko : Nat) (qx : Option Addr) (nx kx : Nat) (ops : List (Int × Int)) (out : List Int) (w : World) (hd1 : 1 ≤ d) (hd2 : d ≤ 32) (hp : 0 ≤ p) (hp2 : p ≤ 32 - d) (hno : no ≤ 131072) (hnxm : nx ≤ 9223372036854775807)
    (hlo : ops.length = no) (hro : Rd w w.heap.size qo (opsC ops)) (hlx : out.length = nx) (hrx : Rd w w.heap.size qx (ints out)) :
    Calls Tryd.prog 25 #[schV m d p qo no ko qx nx kx] w fun e w' => e = .returned (.bool (Xp.opsOk (d * m) ops && decide ((nx : Int) = p * m) && out.all (Xp.outOk (d * m + no)))) ∧ Below w.heap.size w w' := by
  unfold schV
  have hwd : IntKind.i64.wrap (32 - d) = 32 - d := by rw [IntKind.wrap_i64] <;> omega
  obtain ⟨n, hn⟩ : ∃ n, d * (m : Int) = n := ⟨_, rfl⟩
  have hn1 : 0 ≤ n ∧ n ≤ 512 := by rcases hm with rfl | rfl <;> omega
  have hwn : IntKind.i64.wrap (d * (m : Int)) = n := by rw [hn, IntKind.wrap_i64] <;> omega
  obtain ⟨T, hT⟩ : ∃ T, n + (no : Int) = T := ⟨_, rfl⟩
  have hwT : IntKind.i64.wrap (n + (no : Int)) = T := by rw [hT, IntKind.wrap_i64] <;> omega
  obtain ⟨pm, hpm⟩ : ∃ x, p * (m : Int) = x := ⟨_, rfl⟩
  have hpm1 : 0 ≤ pm ∧ pm ≤ 512 := by rcases hm with rfl | rfl <;> omega
  have hwp : IntKind.i64.wrap (p * (m : Int)) = pm := by rw [hpm, IntKind.wrap_i64] <;> omega
  rw [hn, hT, hpm]
  have h1 : decide (d < 1) = false := decide_eq_false (by omega)
  have h2 : decide (p < 0) = false := decide_eq_false (by omega)
  have h3 : decide (32 < d) = false := decide_eq_false (by omega)
  have h4 : decide (32 - d < p) = false := decide_eq_false (by omega)
  have h5 : decide (131072 < (no : Int)) = false := decide_eq_false (by omega)
  have hm8 : (((m : Int) != 8) = false) ∨ (((m : Int) != 8) = true ∧ ((m : Int) != 16) = false) := by rcases hm with rfl | rfl <;> simp
  have HLO := Lib.hid hlo
  have HRO := Lib.hid hro
  have HLX := Lib.hid hlx
  have HRX := Lib.hid hrx
  have HW : Hid (Below w.heap.size w (w.alloc (.cells (schC m d p qo no ko qx nx kx) 30))) := Lib.hid ((Below.refl _ w).alloc (Nat.le_refl _) _)
  have HR : Hid (Row (w.alloc (.cells (schC m d p qo no ko qx nx kx) 30)) w.heap.size 30 (schC m d p qo no ko qx nx kx)) := Lib.hid (Row.new w _ _)
  obtain ⟨w1, hw1⟩ : ∃ w1, w1 = w.alloc (.cells (schC m d p qo no ko qx nx kx) 30) := ⟨_, rfl⟩
  have hs1 : w1.heap.size = w.heap.size + 1 := by rw [hw1]; simp
  have HT := Lib.hid hT
  clear hn hT hpm hlo hro hlx hrx
  go_enter Tryd.func25, Tryd.ntmps25
  rcases hm8 with hm8 | ⟨hm8, hm16⟩
  all_goals
    go_wp2_with fail
    rw [← hw1] at HW HR ⊢
    go_loopw [4] (fun i wr => ∃ k : Nat, k ≤ no ∧ i = .int .i64 k ∧ Xp.opsOk n (ops.take k) = true ∧ Below w1.heap.size w1 wr) (fun i _ => no - (intOf i).toNat)
    case atStart => exact ⟨0, Nat.zero_le _, rfl, rfl, Below.refl _ _⟩
    case round =>
      obtain ⟨k, hk, rfl, hok, hbw⟩ := hrel
      have HOK := Lib.hid hok
      have HBW := Lib.hid hbw
      have hsw := hbw.size
      clear hok hbw
      have HRW := Lib.hid (HR.out.below HBW.out HR.out.lt)
      obtain ⟨c0, c1, c2, c3, c4⟩ := sbox HRW.out
      have hb0 : w.heap.size < wr.heap.size := by omega
      have HBT := Lib.hid (HW.out.trans (HBW.out.mono HW.out.size))
      by_cases hlt : k < no
      · have hdk : decide ((k : Int) < no) = true := decide_eq_true (by omega)
        obtain ⟨⟨x, y⟩, ho⟩ : ∃ o, ops[k]? = some o := ⟨_, List.getElem?_eq_getElem (by rw [HLO.out]; exact hlt)⟩
        obtain ⟨b, off, rfl, hb, hx, hy⟩ := (HRO.out.below HBT.out).op ho
        have HOO := Lib.hid ho
        obtain ⟨r, hr⟩ : ∃ r, n + (k : Int) = r := ⟨_, rfl⟩
        have hwr : IntKind.i64.wrap (n + (k : Int)) = r := by rw [hr, IntKind.wrap_i64] <;> omega
        have HOP := Lib.hid (show Xp.opOk (n + (k : Int)) (x, y) = (!decide (x < 0) && !decide (y < 0) && !decide (r ≤ x) && !decide (r ≤ y) && !(x == y)) by
          rw [hr, Bool.eq_iff_iff, Xp.opOk_iff]
          simp only [Bool.and_eq_true, Bool.not_eq_true', decide_eq_false_iff_not, beq_eq_false_iff_ne]
          omega)
        obtain ⟨b1, e1⟩ : ∃ b, decide (x < 0) = b := ⟨_, rfl⟩
        obtain ⟨b2, e2⟩ : ∃ b, decide (y < 0) = b := ⟨_, rfl⟩
        obtain ⟨b3, e3⟩ : ∃ b, decide (r ≤ x) = b := ⟨_, rfl⟩
        obtain ⟨b4, e4⟩ : ∃ b, decide (r ≤ y) = b := ⟨_, rfl⟩
        obtain ⟨b5, e5⟩ : ∃ b, (x == y) = b := ⟨_, rfl⟩
        rw [e1, e2, e3, e4, e5] at HOP
        have hs : (b1 = true ∨ (b1 = false ∧ b2 = true) ∨ (b1 = false ∧ b2 = false ∧ b3 = true) ∨ (b1 = false ∧ b2 = false ∧ b3 = false ∧ b4 = true) ∨ (b1 = false ∧ b2 = false ∧ b3 = false ∧ b4 = false ∧ b5 = true)) ∨ (b1 = false ∧ b2 = false ∧ b3 = false ∧ b4 = false ∧ b5 = false) := by
          cases b1 <;> cases b2 <;> cases b3 <;> cases b4 <;> cases b5 <;> simp
        clear ho hr
        have HBX := Lib.hid (HBW.out.alloc HBW.out.size (.cells #[.int .i64 x, .int .i64 y] 66))
        rcases hs with hs | ⟨rfl, rfl, rfl, rfl, rfl⟩
        · have HBAD := Lib.hid (show Xp.opsOk n ops = false from Xp.opsOk_bad HOO.out (by
            rw [HOP.out]
            rcases hs with rfl | ⟨rfl, rfl⟩ | ⟨rfl, rfl, rfl⟩ | ⟨rfl, rfl, rfl, rfl⟩ | ⟨rfl, rfl, rfl, rfl, rfl⟩ <;> simp))
          rcases hs with rfl | ⟨rfl, rfl⟩ | ⟨rfl, rfl, rfl⟩ | ⟨rfl, rfl, rfl, rfl⟩ | ⟨rfl, rfl, rfl, rfl, rfl⟩
          all_goals
            go_wp2
            go_ret
            exact ⟨ret_bool (by rw [HBAD.out, Bool.false_and, Bool.false_and]), HW.out.trans (HBX.out.mono HW.out.size)⟩
        · have HGO := Lib.hid (show Xp.opsOk n (ops.take (k + 1)) = true by
            rw [Xp.opsOk_take HOO.out, HOK.out, HOP.out]; rfl)
          go_wp2_with fail
          go_roundw
          case rel => exact ⟨k + 1, by omega, by go_num, HGO.out, HBX.out⟩
          case measure => simp [intOf]; omega
      · have hdk : decide ((k : Int) < no) = false := decide_eq_false (by omega)
        have hdk2 : decide (k < no) = false := decide_eq_false (by omega)
        have hkn : k = no := by omega
        have HGO := Lib.hid (show Xp.opsOk n ops = true by
          have := HOK.out
          rwa [List.take_of_length_le (by rw [HLO.out]; omega)] at this)
        clear hkn
        by_cases hq : (nx : Int) = pm
        · have hq1 : ((nx : Int) != pm) = false := by simpa using hq
          have HQ := Lib.hid (show decide ((nx : Int) = pm) = true from decide_eq_true hq)
          have hnx5 : nx ≤ 512 := by omega
          clear hq
          go_wp2_with fail
          clear hdk hdk2 hq1 c0 c1 c2 c3 c4
          obtain ⟨wo, rfl⟩ : ∃ wo : World, wo = wr := ⟨_, rfl⟩
          go_loopw [6] (fun i wr => ∃ j : Nat, j ≤ nx ∧ i = .int .i64 j ∧ (out.take j).all (Xp.outOk T) = true ∧ Below wo.heap.size wo wr) (fun i _ => nx - (intOf i).toNat)
          case atStart => exact ⟨0, Nat.zero_le _, rfl, rfl, Below.refl _ _⟩
          case round =>
            obtain ⟨j, hj, rfl, hoa, hbj⟩ := hrel
            have HOA := Lib.hid hoa
            have HBJ := Lib.hid hbj
            clear hoa hbj
            have HRJ := Lib.hid (HRW.out.below HBJ.out HRW.out.lt)
            obtain ⟨c0, c1, c2, c3, c4⟩ := sbox HRJ.out
            by_cases hjl : j < nx
            · have hdj : decide ((j : Int) < nx) = true := decide_eq_true (by omega)
              obtain ⟨x, hx⟩ : ∃ x, out[j]? = some x := ⟨_, List.getElem?_eq_getElem (by rw [HLX.out]; exact hjl)⟩
              obtain ⟨b, off, rfl, hb, hcx⟩ := (HRX.out.below (HBT.out.trans (HBJ.out.mono HBT.out.size))) j (.int .i64 x) (by rw [ints, List.getElem?_map, hx]; rfl)
              have HXX := Lib.hid hx
              obtain ⟨b1, e1⟩ : ∃ b, decide (x < -1) = b := ⟨_, rfl⟩
              obtain ⟨b2, e2⟩ : ∃ b, decide (T ≤ x) = b := ⟨_, rfl⟩
              have HOP := Lib.hid (show Xp.outOk T x = (!b1 && !b2) by
                rw [← e1, ← e2]; unfold Xp.outOk
                rw [Bool.eq_iff_iff]; simp only [Bool.and_eq_true, Bool.not_eq_true', decide_eq_false_iff_not, decide_eq_true_eq]; omega)
              clear hx
              have hs : (b1 = true ∨ (b1 = false ∧ b2 = true)) ∨ (b1 = false ∧ b2 = false) := by cases b1 <;> cases b2 <;> simp
              rcases hs with hs | ⟨rfl, rfl⟩
              · have HBAD := Lib.hid (show out.all (Xp.outOk T) = false by
                  rw [List.all_eq_false]
                  refine ⟨x, List.mem_of_getElem? HXX.out, ?_⟩
                  rw [HOP.out]
                  rcases hs with rfl | ⟨rfl, rfl⟩ <;> simp)
                rcases hs with rfl | ⟨rfl, rfl⟩
                all_goals
                  go_wp2_with fail
                  go_quiet (fail)
                  go_wp2
                  go_ret
                  exact ⟨ret_bool (by rw [HBAD.out, Bool.and_false]), below_drewN (HBT.out.trans (HBJ.out.mono HBT.out.size)) _⟩
              · have HGJ := Lib.hid (show (out.take (j + 1)).all (Xp.outOk T) = true by
                  rw [List.take_add_one, HXX.out, List.all_append, HOA.out]; simp [HOP.out])
                go_wp2_with fail
                go_quiet (fail)
                go_wp2_with fail
                go_roundw
                case rel => exact ⟨j + 1, by omega, by go_num, HGJ.out, below_drewN HBJ.out _⟩
                case measure => simp [intOf]; omega
            · have hdj : decide ((j : Int) < nx) = false := decide_eq_false (by omega)
              have hdj2 : decide (j < nx) = false := decide_eq_false (by omega)
              have HAL := Lib.hid (show out.all (Xp.outOk T) = true by
                have := HOA.out
                rwa [List.take_of_length_le (by rw [HLX.out]; omega)] at this)
              go_wp2
              go_ret
              exact ⟨ret_bool (by rw [HGO.out, HQ.out, HAL.out]; rfl), HBT.out.trans (HBJ.out.mono HBT.out.size)⟩
        · have hq1 : ((nx : Int) != pm) = true := by simpa using hq
          have HQ := Lib.hid (show decide ((nx : Int) = pm) = false from decide_eq_false hq)
          clear hq
          go_wp2
          go_ret
          exact ⟨ret_bool (by rw [HQ.out, Bool.and_false, Bool.false_and]), HBT.out⟩
theorem svalid_any (f d p : Int) (qo : Option Addr) (no ko : Nat) (qx : Option Addr) (nx kx : Nat) (ops : List (Int × Int)) (out : List Int) (w : World) (hno : no ≤ 9223372036854775807) (hnx : nx ≤ 9223372036854775807)
    (hlo : ops.length = no) (hro : Rd w w.heap.size qo (opsC ops)) (hlx : out.length = nx) (hrx : Rd w w.heap.size qx (ints out)) :
    Calls Tryd.prog 25 #[schV f d p qo no ko qx nx kx] w fun e w' => e = .returned (.bool (Xp.okS f d p ops out)) ∧ Below w.heap.size w w' := by
  by_cases h : (f ≠ 8 ∧ f ≠ 16) ∨ d < 1 ∨ p < 0 ∨ 32 < d ∨ 32 - d < p ∨ 131072 < no
  · have e : Xp.okS f d p ops out = false := by
      unfold Xp.okS Xp.headOk
      rw [hlo]
      have hh : ((decide (f = 8) || decide (f = 16)) && decide (1 ≤ d) && decide (0 ≤ p) && decide (d ≤ 32) && decide (p ≤ 32 - d) && decide (no ≤ 131072)) = false := by
        rw [Bool.eq_false_iff]
        intro e
        simp only [Bool.and_eq_true, Bool.or_eq_true, decide_eq_true_eq] at e
        omega
      rw [hh, Bool.false_and, Bool.false_and, Bool.false_and]
    rw [e]
    exact rvalid_low f d p qo no ko qx nx kx w hno h
  · obtain ⟨m, hm, rfl⟩ : ∃ m : Nat, Fld.IsM m ∧ f = m := by
      rcases (show f = 8 ∨ f = 16 by omega) with rfl | rfl
      · exact ⟨8, .inl rfl, rfl⟩
      · exact ⟨16, .inr rfl, rfl⟩
    have e : Xp.okS (m : Int) d p ops out = (Xp.opsOk (d * m) ops && decide ((nx : Int) = p * m) && out.all (Xp.outOk (d * m + no))) := by
      unfold Xp.okS Xp.headOk
      rw [hlo, hlx, show (decide ((m : Int) = 8) || decide ((m : Int) = 16)) = true by rw [Bool.or_eq_true, decide_eq_true_eq, decide_eq_true_eq]; rcases hm with rfl | rfl <;> simp,
        decide_eq_true (show 1 ≤ d by omega), decide_eq_true (show 0 ≤ p by omega), decide_eq_true (show d ≤ 32 by omega), decide_eq_true (show p ≤ 32 - d by omega), decide_eq_true (show no ≤ 131072 by omega)]
      simp only [Bool.true_and]
      rw [Bool.and_comm (decide _)]
    rw [e]
    exact rvalid_go hm d p qo no ko qx nx kx ops out w (by omega) (by omega) (by omega) (by omega) (by omega) hnx hlo hro hlx hrx
end Go.Proofs.YtghinmlpkgcdiaaDoor
/-! Schedules: the elements of exactly one of two increasing lists, the plain words. -/
set_option linter.unusedVariables false
namespace Go.Proofs.YtghinmlpkgcdiaaDoor
namespace Xp

def mrg : List Nat → List Nat → List Nat
  | [], b => b
  | x :: a, [] => x :: a
  | x :: a, y :: b => if x < y then x :: mrg a (y :: b) else if y < x then y :: mrg (x :: a) b else mrg a b
theorem mrg_nil_right (a : List Nat) : mrg a [] = a := by cases a <;> simp [mrg]
theorem mrg_lt {x y : Nat} (a b : List Nat) (h : x < y) : mrg (x :: a) (y :: b) = x :: mrg a (y :: b) := by rw [mrg, if_pos h]
theorem mrg_gt {x y : Nat} (a b : List Nat) (h : y < x) : mrg (x :: a) (y :: b) = y :: mrg (x :: a) b := by rw [mrg, if_neg (by omega), if_pos h]
theorem mrg_eq (x : Nat) (a b : List Nat) : mrg (x :: a) (x :: b) = mrg a b := by rw [mrg, if_neg (by omega), if_neg (by omega)]
theorem mrg_cons_left {x : Nat} {a b : List Nat} (h : ∀ y ∈ b, x < y) : mrg (x :: a) b = x :: mrg a b := by
  cases b with
  | nil => rw [mrg_nil_right, mrg_nil_right]
  | cons y b => exact mrg_lt a b (h y (by simp))
theorem mrg_cons_right {x : Nat} {a b : List Nat} (h : ∀ y ∈ a, x < y) : mrg a (x :: b) = x :: mrg a b := by
  cases a with
  | nil => simp [mrg]
  | cons y a => exact mrg_gt a b (h y (by simp))
theorem mrg_filter (p q : Nat → Bool) : ∀ (l : List Nat), l.Pairwise (· < ·) → mrg (l.filter p) (l.filter q) = l.filter fun x => p x ^^ q x
  | [], _ => by simp [mrg]
  | x :: l, h => by
    obtain ⟨h1, h2⟩ := List.pairwise_cons.1 h
    have ih := mrg_filter p q l h2
    have hp : ∀ y ∈ l.filter p, x < y := fun y hy => h1 y (List.mem_filter.1 hy).1
    have hq : ∀ y ∈ l.filter q, x < y := fun y hy => h1 y (List.mem_filter.1 hy).1
    cases e1 : p x <;> cases e2 : q x
    · rw [List.filter_cons_of_neg (by simp [e1]), List.filter_cons_of_neg (by simp [e2]), List.filter_cons_of_neg (by simp [e1, e2]), ih]
    · rw [List.filter_cons_of_neg (by simp [e1]), List.filter_cons_of_pos e2, List.filter_cons_of_pos (by simp [e1, e2]), mrg_cons_right hp, ih]
    · rw [List.filter_cons_of_pos e1, List.filter_cons_of_neg (by simp [e2]), List.filter_cons_of_pos (by simp [e1, e2]), mrg_cons_left hq, ih]
    · rw [List.filter_cons_of_pos e1, List.filter_cons_of_pos e2, List.filter_cons_of_neg (by simp [e1, e2]), mrg_eq, ih]
theorem mrg_sets (n A B : Nat) : mrg (setOf n A) (setOf n B) = setOf n (A ^^^ B) := by
  unfold setOf
  rw [mrg_filter _ _ _ List.pairwise_lt_range]
  congr 1
  funext x
  rw [Nat.testBit_xor]
theorem setOf_one {n i : Nat} (h : i < n) : setOf n (1 <<< i) = [i] := by
  unfold setOf
  have e : ∀ x, (1 <<< i).testBit x = decide (x = i) := fun x => by
    rw [Nat.testBit_shiftLeft]
    by_cases hx : x = i
    · subst hx; simp
    · by_cases h2 : i ≤ x
      · have : x - i ≠ 0 := by omega
        obtain ⟨t, ht⟩ : ∃ t, x - i = t + 1 := ⟨x - i - 1, by omega⟩
        rw [ht, Nat.testBit_succ]; simp [hx]
      · simp [h2, hx]
  simp only [e]
  apply List.ext_getElem?
  intro j
  induction n with
  | zero => omega
  | succ n ih =>
    rw [List.range_succ, List.filter_append]
    by_cases hn : i = n
    · subst hn
      rw [show (List.range i).filter (fun x => decide (x = i)) = [] by
        rw [List.filter_eq_nil_iff]; intro a ha; have := List.mem_range.1 ha; simp; omega]
      simp
    · have hi : i < n := by omega
      have hne : n ≠ i := fun e => hn e.symm
      rw [show [n].filter (fun x => decide (x = i)) = [] by simp [hne], List.append_nil]
      exact ih hi
theorem setOf_length_le (n N : Nat) : (setOf n N).length ≤ n := by
  unfold setOf
  exact Nat.le_trans (List.length_filter_le _ _) (by simp)
theorem mrg_length_le : ∀ (a b : List Nat), (mrg a b).length ≤ a.length + b.length
  | [], b => by simp [mrg]
  | x :: a, [] => by simp [mrg]
  | x :: a, y :: b => by
    by_cases h1 : x < y
    · rw [mrg_lt a b h1]
      have := mrg_length_le a (y :: b)
      simp only [List.length_cons] at *; omega
    · by_cases h2 : y < x
      · rw [mrg_gt a b h2]
        have := mrg_length_le (x :: a) b
        simp only [List.length_cons] at *; omega
      · obtain rfl : x = y := by omega
        rw [mrg_eq]
        have := mrg_length_le a b
        simp only [List.length_cons]; omega
end Xp
end Go.Proofs.YtghinmlpkgcdiaaDoor
/-! Schedules: the specification's both. -/
namespace Go.Proofs.YtghinmlpkgcdiaaDoor
set_option linter.unusedSimpArgs false
set_option linter.unusedVariables false
open Go.RowKit Go.Lib

theorem drop_cons {l : List Nat} {i x : Nat} (h : l[i]? = some x) : l.drop i = x :: l.drop (i + 1) := by
  obtain ⟨hi, e⟩ := List.getElem?_eq_some_iff.1 h
  rw [List.drop_eq_getElem_cons hi, e]
set_option maxRecDepth 100000 in
set_option maxHeartbeats 6400000 in
theorem both_any (qa : Option Addr) (na ka : Nat) (a : List Nat) (qb : Option Addr) (nb kb : Nat) (b : List Nat) (w : World) (hla : a.length = na) (hlb : b.length = nb) (hna : na ≤ 100000) (hnb : nb ≤ 100000) (hra : Rd w w.heap.size qa (nts a)) (hrb : Rd w w.heap.size qb (nts b)) :
    Calls Tryd.prog 51 #[.slice qa na ka, .slice qb nb kb] w fun e w' => (∃ q k, e = .returned (.slice q (Xp.mrg a b).length k) ∧ Own w' w.heap.size 3 q (Xp.mrg a b).length k (nts (Xp.mrg a b))) ∧ Below w.heap.size w w' := by
  have HRA := Lib.hid hra
  have HRB := Lib.hid hrb
  have HLA := Lib.hid hla
  have HLB := Lib.hid hlb
  clear hra hrb hla hlb
  go_enter Tryd.func51, Tryd.ntmps51
  go_wp2
  go_loopw [5, 6, 7] (fun o i k wr => ∃ (I K : Nat) (q : Option Addr) (n c : Nat) (l : List Nat), I ≤ na ∧ K ≤ nb ∧ i = .int .i64 I ∧ k = .int .i64 K ∧ o = .slice q n c ∧ Own wr w.heap.size 3 q n c (nts l) ∧ Hid (l ++ Xp.mrg (a.drop I) (b.drop K) = Xp.mrg a b) ∧ n ≤ I + K ∧ Below w.heap.size w wr) (fun _ i k _ => (na - (intOf i).toNat) + (nb - (intOf k).toNat))
  case atStart => exact ⟨0, 0, none, 0, 0, [], Nat.zero_le _, Nat.zero_le _, rfl, rfl, rfl, Own.nil _ _ _, Lib.hid rfl, Nat.zero_le _, Below.refl _ _⟩
  case round =>
    obtain ⟨I, K, q, n, c, l, hI, hK, rfl, rfl, rfl, ho, hm, hn, hb⟩ := hrel
    have HO := Lib.hid ho
    have HB := Lib.hid hb
    have hnl : l.length = n := by have := ho.len; rwa [nts_length] at this
    have HNL := Lib.hid hnl
    have hsw := hb.size
    clear ho hb hnl
    by_cases hKb : K < nb
    · obtain ⟨y, hy⟩ : ∃ y, b[K]? = some y := ⟨_, List.getElem?_eq_getElem (by rw [HLB.out]; exact hKb)⟩
      obtain ⟨bb, ob, rfl, hbb, hcb⟩ := (HRB.out.below HB.out) K (.int .i64 (y : Int)) (nts_get hy)
      have HY := Lib.hid (drop_cons hy)
      have k1 : decide ((K : Int) < nb) = true := decide_eq_true (by omega)
      have k2 : ((K : Int) == nb) = false := by simp; omega
      by_cases hIa : I < na
      · obtain ⟨x, hx⟩ : ∃ x, a[I]? = some x := ⟨_, List.getElem?_eq_getElem (by rw [HLA.out]; exact hIa)⟩
        obtain ⟨ba, oa, rfl, hba, hca⟩ := (HRA.out.below HB.out) I (.int .i64 (x : Int)) (nts_get hx)
        have HX := Lib.hid (drop_cons hx)
        have i1 : decide ((I : Int) < na) = true := decide_eq_true (by omega)
        have i2 : ((I : Int) == na) = false := by simp; omega
        clear hx hy
        rcases Nat.lt_trichotomy x y with h | h | h
        · have c1 : decide ((x : Int) < y) = true := decide_eq_true (by omega)
          have HM := Lib.hid (show (l ++ [x]) ++ Xp.mrg (a.drop (I + 1)) (b.drop K) = Xp.mrg a b by
            rw [← hm.out, HX.out, HY.out, Xp.mrg_lt _ _ h, List.append_assoc]; rfl)
          clear hm
          go_wp2_with fail
          go_quiet (fail)
          have HO1 := Lib.hid (HO.out.drewN nq)
          have HB1 := Lib.hid (below_drewN HB.out nq)
          have hca' : (wr.drewN nq).cell? ⟨ba, oa + I, none⟩ = some (.int .i64 (x : Int)) := hca
          clear hca
          have hcb' : (wr.drewN nq).cell? ⟨bb, ob + K, none⟩ = some (.int .i64 (y : Int)) := hcb
          clear hcb
          generalize wr.drewN nq = w1 at *
          have hs1 := HB1.out.size
          go_wp2_with (refine wpList_app _ rfl (.tmp 39) (.tmp 44) 27 rfl w.heap.size 3 (.int .i64 0) 8 Tryd.underlying27 elem_ints rfl q n c _ rfl (HO1.out.alloc _) _ (some ⟨w1.heap.size, 0, none⟩) 1 1 [.int .i64 (x : Int)] rfl (Rd.one w1 _ _) rfl (by intro u hu; simp only [List.mem_singleton] at hu; subst hu; rfl) (by unfold maxLen; omega) (by omega) (by simp; omega) ?_; intro a9 c9 w9 ho9 hg9; have HO9 := Lib.hid ho9; have HB9 := Lib.hid (below_grown (HB1.out.alloc HB1.out.size _) hg9 (HO1.out.alloc _) (by simp; omega)); clear ho9 hg9)
          go_roundw
          case rel => exact ⟨I + 1, K, a9, n + 1, c9, l ++ [x], by omega, by omega, by go_num, by go_num, rfl, by rw [nts_snoc]; exact HO9.out, HM, by omega, HB9.out⟩
          case measure => simp [intOf]; omega
        · have c1 : decide ((x : Int) < y) = false := decide_eq_false (by omega)
          have c2 : decide ((y : Int) < x) = false := decide_eq_false (by omega)
          have c1' : decide (x < y) = false := decide_eq_false (by omega)
          have c2' : decide (y < x) = false := decide_eq_false (by omega)
          have HM := Lib.hid (show l ++ Xp.mrg (a.drop (I + 1)) (b.drop (K + 1)) = Xp.mrg a b by
            rw [← hm.out, HX.out, HY.out, h, Xp.mrg_eq])
          clear hm
          clear h
          go_wp2_with fail
          go_quiet (fail)
          have HO1 := Lib.hid (HO.out.drewN nq)
          have HB1 := Lib.hid (below_drewN HB.out nq)
          have hca' : (wr.drewN nq).cell? ⟨ba, oa + I, none⟩ = some (.int .i64 (x : Int)) := hca
          clear hca
          have hcb' : (wr.drewN nq).cell? ⟨bb, ob + K, none⟩ = some (.int .i64 (y : Int)) := hcb
          clear hcb
          generalize wr.drewN nq = w1 at *
          have hs1 := HB1.out.size
          go_wp2_with fail
          go_quiet (fail)
          have HO2 := Lib.hid (HO1.out.drewN nq)
          have HB2 := Lib.hid (below_drewN HB1.out nq)
          have hca2 : (w1.drewN nq).cell? ⟨ba, oa + I, none⟩ = some (.int .i64 (x : Int)) := hca'
          clear hca'
          have hcb2 : (w1.drewN nq).cell? ⟨bb, ob + K, none⟩ = some (.int .i64 (y : Int)) := hcb'
          clear hcb'
          generalize w1.drewN nq = w2 at *
          have hs2 := HB2.out.size
          go_wp2_with fail
          go_roundw
          case rel => exact ⟨I + 1, K + 1, q, n, c, l, by omega, by omega, by go_num, by go_num, rfl, HO2.out, HM, by omega, HB2.out⟩
          case measure => simp [intOf]; omega
        · have c1 : decide ((x : Int) < y) = false := decide_eq_false (by omega)
          have c2 : decide ((y : Int) < x) = true := decide_eq_true (by omega)
          have c1' : decide (x < y) = false := decide_eq_false (by omega)
          have HM := Lib.hid (show (l ++ [y]) ++ Xp.mrg (a.drop I) (b.drop (K + 1)) = Xp.mrg a b by
            rw [← hm.out, HX.out, HY.out, Xp.mrg_gt _ _ h, List.append_assoc]; rfl)
          clear hm
          go_wp2_with fail
          go_quiet (fail)
          have HO1 := Lib.hid (HO.out.drewN nq)
          have HB1 := Lib.hid (below_drewN HB.out nq)
          have hca' : (wr.drewN nq).cell? ⟨ba, oa + I, none⟩ = some (.int .i64 (x : Int)) := hca
          clear hca
          have hcb' : (wr.drewN nq).cell? ⟨bb, ob + K, none⟩ = some (.int .i64 (y : Int)) := hcb
          clear hcb
          generalize wr.drewN nq = w1 at *
          have hs1 := HB1.out.size
          go_wp2_with fail
          go_quiet (fail)
          have HO2 := Lib.hid (HO1.out.drewN nq)
          have HB2 := Lib.hid (below_drewN HB1.out nq)
          have hca2 : (w1.drewN nq).cell? ⟨ba, oa + I, none⟩ = some (.int .i64 (x : Int)) := hca'
          clear hca'
          have hcb2 : (w1.drewN nq).cell? ⟨bb, ob + K, none⟩ = some (.int .i64 (y : Int)) := hcb'
          clear hcb'
          generalize w1.drewN nq = w2 at *
          have hs2 := HB2.out.size
          go_wp2_with (refine wpList_app _ rfl (.tmp 63) (.tmp 68) 27 rfl w.heap.size 3 (.int .i64 0) 8 Tryd.underlying27 elem_ints rfl q n c _ rfl (HO2.out.alloc _) _ (some ⟨w2.heap.size, 0, none⟩) 1 1 [.int .i64 (y : Int)] rfl (Rd.one w2 _ _) rfl (by intro u hu; simp only [List.mem_singleton] at hu; subst hu; rfl) (by unfold maxLen; omega) (by omega) (by simp; omega) ?_; intro a9 c9 w9 ho9 hg9; have HO9 := Lib.hid ho9; have HB9 := Lib.hid (below_grown (HB2.out.alloc HB2.out.size _) hg9 (HO2.out.alloc _) (by simp; omega)); clear ho9 hg9)
          go_roundw
          case rel => exact ⟨I, K + 1, a9, n + 1, c9, l ++ [y], by omega, by omega, by go_num, by go_num, rfl, by rw [nts_snoc]; exact HO9.out, HM, by omega, HB9.out⟩
          case measure => simp [intOf]; omega
      · have i1 : decide ((I : Int) < na) = false := decide_eq_false (by omega)
        have i1' : decide (I < na) = false := decide_eq_false (by omega)
        have i2 : ((I : Int) == na) = true := by simp; omega
        have HXE := Lib.hid (show a.drop I = [] from List.drop_eq_nil_of_le (by rw [HLA.out]; omega))
        clear hy
        have HM := Lib.hid (show (l ++ [y]) ++ Xp.mrg (a.drop I) (b.drop (K + 1)) = Xp.mrg a b by
          rw [← hm.out, HXE.out, HY.out, List.append_assoc]; simp [Xp.mrg])
        clear hm
        go_wp2_with fail
        go_quiet (fail)
        have HO1 := Lib.hid (HO.out.drewN nq)
        have HB1 := Lib.hid (below_drewN HB.out nq)
        have hcb' : (wr.drewN nq).cell? ⟨bb, ob + K, none⟩ = some (.int .i64 (y : Int)) := hcb
        clear hcb
        generalize wr.drewN nq = w1 at *
        have hs1 := HB1.out.size
        go_wp2_with fail
        go_quiet (fail)
        have HO2 := Lib.hid (HO1.out.drewN nq)
        have HB2 := Lib.hid (below_drewN HB1.out nq)
        have hcb2 : (w1.drewN nq).cell? ⟨bb, ob + K, none⟩ = some (.int .i64 (y : Int)) := hcb'
        clear hcb'
        generalize w1.drewN nq = w2 at *
        have hs2 := HB2.out.size
        go_wp2_with (refine wpList_app _ rfl (.tmp 63) (.tmp 68) 27 rfl w.heap.size 3 (.int .i64 0) 8 Tryd.underlying27 elem_ints rfl q n c _ rfl (HO2.out.alloc _) _ (some ⟨w2.heap.size, 0, none⟩) 1 1 [.int .i64 (y : Int)] rfl (Rd.one w2 _ _) rfl (by intro u hu; simp only [List.mem_singleton] at hu; subst hu; rfl) (by unfold maxLen; omega) (by omega) (by simp; omega) ?_; intro a9 c9 w9 ho9 hg9; have HO9 := Lib.hid ho9; have HB9 := Lib.hid (below_grown (HB2.out.alloc HB2.out.size _) hg9 (HO2.out.alloc _) (by simp; omega)); clear ho9 hg9)
        go_roundw
        case rel => exact ⟨I, K + 1, a9, n + 1, c9, l ++ [y], by omega, by omega, by go_num, by go_num, rfl, by rw [nts_snoc]; exact HO9.out, HM, by omega, HB9.out⟩
        case measure => simp [intOf]; omega
    · have k1 : decide ((K : Int) < nb) = false := decide_eq_false (by omega)
      have k1' : decide (K < nb) = false := decide_eq_false (by omega)
      have k2 : ((K : Int) == nb) = true := by simp; omega
      have HYE := Lib.hid (show b.drop K = [] from List.drop_eq_nil_of_le (by rw [HLB.out]; omega))
      by_cases hIa : I < na
      · obtain ⟨x, hx⟩ : ∃ x, a[I]? = some x := ⟨_, List.getElem?_eq_getElem (by rw [HLA.out]; exact hIa)⟩
        obtain ⟨ba, oa, rfl, hba, hca⟩ := (HRA.out.below HB.out) I (.int .i64 (x : Int)) (nts_get hx)
        have HX := Lib.hid (drop_cons hx)
        have i1 : decide ((I : Int) < na) = true := decide_eq_true (by omega)
        have i2 : ((I : Int) == na) = false := by simp; omega
        clear hx
        have HM := Lib.hid (show (l ++ [x]) ++ Xp.mrg (a.drop (I + 1)) (b.drop K) = Xp.mrg a b by
          rw [← hm.out, HX.out, HYE.out, Xp.mrg_nil_right, Xp.mrg_nil_right, List.append_assoc]; rfl)
        clear hm
        go_wp2_with fail
        go_quiet (fail)
        have HO1 := Lib.hid (HO.out.drewN nq)
        have HB1 := Lib.hid (below_drewN HB.out nq)
        have hca' : (wr.drewN nq).cell? ⟨ba, oa + I, none⟩ = some (.int .i64 (x : Int)) := hca
        clear hca
        generalize wr.drewN nq = w1 at *
        have hs1 := HB1.out.size
        go_wp2_with (refine wpList_app _ rfl (.tmp 39) (.tmp 44) 27 rfl w.heap.size 3 (.int .i64 0) 8 Tryd.underlying27 elem_ints rfl q n c _ rfl (HO1.out.alloc _) _ (some ⟨w1.heap.size, 0, none⟩) 1 1 [.int .i64 (x : Int)] rfl (Rd.one w1 _ _) rfl (by intro u hu; simp only [List.mem_singleton] at hu; subst hu; rfl) (by unfold maxLen; omega) (by omega) (by simp; omega) ?_; intro a9 c9 w9 ho9 hg9; have HO9 := Lib.hid ho9; have HB9 := Lib.hid (below_grown (HB1.out.alloc HB1.out.size _) hg9 (HO1.out.alloc _) (by simp; omega)); clear ho9 hg9)
        go_roundw
        case rel => exact ⟨I + 1, K, a9, n + 1, c9, l ++ [x], by omega, by omega, by go_num, by go_num, rfl, by rw [nts_snoc]; exact HO9.out, HM, by omega, HB9.out⟩
        case measure => simp [intOf]; omega
      · have i1 : decide ((I : Int) < na) = false := decide_eq_false (by omega)
        have i1' : decide (I < na) = false := decide_eq_false (by omega)
        have i2 : ((I : Int) == na) = true := by simp; omega
        have HXE := Lib.hid (show a.drop I = [] from List.drop_eq_nil_of_le (by rw [HLA.out]; omega))
        have HM := Lib.hid (show l = Xp.mrg a b by rw [← hm.out, HXE.out, HYE.out]; simp [Xp.mrg])
        clear hm
        have HNL2 := Lib.hid (show n = (Xp.mrg a b).length by rw [← HNL.out, HM.out])
        go_wp2
        go_ret
        refine ⟨⟨q, c, ?_, ?_⟩, HB.out⟩
        · rw [← HNL2.out]; rfl
        · rw [← HNL2.out, ← HM.out]; exact HO.out
end Go.Proofs.YtghinmlpkgcdiaaDoor
/-! Schedules: lists of sets in memory; the specification's SameInts and SameSets. -/
namespace Go.Proofs.YtghinmlpkgcdiaaDoor
set_option linter.unusedSimpArgs false
set_option linter.unusedVariables false
open Go.RowKit Go.Lib

/-- the value is a row of these numbers -/
def SetV (w : World) (v : Value) (l : List Nat) : Prop := ∃ q k, v = .slice q l.length k ∧ l.length ≤ 100000 ∧ (0 < l.length → ∃ g cs, q = some ⟨g, 0, none⟩ ∧ Row w g 3 cs ∧ ∀ (p : Nat) (u : Value), (nts l)[p]? = some u → cs[p]? = some u)
theorem SetV.keeps {w w' : World} {v : Value} {l : List Nat} (h : SetV w v l) (hk : Keeps 3 w w') : SetV w' v l := by
  obtain ⟨q, k, e, hl, h⟩ := h
  refine ⟨q, k, e, hl, fun hp => ?_⟩
  obtain ⟨g, cs, e2, hr, hc⟩ := h hp
  exact ⟨g, cs, e2, hk g cs hr, hc⟩
theorem SetV.rd {w : World} {q : Option Addr} {n k : Nat} {l : List Nat} (h : SetV w (.slice q n k) l) : n = l.length ∧ Rd w w.heap.size q (nts l) := by
  obtain ⟨q', k', e, hl, h⟩ := h
  injection e with e1 e2 e3
  subst e1
  refine ⟨e2, fun j u hu => ?_⟩
  have hj : j < l.length := by
    have := (List.getElem?_eq_some_iff.1 hu).1
    rwa [nts_length] at this
  obtain ⟨g, cs, e4, hr, hc⟩ := h (by omega)
  exact ⟨g, 0, e4, hr.lt, by rw [Nat.zero_add, hr.cell]; exact hc j u hu⟩
theorem SetV.of_own {w : World} {B k : Nat} {q : Option Addr} {l : List Nat} (h : Own w B 3 q l.length k (nts l)) (hl : l.length ≤ 100000) : SetV w (.slice q l.length k) l := by
  refine ⟨q, k, rfl, hl, fun hp => ?_⟩
  obtain ⟨g, e, _⟩ := h.at_ hp
  obtain ⟨cs, hr, hc⟩ := h.row e
  exact ⟨g, cs, e, hr, hc⟩
/-- the values are rows of these numbers -/
def SetsOf (w : World) (vs : List Value) (ls : List (List Nat)) : Prop := vs.length = ls.length ∧ ∀ (i : Nat) (l : List Nat), ls[i]? = some l → ∃ v, vs[i]? = some v ∧ SetV w v l
theorem SetsOf.keeps {w w' : World} {vs : List Value} {ls : List (List Nat)} (h : SetsOf w vs ls) (hk : Keeps 3 w w') : SetsOf w' vs ls :=
  ⟨h.1, fun i l hl => by obtain ⟨v, h1, h2⟩ := h.2 i l hl; exact ⟨v, h1, h2.keeps hk⟩⟩
theorem SetsOf.nil (w : World) : SetsOf w [] [] := ⟨rfl, fun i l h => by simp at h⟩
theorem SetsOf.snoc {w : World} {vs : List Value} {ls : List (List Nat)} {v : Value} {m : List Nat} (h : SetsOf w vs ls) (hb : SetV w v m) : SetsOf w (vs ++ [v]) (ls ++ [m]) := by
  refine ⟨by simp [h.1], fun i x hx => ?_⟩
  by_cases hi : i < ls.length
  · rw [List.getElem?_append_left hi] at hx
    obtain ⟨v', h1, h2⟩ := h.2 i x hx
    exact ⟨v', by rw [List.getElem?_append_left (by rw [h.1]; exact hi)]; exact h1, h2⟩
  · rw [List.getElem?_append_right (by omega)] at hx
    by_cases e : i - ls.length = 0
    · rw [e] at hx
      simp only [List.getElem?_cons_zero, Option.some.injEq] at hx
      subst hx
      exact ⟨v, by rw [List.getElem?_append_right (by rw [h.1]; omega), h.1, e]; rfl, hb⟩
    · rw [List.getElem?_eq_none (by simp; omega)] at hx; cases hx
theorem Fam.setsOf {w : World} {B : Nat} {vs : List Value} {ls : List (List Nat)} (h : Fam w B vs ls) (hl : ∀ l ∈ ls, l.length ≤ 100000) : SetsOf w vs ls :=
  ⟨h.len, fun i l e => by
    obtain ⟨q, k, h1, h2⟩ := h.own i l e
    exact ⟨_, h1, SetV.of_own h2 (hl l (List.mem_of_getElem? e))⟩⟩
set_option maxRecDepth 100000 in
set_option maxHeartbeats 1600000 in
theorem same_ints (l : List Nat) (qa : Option Addr) (n ka : Nat) (qb : Option Addr) (kb : Nat) (w : World) (hn : l.length = n) (hn2 : n ≤ 100000) (hra : Rd w w.heap.size qa (nts l)) (hrb : Rd w w.heap.size qb (nts l)) :
    Calls Tryd.prog 52 #[.slice qa n ka, .slice qb n kb] w fun e w' => e = .returned (.bool true) ∧ ∃ m, w' = w.drewN m := by
  have HRA := Lib.hid hra
  have HRB := Lib.hid hrb
  have HN := Lib.hid hn
  clear hra hrb hn
  go_enter Tryd.func52, Tryd.ntmps52
  go_wp2
  go_loopw [5] (fun i wr => ∃ k m : Nat, k ≤ n ∧ i = .int .i64 k ∧ wr = w.drewN m) (fun i _ => n - (intOf i).toNat)
  case atStart => exact ⟨0, 0, Nat.zero_le _, rfl, (World.drewN_zero w).symm⟩
  case round =>
    obtain ⟨k, m, hk, rfl, hwr⟩ := hrel
    have HWR := Lib.hid hwr
    by_cases hlt : k < n
    · have hd : decide ((k : Int) < n) = true := decide_eq_true (by omega)
      obtain ⟨x, hx⟩ : ∃ x, l[k]? = some x := ⟨_, List.getElem?_eq_getElem (by rw [HN.out]; exact hlt)⟩
      obtain ⟨ba, oa, rfl, hba, hca⟩ := HRA.out k (.int .i64 (x : Int)) (nts_get hx)
      obtain ⟨bb, ob, rfl, hbb, hcb⟩ := HRB.out k (.int .i64 (x : Int)) (nts_get hx)
      have hca' : wr.cell? ⟨ba, oa + k, none⟩ = some (.int .i64 (x : Int)) := by rw [hwr]; exact hca
      have hcb' : wr.cell? ⟨bb, ob + k, none⟩ = some (.int .i64 (x : Int)) := by rw [hwr]; exact hcb
      clear hx hca hcb hwr
      go_wp2_with fail
      go_quiet (fail)
      go_wp2
      go_roundw
      case rel => exact ⟨k + 1, m + nq, by omega, by go_num, by rw [HWR.out, World.drewN_drewN]⟩
      case measure => simp [intOf]; omega
    · have hd : decide ((k : Int) < n) = false := decide_eq_false (by omega)
      have hd2 : decide (k < n) = false := decide_eq_false (by omega)
      clear hwr
      go_wp2
      go_ret
      exact ⟨rfl, m, HWR.out⟩
set_option maxRecDepth 100000 in
set_option maxHeartbeats 1600000 in
theorem same_sets (ls : List (List Nat)) (qa : Option Addr) (n ka : Nat) (va : List Value) (qb : Option Addr) (kb : Nat) (vb : List Value) (w : World) (hn : ls.length = n) (hn2 : n ≤ 100000) (hra : Rd w w.heap.size qa va) (hrb : Rd w w.heap.size qb vb) (hsa : SetsOf w va ls) (hsb : SetsOf w vb ls) :
    Calls Tryd.prog 21 #[.slice qa n ka, .slice qb n kb] w fun e w' => e = .returned (.bool true) ∧ ∃ m, w' = w.drewN m := by
  have HRA := Lib.hid hra
  have HRB := Lib.hid hrb
  have HSA := Lib.hid hsa
  have HSB := Lib.hid hsb
  have HN := Lib.hid hn
  clear hra hrb hn hsa hsb
  go_enter Tryd.func21, Tryd.ntmps21
  go_wp2
  go_loopw [5] (fun i wr => ∃ k m : Nat, k ≤ n ∧ i = .int .i64 k ∧ wr = w.drewN m) (fun i _ => n - (intOf i).toNat)
  case atStart => exact ⟨0, 0, Nat.zero_le _, rfl, (World.drewN_zero w).symm⟩
  case round =>
    obtain ⟨k, m, hk, rfl, hwr⟩ := hrel
    have HWR := Lib.hid hwr
    by_cases hlt : k < n
    · have hd : decide ((k : Int) < n) = true := decide_eq_true (by omega)
      obtain ⟨l, hx⟩ : ∃ x, ls[k]? = some x := ⟨_, List.getElem?_eq_getElem (by rw [HN.out]; exact hlt)⟩
      obtain ⟨v1, hv1, h1⟩ := HSA.out.2 k l hx
      obtain ⟨v2, hv2, h2⟩ := HSB.out.2 k l hx
      obtain ⟨q1, k1, rfl, hl1, _⟩ := id h1
      obtain ⟨q2, k2, rfl, _, _⟩ := id h2
      obtain ⟨ba, oa, rfl, hba, hca⟩ := HRA.out k _ hv1
      obtain ⟨bb, ob, rfl, hbb, hcb⟩ := HRB.out k _ hv2
      obtain ⟨N, hN⟩ : ∃ N, l.length = N := ⟨_, rfl⟩
      have HSI := Lib.hid (fun (j : Nat) => show Calls Tryd.prog 52 #[.slice q1 N k1, .slice q2 N k2] (wr.drewN j) fun e w' => e = .returned (.bool true) ∧ ∃ m, w' = (wr.drewN j).drewN m from by
        rw [hwr, World.drewN_drewN]
        exact same_ints l q1 N k1 q2 k2 (w.drewN (m + j)) hN (by omega) h1.rd.2 h2.rd.2)
      have hca' : wr.cell? ⟨ba, oa + k, none⟩ = some (.slice q1 N k1) := by rw [← hN, hwr]; exact hca
      have hcb' : wr.cell? ⟨bb, ob + k, none⟩ = some (.slice q2 N k2) := by rw [← hN, hwr]; exact hcb
      clear hx h1 h2 hv1 hv2 hN hca hcb hwr
      go_wp2_with fail
      go_quiet ((go_at_call 52; exact Calls.quiet_of (HSI.out _)))
      go_wp2
      go_roundw
      case rel => exact ⟨k + 1, m + nq, by omega, by go_num, by rw [HWR.out, World.drewN_drewN]⟩
      case measure => simp [intOf]; omega
    · have hd : decide ((k : Int) < n) = false := decide_eq_false (by omega)
      have hd2 : decide (k < n) = false := decide_eq_false (by omega)
      clear hwr
      go_wp2
      go_ret
      exact ⟨rfl, m, HWR.out⟩
end Go.Proofs.YtghinmlpkgcdiaaDoor
