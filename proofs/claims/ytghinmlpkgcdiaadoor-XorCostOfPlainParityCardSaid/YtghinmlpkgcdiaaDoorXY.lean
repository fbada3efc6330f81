/- Schedules: the specification's Same, at equal schedules. -/
import Derived.Test.YtghinmlpkgcdiaaDoorXX
import Derived.BigQuiet
namespace Go.Proofs.YtghinmlpkgcdiaaDoor
set_option linter.unusedSimpArgs false
set_option linter.unusedVariables false
open Go.RowKit Go.Lib

set_option maxRecDepth 100000 in
set_option maxHeartbeats 3200000 in
theorem same_any (f d p : Int) (qa : Option Addr) (no ka : Nat) (qxa : Option Addr) (nx kxa : Nat) (qb : Option Addr) (kb : Nat) (qxb : Option Addr) (kxb : Nat) (ops : List (Int × Int)) (out : List Int) (w : World) (hno : no ≤ 9223372036854775807) (hnx : nx ≤ 9223372036854775807)
    (hlo : ops.length = no) (hlx : out.length = nx) (hra : Rd w w.heap.size qa (opsC ops)) (hxa : Rd w w.heap.size qxa (ints out)) (hrb : Rd w w.heap.size qb (opsC ops)) (hxb : Rd w w.heap.size qxb (ints out)) :
    Calls Tryd.prog 20 #[schV f d p qa no ka qxa nx kxa, schV f d p qb no kb qxb nx kxb] w fun e w' => e = .returned (.bool true) ∧ Below w.heap.size w w' := by
  unfold schV
  have HRA := Lib.hid hra
  have HXA := Lib.hid hxa
  have HRB := Lib.hid hrb
  have HXB := Lib.hid hxb
  have HLO := Lib.hid hlo
  have HLX := Lib.hid hlx
  obtain ⟨W, hW⟩ : ∃ W, W = ((w.alloc (.cells (schC f d p qa no ka qxa nx kxa) 30)).alloc (.cells (schC f d p qb no kb qxb nx kxb) 30)) := ⟨_, rfl⟩
  have HBW := Lib.hid (show Below w.heap.size w W by rw [hW]; exact ((Below.refl _ w).alloc (Nat.le_refl _) _).alloc (by simp) _)
  have HA := Lib.hid (show Row W w.heap.size 30 (schC f d p qa no ka qxa nx kxa) by rw [hW]; exact (Row.new w _ _).alloc _)
  have HB := Lib.hid (show Row W (w.heap.size + 1) 30 (schC f d p qb no kb qxb nx kxb) by rw [hW]; exact Row.made _ _ (by simp))
  have hf : (f != f) = false := by simp
  have hd : (d != d) = false := by simp
  have hp : (p != p) = false := by simp
  have ho : ((no : Int) != (no : Int)) = false := by simp
  have hx : ((nx : Int) != (nx : Int)) = false := by simp
  clear hlo hlx hra hxa hrb hxb
  go_enter Tryd.func20, Tryd.ntmps20
  go_upto_region 1 with fail
  rw [← hW]
  clear hW
  obtain ⟨a0, a1, a2, a3, a4⟩ := sbox HA.out
  obtain ⟨b0, b1, b2, b3, b4⟩ := sbox HB.out
  have hsw : w.heap.size ≤ W.heap.size := HBW.out.size
  go_wp2_with fail
  clear a0 a1 a2 a3 a4 b0 b1 b2 b3 b4 hf hd hp ho hx
  go_loopw [5] (fun i wr => ∃ t n : Nat, t ≤ no ∧ i = .int .i64 t ∧ Hid (wr = W.drewN n)) (fun i _ => no - (intOf i).toNat)
  case atStart => exact ⟨0, 0, Nat.zero_le _, rfl, Lib.hid rfl⟩
  case round =>
    obtain ⟨t, n, ht, rfl, hwr⟩ := hrel
    have HWR := Lib.hid hwr.out
    have HBR := Lib.hid (show Below w.heap.size w wr by rw [HWR.out]; exact below_drewN HBW.out n)
    obtain ⟨a0, a1, a2, a3, a4⟩ := sbox (show Row wr w.heap.size 30 (schC f d p qa no ka qxa nx kxa) by rw [HWR.out]; exact HA.out)
    obtain ⟨b0, b1, b2, b3, b4⟩ := sbox (show Row wr (w.heap.size + 1) 30 (schC f d p qb no kb qxb nx kxb) by rw [HWR.out]; exact HB.out)
    clear hwr
    by_cases hlt : t < no
    · have hd : decide ((t : Int) < no) = true := decide_eq_true (by omega)
      obtain ⟨⟨x, y⟩, hop⟩ : ∃ o, ops[t]? = some o := ⟨_, List.getElem?_eq_getElem (by rw [HLO.out]; exact hlt)⟩
      obtain ⟨ba, oa, rfl, hba, hxa, hya⟩ := (HRA.out.below HBR.out).op hop
      obtain ⟨bb, ob, rfl, hbb, hxb, hyb⟩ := (HRB.out.below HBR.out).op hop
      clear hop a0 a1 a2 a4 b0 b1 b2 b4
      go_wp2_with fail
      go_quiet (fail)
      go_wp2_with fail
      go_roundw
      case rel => exact ⟨t + 1, n + nq, by omega, by go_num, Lib.hid (by rw [HWR.out, World.drewN_drewN])⟩
      case measure => simp [intOf]; omega
    · have hd : decide ((t : Int) < no) = false := decide_eq_false (by omega)
      have hd2 : decide (t < no) = false := decide_eq_false (by omega)
      go_wp2_with fail
      clear a0 a1 a2 a3 a4 b0 b1 b2 b3 b4
      obtain ⟨wo, rfl⟩ : ∃ wo : World, wo = wr := ⟨_, rfl⟩
      go_loopw [6] (fun i wr => ∃ t n : Nat, t ≤ nx ∧ i = .int .i64 t ∧ Hid (wr = W.drewN n)) (fun i _ => nx - (intOf i).toNat)
      case atStart => exact ⟨0, n, Nat.zero_le _, rfl, Lib.hid HWR.out⟩
      case round =>
        obtain ⟨t2, n2, ht2, rfl, hwr⟩ := hrel
        have HWR2 := Lib.hid hwr.out
        have HBR2 := Lib.hid (show Below w.heap.size w wr by rw [HWR2.out]; exact below_drewN HBW.out n2)
        obtain ⟨a0, a1, a2, a3, a4⟩ := sbox (show Row wr w.heap.size 30 (schC f d p qa no ka qxa nx kxa) by rw [HWR2.out]; exact HA.out)
        obtain ⟨b0, b1, b2, b3, b4⟩ := sbox (show Row wr (w.heap.size + 1) 30 (schC f d p qb no kb qxb nx kxb) by rw [HWR2.out]; exact HB.out)
        clear hwr
        by_cases hlt2 : t2 < nx
        · have hdx : decide ((t2 : Int) < nx) = true := decide_eq_true (by omega)
          obtain ⟨x, hx⟩ : ∃ x, out[t2]? = some x := ⟨_, List.getElem?_eq_getElem (by rw [HLX.out]; exact hlt2)⟩
          have hxi : (ints out)[t2]? = some (.int .i64 x) := by rw [ints, List.getElem?_map, hx]; rfl
          obtain ⟨ba, oa, rfl, hba, hca⟩ := (HXA.out.below HBR2.out) t2 _ hxi
          obtain ⟨bb, ob, rfl, hbb, hcb⟩ := (HXB.out.below HBR2.out) t2 _ hxi
          have hxx : (x != x) = false := by simp
          clear hx hxi a0 a1 a2 a3 b0 b1 b2 b3
          go_wp2_with fail
          go_quiet (fail)
          go_wp2_with fail
          go_roundw
          case rel => exact ⟨t2 + 1, n2 + nq, by omega, by go_num, Lib.hid (by rw [HWR2.out, World.drewN_drewN])⟩
          case measure => simp [intOf]; omega
        · have hdx : decide ((t2 : Int) < nx) = false := decide_eq_false (by omega)
          have hdx2 : decide (t2 < nx) = false := decide_eq_false (by omega)
          go_wp2
          go_ret
          exact ⟨rfl, HBR2.out⟩
end Go.Proofs.YtghinmlpkgcdiaaDoor
