/- Schedules: slices.Chunk at rows of numbers. -/
import Derived.Test.YtghinmlpkgcdiaaDoorX17
import Derived.Shelf.Abstract
import Derived.Shelf.RegionOpen
import Derived.WalkKit
import Derived.OwnWalkIn
import Derived.TacticsInMore
import Derived.LoopNIn
import Derived.LoopIn
namespace Go.Proofs.YtghinmlpkgcdiaaDoor
set_option linter.unusedSimpArgs false
set_option linter.unusedVariables false
open Go.RowKit Go.Shelf Go.Lib
attribute [local go_sem] Oper.semAt_some

theorem addr_add (b off I : Nat) : (⟨b, off, none⟩ : Addr).add I = ⟨b, off + I, none⟩ := by unfold Addr.add; split <;> simp_all
/-- the chunks' values -/
def chunkV (b off m : Nat) (c : Nat) : Array Value := #[.slice (some ⟨b, off + c * m, none⟩) m m]
theorem range_take {P k : Nat} (h : k < P) : (List.range P).take (k + 1) = (List.range P).take k ++ [k] := by
  rw [List.take_add_one, List.getElem?_range h]; rfl
set_option maxRecDepth 100000 in
theorem chunk_any (q : Option Addr) (n k : Nat) (m : Int) (hm : 1 ≤ m) (w : World) :
    Calls Tryd.prog 46 #[.slice q n k, .int .i64 m] w fun e w' => e = .returned (.func (.func 78) #[] #[.pointer (some ⟨w.heap.size, 0, none⟩), .pointer (some ⟨w.heap.size + 1, 0, none⟩)]) ∧ w' = (w.alloc (.cells #[.slice q n k] 27)).alloc (.cells #[.int .i64 m] 3) := by
  have hd : decide (m < 1) = false := decide_eq_false (by omega)
  go_enter Tryd.func46, Tryd.ntmps46
  go_wp2_with fail
  go_ret
  exact ⟨rfl, rfl⟩
set_option maxRecDepth 100000 in
set_option maxHeartbeats 2000000 in
theorem chunk_gives (qx : Option Addr) (b off nx kx m P B1 B2 : Nat) (w : World) (hqx : 0 < P → qx = some ⟨b, off, none⟩) (h1 : Row w B1 27 #[.slice qx nx kx]) (h2 : Row w B2 3 #[.int .i64 (m : Int)]) (hm : 1 ≤ m) (hm2 : m ≤ 16) (hn : nx = P * m) (hk : nx ≤ kx) (hx : nx ≤ 512) (hkm : kx ≤ maxLen) :
    Gives Tryd.prog 78 #[.pointer (some ⟨B1, 0, none⟩), .pointer (some ⟨B2, 0, none⟩)] (chunkV b off m) (fun k => k = B1 ∨ k = B2) (List.range P) w := fun l X J Jx W hW hX hN hJ hJx hY h0 => by
  unfold maxLen at hkm
  have h1' := h1.below hW h1.lt
  have h2' := h2.below hW h2.lt
  have H1 := Lib.hid h1'
  have H2 := Lib.hid h2'
  have HY := Lib.hid hY
  have HJ := Lib.hid hJ
  have HN := Lib.hid hN
  have HNX := Lib.hid hn
  clear h1 h2 h1' h2' hY hJ hN hn
  refine callsIn_of_wp Tryd.func78 rfl trivial ?_ rfl
  simp only [Tryd.ntmps78, List.size_toArray, List.length_cons, List.length_nil, Nat.reduceAdd, Nat.reduceSub, Array.replicate_succ, Array.replicate_zero, List.push_toArray, List.append_toArray, List.nil_append, List.cons_append]
  gi_wp2
  gi_loopw [4] (fun i wr => ∃ k I : Nat, k ≤ P ∧ I = k * m ∧ i = .int .i64 I ∧ J ((List.range P).take k) wr ∧ Row wr B1 27 #[.slice qx nx kx] ∧ Row wr B2 3 #[.int .i64 (m : Int)] ∧ W.heap.size ≤ wr.heap.size) (fun i _ => nx + 1 - (intOf i).toNat)
  case atStart => exact ⟨0, 0, Nat.zero_le _, by omega, rfl, h0, H1.out, H2.out, Nat.le_refl _⟩
  case round =>
    obtain ⟨k, I, hkP, hI, rfl, hj, hr1, hr2, hsz⟩ := hrel
    have hc1 : wr.cell? ⟨B1, 0, none⟩ = some (.slice qx nx kx) := hr1.cell 0
    have hc2 : wr.cell? ⟨B2, 0, none⟩ = some (.int .i64 (m : Int)) := hr2.cell 0
    have HI := Lib.hid hI
    have HR1 := Lib.hid hr1
    have HR2 := Lib.hid hr2
    have HJ2 := Lib.hid hj
    have hle : I ≤ nx := by rw [hI, HNX.out]; exact Nat.mul_le_mul_right m hkP
    by_cases hlt : k < P
    · have hq9 := hqx (by omega)
      subst hq9
      have hIm : I + m ≤ nx := by
        rw [hI, HNX.out]
        have := Nat.mul_le_mul_right m (show k + 1 ≤ P from hlt)
        rw [Nat.add_mul, Nat.one_mul] at this
        exact this
      have HP := Lib.hid (show (List.range P).take k ++ [k] <+: List.range P by rw [← range_take hlt]; exact List.take_prefix _ _)
      have HT := Lib.hid (range_take hlt)
      obtain ⟨fn, tmps, assign, body, hy, hR⟩ := HY.out _ _ wr.drew HP.out hsz (HJ.out _ _ _ hsz HJ2.out (Below.refl _ wr).drew)
      unfold chunkV at hy
      rw [← HI.out] at hy
      have HRR := Lib.hid hR
      have hd : decide (I < nx) = true := decide_eq_true (by omega)
      have hsl : ∀ w, (Instr.slice 27 (.slice (some ⟨b, off, none⟩) nx kx) (some (.int .i64 (I : Int))) none none).run Tryd.prog w = .ok (.slice (some ⟨b, off + I, none⟩) (nx - I) (kx - I)) w := fun w => by
        rw [run_slice_l w 27 _ nx kx Tryd.underlying27 .i64 (I : Int) (by omega) (by omega)]
        rw [show (sizeOf (Tryd.prog.elem 27)).run Tryd.prog w = .ok 1 w by kernel_rfl]
        unfold sliced
        simp only [Result.andThen, Int.toNat_natCast, Nat.mul_one]
        rw [if_neg (by omega)]
        rw [Option.map_some, addr_add]
      have hsl2 : ∀ w, (Instr.slice 27 (.slice (some ⟨b, off, none⟩) nx kx) (some (.int .i64 (I : Int))) (some (.int .i64 ((I : Int) + (m : Int)))) (some (.int .i64 ((I : Int) + (m : Int))))).run Tryd.prog w = .ok (.slice (some ⟨b, off + I, none⟩) m m) w := fun w => by
        rw [run_slice_lhm w 27 _ nx kx Tryd.underlying27 .i64 .i64 .i64 (I : Int) ((I : Int) + (m : Int)) ((I : Int) + (m : Int)) (by omega) (by omega) (by omega) (by omega)]
        rw [show (sizeOf (Tryd.prog.elem 27)).run Tryd.prog w = .ok 1 w by kernel_rfl]
        unfold sliced
        simp only [Result.andThen, Int.toNat_natCast, Nat.mul_one, show ((I : Int) + (m : Int)).toNat = I + m by omega, Nat.add_sub_cancel_left]
        rw [if_neg (by omega)]
        rw [Option.map_some, addr_add]
      have hmin : ∀ (ts : Array TypeId) (t : TypeId) (W : World), (Builtin.min_ ts t #[.int .i64 (m : Int), .int .i64 ((nx - I : Nat) : Int)]).run Tryd.prog W = .ok (.int .i64 (m : Int)) W := fun ts t W => by
        rw [min_two, if_neg (by omega)]
      clear hr1 hr2 hj hI hR
      gi_wp2
      gi_region
      gi_wp2
      refine (HRR.out _).mono ?_
      rintro e W3 ⟨ho, (⟨rfl, hJ3⟩ | ⟨rfl, hJx3⟩)⟩
      · have hW3 : W.heap.size ≤ W3.heap.size := Nat.le_trans hsz ho.size
        have HR13 := Lib.hid (ho.row HR1.out.drew (HN.out B1 (.inl rfl)))
        have HR23 := Lib.hid (ho.row HR2.out.drew (HN.out B2 (.inr rfl)))
        have hc3 : W3.cell? ⟨B2, 0, none⟩ = some (.int .i64 (m : Int)) := HR23.out.cell 0
        have HJ3 := Lib.hid (show J ((List.range P).take (k + 1)) W3 by rw [HT.out]; exact hJ3)
        clear ho hJ3 hy hc1 hc2
        gi_wp2
        go_roundw
        case rel => exact ⟨k + 1, I + m, by omega, by rw [HI.out, Nat.add_mul, Nat.one_mul], by go_num, HJ3.out, HR13.out, HR23.out, hW3⟩
        case measure => simp [intOf]; omega
      · have HJx3 := Lib.hid hJx3
        clear ho hJx3 hy
        gi_wp2
        refine bodyPost_ret (results_none rfl _ _ _) rfl ?_
        exact ⟨⟨_, rfl⟩, .inr ⟨_, HP.out, HJx3.out⟩⟩
    · have h1 : k = P := by omega
      have HJ3 := Lib.hid (show J (List.range P) wr by rw [← List.take_of_length_le (l := List.range P) (i := k) (by rw [List.length_range]; omega)]; exact hj)
      have hd : decide (I < nx) = false := decide_eq_false (by rw [HNX.out, hI, h1]; omega)
      clear hr1 hr2 hj hI h1
      gi_wp2
      go_end0
      exact ⟨⟨_, rfl⟩, .inl HJ3.out⟩
end Go.Proofs.YtghinmlpkgcdiaaDoor
