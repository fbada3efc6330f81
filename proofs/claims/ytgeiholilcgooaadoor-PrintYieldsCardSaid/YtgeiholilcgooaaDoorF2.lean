/- Fingerprint: the iterator over the twins keeps its contract; the law's own wrapper around it too. -/
import Derived.Test.YtgeiholilcgooaaDoorRF
import Derived.Test.YtgeiholilcgooaaDoorF1
import Derived.Shelf.Abstract
import Derived.Shelf.RegionOpen
import Derived.WalkKit
import Derived.OwnWalkIn
import Derived.TacticsInMore
import Derived.LoopNIn
import Derived.LoopIn
namespace Go.Proofs.YtgeiholilcgooaaDoor
set_option linter.unusedSimpArgs false
set_option linter.unusedVariables false
open Go.RowKit Go.Shelf Go.Lib
attribute [local go_sem] Oper.semAt_some

/-- all twins, in order -/
def twinsOf (b : List UInt8) : List (List UInt8) := (List.range (space b.length)).map fun k => Crc.twin k b
theorem twinsOf_length (b : List UInt8) : (twinsOf b).length = space b.length := by simp [twinsOf]
theorem twinsOf_take (b : List UInt8) (k : Nat) (h : k < space b.length) : (twinsOf b).take (k + 1) = (twinsOf b).take k ++ [Crc.twin k b] := by
  have hl : k < (twinsOf b).length := by rw [twinsOf_length]; exact h
  rw [List.take_add_one, List.getElem?_eq_getElem hl]
  simp [twinsOf]

set_option maxRecDepth 100000 in
set_option maxHeartbeats 2000000 in
theorem inner_gives (s : ByteArray) (Bu : Nat) (w : World) (hu : Row w Bu 9 #[.string s]) (ht : Tab w) (hs : s.size ≤ 1000000000000) :
    Gives Tryd.prog 20 #[.pointer (some ⟨Bu, 0, none⟩)] (fun b : List UInt8 => #[Value.string (strB b)]) (fun k => k = 0 ∨ k = Bu) (twinsOf s.data.toList) w := fun l X J Jx W hW hX hN hJ hJx hY h0 => by
  have hu1 := hu.below hW hu.lt
  have ht1 := ht.below hW ht.lt
  have hcu : W.cell? ⟨Bu, 0, none⟩ = some (.string s) := hu1.cell 0
  have HU := Lib.hid hu1
  have HT := Lib.hid ht1
  clear hu ht hu1 ht1
  refine callsIn_of_wp Tryd.func20 rfl trivial ?_ rfl
  simp only [Tryd.ntmps20, List.size_toArray, List.length_cons, List.length_nil, Nat.reduceAdd, Nat.reduceSub, Array.replicate_succ, Array.replicate_zero, List.push_toArray, List.append_toArray, List.nil_append, List.cons_append]
  gi_wp2_with ((try refine ⟨trivial, ?_⟩); gi_at_call 10; refine (callsIn_wide.2 (fspace_any s.size _ hs)).mono ?_; rintro e w1 ⟨rfl, rfl⟩)
  have HY := Lib.hid hY
  have HJ := Lib.hid hJ
  clear hY hJ
  have h16 : space s.size ≤ 16000 := by unfold space; split <;> omega
  gi_loopw [9] (fun i wr => ∃ k : Nat, k ≤ space s.size ∧ i = .int .i64 k ∧ J ((twinsOf s.data.toList).take k) wr ∧ Row wr Bu 9 #[.string s] ∧ Tab wr ∧ w1.heap.size ≤ wr.heap.size) (fun i _ => space s.size - (intOf i).toNat)
  case atStart => exact ⟨0, by omega, rfl, h0, HU.out, HT.out, Nat.le_refl _⟩
  case round =>
    obtain ⟨k, hk, rfl, hj, hu, ht, hsz⟩ := hrel
    have hsp : space s.data.toList.length = space s.size := by rw [len_data]
    by_cases hlt : k < space s.size
    · have hd : decide ((k : Int) < (space s.size : Int)) = true := by simp; omega
      have hpre : (twinsOf s.data.toList).take k ++ [Crc.twin k s.data.toList] <+: twinsOf s.data.toList := by
        rw [← twinsOf_take _ _ (by rw [hsp]; exact hlt)]; exact List.take_prefix _ _
      have hcu2 : wr.cell? ⟨Bu, 0, none⟩ = some (.string s) := hu.cell 0
      have HU2 := Lib.hid hu
      have HT2 := Lib.hid ht
      have HJ2 := Lib.hid hj
      have HP2 := Lib.hid hpre
      have HS := Lib.hid hsp
      clear hu ht hj hpre hsp
      gi_wp2_with ((try refine ⟨trivial, ?_⟩); gi_at_call 9; refine (callsIn_wide.2 (ftwin_ok s k _ HT2.out hlt)).mono ?_; rintro e w2 ⟨rfl, hb⟩; obtain ⟨fn, tmps, assign, body, hy, hR⟩ := HY.out _ _ w2 HP2.out (Nat.le_trans hsz hb.size) (HJ.out _ _ _ hsz HJ2.out (hb.mono hsz)); have HR := Lib.hid hR; clear hR; have HB2 := Lib.hid hb; clear hb)
      refine (HR.out _).mono ?_
      rintro e W3 ⟨ho, (⟨rfl, hJ3⟩ | ⟨rfl, hJx3⟩)⟩
      · have HU3 := Lib.hid (ho.row (HU2.out.below HB2.out HU2.out.lt) (hN Bu (.inr rfl)))
        have HT3 := Lib.hid (show Tab W3 by
          obtain ⟨t, fr, h⟩ := HT2.out.below HB2.out HT2.out.lt
          exact ⟨t, fr, (ho.block 0 (Nat.lt_of_lt_of_le HT2.out.lt HB2.out.size) (hN 0 (.inl rfl))).trans h⟩)
        have HJ3 := Lib.hid (show J ((twinsOf s.data.toList).take (k + 1)) W3 by rw [twinsOf_take _ _ (by rw [HS.out]; exact hlt)]; exact hJ3)
        have hsz3 : w1.heap.size ≤ W3.heap.size := Nat.le_trans hsz (Nat.le_trans HB2.out.size ho.size)
        clear ho hJ3 hy
        gi_wp2
        go_roundw
        case rel => exact ⟨k + 1, by omega, by go_num, HJ3.out, HU3.out, HT3.out, hsz3⟩
        case measure => simp [intOf]; omega
      · have HJx3 := Lib.hid hJx3
        clear ho hJx3 hy
        gi_wp2
        refine bodyPost_ret (results_none rfl _ _ _) rfl ?_
        exact ⟨⟨_, rfl⟩, .inr ⟨_, HP2.out, HJx3.out⟩⟩
    · have h1 : k = space s.size := by omega
      have HJ2 := Lib.hid (show J (twinsOf s.data.toList) wr by rw [← List.take_of_length_le (l := twinsOf s.data.toList) (i := k) (by rw [twinsOf_length, hsp]; omega)]; exact hj)
      clear hu ht hj hsp
      have hd : decide ((k : Int) < (space s.size : Int)) = false := by simp; omega
      gi_wp2
      go_end0
      exact ⟨⟨_, rfl⟩, .inl HJ2.out⟩

theorem ftwins_any (s : ByteArray) (w : World) :
    Calls Tryd.prog 16 #[.string s] w fun e w' => e = .returned (.func (.func 20) #[] #[.pointer (some ⟨w.heap.size, 0, none⟩)]) ∧ w' = w.alloc (.cells #[.string s] 9) := by
  go_enter Tryd.func16, Tryd.ntmps16
  go_wp2_with fail
  go_ret
  exact ⟨rfl, rfl⟩
/-- the iterator's value -/
def fv (B : Nat) : Value := .func (.func 20) #[] #[.pointer (some ⟨B, 0, none⟩)]
theorem store_fv (w : World) (s : ByteArray) :
    (store ⟨w.heap.size + 1, 0, none⟩ (fv w.heap.size)).run Tryd.prog ((w.alloc (.cells #[.string s] 9)).alloc (.cells #[.nilFunc] 34)) =
      .ok () (((w.alloc (.cells #[.string s] 9)).alloc (.cells #[.nilFunc] 34)).setCell ⟨w.heap.size + 1, 0, none⟩ (fv w.heap.size)) := by
  rw [run_store _ _ _ _ _ rfl]
  have hr := Row.made (w := w.alloc (.cells #[.string s] 9)) (n := w.heap.size + 1) 34 #[.nilFunc] (by simp)
  have h1 := hr.cell 0
  have h2 := hr.frozen 0
  rw [h1]
  simp only [h2]
  rfl
theorem ltwins_any (s : ByteArray) (w : World) :
    Calls Tryd.prog 13 #[.string s] w fun e w' => e = .returned (.func (.func 17) #[] #[.pointer (some ⟨w.heap.size + 1, 0, none⟩)]) ∧
      Row w' w.heap.size 9 #[.string s] ∧ Row w' (w.heap.size + 1) 34 #[fv w.heap.size] ∧ Below w.heap.size w w' ∧ w'.heap.size = w.heap.size + 2 := by
  have hst := store_fv w s
  simp only [fv] at hst
  go_enter Tryd.func13, Tryd.ntmps13
  go_wp2_with fail
  refine (ftwins_any s _).mono ?_
  rintro e w1 ⟨rfl, rfl⟩
  go_wp2_with fail
  go_ret
  exact ⟨rfl, (Row.new w _ _).alloc _, Row.made _ #[fv w.heap.size] (by simp), ((Below.refl _ w).alloc (Nat.le_refl _) _).alloc (by simp) _, by simp⟩
end Go.Proofs.YtgeiholilcgooaaDoor
