/- Fields: are all strings of one length? -/
import Derived.Test.YtdmcdgpigpekhaaDoorG10
namespace Go.Proofs.YtdmcdgpigpekhaaDoor
set_option linter.unusedSimpArgs false
set_option linter.unusedVariables false
open Go.RowKit Go.Lib

def strs (us : List ByteArray) : List Value := us.map Value.string
def otherB (n : Nat) (u : ByteArray) : Bool := !(decide (u.size = n))
set_option maxRecDepth 100000 in
theorem cmpl_any (u : ByteArray) (g n : Nat) (w : World) (hg : Row w g 3 #[.int .i64 (n : Int)]) :
    Calls Tryd.prog 33 #[.string u, .pointer (some ⟨g, 0, none⟩)] w fun e w' => e = .returned (.bool (!(otherB n u))) ∧ w' = w := by
  have hc : w.cell? ⟨g, 0, none⟩ = some (.int .i64 (n : Int)) := hg.cell 0
  have HB := Lib.hid (show ((u.size : Int) == (n : Int)) = !(otherB n u) by unfold otherB; rw [Bool.not_not, Bool.eq_iff_iff, beq_iff_eq, decide_eq_true_eq]; omega)
  have HB2 := Lib.hid (show (u.size == n) = !(otherB n u) by unfold otherB; rw [Bool.not_not, Bool.eq_iff_iff, beq_iff_eq, decide_eq_true_eq])
  clear hg
  go_enter Tryd.func33, Tryd.ntmps33
  go_wp2
  go_ret
  exact ⟨ret_bool (by first | exact HB2.out | exact HB.out), rfl⟩
set_option maxRecDepth 100000 in
theorem other_any (u : ByteArray) (g h n : Nat) (w : World) (hg : Row w g 3 #[.int .i64 (n : Int)]) (hh : Row w h 49 #[.func (.func 33) #[] #[.pointer (some ⟨g, 0, none⟩)]]) :
    Calls Tryd.prog 44 #[.string u, .pointer (some ⟨h, 0, none⟩)] w fun e w' => e = .returned (.bool (otherB n u)) ∧ w' = w := by
  have hc : w.cell? ⟨h, 0, none⟩ = some (.func (.func 33) #[] #[.pointer (some ⟨g, 0, none⟩)]) := hh.cell 0
  have HG := Lib.hid hg
  obtain ⟨b, hb⟩ : ∃ b, otherB n u = b := ⟨_, rfl⟩
  have HB := Lib.hid hb
  rw [hb]
  clear hg hh hb
  go_enter Tryd.func44, Tryd.ntmps44
  go_wp2_with fail
  refine (cmpl_any u g n _ HG.out).mono ?_
  rw [HB.out]
  rintro e w1 ⟨rfl, rfl⟩
  cases b
  all_goals
    go_wp2
    go_ret
    exact ⟨rfl, rfl⟩
theorem any_take2 {p : ByteArray → Bool} {xs : List ByteArray} {k : Nat} {x : ByteArray} (h : (xs.take k).any p = false) (hx : xs[k]? = some x) : (xs.take (k + 1)).any p = p x := by
  rw [List.take_add_one, hx, List.any_append, h]; simp
set_option maxRecDepth 100000 in
theorem otheri_any (a : Option Addr) (ln c : Nat) (us : List ByteArray) (g h n : Nat) (w : World) (hl : us.length = ln) (hn : ln ≤ 9223372036854775807) (hr : Rd w w.heap.size a (strs us)) (hg : Row w g 3 #[.int .i64 (n : Int)]) (hh : Row w h 49 #[.func (.func 33) #[] #[.pointer (some ⟨g, 0, none⟩)]]) :
    Calls Tryd.prog 49 #[.slice a ln c, .func (.func 44) #[] #[.pointer (some ⟨h, 0, none⟩)]] w fun e w' => Found (us.any (otherB n)) e ∧ w' = w := by
  have HR := Lib.hid hr
  have HG := Lib.hid hg
  have HH := Lib.hid hh
  have HL := Lib.hid hl
  clear hr hg hh hl
  go_enter Tryd.func49, Tryd.ntmps49
  go_wp2
  go_loopw [8] (fun i wr => wr = w ∧ ∃ k : Nat, k ≤ ln ∧ i = .int .i64 k ∧ (us.take k).any (otherB n) = false) (fun i _ => ln - (intOf i).toNat)
  case atStart => exact ⟨rfl, 0, by omega, rfl, rfl⟩
  case round =>
    obtain ⟨rfl, k, hk, rfl, ha⟩ := hrel
    have HA := Lib.hid ha
    clear ha
    by_cases hlt : k < ln
    · obtain ⟨x, hx⟩ : ∃ x, us[k]? = some x := ⟨_, List.getElem?_eq_getElem (by rw [HL.out]; exact hlt)⟩
      obtain ⟨b, off, rfl, hb, hc⟩ := HR.out k (.string x) (by rw [strs, List.getElem?_map, hx]; rfl)
      have HX := Lib.hid hx
      clear hx
      obtain ⟨bx, hbx⟩ : ∃ bx, otherB n x = bx := ⟨_, rfl⟩
      have HBX := Lib.hid hbx
      clear hbx
      go_wp2_with fail
      refine (other_any x g h n _ HG.out HH.out).mono ?_
      rw [HBX.out]
      rintro e w1 ⟨rfl, rfl⟩
      cases bx
      · go_wp2
        go_roundw
        case rel => exact ⟨trivial, k + 1, by omega, by go_num, by rw [any_take2 HA.out HX.out]; exact HBX.out⟩
        case measure => simp [intOf]; omega
      · go_wp2
        go_ret
        refine ⟨.inr ⟨?_, k, rfl⟩, rfl⟩
        rw [List.any_eq_true]
        exact ⟨x, List.mem_of_getElem? HX.out, HBX.out⟩
    · have h1 : k = ln := by omega
      have HA2 := Lib.hid (show us.any (otherB n) = false by
        have := HA.out
        rwa [List.take_of_length_le (by rw [HL.out]; omega)] at this)
      clear h1
      go_wp2
      go_ret
      exact ⟨.inl ⟨HA2.out, rfl⟩, rfl⟩
set_option maxRecDepth 100000 in
theorem otherc_any (a : Option Addr) (ln c : Nat) (us : List ByteArray) (g h n : Nat) (w : World) (hl : us.length = ln) (hn : ln ≤ 9223372036854775807) (hr : Rd w w.heap.size a (strs us)) (hg : Row w g 3 #[.int .i64 (n : Int)]) (hh : Row w h 49 #[.func (.func 33) #[] #[.pointer (some ⟨g, 0, none⟩)]]) :
    Calls Tryd.prog 43 #[.slice a ln c, .func (.func 44) #[] #[.pointer (some ⟨h, 0, none⟩)]] w fun e w' => e = .returned (.bool (us.any (otherB n))) ∧ w' = w := by
  have h := otheri_any a ln c us g h n w hl hn hr hg hh
  generalize us.any (otherB n) = b at h
  have H := Lib.hid h
  clear h hl hr hg hh
  go_enter Tryd.func43, Tryd.ntmps43
  go_wp2_with fail
  refine H.out.mono ?_
  rintro e w1 ⟨hf, rfl⟩
  rcases hf with ⟨rfl, rfl⟩ | ⟨rfl, k, rfl⟩
  · go_wp2
    go_ret
    exact ⟨rfl, rfl⟩
  · have hd : decide (0 ≤ (k : Int)) = true := by simp
    go_wp2
    go_ret
    exact ⟨rfl, rfl⟩
set_option maxRecDepth 100000 in
theorem every_any (a : Option Addr) (ln c : Nat) (us : List ByteArray) (g n : Nat) (w : World) (hl : us.length = ln) (hn : ln ≤ 9223372036854775807) (hr : Rd w w.heap.size a (strs us)) (hg : Row w g 3 #[.int .i64 (n : Int)]) :
    Calls Tryd.prog 32 #[.slice a ln c, .func (.func 33) #[] #[.pointer (some ⟨g, 0, none⟩)]] w fun e w' => e = .returned (.bool (!(us.any (otherB n)))) ∧ Below w.heap.size w w' := by
  obtain ⟨w1, hw1⟩ : ∃ W, W = w.alloc (.cells #[.func (.func 33) #[] #[.pointer (some ⟨g, 0, none⟩)]] 49) := ⟨_, rfl⟩
  have HB := Lib.hid (show Below w.heap.size w w1 by rw [hw1]; exact (Below.refl _ w).alloc (Nat.le_refl _) _)
  have HC := Lib.hid (otherc_any a ln c us g w.heap.size n w1 hl hn ((hr.below HB.out).more HB.out.size) (hg.below HB.out hg.lt) (by rw [hw1]; exact Row.new w _ _))
  have HW := Lib.hid hw1
  obtain ⟨b, hb⟩ : ∃ b, us.any (otherB n) = b := ⟨_, rfl⟩
  rw [hb] at HC ⊢
  clear hl hr hg hw1 hb
  go_enter Tryd.func32, Tryd.ntmps32
  go_wp2_with fail
  rw [← HW.out]
  refine HC.out.mono ?_
  rintro e w2 ⟨rfl, rfl⟩
  go_wp2
  go_ret
  exact ⟨rfl, HB.out⟩
end Go.Proofs.YtdmcdgpigpekhaaDoor
