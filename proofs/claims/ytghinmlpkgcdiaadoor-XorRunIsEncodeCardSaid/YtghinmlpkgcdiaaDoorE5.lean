/- Runs and codes: the ways out of the statement. -/
import Derived.Test.YtghinmlpkgcdiaaDoorOpenC
import Derived.Test.YtghinmlpkgcdiaaDoorE4
import Derived.Deep.RegionHeld3
import Derived.Deep.DeepCutAuto
import Derived.BigQuiet
namespace Go.Proofs.YtghinmlpkgcdiaaDoor
set_option linter.unusedSimpArgs false
set_option linter.unusedVariables false
open Go.ChangeShapes Go.WideShapes Go.ChangeAt Go.RowKit Go.Lib

section
variable (nm : ByteArray) (f d : Int) (qp : Option Addr) (np kp : Nat) (dom : Int) (zss : List (List Int)) (qd : Option Addr) (nd kd : Nat) (ss : List ByteArray) (w : World)
/-- the cases in which the statement asks nothing -/
def encOut (f d : Int) (np : Nat) (ss : List ByteArray) : Bool := decide (4 < d) || decide (3 < (np : Int)) || ((f == 16) && decide (2 < IntKind.i64.wrap (d * (np : Int)))) || !few08 ss
set_option maxRecDepth 100000 in
set_option maxHeartbeats 6400000 in
theorem re_0 (ht : Tab w) (ha : StrIn w qd nd kd ss) (h : encOut f d np ss = true) :
    Calls Tryd.prog 4 #[.agg (codC (.string nm) f d qp np kp dom), .slice qd nd kd] w fun e w' => e = .returned (.bool true) ∧ Below w.heap.size w w' := by
  have HB0 := Lib.hid ((Below.refl _ w).alloc (Nat.le_refl _) (.cells (codC (.string nm) f d qp np kp dom) 26))
  have HX0 := Lib.hid (Row.new w 26 (codC (.string nm) f d qp np kp dom))
  have HT := Lib.hid ht
  have HA := Lib.hid ha
  unfold encOut at h
  obtain ⟨X, hX⟩ : ∃ X, IntKind.i64.wrap (d * (np : Int)) = X := ⟨_, rfl⟩
  rw [hX] at h
  obtain ⟨b1, e1⟩ : ∃ b, decide (4 < d) = b := ⟨_, rfl⟩
  obtain ⟨b2, e2⟩ : ∃ b, decide (3 < (np : Int)) = b := ⟨_, rfl⟩
  obtain ⟨b3, e3⟩ : ∃ b, (f == 16) = b := ⟨_, rfl⟩
  obtain ⟨b4, e4⟩ : ∃ b, decide (2 < X) = b := ⟨_, rfl⟩
  obtain ⟨b5, e5⟩ : ∃ b, few08 ss = b := ⟨_, rfl⟩
  rw [e1, e2, e3, e4, e5] at h
  have HF := Lib.hid (fun (W : World) (hb : Below w.heap.size w W) => few08_any qd nd kd ss W (ha.next hb))
  rw [e5] at HF
  clear ht ha e5
  cases b1
  · cases b2
    · cases b3
      · cases b5
        · clear h
          go_enter Tryd.func4, Tryd.ntmps4
          go_wp2_with fail
          refine (sanity11_any _ (HT.out.next HB0.out)).mono ?_
          rintro e v1 ⟨rfl, hb⟩
          have HB1 := Lib.hid (below_call HB0.out hb)
          obtain ⟨c0, c1, c2, c3, c4⟩ := cbox (HX0.out.below hb (by first | exact HX0.out.lt | simp))
          clear hb
          go_wp2_with fail
          refine (HF.out _ HB1.out).mono ?_
          rintro e v2 ⟨rfl, rfl⟩
          go_wp2
          go_ret
          exact ⟨rfl, HB1.out⟩
        · cases h
      · cases b4
        · cases b5
          · clear h
            go_enter Tryd.func4, Tryd.ntmps4
            go_wp2_with fail
            refine (sanity11_any _ (HT.out.next HB0.out)).mono ?_
            rintro e v1 ⟨rfl, hb⟩
            have HB1 := Lib.hid (below_call HB0.out hb)
            obtain ⟨c0, c1, c2, c3, c4⟩ := cbox (HX0.out.below hb (by first | exact HX0.out.lt | simp))
            clear hb
            go_wp2_with fail
            refine (HF.out _ HB1.out).mono ?_
            rintro e v2 ⟨rfl, rfl⟩
            go_wp2
            go_ret
            exact ⟨rfl, HB1.out⟩
          · cases h
        · clear h
          go_enter Tryd.func4, Tryd.ntmps4
          go_wp2_with fail
          refine (sanity11_any _ (HT.out.next HB0.out)).mono ?_
          rintro e v1 ⟨rfl, hb⟩
          have HB1 := Lib.hid (below_call HB0.out hb)
          obtain ⟨c0, c1, c2, c3, c4⟩ := cbox (HX0.out.below hb (by first | exact HX0.out.lt | simp))
          clear hb
          go_wp2
          go_ret
          exact ⟨rfl, HB1.out⟩
    · clear h
      go_enter Tryd.func4, Tryd.ntmps4
      go_wp2_with fail
      refine (sanity11_any _ (HT.out.next HB0.out)).mono ?_
      rintro e v1 ⟨rfl, hb⟩
      have HB1 := Lib.hid (below_call HB0.out hb)
      obtain ⟨c0, c1, c2, c3, c4⟩ := cbox (HX0.out.below hb (by first | exact HX0.out.lt | simp))
      clear hb
      go_wp2
      go_ret
      exact ⟨rfl, HB1.out⟩
  · clear h
    go_enter Tryd.func4, Tryd.ntmps4
    go_wp2_with fail
    refine (sanity11_any _ (HT.out.next HB0.out)).mono ?_
    rintro e v1 ⟨rfl, hb⟩
    have HB1 := Lib.hid (below_call HB0.out hb)
    obtain ⟨c0, c1, c2, c3, c4⟩ := cbox (HX0.out.below hb (by first | exact HX0.out.lt | simp))
    clear hb
    go_wp2
    go_ret
    exact ⟨rfl, HB1.out⟩
set_option maxRecDepth 100000 in
set_option maxHeartbeats 12800000 in
theorem re_1 (ht : Tab w) (hc : CodeIn w f d qp np kp zss) (ha : StrIn w qd nd kd ss) (h : encOut f d np ss = false) (hok : Xp.okC f d zss = false) :
    Calls Tryd.prog 4 #[.agg (codC (.string nm) f d qp np kp dom), .slice qd nd kd] w fun e w' => e = .returned (.bool true) ∧ Below w.heap.size w w' := by
  have HB0 := Lib.hid ((Below.refl _ w).alloc (Nat.le_refl _) (.cells (codC (.string nm) f d qp np kp dom) 26))
  have HX0 := Lib.hid (Row.new w 26 (codC (.string nm) f d qp np kp dom))
  have HT := Lib.hid ht
  unfold encOut at h
  obtain ⟨X, hX⟩ : ∃ X, IntKind.i64.wrap (d * (np : Int)) = X := ⟨_, rfl⟩
  rw [hX] at h
  simp only [Bool.or_eq_false_iff, Bool.not_eq_false', Bool.and_eq_false_iff] at h
  obtain ⟨⟨⟨e1, e2⟩, e34⟩, e5⟩ := h
  have hnd : nd ≤ 24 := by
    have h9 := e5
    unfold few08 at h9
    rw [Bool.and_eq_true, decide_eq_true_eq, ha.len] at h9
    exact h9.1
  have hnp : np ≤ 3 := by have := of_decide_eq_false e2; omega
  have HF := Lib.hid (fun (W : World) (hb : Below w.heap.size w W) => few08_any qd nd kd ss W (ha.next hb))
  rw [e5] at HF
  have HEN := Lib.hid (fun (W : World) (hb : Below w.heap.size w W) => encode_no (.string nm) f d qp np kp dom zss qd nd kd ss W (ht.next hb) (hc.next hb).grid (by omega) rfl ha.len (by omega) (ha.next hb).rd (.inl hok))
  have HCX := Lib.hid (fun (W : World) (hb : Below w.heap.size w W) => xcompile_say (nm := .string nm) (kp := kp) (dom := dom) W (ht.next hb) (hc.next hb).grid (by omega) hc.f64 hc.d64 rfl hok)
  unfold schV at HCX
  clear ht hc ha e5 hok
  obtain ⟨b3, e3⟩ : ∃ b, (f == 16) = b := ⟨_, rfl⟩
  cases b3
  all_goals (
    first
      | (have e4 : decide (2 < X) = false := by
          rcases e34 with h | h
          · rw [e3] at h; cases h
          · exact h
         clear e34
         go_enter Tryd.func4, Tryd.ntmps4
         go_wp2_with fail)
      | (clear e34
         go_enter Tryd.func4, Tryd.ntmps4
         go_wp2_with fail)
    refine (sanity11_any _ (HT.out.next HB0.out)).mono ?_
    rintro e v1 ⟨rfl, hb⟩
    have HB1 := Lib.hid (below_call HB0.out hb)
    have HX1 := Lib.hid (HX0.out.below hb (by first | exact HX0.out.lt | simp))
    obtain ⟨c0, c1, c2, c3, c4⟩ := cbox HX1.out
    clear hb
    go_wp2_with fail
    refine (HF.out _ HB1.out).mono ?_
    rintro e v2 ⟨rfl, rfl⟩
    go_wp2_with fail
    clear c0 c1 c2 c3 c4
    refine (HEN.out _ HB1.out).mono ?_
    rintro e v3 ⟨rfl, hb⟩
    have HB3 := Lib.hid (below_call HB1.out hb)
    have HX3 := Lib.hid (HX1.out.below hb HX1.out.lt)
    obtain ⟨c0, c1, c2, c3, c4⟩ := cbox HX3.out
    clear hb
    go_wp2_with fail
    clear c0 c1 c2 c3 c4
    refine (HCX.out _ HB3.out).mono ?_
    rintro e v4 ⟨⟨qa, ka, qxa, kxa, rfl, hin⟩, hb⟩
    have HB4 := Lib.hid (below_call HB3.out hb)
    clear hb hin
    go_wp2
    go_ret
    exact ⟨rfl, HB4.out.alloc HB4.out.size _⟩)
end
end Go.Proofs.YtghinmlpkgcdiaaDoor
