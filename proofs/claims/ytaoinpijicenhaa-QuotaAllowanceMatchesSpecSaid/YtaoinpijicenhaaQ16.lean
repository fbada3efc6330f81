/- The walk of the reference's Allowance, for every list of at most 20 claims and every number. -/
import Derived.Test.YtaoinpijicenhaaQ10
namespace Go.Proofs.Ytaoinpijicenhaa
set_option linter.unusedSimpArgs false
set_option linter.unusedVariables false
open Go.RowKit

theorem first_bad (cs : List Cl) (h : cs.all okB = false) : ∃ (j : Nat) (c : Cl), cs[j]? = some c ∧ okB c = false ∧ ∀ (i : Nat) (d : Cl), i < j → cs[i]? = some d → okB d = true := by
  induction cs with
  | nil => simp at h
  | cons c cs ih =>
    cases hc : okB c with
    | false => exact ⟨0, c, rfl, hc, fun i d hi => by omega⟩
    | true =>
      rw [List.all_cons, hc, Bool.true_and] at h
      obtain ⟨j, d, h1, h2, h3⟩ := ih h
      refine ⟨j + 1, d, h1, h2, fun i e hi he => ?_⟩
      cases i with
      | zero => injection he with he; subst he; exact hc
      | succ i => exact h3 i e (by omega) he
set_option maxRecDepth 100000 in
theorem rallow_any (a : Option Addr) (len cap B : Nat) (cs : List Cl) (F : Int) (w : World) (hl : cs.length = len) (hm : len ≤ 20) (hB : B ≤ w.heap.size) (hr : Rd w B a (flat cs)) (hF2 : F ≤ 9223372036854775807) :
    Calls Try.prog 22 #[.slice a len cap, .int .i64 F] w fun e w' => ∃ (a' : Option Addr) (n c : Nat), e = .returned (.slice a' n c) ∧ Own w' w.heap.size 3 a' n c ((allowV cs F).map vi) ∧ Below w.heap.size w w' := by
  by_cases hF : F < 0
  · have HV := Lib.hid (show allowV cs F = [] from if_neg (by omega))
    have hd0 : decide (F < 0) = true := by simp; omega
    clear hr
    go_enter Try.func22, Try.ntmps22
    go_wp2_with fail
    go_ret
    exact ⟨_, _, _, rfl, by rw [HV.out]; exact Own.nil _ _ _, Below.refl _ _⟩
  · cases hok : cs.all okB with
    | true =>
      refine (rallow_ok a len cap B cs F w hl hm hB hr (by omega) hF2 hok).mono ?_
      rintro e w' ⟨a', rfl, ho, hb⟩
      exact ⟨a', len, len, rfl, by rw [show allowV cs F = allow cs F from if_pos ⟨by omega, hok⟩]; exact ho, hb⟩
    | false =>
      have HV := Lib.hid (show allowV cs F = [] from if_neg (by rw [hok]; simp))
      obtain ⟨x, cx, hx1, hx2, hx3⟩ := first_bad cs hok
      have HX := Lib.hid hx3
      have HX1 := Lib.hid hx1
      have HX2 := Lib.hid hx2
      have hxl : x < len := by have := (List.getElem?_eq_some_iff.1 hx1).1; omega
      have HR := Lib.hid hr
      have hd0 : decide (F < 0) = false := by simp; omega
      clear hr hok hx1 hx2 hx3
      go_enter Try.func22, Try.ntmps22
      go_wp2_with fail
      go_loopw [5] (fun i wr => ∃ j : Nat, j ≤ x ∧ i = .int .i64 j ∧ Below w.heap.size w wr) (fun i _ => len - (intOf i).toNat)
      case atStart => exact ⟨0, by omega, rfl, Below.refl _ _⟩
      case round =>
        obtain ⟨j, hj, rfl, hb⟩ := hrel
        have HB := Lib.hid hb
        clear hb
        have hlt : j < len := by omega
        obtain ⟨c, hget⟩ : ∃ x, cs[j]? = some x := ⟨_, List.getElem?_eq_getElem (by omega)⟩
        obtain ⟨b, off, rfl, hbB, d0, d1, d2, d3, d4, d5⟩ := (HR.out.below (HB.out.mono hB)).claim hget
        by_cases he : j = x
        · subst he
          have HC := Lib.hid (show okB c = false by
            have h1 := HX1.out; rw [hget] at h1; injection h1 with h1; rw [h1]; exact HX2.out)
          obtain ⟨g, s, bu, r, v, n⟩ := c
          simp only at d0 d1 d2 d3 d4 d5
          clear hget
          go_wp2_with fail
          refine (rvalid_any ⟨g, s, bu, r, v, n⟩ _).mono ?_
          rintro e w1 ⟨rfl, hb⟩
          rw [HC.out]
          have HB2 := Lib.hid (below_call HB.out hb)
          clear hb d0 d1 d2 d3 d4 d5
          go_wp2_with fail
          go_ret
          exact ⟨_, _, _, rfl, by rw [HV.out]; exact Own.nil _ _ _, HB2.out⟩
        · have HC := Lib.hid (HX.out j c (by omega) hget)
          obtain ⟨g, s, bu, r, v, n⟩ := c
          simp only at d0 d1 d2 d3 d4 d5
          clear hget
          go_wp2_with fail
          refine (rvalid_any ⟨g, s, bu, r, v, n⟩ _).mono ?_
          rintro e w1 ⟨rfl, hb⟩
          rw [HC.out]
          have HB2 := Lib.hid (below_call HB.out hb)
          clear hb d0 d1 d2 d3 d4 d5
          go_wp2_with fail
          go_roundw
          case rel => exact ⟨j + 1, by omega, by go_num, HB2.out⟩
          case measure => simp [intOf]; omega
end Go.Proofs.Ytaoinpijicenhaa
