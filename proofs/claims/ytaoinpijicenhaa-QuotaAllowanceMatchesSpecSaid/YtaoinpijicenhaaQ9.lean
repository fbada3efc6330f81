/- The walk of the reference's Allowance; quota's Allowance where it refuses. -/
import Derived.Test.YtaoinpijicenhaaQ8
namespace Go.Proofs.Ytaoinpijicenhaa
set_option linter.unusedSimpArgs false
set_option linter.unusedVariables false
open Go.RowKit

theorem qallow_any (a : Option Addr) (len cap B : Nat) (cs : List Cl) (F : Int) (w : World) (hl : cs.length = len) (hm : len ≤ 20) (hB : B ≤ w.heap.size) (hr : Rd w B a (flat cs)) (hF2 : F ≤ 9223372036854775807) :
    Calls Try.prog 20 #[.slice a len cap, .int .i64 F] w fun e w' => ∃ (a' : Option Addr) (n c : Nat), e = .returned (.slice a' n c) ∧ Own w' w.heap.size 3 a' n c ((allowV cs F).map vi) ∧ Below w.heap.size w w' := by
  by_cases hF : F < 0
  · have HV := Lib.hid (show allowV cs F = [] from if_neg (by omega))
    have hd0 : decide (F < 0) = true := by simp; omega
    clear hr
    go_enter Try.func20, Try.ntmps20
    go_wp2_with fail
    go_ret
    exact ⟨_, _, _, rfl, by rw [HV.out]; exact Own.nil _ _ _, Below.refl _ _⟩
  · cases hok : cs.all okB with
    | true =>
      refine (qallow_ok a len cap B cs F w hl hm hB hr (by omega) hF2 hok).mono ?_
      rintro e w' ⟨a', rfl, ho, hb⟩
      exact ⟨a', len, len, rfl, by rw [show allowV cs F = allow cs F from if_pos ⟨by omega, hok⟩]; exact ho, hb⟩
    | false =>
      have HV := Lib.hid (show allowV cs F = [] from if_neg (by rw [hok]; simp))
      have HK := Lib.hid hok
      have HR := Lib.hid hr
      have hd0 : decide (F < 0) = false := by simp; omega
      clear hr hok
      go_enter Try.func20, Try.ntmps20
      go_wp2_with fail
      refine (cont2_any a len cap B cs _ hl (by omega) hB HR.out).mono ?_
      rintro e w1 ⟨rfl, hb⟩
      rw [HK.out]
      simp only [Bool.not_false]
      have HB1 := Lib.hid hb
      clear hb
      go_wp2_with fail
      go_ret
      exact ⟨_, _, _, rfl, by rw [HV.out]; exact Own.nil _ _ _, HB1.out⟩

def mix (A O : List Int) (i : Nat) : List Int := A.take i ++ O.drop i
theorem mix_len (A O : List Int) (i : Nat) (h : A.length = O.length) : (mix A O i).length = O.length := by
  simp only [mix, List.length_append, List.length_take, List.length_drop]; omega
theorem mix_get (A O : List Int) (i : Nat) (x : Int) (h : A.length = O.length) (hx : O[i]? = some x) : (mix A O i)[i]? = some x := by
  obtain ⟨hi, _⟩ := List.getElem?_eq_some_iff.1 hx
  rw [mix, List.getElem?_append_right (by rw [List.length_take]; omega), List.length_take, List.getElem?_drop, ← hx]
  congr 1; omega
theorem mix_set (A O : List Int) (i : Nat) (y : Int) (h : A.length = O.length) (hy : A[i]? = some y) : (mix A O i).set i y = mix A O (i + 1) := by
  obtain ⟨hi, e⟩ := List.getElem?_eq_some_iff.1 hy
  have hl : (A.take i).length = i := by rw [List.length_take]; omega
  have hd : O.drop i = O[i]'(by omega) :: O.drop (i + 1) := List.drop_eq_getElem_cons (by omega)
  rw [mix, List.set_append_right _ _ (by omega), hl, Nat.sub_self, hd, List.set_cons_zero, mix, List.take_succ_eq_append_getElem hi, e]
  simp
theorem mix_skip (A O : List Int) (i : Nat) (y : Int) (h : A.length = O.length) (hy : A[i]? = some y) (hx : O[i]? = some y) : mix A O i = mix A O (i + 1) := by
  rw [← mix_set A O i y h hy]
  have := mix_get A O i y h hx
  obtain ⟨hi, e⟩ := List.getElem?_eq_some_iff.1 this
  rw [← e, List.set_getElem_self]
theorem cnt_take (p : Int) (cs : List Cl) (i : Nat) (c : Cl) (L : Int) (h : cs[i]? = some c) : cntR p (cs.take (i + 1)) L = cntR p (cs.take i) L + (if c.r = p ∧ L < wish c then 1 else 0) := by
  obtain ⟨hi, e⟩ := List.getElem?_eq_some_iff.1 h
  have app : ∀ (xs : List Cl), cntR p (xs ++ [c]) L = cntR p xs L + (if c.r = p ∧ L < wish c then 1 else 0) := by
    intro xs
    induction xs with
    | nil => simp [cntR]
    | cons d ds ih => simp only [List.cons_append, cntR, ih]; omega
  rw [List.take_succ_eq_append_getElem hi, e, app]
end Go.Proofs.Ytaoinpijicenhaa
