/- Schedules: the sets of inputs, the plain words. -/
import Derived.Test.YtghinmlpkgcdiaaDoorXF
set_option linter.unusedVariables false
namespace Go.Proofs.YtghinmlpkgcdiaaDoor
namespace Xp

/-- the inputs: register i holds the set of i alone -/
def inputs (n : Nat) : List Nat := (List.range n).map fun i => 1 <<< i
theorem inputs_length (n : Nat) : (inputs n).length = n := by simp [inputs]
theorem inputs_get {n i : Nat} (h : i < n) : (inputs n)[i]? = some (1 <<< i) := by
  unfold inputs; rw [List.getElem?_map, List.getElem?_range h]; rfl
theorem inputs_take {n t : Nat} (h : t < n) : (inputs n).take (t + 1) = (inputs n).take t ++ [1 <<< t] := by
  rw [List.take_add_one, inputs_get h]; rfl
theorem word_one (i k : Nat) : word (1 <<< i) k = if k = i / 64 then 1 <<< (i % 64) else 0 := by
  have h := word_or 0 i 1 k (by decide)
  rw [Nat.zero_or] at h
  rw [h]
  have h0 : word 0 k = 0 := by unfold word; simp
  rw [h0, Nat.zero_or]
/-- the elements of a set below n, in order -/
def setOf (n N : Nat) : List Nat := (List.range n).filter fun x => N.testBit x
def setTo (n N t : Nat) : List Nat := (List.range t).filter fun x => N.testBit x
theorem setTo_succ (n N t : Nat) : setTo n N (t + 1) = if N.testBit t then setTo n N t ++ [t] else setTo n N t := by
  unfold setTo
  rw [List.range_succ, List.filter_append]
  by_cases h : N.testBit t
  · rw [if_pos h, List.filter_cons_of_pos h]; rfl
  · rw [if_neg h, List.filter_cons_of_neg h]; simp
theorem setTo_length (n N t : Nat) : (setTo n N t).length ≤ t := by
  unfold setTo; have := List.length_filter_le (fun x => N.testBit x) (List.range t); simpa using this
/-- what the outputs compute -/
def outSet (n : Nat) (R : List Nat) (r : Int) : List Nat := if r < 0 then [] else setOf n (R[r.toNat]?.getD 0)
def sets (n : Nat) (R : List Nat) (out : List Int) : List (List Nat) := out.map (outSet n R)
/-- bit x of a list, as the program reads it -/
theorem bit_read (N x : Nat) : word N (x / 64) / 2 ^ (x % 64) % 2 = if N.testBit x then 1 else 0 := by
  have h := word_bit N x
  rw [Nat.testBit, Nat.shiftRight_eq_div_pow] at h
  rw [← h]
  have e : 1 &&& word N (x / 64) / 2 ^ (x % 64) = word N (x / 64) / 2 ^ (x % 64) % 2 := by
    rw [Nat.and_comm, Nat.and_one_is_mod]
  rw [e]
  have := Nat.mod_lt (word N (x / 64) / 2 ^ (x % 64)) (show 2 > 0 by decide)
  rcases (show word N (x / 64) / 2 ^ (x % 64) % 2 = 0 ∨ word N (x / 64) / 2 ^ (x % 64) % 2 = 1 by omega) with h0 | h0
  · rw [h0]; rfl
  · rw [h0]; rfl
/-- the first j rows made, row j as far as l, the others empty -/
def lsAt (S : List (List Nat)) (N j : Nat) (l : List Nat) : List (List Nat) := S.take j ++ l :: List.replicate (N - j - 1) []
theorem lsAt_get {S : List (List Nat)} {N j : Nat} {l : List Nat} (h : j ≤ S.length) : (lsAt S N j l)[j]? = some l := by
  unfold lsAt
  rw [List.getElem?_append_right (by rw [List.length_take]; omega), List.length_take, Nat.min_eq_left h, Nat.sub_self]; rfl
theorem lsAt_set {S : List (List Nat)} {N j : Nat} {l l' : List Nat} (h : j ≤ S.length) : (lsAt S N j l).set j l' = lsAt S N j l' := by
  unfold lsAt
  rw [List.set_append_right _ _ (by rw [List.length_take]; omega), List.length_take, Nat.min_eq_left h, Nat.sub_self]; rfl
theorem lsAt_next {S : List (List Nat)} {N j : Nat} {l : List Nat} (h : S[j]? = some l) (hj : j + 1 < N) : lsAt S N j l = lsAt S N (j + 1) [] := by
  unfold lsAt
  rw [List.take_add_one, h]
  rw [show N - j - 1 = (N - (j + 1) - 1) + 1 by omega, List.replicate_succ]
  simp
theorem lsAt_last {S : List (List Nat)} {N j : Nat} {l : List Nat} (h : S[j]? = some l) (hj : j + 1 = N) (hS : S.length = N) : lsAt S N j l = S := by
  unfold lsAt
  rw [show N - j - 1 = 0 by omega]
  obtain ⟨h1, h2⟩ := List.getElem?_eq_some_iff.1 h
  have : S.take (j + 1) = S := List.take_of_length_le (by omega)
  rw [List.take_succ_eq_append_getElem h1, h2] at this
  simpa using this
/-- the rows when j of them are made -/
def lsTo (S : List (List Nat)) (N j : Nat) : List (List Nat) := S.take j ++ List.replicate (N - j) []
theorem lsTo_zero (S : List (List Nat)) (N : Nat) : lsTo S N 0 = List.replicate N [] := by unfold lsTo; simp
theorem lsTo_at {S : List (List Nat)} {N j : Nat} (hj : j < N) : lsTo S N j = lsAt S N j [] := by
  unfold lsTo lsAt
  rw [show N - j = (N - j - 1) + 1 by omega, List.replicate_succ]; rfl
theorem lsTo_end {S : List (List Nat)} {N : Nat} (hS : S.length = N) : lsTo S N N = S := by
  unfold lsTo; rw [Nat.sub_self, List.take_of_length_le (by omega)]; simp
theorem lsTo_step {S : List (List Nat)} {N j : Nat} {l : List Nat} (h : S[j]? = some l) (hj : j < N) : lsAt S N j l = lsTo S N (j + 1) := by
  unfold lsAt lsTo
  rw [List.take_add_one, h]
  rw [show N - j - 1 = N - (j + 1) by omega]
  simp
end Xp
end Go.Proofs.YtghinmlpkgcdiaaDoor
