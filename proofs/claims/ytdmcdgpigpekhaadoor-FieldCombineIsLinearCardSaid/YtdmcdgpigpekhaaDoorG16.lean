/- Fields: combination and multiple, one answer each; the reference's combination. -/
import Derived.Test.YtdmcdgpigpekhaaDoorG15
namespace Go.Proofs.YtdmcdgpigpekhaaDoor
set_option linter.unusedSimpArgs false
set_option linter.unusedVariables false
open Go.RowKit Go.Lib

theorem fcomb_any (m : Int) (a1 : Option Addr) (n1 c1 : Nat) (coef : List Int) (a2 : Option Addr) (n2 c2 : Nat) (us : List ByteArray) (w : World) (ht : Tab w) (hl1 : coef.length = n1) (hn1 : n1 ≤ 9223372036854775807) (hr1 : Rd w w.heap.size a1 (ints coef))
    (hl2 : us.length = n2) (hn2 : n2 ≤ 9223372036854775807) (hr2 : Rd w w.heap.size a2 (strs us)) (hs : ∀ u ∈ us, u.size ≤ 100000000) :
    Calls Tryd.prog 10 #[.int .i64 m, .slice a1 n1 c1, .slice a2 n2 c2] w fun e w' => e = .returned (pairS (combS m coef us) (combE m coef us)) ∧ Below w.heap.size w w' := by
  cases h : (allB m coef && decide (coef.length ≠ 0) && decide (coef.length = us.length)) with
  | false =>
    have : okC m coef us = false := by unfold okC; rw [h]; rfl
    rw [combS, combE, this]
    exact fcomb_no m a1 n1 c1 coef a2 n2 c2 us w ht hl1 hn1 hr1 hl2 hn2 hr2 h
  | true =>
    rw [Bool.and_eq_true, Bool.and_eq_true, decide_eq_true_eq, decide_eq_true_eq] at h
    obtain ⟨⟨h1, h2⟩, h3⟩ := h
    obtain ⟨k, hk, rfl, _⟩ := allB_get h1
    obtain rfl : n2 = n1 := by omega
    exact fcomb_yes k hk a1 n2 c1 coef a2 c2 us w ht hl1 hn1 hr1 hl2 hr2 (by omega) h1 hs
theorem xorL_zero (l : List UInt8) : Fld.xorL (List.replicate l.length 0) l = l := by
  refine Fld.list_ext_get (by rw [Fld.xorL_length (by simp)]; simp) fun p hp => ?_
  rw [Fld.xorL_length (by simp)] at hp
  have hp' : p < l.length := by simpa using hp
  rw [Fld.xorL_get (by simp) hp, Fld.getD_get hp']
  simp [hp']
theorem okC_one {m c : Int} {u : ByteArray} : okC m [c] [u] = sclOk m c u.size := by
  unfold okC sclOk
  cases h : allB m [c] with
  | false => rfl
  | true =>
    obtain ⟨k, hk, rfl, _⟩ := allB_get h
    have : otherB u.size u = false := by unfold otherB; simp
    rcases hk with rfl | rfl
    · simp [len0, Fld.size, this, Nat.mod_one]
    · simp only [len0, Fld.size, Int.toNat_natCast, List.any_cons, List.any_nil, this]
      simp
      cases Nat.mod_two_eq_zero_or_one u.size with
      | inl h => simp [h]
      | inr h => simp [h]
theorem comb_one (m c : Int) (u : ByteArray) : combS m [c] [u] = sclS m c u ∧ combE m [c] [u] = sclE m c u.size := by
  unfold combS combE sclS sclE
  rw [okC_one]
  refine ⟨?_, rfl⟩
  congr 1
  show Fld.combTo m.toNat u.size [(c.toNat, u.data.toList)] = _
  unfold Fld.combTo
  simp only [List.foldl_cons, List.foldl_nil]
  have := xorL_zero (Fld.scl m.toNat c.toNat u.data.toList)
  rwa [Fld.scl_length, len_data] at this
set_option maxRecDepth 100000 in
theorem fscale_any (m c : Int) (u : ByteArray) (w : World) (ht : Tab w) (hu : u.size ≤ 100000000) :
    Calls Tryd.prog 12 #[.int .i64 m, .int .i64 c, .string u] w fun e w' => e = .returned (pairS (sclS m c u) (sclE m c u.size)) ∧ Below w.heap.size w w' := by
  obtain ⟨w2, hw2⟩ : ∃ W, W = (w.alloc (.cells #[.int .i64 c] 3)).alloc (.cells #[.string u] 9) := ⟨_, rfl⟩
  have hb2 : Below w.heap.size w w2 := by rw [hw2]; exact ((Below.refl _ w).alloc (Nat.le_refl _) _).alloc (by simp) _
  have hz2 : w2.heap.size = w.heap.size + 2 := by rw [hw2]; simp
  have r1 : Rd w2 w2.heap.size (some ⟨w.heap.size, 0, none⟩) (ints [c]) := Rd.row (show Row w2 w.heap.size 3 #[.int .i64 c] by rw [hw2]; exact (Row.new w _ _).alloc _) (by omega) fun j v hv => by rw [← hv, ← Array.getElem?_toList]; rfl
  have r2 : Rd w2 w2.heap.size (some ⟨w.heap.size + 1, 0, none⟩) (strs [u]) := Rd.row (show Row w2 (w.heap.size + 1) 9 #[.string u] by rw [hw2]; exact Row.made _ _ (by simp)) (by omega) fun j v hv => by rw [← hv, ← Array.getElem?_toList]; rfl
  have HC := Lib.hid (fcomb_any m (some ⟨w.heap.size, 0, none⟩) 1 1 [c] (some ⟨w.heap.size + 1, 0, none⟩) 1 1 [u] w2 (ht.next hb2) rfl (by omega) r1 rfl (by omega) r2 (fun x hx => by simp at hx; subst hx; exact hu))
  have HV := Lib.hid (show pairS (combS m [c] [u]) (combE m [c] [u]) = .tuple #[.string (strB (sclS m c u)), .int .i64 (sclE m c u.size)] by rw [(comb_one m c u).1, (comb_one m c u).2]; rfl)
  have HB := Lib.hid hb2
  have HW := Lib.hid hw2
  obtain ⟨x, hx⟩ : ∃ x, strB (sclS m c u) = x := ⟨_, rfl⟩
  obtain ⟨y, hy⟩ : ∃ y, sclE m c u.size = y := ⟨_, rfl⟩
  unfold pairS
  rw [hx, hy] at HV ⊢
  clear r1 r2 hb2 hw2 hz2 ht hx hy
  go_enter Tryd.func12, Tryd.ntmps12
  go_wp2_with fail
  rw [← HW.out]
  refine HC.out.mono ?_
  rw [HV.out]
  rintro e w3 ⟨rfl, hb⟩
  have HB3 := Lib.hid (below_call HB.out hb)
  clear hb
  go_wp2_with fail
  refine bodyPost_ret (v := .tuple #[.string x, .int .i64 y]) ?_ rfl ⟨rfl, HB3.out⟩
  rw [results_tmp2 rfl]; rfl
end Go.Proofs.YtdmcdgpigpekhaaDoor
