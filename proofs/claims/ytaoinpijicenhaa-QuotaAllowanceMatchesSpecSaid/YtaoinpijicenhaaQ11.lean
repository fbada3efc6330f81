/- The walk of quota's Decide. -/
import Derived.Test.YtaoinpijicenhaaQ4
namespace Go.Proofs.Ytaoinpijicenhaa
set_option linter.unusedSimpArgs false
set_option linter.unusedVariables false
open Go.RowKit

theorem qdecide_bad0 (c : Cl) (x y a : Int) (w : World) (h : okB c = false) :
    Calls Try.prog 11 #[cv c, .int .i64 x, .int .i64 y, .int .i64 a] w fun e w' => e = .returned (gv (dec c x y a)) ∧ Below w.heap.size w w' := by
  have HD := Lib.hid (show dec c x y a = (0, 0, 1) from if_pos (by rw [h]; rfl))
  have HO := Lib.hid h
  clear h
  obtain ⟨g, s, b, r, v, n⟩ := c
  simp only [cv]
  go_enter Try.func11, Try.ntmps11
  go_wp2_with fail
  refine (qvalid_any ⟨g, s, b, r, v, n⟩ _).mono ?_
  rintro e w1 ⟨rfl, hb⟩
  rw [HO.out]
  have HR := Lib.hid (show Row w1 (w.heap.size + 1) 28 #[.int .i64 0, .int .i64 0] from ((Row.made _ _ (size1 _ _).symm).below hb (by simp)))
  have HB := Lib.hid (below_call (((Below.refl w.heap.size w).alloc (Nat.le_refl _) _).alloc (by simp) _) hb)
  have hr0 : w1.cell? ⟨w.heap.size + 1, 0, none⟩ = some (.int .i64 0) := by rw [HR.out.cell]; rfl
  have hr1 : w1.cell? ⟨w.heap.size + 1, 1, none⟩ = some (.int .i64 0) := by rw [HR.out.cell]; rfl
  have hf0 := HR.out.frozen 0
  have hf1 := HR.out.frozen 1
  clear hb
  go_wp2_with fail
  rw [HD.out]
  have HF := Lib.hid (show Row _ (w.heap.size + 1) 28 #[.int .i64 0, .int .i64 0] from (HR.out.put 0 (.int .i64 0)).put 1 (.int .i64 0))
  refine bodyPost_ret (v := .tuple #[.agg #[.int .i64 0, .int .i64 0], .int .i64 1]) ?_ rfl ⟨rfl, (HB.out.setCell (by simp) _).setCell (by simp) _⟩
  exact results_row_tmp rfl _ _ (w.heap.size + 1) _ _ _ _ rfl rfl HF.out Try.underlying28 (by rfl) (by kernel_rfl)

theorem rd3 (w : World) (x y a : Int) : Rd (w.alloc (.cells #[.int .i64 x, .int .i64 y, .int .i64 a] 3)) (w.heap.size + 1) (some ⟨w.heap.size, 0, none⟩) ([x, y, a].map vi) :=
  Rd.row (Row.new w _ _) (by omega) fun j u hu => by rw [← hu, ← Array.getElem?_toList]; rfl

theorem qdecide_bad1 (c : Cl) (x y a : Int) (w : World) (h0 : okB c = true) (h : List.all [x, y, a] fitB = false) :
    Calls Try.prog 11 #[cv c, .int .i64 x, .int .i64 y, .int .i64 a] w fun e w' => e = .returned (gv (dec c x y a)) ∧ Below w.heap.size w w' := by
  have HD := Lib.hid (show dec c x y a = (0, 0, 1) from if_pos (by simp only [List.all_cons, List.all_nil, Bool.and_true] at h; rw [h0, Bool.true_and, Bool.and_assoc]; exact h))
  have HO := Lib.hid h0
  have HL := Lib.hid h
  clear h h0
  obtain ⟨g, s, b, r, v, n⟩ := c
  simp only [cv]
  go_enter Try.func11, Try.ntmps11
  go_wp2_with fail
  refine (qvalid_any ⟨g, s, b, r, v, n⟩ _).mono ?_
  rintro e w1 ⟨rfl, hb⟩
  rw [HO.out]
  have HR := Lib.hid (show Row w1 (w.heap.size + 1) 28 #[.int .i64 0, .int .i64 0] from ((Row.made _ _ (size1 _ _).symm).below hb (by simp)))
  have HB := Lib.hid (below_call (((Below.refl w.heap.size w).alloc (Nat.le_refl _) _).alloc (by simp) _) hb)
  clear hb
  go_wp2_with fail
  refine (all_any _ 3 3 _ [x, y, a] _ rfl (by decide) (rd3 w1 x y a)).mono ?_
  rintro e w2 ⟨rfl, rfl⟩
  rw [HL.out]
  obtain ⟨W, hW⟩ : ∃ W, W = w1.alloc (.cells #[.int .i64 x, .int .i64 y, .int .i64 a] 3) := ⟨_, rfl⟩
  rw [← hW]
  have HR := Lib.hid (show Row W (w.heap.size + 1) 28 #[.int .i64 0, .int .i64 0] by rw [hW]; exact HR.out.alloc _)
  have HB := Lib.hid (show Below w.heap.size w W by rw [hW]; exact HB.out.alloc HB.out.size _)
  clear hW
  have hr0 : W.cell? ⟨w.heap.size + 1, 0, none⟩ = some (.int .i64 0) := by rw [HR.out.cell]; rfl
  have hr1 : W.cell? ⟨w.heap.size + 1, 1, none⟩ = some (.int .i64 0) := by rw [HR.out.cell]; rfl
  have hf0 := HR.out.frozen 0
  have hf1 := HR.out.frozen 1
  go_wp2_with fail
  rw [HD.out]
  have HF := Lib.hid (show Row _ (w.heap.size + 1) 28 #[.int .i64 0, .int .i64 0] from (HR.out.put 0 (.int .i64 0)).put 1 (.int .i64 0))
  refine bodyPost_ret (v := .tuple #[.agg #[.int .i64 0, .int .i64 0], .int .i64 1]) ?_ rfl ⟨rfl, (HB.out.setCell (by simp) _).setCell (by simp) _⟩
  exact results_row_tmp rfl _ _ (w.heap.size + 1) _ _ _ _ rfl rfl HF.out Try.underlying28 (by rfl) (by kernel_rfl)

set_option maxHeartbeats 1600000 in
theorem qdecide_ok (c : Cl) (x y a : Int) (w : World) (h0 : okB c = true) (h : List.all [x, y, a] fitB = true) :
    Calls Try.prog 11 #[cv c, .int .i64 x, .int .i64 y, .int .i64 a] w fun e w' => e = .returned (gv (dec c x y a)) ∧ Below w.heap.size w w' := by
  have h' := h
  simp only [List.all_cons, List.all_nil, Bool.and_true, Bool.and_eq_true] at h'
  obtain ⟨h1, h2, h3⟩ := h'
  have hm := okB_iff.1 h0
  have bx := fitB_iff.1 h1
  have b_y := fitB_iff.1 h2
  have ba := fitB_iff.1 h3
  have HM := Lib.hid (okB_mid h0)
  have HMd := Lib.hid (show ({ c with v := c.v + x, n := c.n + y } : Cl).mid by unfold Cl.mid; simp only; omega)
  have HE := Lib.hid (exc_bd c h0)
  have HEd := Lib.hid (show 0 ≤ exc { c with v := c.v + x, n := c.n + y } ∧ exc { c with v := c.v + x, n := c.n + y } ≤ 4398046511104 by unfold exc; simp only; omega)
  have HO := Lib.hid h0
  have HL := Lib.hid h
  have HD := Lib.hid (show dec c x y a = _ from if_neg (by rw [h0, h1, h2, h3]; simp))
  clear h0 h1 h2 h3 h
  obtain ⟨g, s, b, r, v, n⟩ := c
  obtain ⟨m1, m2, m3, m4, m5, m6, m7⟩ := hm
  simp only at m1 m2 m3 m4 m5 m6 m7 HMd HEd HD
  simp only [cv]
  go_enter Try.func11, Try.ntmps11
  go_wp2_with fail
  refine (qvalid_any ⟨g, s, b, r, v, n⟩ _).mono ?_
  rintro e w1 ⟨rfl, hb⟩
  rw [HO.out]
  have HR := Lib.hid (show Row w1 (w.heap.size + 1) 28 #[.int .i64 0, .int .i64 0] from ((Row.made _ _ (size1 _ _).symm).below hb (by simp)))
  have HC := Lib.hid (show Row w1 w.heap.size 23 _ from (((Row.new w _ _).alloc _).below hb (by simp; omega)))
  have HB := Lib.hid (below_call (((Below.refl w.heap.size w).alloc (Nat.le_refl _) _).alloc (by simp) _) hb)
  clear hb
  go_wp2_with fail
  refine (all_any _ 3 3 _ [x, y, a] _ rfl (by decide) (rd3 w1 x y a)).mono ?_
  rintro e w2 ⟨rfl, rfl⟩
  rw [HL.out]
  obtain ⟨W, hW⟩ : ∃ W, W = w1.alloc (.cells #[.int .i64 x, .int .i64 y, .int .i64 a] 3) := ⟨_, rfl⟩
  rw [← hW]
  have HR := Lib.hid (show Row W (w.heap.size + 1) 28 #[.int .i64 0, .int .i64 0] by rw [hW]; exact HR.out.alloc _)
  have HC := Lib.hid (show Row W w.heap.size 23 _ by rw [hW]; exact HC.out.alloc _)
  have HB := Lib.hid (show Below w.heap.size w W by rw [hW]; exact HB.out.alloc HB.out.size _)
  clear hW
  obtain ⟨c0, c1, c2, c3, c4, c5⟩ := row6 HC.out
  go_wp2_with fail
  refine (qexcess_any ⟨g, s, b, r, v, n⟩ _ HM.out).mono ?_
  rintro e w3 ⟨rfl, hb⟩
  have HR := Lib.hid (HR.out.below hb HR.out.lt)
  have HC := Lib.hid (HC.out.below hb HC.out.lt)
  have HB := Lib.hid (below_call HB.out hb)
  clear hb c0 c1 c2 c3 c4 c5
  obtain ⟨c0, c1, c2, c3, c4, c5⟩ := row6 HC.out
  have f4 := HC.out.frozen 4
  have f5 := HC.out.frozen 5
  obtain ⟨E, hE⟩ : ∃ E, E = exc ⟨g, s, b, r, v, n⟩ := ⟨_, rfl⟩
  rw [← hE]
  rw [← hE] at HD HE
  clear hE
  go_wp2_with fail
  obtain ⟨W2, hW⟩ : ∃ W, W = (w3.setCell ⟨w.heap.size, 4, none⟩ (.int .i64 (v + x))).setCell ⟨w.heap.size, 5, none⟩ (.int .i64 (n + y)) := ⟨_, rfl⟩
  rw [← hW]
  have HR := Lib.hid (show Row W2 (w.heap.size + 1) 28 #[.int .i64 0, .int .i64 0] by rw [hW]; exact (HR.out.far (by simp) _).far (by simp) _)
  have HC := Lib.hid (show Row W2 w.heap.size 23 #[.int .i64 g, .int .i64 s, .int .i64 b, .int .i64 r, .int .i64 (v + x), .int .i64 (n + y)] by rw [hW]; exact (HC.out.put 4 _).put 5 _)
  have HB := Lib.hid (show Below w.heap.size w W2 by rw [hW]; exact (HB.out.setCell (Nat.le_refl _) _).setCell (Nat.le_refl _) _)
  clear hW c0 c1 c2 c3 c4 c5 f4 f5
  obtain ⟨c0, c1, c2, c3, c4, c5⟩ := row6 HC.out
  go_wp2_with fail
  refine (qexcess_any ⟨g, s, b, r, v + x, n + y⟩ _ HMd.out).mono ?_
  rintro e w4 ⟨rfl, hb⟩
  have HR := Lib.hid (HR.out.below hb HR.out.lt)
  have HC := Lib.hid (HC.out.below hb HC.out.lt)
  have HB := Lib.hid (below_call HB.out hb)
  clear hb c0 c1 c2 c3 c4 c5
  obtain ⟨c0, c1, c2, c3, c4, c5⟩ := row6 HC.out
  obtain ⟨D, hD⟩ : ∃ D, D = exc ⟨g, s, b, r, v + x, n + y⟩ := ⟨_, rfl⟩
  rw [← hD]
  rw [← hD] at HD HEd
  obtain ⟨q, hqq⟩ : ∃ q, q = D - E := ⟨_, rfl⟩
  have hw : IntKind.i64.wrap (D - E) = q := by rw [hqq]; exact IntWalk.i64_in (D - E) (by have := HE.out; have := HEd.out; omega)
  obtain ⟨he1, he2⟩ := HE.out
  obtain ⟨hd1, hd2⟩ := HEd.out
  rw [← hqq] at HD
  have hql : -4398046511104 ≤ q ∧ q ≤ 4398046511104 := by omega
  clear hD hqq
  have hr0 : w4.cell? ⟨w.heap.size + 1, 0, none⟩ = some (.int .i64 0) := by rw [HR.out.cell]; rfl
  have hr1 : w4.cell? ⟨w.heap.size + 1, 1, none⟩ = some (.int .i64 0) := by rw [HR.out.cell]; rfl
  have hf0 := HR.out.frozen 0
  have hf1 := HR.out.frozen 1
  by_cases hq : 0 < q ∧ (b < D ∨ a < q)
  · have HD2 := Lib.hid (show dec ⟨g, s, b, r, v, n⟩ x y a = (0, 0, 16) by rw [HD.out, if_pos hq])
    obtain ⟨hq1, hq2⟩ := hq
    have hq0 : decide (0 < q) = true := by simp; omega
    by_cases hbd : b < D
    · have hq3 : decide (b < D) = true := by simp; omega
      clear hq2
      go_wp2_with fail
      rw [HD2.out]
      refine bodyPost_ret (v := .tuple #[.agg #[.int .i64 0, .int .i64 0], .int .i64 16]) ?_ rfl ⟨rfl, (HB.out.setCell (by simp) _).setCell (by simp) _⟩
      exact results_row_tmp rfl _ _ (w.heap.size + 1) _ _ _ _ rfl rfl ((HR.out.put 0 (.int .i64 0)).put 1 (.int .i64 0)) Try.underlying28 (by rfl) (by kernel_rfl)
    · have hq3 : decide (b < D) = false := by simp; omega
      have hq4 : decide (a < q) = true := by simp; omega
      clear hq2
      go_wp2_with fail
      rw [HD2.out]
      refine bodyPost_ret (v := .tuple #[.agg #[.int .i64 0, .int .i64 0], .int .i64 16]) ?_ rfl ⟨rfl, (HB.out.setCell (by simp) _).setCell (by simp) _⟩
      exact results_row_tmp rfl _ _ (w.heap.size + 1) _ _ _ _ rfl rfl ((HR.out.put 0 (.int .i64 0)).put 1 (.int .i64 0)) Try.underlying28 (by rfl) (by kernel_rfl)
  · have HD2 := Lib.hid (show dec ⟨g, s, b, r, v, n⟩ x y a = (x + y - q, q, 0) by rw [HD.out, if_neg hq])
    have hw2 := IntWalk.i64_in (x + y - q) (by omega)
    by_cases hq1 : 0 < q
    · have hq0 : decide (0 < q) = true := by simp; omega
      have hq3 : decide (b < D) = false := by simp; omega
      have hq4 : decide (a < q) = false := by simp; omega
      clear hq
      go_wp2_with fail
      rw [HD2.out]
      refine bodyPost_ret (v := .tuple #[.agg #[.int .i64 (x + y - q), .int .i64 q], .int .i64 0]) ?_ rfl ⟨rfl, (HB.out.setCell (by simp) _).setCell (by simp) _⟩
      exact results_row_tmp rfl _ _ (w.heap.size + 1) _ _ _ _ rfl rfl ((HR.out.put 0 (.int .i64 (x + y - q))).put 1 (.int .i64 q)) Try.underlying28 (by rfl) (by kernel_rfl)
    · have hq0 : decide (0 < q) = false := by simp; omega
      clear hq
      go_wp2_with fail
      rw [HD2.out]
      refine bodyPost_ret (v := .tuple #[.agg #[.int .i64 (x + y - q), .int .i64 q], .int .i64 0]) ?_ rfl ⟨rfl, (HB.out.setCell (by simp) _).setCell (by simp) _⟩
      exact results_row_tmp rfl _ _ (w.heap.size + 1) _ _ _ _ rfl rfl ((HR.out.put 0 (.int .i64 (x + y - q))).put 1 (.int .i64 q)) Try.underlying28 (by rfl) (by kernel_rfl)

theorem qdecide_any (c : Cl) (x y a : Int) (w : World) :
    Calls Try.prog 11 #[cv c, .int .i64 x, .int .i64 y, .int .i64 a] w fun e w' => e = .returned (gv (dec c x y a)) ∧ Below w.heap.size w w' := by
  cases h0 : okB c with
  | false => exact qdecide_bad0 c x y a w h0
  | true =>
    cases h : List.all [x, y, a] fitB with
    | false => exact qdecide_bad1 c x y a w h0 h
    | true => exact qdecide_ok c x y a w h0 h
end Go.Proofs.Ytaoinpijicenhaa
