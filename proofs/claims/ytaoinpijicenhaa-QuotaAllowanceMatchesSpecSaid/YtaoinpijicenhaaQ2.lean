/- The walks of the reference's Need, Wish and Decide. -/
import Derived.Test.YtaoinpijicenhaaQ1
import Derived.Deep.RegionHeld3
namespace Go.Proofs.Ytaoinpijicenhaa
set_option linter.unusedSimpArgs false
set_option linter.unusedVariables false
open Go.RowKit

/-- the six cells of a box, behind a call -/
theorem box6 {w w1 : World} {x0 x1 x2 x3 x4 x5 : Value} {t : TypeId} (hb : Below (w.alloc (.cells #[x0, x1, x2, x3, x4, x5] t)).heap.size (w.alloc (.cells #[x0, x1, x2, x3, x4, x5] t)) w1) :
    w1.cell? ⟨w.heap.size, 0, none⟩ = some x0 ∧ w1.cell? ⟨w.heap.size, 1, none⟩ = some x1 ∧ w1.cell? ⟨w.heap.size, 2, none⟩ = some x2 ∧ w1.cell? ⟨w.heap.size, 3, none⟩ = some x3 ∧
    w1.cell? ⟨w.heap.size, 4, none⟩ = some x4 ∧ w1.cell? ⟨w.heap.size, 5, none⟩ = some x5 := by
  have hr : Row w1 w.heap.size t #[x0, x1, x2, x3, x4, x5] := (Row.new w t _).below hb (by simp)
  refine ⟨?_, ?_, ?_, ?_, ?_, ?_⟩ <;> (rw [hr.cell]; rfl)
theorem row6 {w1 : World} {g : Nat} {x0 x1 x2 x3 x4 x5 : Value} {t : TypeId} (hr : Row w1 g t #[x0, x1, x2, x3, x4, x5]) :
    w1.cell? ⟨g, 0, none⟩ = some x0 ∧ w1.cell? ⟨g, 1, none⟩ = some x1 ∧ w1.cell? ⟨g, 2, none⟩ = some x2 ∧ w1.cell? ⟨g, 3, none⟩ = some x3 ∧
    w1.cell? ⟨g, 4, none⟩ = some x4 ∧ w1.cell? ⟨g, 5, none⟩ = some x5 := by
  refine ⟨?_, ?_, ?_, ?_, ?_, ?_⟩ <;> (rw [hr.cell]; rfl)

theorem two6 {w1 : World} {g g' : Nat} {x0 x1 x2 x3 x4 x5 y0 y1 y2 y3 y4 y5 : Value} {t t' : TypeId} (hr : Row w1 g t #[x0, x1, x2, x3, x4, x5]) (hr' : Row w1 g' t' #[y0, y1, y2, y3, y4, y5]) :
    w1.cell? ⟨g, 0, none⟩ = some x0 ∧ w1.cell? ⟨g, 1, none⟩ = some x1 ∧ w1.cell? ⟨g, 2, none⟩ = some x2 ∧ w1.cell? ⟨g, 3, none⟩ = some x3 ∧
    w1.cell? ⟨g, 4, none⟩ = some x4 ∧ w1.cell? ⟨g, 5, none⟩ = some x5 ∧ w1.cell? ⟨g', 0, none⟩ = some y0 ∧ w1.cell? ⟨g', 1, none⟩ = some y1 ∧ w1.cell? ⟨g', 2, none⟩ = some y2 ∧ w1.cell? ⟨g', 3, none⟩ = some y3 ∧
    w1.cell? ⟨g', 4, none⟩ = some y4 ∧ w1.cell? ⟨g', 5, none⟩ = some y5 := by
  obtain ⟨a0, a1, a2, a3, a4, a5⟩ := row6 hr
  obtain ⟨b0, b1, b2, b3, b4, b5⟩ := row6 hr'
  exact ⟨a0, a1, a2, a3, a4, a5, b0, b1, b2, b3, b4, b5⟩
theorem rneed_any (c : Cl) (w : World) :
    Calls Try.prog 18 #[cv c] w fun e w' => e = .returned (.int .i64 (needV c)) ∧ Below w.heap.size w w' := by
  cases h : okB c with
  | true =>
    have hm := okB_iff.1 h
    have HO := Lib.hid h
    clear h
    obtain ⟨g, s, b, r, v, n⟩ := c
    obtain ⟨h1, h2, h3, h4, h5, h6, h7⟩ := hm
    simp only at h1 h2 h3 h4 h5 h6 h7
    simp only [cv]
    go_enter Try.func18, Try.ntmps18
    go_wp2_with fail
    refine (rvalid_any ⟨g, s, b, r, v, n⟩ _).mono ?_
    rintro e w1 ⟨rfl, hb⟩
    rw [HO.out]
    obtain ⟨c0, c1, c2, c3, c4, c5⟩ := box6 hb
    have HB := Lib.hid (below_call ((Below.refl w.heap.size w).alloc (Nat.le_refl _) _) hb)
    clear hb
    go_wp2_with fail
    all_goals go_ret
    all_goals exact ⟨ret_int (by rw [needV, if_pos HO.out]; simp only; omega), HB.out⟩
  | false =>
    have HO := Lib.hid h
    clear h
    obtain ⟨g, s, b, r, v, n⟩ := c
    simp only [cv]
    go_enter Try.func18, Try.ntmps18
    go_wp2_with fail
    refine (rvalid_any ⟨g, s, b, r, v, n⟩ _).mono ?_
    rintro e w1 ⟨rfl, hb⟩
    rw [HO.out]
    have HB := Lib.hid (below_call ((Below.refl w.heap.size w).alloc (Nat.le_refl _) _) hb)
    clear hb
    go_wp2_with fail
    go_ret
    exact ⟨ret_int (by rw [needV, HO.out]; rfl), HB.out⟩

theorem exc_bd (c : Cl) (h : okB c = true) : 0 ≤ exc c ∧ exc c ≤ 2199023255552 := by
  have := okB_iff.1 h
  unfold exc; omega
def wish (c : Cl) : Int := max 0 (c.b - exc c)
theorem rwish_any (c : Cl) (w : World) (h : okB c = true) :
    Calls Try.prog 23 #[cv c] w fun e w' => e = .returned (.int .i64 (wish c)) ∧ Below w.heap.size w w' := by
  have hm := okB_iff.1 h
  have HM := Lib.hid (okB_mid h)
  have HO := Lib.hid h
  clear h
  obtain ⟨g, s, b, r, v, n⟩ := c
  obtain ⟨h1, h2, h3, h4, h5, h6, h7⟩ := hm
  simp only at h1 h2 h3 h4 h5 h6 h7
  simp only [cv]
  go_enter Try.func23, Try.ntmps23
  go_wp2_with fail
  go_region_held3 (fun w' => w'.cell? ⟨w.heap.size, 0, none⟩ = some (.int .i64 g) ∧ w'.cell? ⟨w.heap.size, 1, none⟩ = some (.int .i64 s) ∧ w'.cell? ⟨w.heap.size, 2, none⟩ = some (.int .i64 b) ∧ w'.cell? ⟨w.heap.size, 3, none⟩ = some (.int .i64 r) ∧ w'.cell? ⟨w.heap.size, 4, none⟩ = some (.int .i64 v) ∧ w'.cell? ⟨w.heap.size, 5, none⟩ = some (.int .i64 n)) (first | exact HS | (refine ⟨?_, ?_, ?_, ?_, ?_, ?_⟩ <;> simp [go_sem])) (first | (go_at_call 27; ((with_reducible refine (rexcess_any ⟨g, s, b, r, v, n⟩ _ HM.out).mono ?_)); rintro e w1 ⟨rfl, hb⟩; have HS := box6 (undrew hb); have HB := Lib.hid (below_call ((Below.refl w.heap.size w).alloc (Nat.le_refl _) _) (undrew hb)); clear hb))
  all_goals
    have he := exc_bd ⟨g, s, b, r, v, n⟩ HO.out
    have HE := Lib.hid he
    clear he
    have hw := IntWalk.i64_in (b - exc ⟨g, s, b, r, v, n⟩) (by have := HE.out; omega)
    go_wp2_with fail
    all_goals go_ret
    all_goals exact ⟨ret_int (by have := HE.out; simp only [wish]; omega), HB.out⟩

/-- a grant: blocks by the guarantees, burst blocks, the error -/
def dec (c : Cl) (x y a : Int) : Int × Int × Int :=
  if (okB c && fitB x && fitB y && fitB a) = false then (0, 0, 1)
  else if 0 < exc { c with v := c.v + x, n := c.n + y } - exc c ∧ (c.b < exc { c with v := c.v + x, n := c.n + y } ∨ a < exc { c with v := c.v + x, n := c.n + y } - exc c) then (0, 0, 16)
  else (x + y - (exc { c with v := c.v + x, n := c.n + y } - exc c), exc { c with v := c.v + x, n := c.n + y } - exc c, 0)
@[reducible] def gv (d : Int × Int × Int) : Value := .tuple #[.agg #[.int .i64 d.1, .int .i64 d.2.1], .int .i64 d.2.2]

theorem rdecide_bad (c : Cl) (x y a : Int) (w : World) (h : (okB c && fitB x && fitB y && fitB a) = false) :
    Calls Try.prog 12 #[cv c, .int .i64 x, .int .i64 y, .int .i64 a] w fun e w' => e = .returned (gv (dec c x y a)) ∧ Below w.heap.size w w' := by
  have HD := Lib.hid (show dec c x y a = (0, 0, 1) from if_pos h)
  obtain ⟨g, s, b, r, v, n⟩ := c
  simp only [cv]
  cases h0 : okB ⟨g, s, b, r, v, n⟩ <;> cases h1 : fitB x <;> cases h2 : fitB y <;> cases h3 : fitB a
  all_goals first | (rw [h0, h1, h2, h3] at h; cases h; done) | skip
  all_goals
    have HO := Lib.hid h0
    have H1 := Lib.hid h1
    have H2 := Lib.hid h2
    have H3 := Lib.hid h3
    clear h h0 h1 h2 h3
    go_enter Try.func12, Try.ntmps12
    go_wp2_with fail
    refine (rvalid_any ⟨g, s, b, r, v, n⟩ _).mono ?_
    rintro e w1 ⟨rfl, hb⟩
    rw [HO.out]
    have HR := Lib.hid (show Row w1 (w.heap.size + 1) 28 #[.int .i64 0, .int .i64 0] from ((Row.made _ _ (size1 _ _).symm).below hb (by simp)))
    have HB := Lib.hid (below_call (((Below.refl w.heap.size w).alloc (Nat.le_refl _) _).alloc (by simp) _) hb)
    have hr0 : w1.cell? ⟨w.heap.size + 1, 0, none⟩ = some (.int .i64 0) := by rw [HR.out.cell]; rfl
    have hr1 : w1.cell? ⟨w.heap.size + 1, 1, none⟩ = some (.int .i64 0) := by rw [HR.out.cell]; rfl
    have hf0 := HR.out.frozen 0
    have hf1 := HR.out.frozen 1
    clear hb
    go_wp2_with (first | (go_at_call 26; ((with_reducible refine (fits_any _ _).mono ?_)); rintro e w' ⟨rfl, rfl⟩; first | rw [H1.out] | rw [H2.out] | rw [H3.out]))
    rw [HD.out]
    have HF := Lib.hid (show Row _ (w.heap.size + 1) 28 #[.int .i64 0, .int .i64 0] from (HR.out.put 0 (.int .i64 0)).put 1 (.int .i64 0))
    refine bodyPost_ret (v := .tuple #[.agg #[.int .i64 0, .int .i64 0], .int .i64 1]) ?_ rfl ⟨rfl, (HB.out.setCell (by simp) _).setCell (by simp) _⟩
    exact results_row_tmp rfl _ _ (w.heap.size + 1) _ _ _ _ rfl rfl HF.out Try.underlying28 (by rfl) (by kernel_rfl)

theorem info_grant : (Try.prog.info? 28).map (·.size) = some 2 := by kernel_rfl
set_option maxHeartbeats 3200000 in
theorem rdecide_ok (c : Cl) (x y a : Int) (w : World) (h0 : okB c = true) (h1 : fitB x = true) (h2 : fitB y = true) (h3 : fitB a = true) :
    Calls Try.prog 12 #[cv c, .int .i64 x, .int .i64 y, .int .i64 a] w fun e w' => e = .returned (gv (dec c x y a)) ∧ Below w.heap.size w w' := by
  have hm := okB_iff.1 h0
  have bx := fitB_iff.1 h1
  have b_y := fitB_iff.1 h2
  have ba := fitB_iff.1 h3
  have HM := Lib.hid (okB_mid h0)
  have HMd := Lib.hid (show ({ c with v := c.v + x, n := c.n + y } : Cl).mid by unfold Cl.mid; simp only; omega)
  have HE := Lib.hid (exc_bd c h0)
  have HEd := Lib.hid (show 0 ≤ exc { c with v := c.v + x, n := c.n + y } ∧ exc { c with v := c.v + x, n := c.n + y } ≤ 4398046511104 by unfold exc; simp only; omega)
  have HO := Lib.hid h0
  have H1 := Lib.hid h1
  have H2 := Lib.hid h2
  have H3 := Lib.hid h3
  have HD := Lib.hid (show dec c x y a = _ from if_neg (by rw [h0, h1, h2, h3]; simp))
  clear h0 h1 h2 h3
  obtain ⟨g, s, b, r, v, n⟩ := c
  obtain ⟨m1, m2, m3, m4, m5, m6, m7⟩ := hm
  simp only at m1 m2 m3 m4 m5 m6 m7 HMd HEd HD
  simp only [cv]
  go_enter Try.func12, Try.ntmps12
  go_wp2_with fail
  refine (rvalid_any ⟨g, s, b, r, v, n⟩ _).mono ?_
  rintro e w1 ⟨rfl, hb⟩
  rw [HO.out]
  have HR := Lib.hid (show Row w1 (w.heap.size + 1) 28 #[.int .i64 0, .int .i64 0] from ((Row.made _ _ (size1 _ _).symm).below hb (by simp)))
  have HC := Lib.hid (show Row w1 w.heap.size 23 _ from (((Row.new w _ _).alloc _).below hb (by simp; omega)))
  have HB := Lib.hid (below_call (((Below.refl w.heap.size w).alloc (Nat.le_refl _) _).alloc (by simp) _) hb)
  have HZ := Lib.hid (show w.heap.size + 1 < w1.heap.size from HR.out.lt)
  obtain ⟨c0, c1, c2, c3, c4, c5⟩ := row6 HC.out
  clear hb
  go_wp2_with (first | (go_at_call 26; ((with_reducible refine (fits_any _ _).mono ?_)); rintro e w' ⟨rfl, rfl⟩; first | rw [H1.out] | rw [H2.out] | rw [H3.out]))
  obtain ⟨W, hW⟩ : ∃ W, W = w1.alloc (.cells #[.int .i64 g, .int .i64 s, .int .i64 b, .int .i64 r, .int .i64 (v + x), .int .i64 (n + y)] 23) := ⟨_, rfl⟩
  rw [← hW]
  have HC := Lib.hid (show Row W w.heap.size 23 _ by rw [hW]; exact HC.out.alloc _)
  have HR := Lib.hid (show Row W (w.heap.size + 1) 28 _ by rw [hW]; exact HR.out.alloc _)
  have HQ := Lib.hid (show Row W w1.heap.size 23 _ by rw [hW]; exact Row.new w1 _ _)
  have HB := Lib.hid (show Below w.heap.size w W by rw [hW]; exact HB.out.alloc HB.out.size _)
  clear hW c0 c1 c2 c3 c4 c5
  have HS := two6 HC.out HQ.out
  go_region_held3 (fun w' => w'.cell? ⟨w.heap.size, 0, none⟩ = some (.int .i64 g) ∧ w'.cell? ⟨w.heap.size, 1, none⟩ = some (.int .i64 s) ∧ w'.cell? ⟨w.heap.size, 2, none⟩ = some (.int .i64 b) ∧ w'.cell? ⟨w.heap.size, 3, none⟩ = some (.int .i64 r) ∧ w'.cell? ⟨w.heap.size, 4, none⟩ = some (.int .i64 v) ∧ w'.cell? ⟨w.heap.size, 5, none⟩ = some (.int .i64 n) ∧ w'.cell? ⟨w1.heap.size, 0, none⟩ = some (.int .i64 g) ∧ w'.cell? ⟨w1.heap.size, 1, none⟩ = some (.int .i64 s) ∧ w'.cell? ⟨w1.heap.size, 2, none⟩ = some (.int .i64 b) ∧ w'.cell? ⟨w1.heap.size, 3, none⟩ = some (.int .i64 r) ∧ w'.cell? ⟨w1.heap.size, 4, none⟩ = some (.int .i64 (v + x)) ∧ w'.cell? ⟨w1.heap.size, 5, none⟩ = some (.int .i64 (n + y))) (first | exact HS) (first | (go_at_call 27; (first | ((with_reducible refine (rexcess_any ⟨g, s, b, r, v, n⟩ _ HM.out).mono ?_)) | ((with_reducible refine (rexcess_any ⟨g, s, b, r, v + x, n + y⟩ _ HMd.out).mono ?_))); rintro e w2 ⟨rfl, hb⟩; (try replace hb := undrew hb); have HC := Lib.hid (HC.out.below hb HC.out.lt); have HQ := Lib.hid (HQ.out.below hb HQ.out.lt); have HR := Lib.hid (HR.out.below hb HR.out.lt); have HB := Lib.hid (below_call HB.out hb); have HS := two6 HC.out HQ.out; clear hb))
  obtain ⟨E, hE⟩ : ∃ E, E = exc ⟨g, s, b, r, v, n⟩ := ⟨_, rfl⟩
  obtain ⟨D, hD⟩ : ∃ D, D = exc ⟨g, s, b, r, v + x, n + y⟩ := ⟨_, rfl⟩
  rw [← hE, ← hD]
  rw [← hE, ← hD] at HD
  rw [← hE] at HE
  rw [← hD] at HEd
  have HDD := Lib.hid hD
  obtain ⟨q, hqq⟩ : ∃ q, q = D - E := ⟨_, rfl⟩
  have hw : IntKind.i64.wrap (D - E) = q := by rw [hqq]; exact IntWalk.i64_in (D - E) (by have := HE.out; have := HEd.out; omega)
  obtain ⟨he1, he2⟩ := HE.out
  obtain ⟨hd1, hd2⟩ := HEd.out
  rw [← hqq] at HD
  have hql : -4398046511104 ≤ q ∧ q ≤ 4398046511104 := by omega
  clear hE hD hqq
  by_cases hq : 0 < q
  · have hq0 : decide (0 < q) = true := by simp; omega
    by_cases hq1 : b < D
    · have HD2 := Lib.hid (show dec ⟨g, s, b, r, v, n⟩ x y a = (0, 0, 16) by rw [HD.out, if_pos ⟨hq, .inl hq1⟩])
      have hq2 : decide (b < D) = true := by simp; omega
      go_wp2_with fail
      refine wp_region_held_drew (S := fun w' => w'.cell? ⟨w.heap.size, 0, none⟩ = some (.int .i64 g) ∧ w'.cell? ⟨w.heap.size, 1, none⟩ = some (.int .i64 s) ∧ w'.cell? ⟨w.heap.size, 2, none⟩ = some (.int .i64 b) ∧ w'.cell? ⟨w.heap.size, 3, none⟩ = some (.int .i64 r) ∧ w'.cell? ⟨w.heap.size, 4, none⟩ = some (.int .i64 v) ∧ w'.cell? ⟨w.heap.size, 5, none⟩ = some (.int .i64 n) ∧ w'.cell? ⟨w1.heap.size, 0, none⟩ = some (.int .i64 g) ∧ w'.cell? ⟨w1.heap.size, 1, none⟩ = some (.int .i64 s) ∧ w'.cell? ⟨w1.heap.size, 2, none⟩ = some (.int .i64 b) ∧ w'.cell? ⟨w1.heap.size, 3, none⟩ = some (.int .i64 r) ∧ w'.cell? ⟨w1.heap.size, 4, none⟩ = some (.int .i64 (v + x)) ∧ w'.cell? ⟨w1.heap.size, 5, none⟩ = some (.int .i64 (n + y))) (by kernel_rfl) HS (fun hHeld => ?_)
      refine wpAnyH_take (i := 0) (v := ?_) rfl (by kernel_rfl) (by kernel_rfl) (by kernel_rfl) (fun _ _ _ h => h) (Or.inl ⟨by kernel_rfl, by intro w hSw; (try dsimp only at hSw); go_simp; first | done | with_reducible rfl⟩) (by assumption) ?_
      try simp only [Act.put, List.setIfInBounds_toArray, List.set_cons_zero, List.set_cons_succ]
      refine wpAnyH_take (i := 1) (v := ?_) rfl (by kernel_rfl) (by kernel_rfl) (by kernel_rfl) (fun _ _ _ h => h) (Or.inl ⟨by kernel_rfl, by intro w hSw; (try dsimp only at hSw); go_simp; first | done | with_reducible rfl⟩) (by assumption) ?_
      try simp only [Act.put, List.setIfInBounds_toArray, List.set_cons_zero, List.set_cons_succ]
      refine wpAnyH_take (i := 2) (v := ?_) rfl (by kernel_rfl) (by kernel_rfl) (by kernel_rfl) (fun _ _ _ h => h) (Or.inl ⟨by kernel_rfl, by intro w hSw; (try dsimp only at hSw); go_simp; first | done | with_reducible rfl⟩) (by assumption) ?_
      try simp only [Act.put, List.setIfInBounds_toArray, List.set_cons_zero, List.set_cons_succ]
      refine wpAnyH_take (i := 3) (v := ?_) rfl (by kernel_rfl) (by kernel_rfl) (by kernel_rfl) (fun _ _ _ h => h) (Or.inl ⟨by kernel_rfl, by intro w hSw; (try dsimp only at hSw); go_simp; first | done | with_reducible rfl⟩) (by assumption) ?_
      try simp only [Act.put, List.setIfInBounds_toArray, List.set_cons_zero, List.set_cons_succ]
      refine wpAnyH_take (i := 5) (v := ?_) rfl (by kernel_rfl) (by kernel_rfl) (by kernel_rfl) (fun _ _ _ h => h) (Or.inl ⟨by kernel_rfl, by intro w hSw; (try dsimp only at hSw); go_simp; first | done | with_reducible rfl⟩) (by assumption) ?_
      try simp only [Act.put, List.setIfInBounds_toArray, List.set_cons_zero, List.set_cons_succ]
      refine wpAnyH_take (i := 6) (v := ?_) rfl (by kernel_rfl) (by kernel_rfl) (by kernel_rfl) (fun _ _ _ h => h) (Or.inl ⟨by kernel_rfl, by intro w hSw; (try dsimp only at hSw); go_simp; first | done | with_reducible rfl⟩) (by assumption) ?_
      try simp only [Act.put, List.setIfInBounds_toArray, List.set_cons_zero, List.set_cons_succ]
      refine wpAnyH_ready (rs := [4]) (by kernel_rfl) (by simp) ?_
      refine AllReadyH.cons rfl (fun K hK => ?_) AllReadyH.nil
      go_simp
      go_at_call 27
      with_reducible refine (rexcess_any ⟨g, s, b, r, v + x, n + y⟩ _ HMd.out).mono ?_
      rintro e w2 ⟨rfl, hb⟩
      (try replace hb := undrew hb)
      have HC := Lib.hid (HC.out.below hb HC.out.lt)
      have HQ := Lib.hid (HQ.out.below hb HQ.out.lt)
      have HR := Lib.hid (HR.out.below hb HR.out.lt)
      have HB := Lib.hid (below_call HB.out hb)
      clear HS
      have HS := two6 HC.out HQ.out
      clear hb
      rw [← HDD.out]
      refine hK.out _ _ HS (fun hHeld => ?_)
      clear hK K
      try simp only [Act.put, List.setIfInBounds_toArray, List.set_cons_zero, List.set_cons_succ]
      refine wpAnyH_take (i := 7) (v := ?_) rfl (by kernel_rfl) (by kernel_rfl) (by kernel_rfl) (fun _ _ _ h => h) (Or.inl ⟨by kernel_rfl, by intro w hSw; (try dsimp only at hSw); go_simp; first | done | with_reducible rfl⟩) (by assumption) ?_
      try simp only [Act.put, List.setIfInBounds_toArray, List.set_cons_zero, List.set_cons_succ]
      refine wpAnyH_take (i := 8) (v := ?_) rfl (by kernel_rfl) (by kernel_rfl) (by kernel_rfl) (fun _ _ _ h => h) (Or.inl ⟨by kernel_rfl, by intro w hSw; (try dsimp only at hSw); go_simp; first | done | with_reducible rfl⟩) (by assumption) ?_
      try simp only [Act.put, List.setIfInBounds_toArray, List.set_cons_zero, List.set_cons_succ]
      refine wpAnyH_take (i := 9) (v := _root_.Go.undef) rfl (by kernel_rfl) (by kernel_rfl) (by kernel_rfl) (fun _ _ _ h => h) (Or.inr ⟨by kernel_rfl, rfl⟩) (by assumption) ?_
      try simp only [Act.put, List.setIfInBounds_toArray, List.set_cons_zero, List.set_cons_succ]
      refine wpAnyH_take (i := 10) (v := _root_.Go.undef) rfl (by kernel_rfl) (by kernel_rfl) (by kernel_rfl) (fun _ _ _ h => h) (Or.inr ⟨by kernel_rfl, rfl⟩) (by assumption) ?_
      try simp only [Act.put, List.setIfInBounds_toArray, List.set_cons_zero, List.set_cons_succ]
      refine wpAnyH_take (i := 11) (v := _root_.Go.undef) rfl (by kernel_rfl) (by kernel_rfl) (by kernel_rfl) (fun _ _ _ h => h) (Or.inr ⟨by kernel_rfl, rfl⟩) (by assumption) ?_
      try simp only [Act.put, List.setIfInBounds_toArray, List.set_cons_zero, List.set_cons_succ]
      refine wpAnyH_take (i := 12) (v := ?_) rfl (by kernel_rfl) (by kernel_rfl) (by kernel_rfl) (fun _ _ _ h => h) (Or.inl ⟨by kernel_rfl, by intro w hSw; (try dsimp only at hSw); go_simp; first | done | with_reducible rfl⟩) (by assumption) ?_
      try simp only [Act.put, List.setIfInBounds_toArray, List.set_cons_zero, List.set_cons_succ]
      refine wpAnyH_take (i := 13) (v := ?_) rfl (by kernel_rfl) (by kernel_rfl) (by kernel_rfl) (fun _ _ _ h => h) (Or.inl ⟨by kernel_rfl, by intro w hSw; (try dsimp only at hSw); go_simp; first | done | with_reducible rfl⟩) (by assumption) ?_
      try simp only [Act.put, List.setIfInBounds_toArray, List.set_cons_zero, List.set_cons_succ]
      refine wpAnyH_done (by kernel_rfl) ?_ _
      all_goals
        have hr0 : w2.cell? ⟨w.heap.size + 1, 0, none⟩ = some (.int .i64 0) := by rw [HR.out.cell]; rfl
        have hr1 : w2.cell? ⟨w.heap.size + 1, 1, none⟩ = some (.int .i64 0) := by rw [HR.out.cell]; rfl
        have hf0 := HR.out.frozen 0
        have hf1 := HR.out.frozen 1
        have hw2 := IntWalk.i64_in (x + y - q) (by omega)
        (try clear HS)
        go_wp2_with fail
        rw [HD2.out]
        refine bodyPost_ret (v := .tuple #[.agg #[.int .i64 (0), .int .i64 (0)], .int .i64 16]) ?_ rfl ⟨rfl, by first | exact (HB.out.setCell (by simp) _).setCell (by simp) _ | exact ((below_drewN HB.out _).setCell (by simp) _).setCell (by simp) _⟩
        exact results_row_tmp rfl _ _ (w.heap.size + 1) _ _ _ _ rfl rfl (by first | exact (HR.out.put 0 (.int .i64 (0))).put 1 (.int .i64 (0)) | exact ((HR.out.drewN _).put 0 (.int .i64 (0))).put 1 (.int .i64 (0))) Try.underlying28 (by rfl) (by kernel_rfl)
    · by_cases hq3 : a < q
      · have HD2 := Lib.hid (show dec ⟨g, s, b, r, v, n⟩ x y a = (0, 0, 16) by rw [HD.out, if_pos ⟨hq, .inr hq3⟩])
        have hq2 : decide (b < D) = false := by simp; omega
        have hq4 : decide (a < q) = true := by simp; omega
        go_wp2_with fail
        go_region_held3 (fun w' => w'.cell? ⟨w.heap.size, 0, none⟩ = some (.int .i64 g) ∧ w'.cell? ⟨w.heap.size, 1, none⟩ = some (.int .i64 s) ∧ w'.cell? ⟨w.heap.size, 2, none⟩ = some (.int .i64 b) ∧ w'.cell? ⟨w.heap.size, 3, none⟩ = some (.int .i64 r) ∧ w'.cell? ⟨w.heap.size, 4, none⟩ = some (.int .i64 v) ∧ w'.cell? ⟨w.heap.size, 5, none⟩ = some (.int .i64 n) ∧ w'.cell? ⟨w1.heap.size, 0, none⟩ = some (.int .i64 g) ∧ w'.cell? ⟨w1.heap.size, 1, none⟩ = some (.int .i64 s) ∧ w'.cell? ⟨w1.heap.size, 2, none⟩ = some (.int .i64 b) ∧ w'.cell? ⟨w1.heap.size, 3, none⟩ = some (.int .i64 r) ∧ w'.cell? ⟨w1.heap.size, 4, none⟩ = some (.int .i64 (v + x)) ∧ w'.cell? ⟨w1.heap.size, 5, none⟩ = some (.int .i64 (n + y))) (first | exact HS) (first | (go_at_call 27; (first | ((fail)) | ((with_reducible refine (rexcess_any ⟨g, s, b, r, v + x, n + y⟩ _ HMd.out).mono ?_))); rintro e w2 ⟨rfl, hb⟩; (try replace hb := undrew hb); have HC := Lib.hid (HC.out.below hb HC.out.lt); have HQ := Lib.hid (HQ.out.below hb HQ.out.lt); have HR := Lib.hid (HR.out.below hb HR.out.lt); have HB := Lib.hid (below_call HB.out hb); have HS := two6 HC.out HQ.out; clear hb; rw [← HDD.out]))
        all_goals
          have hr0 : w2.cell? ⟨w.heap.size + 1, 0, none⟩ = some (.int .i64 0) := by rw [HR.out.cell]; rfl
          have hr1 : w2.cell? ⟨w.heap.size + 1, 1, none⟩ = some (.int .i64 0) := by rw [HR.out.cell]; rfl
          have hf0 := HR.out.frozen 0
          have hf1 := HR.out.frozen 1
          have hw2 := IntWalk.i64_in (x + y - q) (by omega)
          clear HS
          go_wp2_with fail
          rw [HD2.out]
          refine bodyPost_ret (v := .tuple #[.agg #[.int .i64 (0), .int .i64 (0)], .int .i64 16]) ?_ rfl ⟨rfl, by first | exact (HB.out.setCell (by simp) _).setCell (by simp) _ | exact ((below_drewN HB.out _).setCell (by simp) _).setCell (by simp) _⟩
          exact results_row_tmp rfl _ _ (w.heap.size + 1) _ _ _ _ rfl rfl (by first | exact (HR.out.put 0 (.int .i64 (0))).put 1 (.int .i64 (0)) | exact ((HR.out.drewN _).put 0 (.int .i64 (0))).put 1 (.int .i64 (0))) Try.underlying28 (by rfl) (by kernel_rfl)
      · have HD2 := Lib.hid (show dec ⟨g, s, b, r, v, n⟩ x y a = (x + y - q, q, 0) by rw [HD.out, if_neg (by rintro ⟨_, h | h⟩ <;> omega)])
        have hq2 : decide (b < D) = false := by simp; omega
        have hq4 : decide (a < q) = false := by simp; omega
        go_wp2_with fail
        go_region_held3 (fun w' => w'.cell? ⟨w.heap.size, 0, none⟩ = some (.int .i64 g) ∧ w'.cell? ⟨w.heap.size, 1, none⟩ = some (.int .i64 s) ∧ w'.cell? ⟨w.heap.size, 2, none⟩ = some (.int .i64 b) ∧ w'.cell? ⟨w.heap.size, 3, none⟩ = some (.int .i64 r) ∧ w'.cell? ⟨w.heap.size, 4, none⟩ = some (.int .i64 v) ∧ w'.cell? ⟨w.heap.size, 5, none⟩ = some (.int .i64 n) ∧ w'.cell? ⟨w1.heap.size, 0, none⟩ = some (.int .i64 g) ∧ w'.cell? ⟨w1.heap.size, 1, none⟩ = some (.int .i64 s) ∧ w'.cell? ⟨w1.heap.size, 2, none⟩ = some (.int .i64 b) ∧ w'.cell? ⟨w1.heap.size, 3, none⟩ = some (.int .i64 r) ∧ w'.cell? ⟨w1.heap.size, 4, none⟩ = some (.int .i64 (v + x)) ∧ w'.cell? ⟨w1.heap.size, 5, none⟩ = some (.int .i64 (n + y))) (first | exact HS) (first | (go_at_call 27; (first | ((fail)) | ((with_reducible refine (rexcess_any ⟨g, s, b, r, v + x, n + y⟩ _ HMd.out).mono ?_))); rintro e w2 ⟨rfl, hb⟩; (try replace hb := undrew hb); have HC := Lib.hid (HC.out.below hb HC.out.lt); have HQ := Lib.hid (HQ.out.below hb HQ.out.lt); have HR := Lib.hid (HR.out.below hb HR.out.lt); have HB := Lib.hid (below_call HB.out hb); have HS := two6 HC.out HQ.out; clear hb; rw [← HDD.out]))
        all_goals
          have hr0 : w2.cell? ⟨w.heap.size + 1, 0, none⟩ = some (.int .i64 0) := by rw [HR.out.cell]; rfl
          have hr1 : w2.cell? ⟨w.heap.size + 1, 1, none⟩ = some (.int .i64 0) := by rw [HR.out.cell]; rfl
          have hf0 := HR.out.frozen 0
          have hf1 := HR.out.frozen 1
          have hw2 := IntWalk.i64_in (x + y - q) (by omega)
          clear HS
          go_wp2_with fail
          rw [HD2.out]
          refine bodyPost_ret (v := .tuple #[.agg #[.int .i64 (x + y - q), .int .i64 q], .int .i64 0]) ?_ rfl ⟨rfl, by first | exact (HB.out.setCell (by simp) _).setCell (by simp) _ | exact ((below_drewN HB.out _).setCell (by simp) _).setCell (by simp) _⟩
          exact results_row_tmp rfl _ _ (w.heap.size + 1) _ _ _ _ rfl rfl (by first | exact (HR.out.put 0 (.int .i64 (x + y - q))).put 1 (.int .i64 q) | exact ((HR.out.drewN _).put 0 (.int .i64 (x + y - q))).put 1 (.int .i64 q)) Try.underlying28 (by rfl) (by kernel_rfl)
  · have HD2 := Lib.hid (show dec ⟨g, s, b, r, v, n⟩ x y a = (x + y - q, q, 0) by rw [HD.out, if_neg (fun h => hq h.1)])
    have hq0 : decide (0 < q) = false := by simp; omega
    go_wp2_with fail
    go_quiet (fail)
    have hr0 : w2.cell? ⟨w.heap.size + 1, 0, none⟩ = some (.int .i64 0) := by rw [HR.out.cell]; rfl
    have hr1 : w2.cell? ⟨w.heap.size + 1, 1, none⟩ = some (.int .i64 0) := by rw [HR.out.cell]; rfl
    have hf0 := HR.out.frozen 0
    have hf1 := HR.out.frozen 1
    have hw2 := IntWalk.i64_in (x + y - q) (by omega)
    clear HS
    go_wp2_with fail
    rw [HD2.out]
    refine bodyPost_ret (v := .tuple #[.agg #[.int .i64 (x + y - q), .int .i64 q], .int .i64 0]) ?_ rfl ⟨rfl, by first | exact (HB.out.setCell (by simp) _).setCell (by simp) _ | exact ((below_drewN HB.out _).setCell (by simp) _).setCell (by simp) _⟩
    exact results_row_tmp rfl _ _ (w.heap.size + 1) _ _ _ _ rfl rfl (by first | exact (HR.out.put 0 (.int .i64 (x + y - q))).put 1 (.int .i64 q) | exact ((HR.out.drewN _).put 0 (.int .i64 (x + y - q))).put 1 (.int .i64 q)) Try.underlying28 (by rfl) (by kernel_rfl)

theorem rdecide_any (c : Cl) (x y a : Int) (w : World) :
    Calls Try.prog 12 #[cv c, .int .i64 x, .int .i64 y, .int .i64 a] w fun e w' => e = .returned (gv (dec c x y a)) ∧ Below w.heap.size w w' := by
  cases h : (okB c && fitB x && fitB y && fitB a) with
  | false => exact rdecide_bad c x y a w h
  | true =>
    simp only [Bool.and_eq_true] at h
    exact rdecide_ok c x y a w h.1.1.1 h.1.1.2 h.1.2 h.2
end Go.Proofs.Ytaoinpijicenhaa
