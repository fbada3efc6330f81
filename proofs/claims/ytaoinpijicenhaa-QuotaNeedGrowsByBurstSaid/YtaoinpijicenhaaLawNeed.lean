/- QuotaNeedGrowsByBurst: for every claim and all numbers the law returns true, and its arguments read as they did. No condition. -/
import Derived.Test.YtaoinpijicenhaaQ12
import Derived.Test.YtaoinpijicenhaaQ14
import Derived.Deep.RegionHeld3
import Derived.Deep.RegionHeld3
namespace Go.Proofs.Ytaoinpijicenhaa
set_option linter.unusedSimpArgs false
open Go.ChangeShapes Go.WideShapes Go.ChangeAt Go.RowKit
set_option linter.unusedVariables false

@[reducible] def inV (c : Cl) (x y a : Int) : Value := .agg #[.int .i64 c.g, .int .i64 c.s, .int .i64 c.b, .int .i64 c.r, .int .i64 c.v, .int .i64 c.n, .int .i64 x, .int .i64 y, .int .i64 a]
theorem row9 {w1 : World} {g : Nat} {x0 x1 x2 x3 x4 x5 x6 x7 x8 : Value} {t : TypeId} (hr : Row w1 g t #[x0, x1, x2, x3, x4, x5, x6, x7, x8]) :
    w1.cell? ⟨g, 0, none⟩ = some x0 ∧ w1.cell? ⟨g, 1, none⟩ = some x1 ∧ w1.cell? ⟨g, 2, none⟩ = some x2 ∧ w1.cell? ⟨g, 3, none⟩ = some x3 ∧ w1.cell? ⟨g, 4, none⟩ = some x4 ∧ w1.cell? ⟨g, 5, none⟩ = some x5 ∧
    w1.cell? ⟨g, 6, none⟩ = some x6 ∧ w1.cell? ⟨g, 7, none⟩ = some x7 ∧ w1.cell? ⟨g, 8, none⟩ = some x8 :=
  ⟨hr.cell 0, hr.cell 1, hr.cell 2, hr.cell 3, hr.cell 4, hr.cell 5, hr.cell 6, hr.cell 7, hr.cell 8⟩
theorem more_row {w : World} {g : Nat} {t : TypeId} {a b c d v n x y : Int} (hr : Row w g t #[.int .i64 a, .int .i64 b, .int .i64 c, .int .i64 d, .int .i64 v, .int .i64 n]) :
    Row ((w.setCell ⟨g, 4, none⟩ (.int .i64 x)).setCell ⟨g, 5, none⟩ (.int .i64 y)) g t #[.int .i64 a, .int .i64 b, .int .i64 c, .int .i64 d, .int .i64 x, .int .i64 y] := (hr.put 4 _).put 5 _
set_option maxRecDepth 100000 in
theorem grows_no (c : Cl) (x y a : Int) (w : World) (h : (dec c x y a).2.2 ≠ 0) :
    Calls Try.prog 6 #[inV c x y a] w fun e w' => e = .returned (.bool true) ∧ Below w.heap.size w w' := by
  obtain ⟨h1, h2⟩ := dec_no h
  obtain ⟨⟨p, q, e0⟩, hD⟩ : ∃ D, dec c x y a = D := ⟨_, rfl⟩
  rw [hD] at h h1 h2
  simp only at h h1 h2
  subst h1 h2
  have HD := Lib.hid hD
  clear hD
  have hd : decide (e0 = 0) = false := by simpa using h
  obtain ⟨g, s, b, r, v, n⟩ := c
  simp only [inV]
  go_enter Try.func6, Try.ntmps6
  go_wp2_with fail
  refine (sanity_any _).mono ?_
  rintro e w1 ⟨rfl, hb⟩
  have HI := Lib.hid (show Row w1 w.heap.size 25 _ from ((Row.new w _ _).below hb (by simp)))
  have HB := Lib.hid (below_call ((Below.refl w.heap.size w).alloc (Nat.le_refl _) _) hb)
  clear hb
  obtain ⟨c0, c1, c2, c3, c4, c5, c6, c7, c8⟩ := row9 HI.out
  have hlt : w.heap.size < w1.heap.size := HI.out.lt
  go_wp2_with fail
  refine (qdecide_any ⟨g, s, b, r, v, n⟩ x y a _).mono ?_
  rintro e w2 ⟨rfl, hb⟩
  rw [HD.out]
  have HB := Lib.hid (below_call (HB.out.alloc HB.out.size _) hb)
  clear hb c0 c1 c2 c3 c4 c5 c6 c7 c8 hlt
  go_wp2_with fail
  all_goals go_ret
  all_goals exact ⟨by simp, HB.out.alloc HB.out.size _⟩
theorem keepG {w4 wc wn : World} {b1 b2 b3 : Nat} {x0 x1 x2 x3 x4 x5 y0 y1 y2 y3 y4 y5 p q : Value} {t1 t2 t3 : TypeId} {C : Prop} (hc : Row w4 b1 t1 #[x0, x1, x2, x3, x4, x5]) (hg : Row w4 b2 t2 #[p, q]) (hh : Row w4 b3 t3 #[y0, y1, y2, y3, y4, y5])
    (h : C ∧ Below w4.heap.size w4 wc) (hb : Below wc.heap.size wc wn) :
    ((wn.cell? ⟨b1, 0, none⟩ = some x0 ∧ wn.cell? ⟨b1, 1, none⟩ = some x1 ∧ wn.cell? ⟨b1, 2, none⟩ = some x2 ∧ wn.cell? ⟨b1, 3, none⟩ = some x3 ∧ wn.cell? ⟨b1, 4, none⟩ = some x4 ∧ wn.cell? ⟨b1, 5, none⟩ = some x5 ∧
      wn.cell? ⟨b2, 0, none⟩ = some p ∧ wn.cell? ⟨b2, 1, none⟩ = some q ∧
      wn.cell? ⟨b3, 0, none⟩ = some y0 ∧ wn.cell? ⟨b3, 1, none⟩ = some y1 ∧ wn.cell? ⟨b3, 2, none⟩ = some y2 ∧ wn.cell? ⟨b3, 3, none⟩ = some y3 ∧ wn.cell? ⟨b3, 4, none⟩ = some y4 ∧ wn.cell? ⟨b3, 5, none⟩ = some y5) ∧ Below w4.heap.size w4 wn) := by
  have hB := below_call h.2 hb
  have hc' := hc.below hB hc.lt
  have hg' := hg.below hB hg.lt
  have hh' := hh.below hB hh.lt
  exact ⟨⟨hc'.cell 0, hc'.cell 1, hc'.cell 2, hc'.cell 3, hc'.cell 4, hc'.cell 5, hg'.cell 0, hg'.cell 1, hh'.cell 0, hh'.cell 1, hh'.cell 2, hh'.cell 3, hh'.cell 4, hh'.cell 5⟩, hB⟩
set_option maxHeartbeats 6400000 in
set_option maxRecDepth 100000 in
theorem grows_yes (c : Cl) (x y a : Int) (w : World) (h : (dec c x y a).2.2 = 0) :
    Calls Try.prog 6 #[inV c x y a] w fun e w' => e = .returned (.bool true) ∧ Below w.heap.size w w' := by
  have HK := Lib.hid (dec_ok h)
  have HGr := Lib.hid (fun hd => grows (c := c) (x := x) (y := y) (a := a) h hd)
  obtain ⟨⟨p, q, e0⟩, hD⟩ : ∃ D, dec c x y a = D := ⟨_, rfl⟩
  rw [hD] at h HGr
  simp only at h HGr
  subst h
  have HD := Lib.hid hD
  clear hD
  have hcm := okB_iff.1 HK.out.1
  have hx := HK.out.2.1
  have hy := HK.out.2.2.1
  obtain ⟨V, hV⟩ : ∃ V, IntKind.i64.wrap (c.v + x) = V := ⟨_, rfl⟩
  obtain ⟨N, hN⟩ : ∃ N, IntKind.i64.wrap (c.n + y) = N := ⟨_, rfl⟩
  have HM := Lib.hid (show c.more x y = ⟨c.g, c.s, c.b, c.r, V, N⟩ by
    rw [← hV, ← hN, IntWalk.i64_in _ (by omega), IntWalk.i64_in _ (by omega)]; rfl)
  have HO := Lib.hid HK.out.1
  have HK2 := Lib.hid (show 0 ≤ a ∧ a ≤ 1099511627776 ∧ x + y ≤ 2199023255552 from ⟨HK.out.2.2.2.1.1, HK.out.2.2.2.1.2, by omega⟩)
  clear hcm hx hy HK
  obtain ⟨g, s, b, r, v, n⟩ := c
  simp only at hV hN
  simp only [inV]
  go_enter Try.func6, Try.ntmps6
  go_wp2_with fail
  refine (sanity_any _).mono ?_
  rintro e w1 ⟨rfl, hb⟩
  have HI := Lib.hid (show Row w1 w.heap.size 25 _ from ((Row.new w _ _).below hb (by simp)))
  have HB := Lib.hid (below_call ((Below.refl w.heap.size w).alloc (Nat.le_refl _) _) hb)
  clear hb
  obtain ⟨c0, c1, c2, c3, c4, c5, c6, c7, c8⟩ := row9 HI.out
  have hlt : w.heap.size < w1.heap.size := HI.out.lt
  go_wp2_with fail
  refine (qdecide_any ⟨g, s, b, r, v, n⟩ x y a _).mono ?_
  rintro e w2 ⟨rfl, hb⟩
  rw [HD.out]
  have HI := Lib.hid ((HI.out.alloc _).below hb (by have := HI.out.lt; simp; omega))
  have HC := Lib.hid (show Row w2 w1.heap.size 23 _ from ((Row.new w1 _ _).below hb (by simp)))
  have HB := Lib.hid (below_call (HB.out.alloc HB.out.size _) hb)
  clear hb c0 c1 c2 c3 c4 c5 c6 c7 c8 hlt
  obtain ⟨c0, c1, c2, c3, c4, c5, c6, c7, c8⟩ := row9 HI.out
  obtain ⟨d0, d1, d2, d3, d4, d5⟩ := row6 HC.out
  have hlt : w.heap.size < w2.heap.size := HI.out.lt
  have hlt2 : w1.heap.size < w2.heap.size := HC.out.lt
  go_wp2_with fail
  obtain ⟨W, hW⟩ : ∃ W, W = (w2.alloc (.cells #[.int .i64 p, .int .i64 q] 28)).alloc (.cells #[.int .i64 g, .int .i64 s, .int .i64 b, .int .i64 r, .int .i64 V, .int .i64 N] 23) := ⟨_, rfl⟩
  have HH := Lib.hid (show Row W (w2.heap.size + 1) 23 #[.int .i64 g, .int .i64 s, .int .i64 b, .int .i64 r, .int .i64 V, .int .i64 N] by rw [hW]; exact Row.made _ _ (size1 _ _).symm)
  have HG := Lib.hid (show Row W w2.heap.size 28 #[.int .i64 p, .int .i64 q] by rw [hW]; exact (Row.new w2 _ _).alloc _)
  have HC := Lib.hid (show Row W w1.heap.size 23 _ by rw [hW]; exact (HC.out.alloc _).alloc _)
  have HI := Lib.hid (show Row W w.heap.size 25 _ by rw [hW]; exact (HI.out.alloc _).alloc _)
  have HB := Lib.hid (show Below w.heap.size w W by rw [hW]; exact (HB.out.alloc HB.out.size _).alloc (by have := HB.out.size; simp; omega) _)
  rw [← hW]
  clear hW c0 c1 c2 c3 c4 c5 c6 c7 c8 d0 d1 d2 d3 d4 d5 hlt hlt2 hV hN
  refine (qvalid_any ⟨g, s, b, r, V, N⟩ _).mono ?_
  rintro e w3 ⟨rfl, hb⟩
  have HH := Lib.hid (HH.out.below hb HH.out.lt)
  have HG := Lib.hid (HG.out.below hb HG.out.lt)
  have HC := Lib.hid (HC.out.below hb HC.out.lt)
  have HI := Lib.hid (HI.out.below hb HI.out.lt)
  have HB := Lib.hid (below_call HB.out hb)
  clear hb
  rw [HM.out] at HGr
  cases hv : okB ⟨g, s, b, r, V, N⟩ with
  | false =>
    clear hv
    go_wp2_with fail
    go_ret
    exact ⟨rfl, HB.out⟩
  | true =>
    have hg := HGr.out hv
    have HV := Lib.hid hv
    clear hv HGr
    obtain ⟨k1, k2, k3, k4, k5, k6, k7⟩ := hg
    have hbd := okB_iff.1 HO.out
    have hbv := okB_iff.1 HV.out
    have e1 : needV ⟨g, s, b, r, v, n⟩ = max g v + max s n := by rw [needV, if_pos HO.out]
    have e2 : overV ⟨g, s, b, r, v, n⟩ = max 0 (v - g) + max 0 (n - s) := by rw [overV, if_pos HO.out]; rfl
    have e3 : needV ⟨g, s, b, r, V, N⟩ = max g V + max s N := by rw [needV, if_pos HV.out]
    have e4 : overV ⟨g, s, b, r, V, N⟩ = max 0 (V - g) + max 0 (N - s) := by rw [overV, if_pos HV.out]; rfl
    simp only at hbd hbv
    have hq : 0 ≤ q ∧ q ≤ 4398046511104 := by have := HK2.out; omega
    have hp : 0 ≤ p ∧ p ≤ 4398046511104 := by have := HK2.out; omega
    obtain ⟨NC, hNC⟩ : ∃ z, needV ⟨g, s, b, r, v, n⟩ = z := ⟨_, rfl⟩
    obtain ⟨OC, hOC⟩ : ∃ z, overV ⟨g, s, b, r, v, n⟩ = z := ⟨_, rfl⟩
    have hn1 : 0 ≤ NC ∧ NC ≤ 4398046511104 := by omega
    have hn2 : 0 ≤ OC ∧ OC ≤ 4398046511104 := by omega
    rw [hNC] at k5
    rw [hOC] at k6
    have K5 := Lib.hid k5
    have K6 := Lib.hid k6
    have HNC := Lib.hid hNC
    have HOC := Lib.hid hOC
    rw [k6] at k7
    clear e1 e2 e3 e4 hbd hbv k5 k6 hNC hOC HK2
    obtain ⟨hq1, hq2⟩ := hq
    obtain ⟨hp1, hp2⟩ := hp
    obtain ⟨hn1, hn3⟩ := hn1
    obtain ⟨hn2, hn4⟩ := hn2
    have t1 : decide (q < 0) = false := by simp; omega
    have t2 : decide (p < 0) = false := by simp; omega
    have t3 : IntKind.i64.wrap (q + p) = q + p := IntWalk.i64_in _ (by omega)
    have t4 : IntKind.i64.wrap (x + y) = q + p := by rw [← k3]; exact t3
    have t5 : decide (a < q) = false := by simp; omega
    have H0 := keepG HC.out HG.out HH.out (⟨trivial, Below.refl _ _⟩ : True ∧ Below w3.heap.size w3 w3) (Below.refl _ _)
    obtain ⟨c0, c1, c2, c3, c4, c5, c6, c7, c8⟩ := row9 HI.out
    have g0 : w3.cell? ⟨w2.heap.size, 0, none⟩ = some (.int .i64 p) := HG.out.cell 0
    have g1 : w3.cell? ⟨w2.heap.size, 1, none⟩ = some (.int .i64 q) := HG.out.cell 1
    go_wp2_with fail
    clear c0 c1 c2 c3 c4 c5 c6 c7 c8 g0 g1 t1 t2 t3 t4 t5
    have t6 : IntKind.i64.wrap (NC + q) = NC + q := IntWalk.i64_in _ (by omega)
    have t7 : IntKind.i64.wrap (OC + q) = OC + q := IntWalk.i64_in _ (by omega)
    by_cases hq0 : q = 0
    · subst hq0
      simp only [Int.add_zero] at K5 K6 t6 t7
      refine wp_region_held_drew (S := fun wn => (wn.cell? ⟨w1.heap.size, 0, none⟩ = some (.int .i64 g) ∧ wn.cell? ⟨w1.heap.size, 1, none⟩ = some (.int .i64 s) ∧ wn.cell? ⟨w1.heap.size, 2, none⟩ = some (.int .i64 b) ∧ wn.cell? ⟨w1.heap.size, 3, none⟩ = some (.int .i64 r) ∧ wn.cell? ⟨w1.heap.size, 4, none⟩ = some (.int .i64 v) ∧ wn.cell? ⟨w1.heap.size, 5, none⟩ = some (.int .i64 n) ∧
      wn.cell? ⟨w2.heap.size, 0, none⟩ = some (.int .i64 p) ∧ wn.cell? ⟨w2.heap.size, 1, none⟩ = some (.int .i64 0) ∧
      wn.cell? ⟨w2.heap.size + 1, 0, none⟩ = some (.int .i64 g) ∧ wn.cell? ⟨w2.heap.size + 1, 1, none⟩ = some (.int .i64 s) ∧ wn.cell? ⟨w2.heap.size + 1, 2, none⟩ = some (.int .i64 b) ∧ wn.cell? ⟨w2.heap.size + 1, 3, none⟩ = some (.int .i64 r) ∧ wn.cell? ⟨w2.heap.size + 1, 4, none⟩ = some (.int .i64 V) ∧ wn.cell? ⟨w2.heap.size + 1, 5, none⟩ = some (.int .i64 N)) ∧ Below w3.heap.size w3 wn) (by kernel_rfl) ⟨H0.1, below_drewN H0.2 1⟩ (fun hHeld => ?_)
      refine wpAnyH_take (i := 0) (v := ?_) rfl (by kernel_rfl) (by kernel_rfl) (by kernel_rfl) (fun _ _ _ h => h) (Or.inl ⟨by kernel_rfl, by intro w hSw; (try dsimp only at hSw); go_simp; first | done | with_reducible rfl⟩) (by assumption) ?_
      try simp only [Act.put, List.setIfInBounds_toArray, List.set_cons_zero, List.set_cons_succ]
      refine wpAnyH_take (i := 1) (v := ?_) rfl (by kernel_rfl) (by kernel_rfl) (by kernel_rfl) (fun _ _ _ h => h) (Or.inl ⟨by kernel_rfl, by intro w hSw; (try dsimp only at hSw); go_simp; first | done | with_reducible rfl⟩) (by assumption) ?_
      try simp only [Act.put, List.setIfInBounds_toArray, List.set_cons_zero, List.set_cons_succ]
      refine wpAnyH_take (i := 2) (v := ?_) rfl (by kernel_rfl) (by kernel_rfl) (by kernel_rfl) (fun _ _ _ h => h) (Or.inl ⟨by kernel_rfl, by intro w hSw; (try dsimp only at hSw); go_simp; first | done | with_reducible rfl⟩) (by assumption) ?_
      try simp only [Act.put, List.setIfInBounds_toArray, List.set_cons_zero, List.set_cons_succ]
      refine wpAnyH_take (i := 4) (v := ?_) rfl (by kernel_rfl) (by kernel_rfl) (by kernel_rfl) (fun _ _ _ h => h) (Or.inl ⟨by kernel_rfl, by intro w hSw; (try dsimp only at hSw); go_simp; first | done | with_reducible rfl⟩) (by assumption) ?_
      try simp only [Act.put, List.setIfInBounds_toArray, List.set_cons_zero, List.set_cons_succ]
      refine wpAnyH_take (i := 6) (v := ?_) rfl (by kernel_rfl) (by kernel_rfl) (by kernel_rfl) (fun _ _ _ h => h) (Or.inl ⟨by kernel_rfl, by intro w hSw; (try dsimp only at hSw); go_simp; first | done | with_reducible rfl⟩) (by assumption) ?_
      try simp only [Act.put, List.setIfInBounds_toArray, List.set_cons_zero, List.set_cons_succ]
      refine wpAnyH_take (i := 7) (v := ?_) rfl (by kernel_rfl) (by kernel_rfl) (by kernel_rfl) (fun _ _ _ h => h) (Or.inl ⟨by kernel_rfl, by intro w hSw; (try dsimp only at hSw); go_simp; first | done | with_reducible rfl⟩) (by assumption) ?_
      try simp only [Act.put, List.setIfInBounds_toArray, List.set_cons_zero, List.set_cons_succ]
      refine wpAnyH_ready (rs := [3]) (by kernel_rfl) (by simp) ?_
      refine AllReadyH.cons rfl (fun K hK => ?_) AllReadyH.nil
      go_simp
      go_at_call 17
      with_reducible refine (qneed_any ⟨g, s, b, r, V, N⟩ _).mono ?_
      rintro e wn ⟨rfl, hb⟩
      rw [K5.out]
      have HS := keepG HC.out HG.out HH.out (by assumption) hb
      clear hb hHeld
      refine hK.out _ _ HS (fun hHeld => ?_)
      clear hK K HS
      try simp only [Act.put, List.setIfInBounds_toArray, List.set_cons_zero, List.set_cons_succ]
      refine wpAnyH_ready (rs := [5]) (by kernel_rfl) (by simp) ?_
      refine AllReadyH.cons rfl (fun K hK => ?_) AllReadyH.nil
      go_simp
      go_at_call 17
      with_reducible refine (qneed_any ⟨g, s, b, r, v, n⟩ _).mono ?_
      rintro e wn ⟨rfl, hb⟩
      rw [HNC.out]
      have HS := keepG HC.out HG.out HH.out (by assumption) hb
      clear hb hHeld
      refine hK.out _ _ HS (fun hHeld => ?_)
      clear hK K HS
      try simp only [Act.put, List.setIfInBounds_toArray, List.set_cons_zero, List.set_cons_succ]
      refine wpAnyH_take (i := 8) (v := ?_) rfl (by kernel_rfl) (by kernel_rfl) (by kernel_rfl) (fun _ _ _ h => h) (Or.inl ⟨by kernel_rfl, by intro w hSw; (try dsimp only at hSw); go_simp; first | done | with_reducible rfl⟩) (by assumption) ?_
      try simp only [Act.put, List.setIfInBounds_toArray, List.set_cons_zero, List.set_cons_succ]
      refine wpAnyH_take (i := 9) (v := ?_) rfl (by kernel_rfl) (by kernel_rfl) (by kernel_rfl) (fun _ _ _ h => h) (Or.inl ⟨by kernel_rfl, by intro w hSw; (try dsimp only at hSw); go_simp; first | done | with_reducible rfl⟩) (by assumption) ?_
      try simp only [Act.put, List.setIfInBounds_toArray, List.set_cons_zero, List.set_cons_succ]
      refine wpAnyH_take (i := 10) (v := ?_) rfl (by kernel_rfl) (by kernel_rfl) (by kernel_rfl) (fun _ _ _ h => h) (Or.inl ⟨by kernel_rfl, by intro w hSw; (try dsimp only at hSw); go_simp; first | done | with_reducible rfl⟩) (by assumption) ?_
      try simp only [Act.put, List.setIfInBounds_toArray, List.set_cons_zero, List.set_cons_succ]
      refine wpAnyH_take (i := 11) (v := ?_) rfl (by kernel_rfl) (by kernel_rfl) (by kernel_rfl) (fun _ _ _ h => h) (Or.inl ⟨by kernel_rfl, by intro w hSw; (try dsimp only at hSw); go_simp; first | done | with_reducible rfl⟩) (by assumption) ?_
      try simp only [Act.put, List.setIfInBounds_toArray, List.set_cons_zero, List.set_cons_succ]
      refine wpAnyH_take (i := 12) (v := ?_) rfl (by kernel_rfl) (by kernel_rfl) (by kernel_rfl) (fun _ _ _ h => h) (Or.inl ⟨by kernel_rfl, by intro w hSw; (try dsimp only at hSw); go_simp; first | done | with_reducible rfl⟩) (by assumption) ?_
      try simp only [Act.put, List.setIfInBounds_toArray, List.set_cons_zero, List.set_cons_succ]
      refine wpAnyH_take (i := 14) (v := ?_) rfl (by kernel_rfl) (by kernel_rfl) (by kernel_rfl) (fun _ _ _ h => h) (Or.inl ⟨by kernel_rfl, by intro w hSw; (try dsimp only at hSw); go_simp; first | done | with_reducible rfl⟩) (by assumption) ?_
      try simp only [Act.put, List.setIfInBounds_toArray, List.set_cons_zero, List.set_cons_succ]
      refine wpAnyH_take (i := 16) (v := ?_) rfl (by kernel_rfl) (by kernel_rfl) (by kernel_rfl) (fun _ _ _ h => h) (Or.inl ⟨by kernel_rfl, by intro w hSw; (try dsimp only at hSw); go_simp; first | done | with_reducible rfl⟩) (by assumption) ?_
      try simp only [Act.put, List.setIfInBounds_toArray, List.set_cons_zero, List.set_cons_succ]
      refine wpAnyH_take (i := 17) (v := ?_) rfl (by kernel_rfl) (by kernel_rfl) (by kernel_rfl) (fun _ _ _ h => h) (Or.inl ⟨by kernel_rfl, by intro w hSw; (try dsimp only at hSw); go_simp; first | done | with_reducible rfl⟩) (by assumption) ?_
      try simp only [Act.put, List.setIfInBounds_toArray, List.set_cons_zero, List.set_cons_succ]
      refine wpAnyH_ready (rs := [13]) (by kernel_rfl) (by simp) ?_
      refine AllReadyH.cons rfl (fun K hK => ?_) AllReadyH.nil
      go_simp
      go_at_call 15
      with_reducible refine (qover_any ⟨g, s, b, r, V, N⟩ _).mono ?_
      rintro e wn ⟨rfl, hb⟩
      rw [K6.out]
      have HS := keepG HC.out HG.out HH.out (by assumption) hb
      clear hb hHeld
      refine hK.out _ _ HS (fun hHeld => ?_)
      clear hK K HS
      try simp only [Act.put, List.setIfInBounds_toArray, List.set_cons_zero, List.set_cons_succ]
      refine wpAnyH_ready (rs := [15]) (by kernel_rfl) (by simp) ?_
      refine AllReadyH.cons rfl (fun K hK => ?_) AllReadyH.nil
      go_simp
      go_at_call 15
      with_reducible refine (qover_any ⟨g, s, b, r, v, n⟩ _).mono ?_
      rintro e wn ⟨rfl, hb⟩
      rw [HOC.out]
      have HS := keepG HC.out HG.out HH.out (by assumption) hb
      clear hb hHeld
      refine hK.out _ _ HS (fun hHeld => ?_)
      clear hK K HS
      try simp only [Act.put, List.setIfInBounds_toArray, List.set_cons_zero, List.set_cons_succ]
      refine wpAnyH_take (i := 18) (v := ?_) rfl (by kernel_rfl) (by kernel_rfl) (by kernel_rfl) (fun _ _ _ h => h) (Or.inl ⟨by kernel_rfl, by intro w hSw; (try dsimp only at hSw); go_simp; first | done | with_reducible rfl⟩) (by assumption) ?_
      try simp only [Act.put, List.setIfInBounds_toArray, List.set_cons_zero, List.set_cons_succ]
      refine wpAnyH_take (i := 19) (v := ?_) rfl (by kernel_rfl) (by kernel_rfl) (by kernel_rfl) (fun _ _ _ h => h) (Or.inl ⟨by kernel_rfl, by intro w hSw; (try dsimp only at hSw); go_simp; first | done | with_reducible rfl⟩) (by assumption) ?_
      try simp only [Act.put, List.setIfInBounds_toArray, List.set_cons_zero, List.set_cons_succ]
      refine wpAnyH_take (i := 20) (v := ?_) rfl (by kernel_rfl) (by kernel_rfl) (by kernel_rfl) (fun _ _ _ h => h) (Or.inl ⟨by kernel_rfl, by intro w hSw; (try dsimp only at hSw); go_simp; first | done | with_reducible rfl⟩) (by assumption) ?_
      try simp only [Act.put, List.setIfInBounds_toArray, List.set_cons_zero, List.set_cons_succ]
      refine wpAnyH_take (i := 21) (v := ?_) rfl (by kernel_rfl) (by kernel_rfl) (by kernel_rfl) (fun _ _ _ h => h) (Or.inl ⟨by kernel_rfl, by intro w hSw; (try dsimp only at hSw); go_simp; first | done | with_reducible rfl⟩) (by assumption) ?_
      try simp only [Act.put, List.setIfInBounds_toArray, List.set_cons_zero, List.set_cons_succ]
      refine wpAnyH_take (i := 22) (v := ?_) rfl (by kernel_rfl) (by kernel_rfl) (by kernel_rfl) (fun _ _ _ h => h) (Or.inl ⟨by kernel_rfl, by intro w hSw; (try dsimp only at hSw); go_simp; first | done | with_reducible rfl⟩) (by assumption) ?_
      try simp only [Act.put, List.setIfInBounds_toArray, List.set_cons_zero, List.set_cons_succ]
      refine wpAnyH_take (i := 23) (v := ?_) rfl (by kernel_rfl) (by kernel_rfl) (by kernel_rfl) (fun _ _ _ h => h) (Or.inl ⟨by kernel_rfl, by intro w hSw; (try dsimp only at hSw); go_simp; first | done | with_reducible rfl⟩) (by assumption) ?_
      try simp only [Act.put, List.setIfInBounds_toArray, List.set_cons_zero, List.set_cons_succ]
      refine wpAnyH_take (i := 24) (v := ?_) rfl (by kernel_rfl) (by kernel_rfl) (by kernel_rfl) (fun _ _ _ h => h) (Or.inl ⟨by kernel_rfl, by intro w hSw; (try dsimp only at hSw); go_simp; first | done | with_reducible rfl⟩) (by assumption) ?_
      try simp only [Act.put, List.setIfInBounds_toArray, List.set_cons_zero, List.set_cons_succ]
      refine wpAnyH_take (i := 25) (v := ?_) rfl (by kernel_rfl) (by kernel_rfl) (by kernel_rfl) (fun _ _ _ h => h) (Or.inl ⟨by kernel_rfl, by intro w hSw; (try dsimp only at hSw); go_simp; first | done | with_reducible rfl⟩) (by assumption) ?_
      try simp only [Act.put, List.setIfInBounds_toArray, List.set_cons_zero, List.set_cons_succ]
      refine wpAnyH_take (i := 26) (v := _root_.Go.undef) rfl (by kernel_rfl) (by kernel_rfl) (by kernel_rfl) (fun _ _ _ h => h) (Or.inr ⟨by kernel_rfl, rfl⟩) (by assumption) ?_
      try simp only [Act.put, List.setIfInBounds_toArray, List.set_cons_zero, List.set_cons_succ]
      refine wpAnyH_take (i := 27) (v := _root_.Go.undef) rfl (by kernel_rfl) (by kernel_rfl) (by kernel_rfl) (fun _ _ _ h => h) (Or.inr ⟨by kernel_rfl, rfl⟩) (by assumption) ?_
      try simp only [Act.put, List.setIfInBounds_toArray, List.set_cons_zero, List.set_cons_succ]
      refine wpAnyH_take (i := 28) (v := _root_.Go.undef) rfl (by kernel_rfl) (by kernel_rfl) (by kernel_rfl) (fun _ _ _ h => h) (Or.inr ⟨by kernel_rfl, rfl⟩) (by assumption) ?_
      try simp only [Act.put, List.setIfInBounds_toArray, List.set_cons_zero, List.set_cons_succ]
      refine wpAnyH_take (i := 29) (v := _root_.Go.undef) rfl (by kernel_rfl) (by kernel_rfl) (by kernel_rfl) (fun _ _ _ h => h) (Or.inr ⟨by kernel_rfl, rfl⟩) (by assumption) ?_
      try simp only [Act.put, List.setIfInBounds_toArray, List.set_cons_zero, List.set_cons_succ]
      refine wpAnyH_take (i := 30) (v := _root_.Go.undef) rfl (by kernel_rfl) (by kernel_rfl) (by kernel_rfl) (fun _ _ _ h => h) (Or.inr ⟨by kernel_rfl, rfl⟩) (by assumption) ?_
      try simp only [Act.put, List.setIfInBounds_toArray, List.set_cons_zero, List.set_cons_succ]
      refine wpAnyH_take (i := 31) (v := ?_) rfl (by kernel_rfl) (by kernel_rfl) (by kernel_rfl) (fun _ _ _ h => h) (Or.inl ⟨by kernel_rfl, by intro w hSw; (try dsimp only at hSw); go_simp; first | done | with_reducible rfl⟩) (by assumption) ?_
      try simp only [Act.put, List.setIfInBounds_toArray, List.set_cons_zero, List.set_cons_succ]
      refine wpAnyH_take (i := 32) (v := ?_) rfl (by kernel_rfl) (by kernel_rfl) (by kernel_rfl) (fun _ _ _ h => h) (Or.inl ⟨by kernel_rfl, by intro w hSw; (try dsimp only at hSw); go_simp; first | done | with_reducible rfl⟩) (by assumption) ?_
      try simp only [Act.put, List.setIfInBounds_toArray, List.set_cons_zero, List.set_cons_succ]
      refine wpAnyH_take (i := 33) (v := ?_) rfl (by kernel_rfl) (by kernel_rfl) (by kernel_rfl) (fun _ _ _ h => h) (Or.inl ⟨by kernel_rfl, by intro w hSw; (try dsimp only at hSw); go_simp; first | done | with_reducible rfl⟩) (by assumption) ?_
      try simp only [Act.put, List.setIfInBounds_toArray, List.set_cons_zero, List.set_cons_succ]
      refine wpAnyH_done (by kernel_rfl) ?_ _
      go_wp2_with fail
      go_ret
      exact ⟨by simp, below_call HB.out hHeld.2⟩
    · have t8 : (q == 0) = false := by simpa using hq0
      have t9 : decide (OC + q ≤ b) = true := by simp; omega
      go_region_held3 (fun wn => (wn.cell? ⟨w1.heap.size, 0, none⟩ = some (.int .i64 g) ∧ wn.cell? ⟨w1.heap.size, 1, none⟩ = some (.int .i64 s) ∧ wn.cell? ⟨w1.heap.size, 2, none⟩ = some (.int .i64 b) ∧ wn.cell? ⟨w1.heap.size, 3, none⟩ = some (.int .i64 r) ∧ wn.cell? ⟨w1.heap.size, 4, none⟩ = some (.int .i64 v) ∧ wn.cell? ⟨w1.heap.size, 5, none⟩ = some (.int .i64 n) ∧
      wn.cell? ⟨w2.heap.size, 0, none⟩ = some (.int .i64 p) ∧ wn.cell? ⟨w2.heap.size, 1, none⟩ = some (.int .i64 q) ∧
      wn.cell? ⟨w2.heap.size + 1, 0, none⟩ = some (.int .i64 g) ∧ wn.cell? ⟨w2.heap.size + 1, 1, none⟩ = some (.int .i64 s) ∧ wn.cell? ⟨w2.heap.size + 1, 2, none⟩ = some (.int .i64 b) ∧ wn.cell? ⟨w2.heap.size + 1, 3, none⟩ = some (.int .i64 r) ∧ wn.cell? ⟨w2.heap.size + 1, 4, none⟩ = some (.int .i64 V) ∧ wn.cell? ⟨w2.heap.size + 1, 5, none⟩ = some (.int .i64 N)) ∧ Below w3.heap.size w3 wn) (first | exact HS | exact ⟨H0.1, below_drewN H0.2 1⟩) (first
      | (go_at_call 17; ((with_reducible refine (qneed_any ⟨g, s, b, r, V, N⟩ _).mono ?_)); rintro e wn ⟨rfl, hb⟩; rw [K5.out]; have HS := keepG HC.out HG.out HH.out (by assumption) hb)
      | (go_at_call 17; ((with_reducible refine (qneed_any ⟨g, s, b, r, v, n⟩ _).mono ?_)); rintro e wn ⟨rfl, hb⟩; rw [HNC.out]; have HS := keepG HC.out HG.out HH.out (by assumption) hb)
      | (go_at_call 15; ((with_reducible refine (qover_any ⟨g, s, b, r, V, N⟩ _).mono ?_)); rintro e wn ⟨rfl, hb⟩; rw [K6.out]; have HS := keepG HC.out HG.out HH.out (by assumption) hb)
      | (go_at_call 15; ((with_reducible refine (qover_any ⟨g, s, b, r, v, n⟩ _).mono ?_)); rintro e wn ⟨rfl, hb⟩; rw [HOC.out]; have HS := keepG HC.out HG.out HH.out (by assumption) hb))
      go_wp2_with fail
      go_ret
      exact ⟨by simp, below_call HB.out HS.2⟩
theorem walk_QuotaNeedGrowsByBurst (c : Cl) (x y a : Int) (w : World) (hin : in64 c.g ∧ in64 c.s ∧ in64 c.b ∧ in64 c.r ∧ in64 c.v ∧ in64 c.n) (hx : in64 x) (hy : in64 y) (ha : in64 a) :
    Calls Try.prog 6 #[.agg (cells6 c ++ ([.int .i64 x, .int .i64 y, .int .i64 a] : List Value)).toArray] w fun e w' => e = .returned (.bool true) ∧ Below w.heap.size w w' := by
  by_cases h : (dec c x y a).2.2 = 0
  · exact grows_yes c x y a w h
  · exact grows_no c x y a w h

/-! ### the frame: the arguments opened and shut -/
theorem contract_QuotaNeedGrowsByBurst (H : Type) (enc : TypeId × Value → H) (W : World) (base : Nat) (args : Array Value) (ds gs : List (DataW H)) (before : List MemPlace)
    (hval0 : ∀ (j : Nat) t v, Try.f6.params[j]? = some t → args[j]? = some v → Value.okWide Try.prog W .any base t v)
    (hW : DataW.Whole enc Try.prog Try.f6.params.toList Rows.quotaNeedGrowsByBurstSpec.vars false W args.toList ds gs before) :
    Calls Try.prog 6 args W fun e W' => ∃ v, e = .returned v ∧ Rows.quotaNeedGrowsByBurstSpec.post enc Try.prog Try.f6 false true false false W args v W' := by
  have hval : ∀ (j : Nat) t v, Try.f6.params[j]? = some t → args[j]? = some v → Value.okWide Try.prog W .any base t v := hval0
  have hW' := hW
  obtain ⟨p, q, hA0, hV, rfl, hfz, hnd⟩ := hW
  have hA : DataW.TrodAll enc Try.prog W 0 (fun _ => true) true Try.f6.params.toList args.toList ds p := hA0
  rw [Try.params6] at hA hval
  obtain ⟨v0, vs0, d0, ds0, p0, q0, hargs, rfl, rfl, h0, r0⟩ := trodAll_cons hA
  obtain ⟨rfl, rfl, rfl⟩ := trodAll_nil r0
  obtain rfl : args = #[v0] := by cases args; simp_all
  obtain ⟨rfl, rfl⟩ := trodVars_none hV
  have k0 := h0
  have lt0 : ∀ x ∈ p0, x.block < W.heap.size := by obtain ⟨m, hm⟩ := k0; exact DataW.trod_lt m _ _ _ hm
  obtain ⟨cs0, rfl, _⟩ := okWide_struct Try.underlying25 (hval 0 25 v0 rfl rfl)
  obtain ⟨fuel0, hf0⟩ := h0
  obtain ⟨c0, x0, y0, z0, hcs0, hin0, hx0, hy0, hz0⟩ := open_in hf0
  obtain rfl : cs0 = (cells6 c0 ++ ([.int .i64 x0, .int .i64 y0, .int .i64 z0] : List Value)).toArray := by apply Array.toList_inj.1; simpa [Value.cells] using hcs0
  refine (walk_QuotaNeedGrowsByBurst c0 x0 y0 z0 W hin0 hx0 hy0 hz0).mono fun e W' ⟨he, bel⟩ => ?_
  subst he
  exact ⟨_, rfl, _, _, _, [], _, [], hW', trodAll_mk1 (shut_bool Try.underlying4 _), (trodAll_cons_mk (Below.trod laidOut (by kernel_rfl) (of_decide_eq_true (by kernel_rfl)) k0 bel lt0) trodAll_mk0), rfl, bel.frame _, fun h => by cases h⟩

set_option maxRecDepth 100000 in
theorem lifted_QuotaNeedGrowsByBurst (os : Os) (started : os.Started) (H : Type) (enc : TypeId × Value → H) :
    ReturnsInHanded {} Try.checked os 6 .any (Rows.quotaNeedGrowsByBurstSpec.pre6 enc Try.prog Try.f6 Rows.quotaNeedGrowsByBurstRow.domain false) (Rows.quotaNeedGrowsByBurstSpec.post enc Try.prog Try.f6 false true false false) := by
  refine returnsInHanded_of_change (C := Try.checked) own started (by kernel_rfl) Try.func6
    (ChangeSpec.witness6 (enc := enc) (C := Try.checked) false ⟨#[], #[.agg #[.int .i64 0, .int .i64 0, .int .i64 0, .int .i64 0, .int .i64 0, .int .i64 0, .int .i64 0, .int .i64 0, .int .i64 0]], []⟩ 8 (by kernel_rfl) (by kernel_rfl) (by kernel_rfl) (by kernel_rfl)) ?_
  intro W base args ds gs before hval hW _ _
  exact contract_QuotaNeedGrowsByBurst H enc W base args ds gs before hval hW

theorem proved_QuotaNeedGrowsByBurst : Rows.QuotaNeedGrowsByBurstSaid :=
  OpenClaim.holds_of_wide 6 Try.f6 rfl rfl rfl rfl rfl rfl rfl ⟨rfl, rfl, rfl, rfl, rfl⟩ rfl rfl rfl rfl rfl (by kernel_rfl) Try.func6 (by kernel_rfl)
    (of_decide_eq_true (by kernel_rfl)) (by unfold Func.isWrapper; first | (rw [if_pos (by decide +kernel)]; kernel_rfl) | (rw [if_neg (by decide +kernel)]; exact ⟨rfl, rfl⟩))
    (fun os started H enc _ => lifted_QuotaNeedGrowsByBurst os started H enc)
end Go.Proofs.Ytaoinpijicenhaa
