/- SectorMatchesSpec: for every place, two generations, payload and sector the law returns true, and its arguments read as they did. No condition. -/
import Derived.Test.YtdkkoogcaininaaS18
import Derived.Test.YtdkkoogcaininaaS20
import Derived.Test.YtdkkoogcaininaaOpenS
import Derived.ChangeMaps5
import Derived.Deep.RegionHeld3
namespace Go.Proofs.Ytdkkoogcaininaa
set_option linter.unusedSimpArgs false
set_option linter.unusedVariables false
open Go.ChangeShapes Go.WideShapes Go.ChangeAt Go.RowKit Go.Lib

theorem seal_both (d a i e c : Int) (p : ByteArray) : ∃ (S : ByteArray) (f : Int), (∀ w : World, Calls Try.prog 10 #[.agg #[.int .i64 d, .int .i64 a, .int .i64 i], .agg #[.int .i64 e, .int .i64 c], .string p] w fun x w' => x = .returned (.tuple #[.string S, .int .i64 f]) ∧ Below w.heap.size w w') ∧
    (∀ w : World, Calls Try.prog 11 #[.agg #[.int .i64 d, .int .i64 a, .int .i64 i], .agg #[.int .i64 e, .int .i64 c], .string p] w fun x w' => x = .returned (.tuple #[.string S, .int .i64 f]) ∧ Below w.heap.size w w') := by
  cases h : okS d a i e c p with
  | false =>
    refine ⟨_, _, fun w => seal_no d a i e c p w h, fun w => rseal_bad d a i e c p w ?_⟩
    cases h1 : placeB d a i with
    | false => exact .inl rfl
    | true =>
      cases h2 : genB e c with
      | false => exact .inr (.inl ⟨rfl, rfl⟩)
      | true => exact .inr (.inr ⟨rfl, rfl, by rw [okS, h1, h2] at h; simp at h; omega⟩)
  | true =>
    refine ⟨_, _, fun w => seal_yes d a i e c p w h, fun w => ?_⟩
    simp only [okS, Bool.and_eq_true, decide_eq_true_eq] at h
    exact rseal_ok d a i e c p w h.1.1 h.1.2 h.2
theorem keepM {w4 wc wn : World} {b0 b1 b2 b3 b4 b5 b6 b7 b8 : Nat} {v00 v01 v02 v10 v11 v20 v21 v30 v31 v32 v40 v41 v50 v51 v52 v60 v61 v70 v71 v80 v81 : Value} {t0 t1 t2 t3 t4 t5 t6 t7 t8 : TypeId} {C : Prop} (h0 : Row w4 b0 t0 #[v00, v01, v02]) (h1 : Row w4 b1 t1 #[v10, v11]) (h2 : Row w4 b2 t2 #[v20, v21]) (h3 : Row w4 b3 t3 #[v30, v31, v32]) (h4 : Row w4 b4 t4 #[v40, v41]) (h5 : Row w4 b5 t5 #[v50, v51, v52]) (h6 : Row w4 b6 t6 #[v60, v61]) (h7 : Row w4 b7 t7 #[v70, v71]) (h8 : Row w4 b8 t8 #[v80, v81])
    (h : C ∧ Below w4.heap.size w4 wc) (hb : Below wc.heap.size wc wn) :
    ((wn.cell? ⟨b0, 0, none⟩ = some v00 ∧ wn.cell? ⟨b0, 1, none⟩ = some v01 ∧ wn.cell? ⟨b0, 2, none⟩ = some v02 ∧ wn.cell? ⟨b1, 0, none⟩ = some v10 ∧ wn.cell? ⟨b1, 1, none⟩ = some v11 ∧ wn.cell? ⟨b2, 0, none⟩ = some v20 ∧ wn.cell? ⟨b2, 1, none⟩ = some v21 ∧ wn.cell? ⟨b3, 0, none⟩ = some v30 ∧ wn.cell? ⟨b3, 1, none⟩ = some v31 ∧ wn.cell? ⟨b3, 2, none⟩ = some v32 ∧ wn.cell? ⟨b4, 0, none⟩ = some v40 ∧ wn.cell? ⟨b4, 1, none⟩ = some v41 ∧ wn.cell? ⟨b5, 0, none⟩ = some v50 ∧ wn.cell? ⟨b5, 1, none⟩ = some v51 ∧ wn.cell? ⟨b5, 2, none⟩ = some v52 ∧ wn.cell? ⟨b6, 0, none⟩ = some v60 ∧ wn.cell? ⟨b6, 1, none⟩ = some v61 ∧ wn.cell? ⟨b7, 0, none⟩ = some v70 ∧ wn.cell? ⟨b7, 1, none⟩ = some v71 ∧ wn.cell? ⟨b8, 0, none⟩ = some v80 ∧ wn.cell? ⟨b8, 1, none⟩ = some v81) ∧ Below w4.heap.size w4 wn) := by
  have hB := below_call h.2 hb
  have g0 := h0.below hB h0.lt
  have g1 := h1.below hB h1.lt
  have g2 := h2.below hB h2.lt
  have g3 := h3.below hB h3.lt
  have g4 := h4.below hB h4.lt
  have g5 := h5.below hB h5.lt
  have g6 := h6.below hB h6.lt
  have g7 := h7.below hB h7.lt
  have g8 := h8.below hB h8.lt
  exact ⟨⟨g0.cell 0, g0.cell 1, g0.cell 2, g1.cell 0, g1.cell 1, g2.cell 0, g2.cell 1, g3.cell 0, g3.cell 1, g3.cell 2, g4.cell 0, g4.cell 1, g5.cell 0, g5.cell 1, g5.cell 2, g6.cell 0, g6.cell 1, g7.cell 0, g7.cell 1, g8.cell 0, g8.cell 1⟩, hB⟩
set_option maxRecDepth 100000 in
set_option maxHeartbeats 3200000 in
theorem matches_out (d a i e c e2 c2 : Int) (p s : ByteArray) (w : World) (h : 200 < (p.size : Int) ∨ ((p.size : Int) ≤ 200 ∧ 200 < (s.size : Int))) :
    Calls Try.prog 3 #[.agg #[.int .i64 d, .int .i64 a, .int .i64 i], .agg #[.int .i64 e, .int .i64 c], .agg #[.int .i64 e2, .int .i64 c2], .string p, .string s] w fun x w' => x = .returned (.bool true) ∧ Below w.heap.size w w' := by
  rcases h with h | ⟨h, h1⟩
  all_goals
    go_enter Try.func3, Try.ntmps3
    go_wp2_with fail
    refine (sanity_any _).mono ?_
    rintro x w1 ⟨rfl, hb⟩
    have HB := Lib.hid (below_call ((((Below.refl w.heap.size w).alloc (Nat.le_refl _) _).alloc (by simp) _).alloc (by simp; omega) _) hb)
    clear hb
    go_wp2_with fail
    go_ret
    exact ⟨rfl, HB.out⟩
set_option maxRecDepth 100000 in
set_option maxHeartbeats 6400000 in
theorem matches_in (d a i e c e2 c2 : Int) (p s : ByteArray) (w : World) (h : (p.size : Int) ≤ 200) (h1 : (s.size : Int) ≤ 200) :
    Calls Try.prog 3 #[.agg #[.int .i64 d, .int .i64 a, .int .i64 i], .agg #[.int .i64 e, .int .i64 c], .agg #[.int .i64 e2, .int .i64 c2], .string p, .string s] w fun x w' => x = .returned (.bool true) ∧ Below w.heap.size w w' := by
  obtain ⟨S, f, hs1, hs2⟩ := seal_both d a i e c p
  have HS1 := Lib.hid hs1
  have HS2 := Lib.hid hs2
  obtain ⟨⟨D, A, I, E, C, er⟩, hL⟩ : ∃ X, labOf s.data.toList = X := ⟨_, rfl⟩
  have HL := Lib.hid hL
  obtain ⟨⟨E3, C3, P3, er3⟩, hO⟩ : ∃ X, opOf d a i s.data.toList = X := ⟨_, rfl⟩
  have HO := Lib.hid hO
  obtain ⟨PP, hPP⟩ : ∃ x, strB P3 = x := ⟨_, rfl⟩
  have HPP := Lib.hid (show opV (E3, C3, P3, er3) = .tuple #[.agg #[.int .i64 (E3 : Nat), .int .i64 (C3 : Nat)], .string PP, .int .i64 (er3 : Nat)] by rw [← hPP])
  obtain ⟨PB, hPB⟩ : ∃ x, placeB d a i = x := ⟨_, rfl⟩
  obtain ⟨NB, hNB⟩ : ∃ x, newerB e c e2 c2 = x := ⟨_, rfl⟩
  have HPB := Lib.hid hPB
  have HNB := Lib.hid hNB
  clear hs1 hs2 hL hO hPP hPB hNB
  go_enter Try.func3, Try.ntmps3
  go_wp2_with fail
  refine (HS1.out _).mono ?_
  rintro x w1 ⟨rfl, hb⟩
  have HP := Lib.hid (show Row w1 w.heap.size 23 #[.int .i64 d, .int .i64 a, .int .i64 i] from (((Row.new w _ _).alloc _).alloc _).below hb (by first | (simp; done) | (simp; omega)))
  have HG := Lib.hid (show Row w1 (w.heap.size + 1) 25 #[.int .i64 e, .int .i64 c] from ((Row.made _ _ (by simp)).alloc _).below hb (by first | (simp; done) | (simp; omega)))
  have HN := Lib.hid (show Row w1 (w.heap.size + 1 + 1) 25 #[.int .i64 e2, .int .i64 c2] from (Row.made _ _ (by simp)).below hb (by first | (simp; done) | (simp; omega)))
  have HB := Lib.hid (below_call ((((Below.refl w.heap.size w).alloc (Nat.le_refl _) _).alloc (by simp) _).alloc (by simp; omega) _) hb)
  clear hb
  obtain ⟨hp0, hp1, hp2⟩ := row3 HP.out
  have lHP : w.heap.size < w1.heap.size := HP.out.lt
  obtain ⟨hg0, hg1⟩ := row2 HG.out
  have lHG : (w.heap.size + 1) < w1.heap.size := HG.out.lt
  have lHN : (w.heap.size + 1 + 1) < w1.heap.size := HN.out.lt
  go_wp2_with fail
  refine (HS2.out _).mono ?_
  rintro x w2 ⟨rfl, hb⟩
  have HP := Lib.hid (HP.out.below hb HP.out.lt)
  have HG := Lib.hid (HG.out.below hb HG.out.lt)
  have HN := Lib.hid (HN.out.below hb HN.out.lt)
  have HB := Lib.hid (below_call HB.out hb)
  clear hb hp0 hp1 hp2 lHP hg0 hg1 lHG lHN
  have lHP : w.heap.size < w2.heap.size := HP.out.lt
  have lHG : (w.heap.size + 1) < w2.heap.size := HG.out.lt
  have lHN : (w.heap.size + 1 + 1) < w2.heap.size := HN.out.lt
  go_wp2_with fail
  refine (slabel_any s _).mono ?_
  rintro x w3 ⟨rfl, hb⟩
  rw [HL.out]
  have HP := Lib.hid (HP.out.below hb HP.out.lt)
  have HG := Lib.hid (HG.out.below hb HG.out.lt)
  have HN := Lib.hid (HN.out.below hb HN.out.lt)
  have HB := Lib.hid (below_call HB.out hb)
  clear hb lHP lHG lHN
  have lHP : w.heap.size < w3.heap.size := HP.out.lt
  have lHG : (w.heap.size + 1) < w3.heap.size := HG.out.lt
  have lHN : (w.heap.size + 1 + 1) < w3.heap.size := HN.out.lt
  go_wp2_with fail
  refine (rlabel_any s _).mono ?_
  rintro x w4 ⟨rfl, hb⟩
  rw [HL.out]
  have HP := Lib.hid (((HP.out.alloc _).alloc _).below hb (by first | (simp; done) | (simp; omega)))
  have HG := Lib.hid (((HG.out.alloc _).alloc _).below hb (by first | (simp; done) | (simp; omega)))
  have HN := Lib.hid (((HN.out.alloc _).alloc _).below hb (by first | (simp; done) | (simp; omega)))
  have HB := Lib.hid (below_call ((HB.out.alloc HB.out.size _).alloc (by have := HB.out.size; simp; omega) _) hb)
  have HX1 := Lib.hid (show Row w4 w3.heap.size 23 #[.int .i64 D, .int .i64 A, .int .i64 I] from ((Row.new _ _ _).alloc _).below hb (by first | (simp; done) | (simp; omega)))
  have HY1 := Lib.hid (show Row w4 (w3.heap.size + 1) 25 #[.int .i64 E, .int .i64 C] from (Row.made _ _ (by simp)).below hb (by first | (simp; done) | (simp; omega)))
  clear hb lHP lHG lHN
  obtain ⟨hp0, hp1, hp2⟩ := row3 HP.out
  have lHP : w.heap.size < w4.heap.size := HP.out.lt
  have lHG : (w.heap.size + 1) < w4.heap.size := HG.out.lt
  have lHN : (w.heap.size + 1 + 1) < w4.heap.size := HN.out.lt
  have lHX1 : w3.heap.size < w4.heap.size := HX1.out.lt
  have lHY1 : (w3.heap.size + 1) < w4.heap.size := HY1.out.lt
  go_wp2_with fail
  refine (sopen_any d a i s _).mono ?_
  rintro x w5 ⟨rfl, hb⟩
  rw [HO.out, HPP.out]
  have HP := Lib.hid (((HP.out.alloc _).alloc _).below hb (by first | (simp; done) | (simp; omega)))
  have HG := Lib.hid (((HG.out.alloc _).alloc _).below hb (by first | (simp; done) | (simp; omega)))
  have HN := Lib.hid (((HN.out.alloc _).alloc _).below hb (by first | (simp; done) | (simp; omega)))
  have HX1 := Lib.hid (((HX1.out.alloc _).alloc _).below hb (by first | (simp; done) | (simp; omega)))
  have HY1 := Lib.hid (((HY1.out.alloc _).alloc _).below hb (by first | (simp; done) | (simp; omega)))
  have HB := Lib.hid (below_call ((HB.out.alloc HB.out.size _).alloc (by have := HB.out.size; simp; omega) _) hb)
  have HX2 := Lib.hid (show Row w5 w4.heap.size 23 #[.int .i64 D, .int .i64 A, .int .i64 I] from ((Row.new _ _ _).alloc _).below hb (by first | (simp; done) | (simp; omega)))
  have HY2 := Lib.hid (show Row w5 (w4.heap.size + 1) 25 #[.int .i64 E, .int .i64 C] from (Row.made _ _ (by simp)).below hb (by first | (simp; done) | (simp; omega)))
  clear hb hp0 hp1 hp2 lHP lHG lHN lHX1 lHY1
  obtain ⟨hp0, hp1, hp2⟩ := row3 HP.out
  have lHP : w.heap.size < w5.heap.size := HP.out.lt
  have lHG : (w.heap.size + 1) < w5.heap.size := HG.out.lt
  have lHN : (w.heap.size + 1 + 1) < w5.heap.size := HN.out.lt
  have lHX1 : w3.heap.size < w5.heap.size := HX1.out.lt
  have lHY1 : (w3.heap.size + 1) < w5.heap.size := HY1.out.lt
  have lHX2 : w4.heap.size < w5.heap.size := HX2.out.lt
  have lHY2 : (w4.heap.size + 1) < w5.heap.size := HY2.out.lt
  go_wp2_with fail
  refine (ropen_any d a i s _).mono ?_
  rintro x w6 ⟨rfl, hb⟩
  rw [HO.out, HPP.out]
  have HP := Lib.hid ((HP.out.alloc _).below hb (by first | (simp; done) | (simp; omega)))
  have HG := Lib.hid ((HG.out.alloc _).below hb (by first | (simp; done) | (simp; omega)))
  have HN := Lib.hid ((HN.out.alloc _).below hb (by first | (simp; done) | (simp; omega)))
  have HX1 := Lib.hid ((HX1.out.alloc _).below hb (by first | (simp; done) | (simp; omega)))
  have HY1 := Lib.hid ((HY1.out.alloc _).below hb (by first | (simp; done) | (simp; omega)))
  have HX2 := Lib.hid ((HX2.out.alloc _).below hb (by first | (simp; done) | (simp; omega)))
  have HY2 := Lib.hid ((HY2.out.alloc _).below hb (by first | (simp; done) | (simp; omega)))
  have HB := Lib.hid (below_call (HB.out.alloc HB.out.size _) hb)
  have HV1 := Lib.hid (show Row w6 w5.heap.size 25 #[.int .i64 E3, .int .i64 C3] from (Row.new _ _ _).below hb (by first | (simp; done) | (simp; omega)))
  clear hb hp0 hp1 hp2 lHP lHG lHN lHX1 lHY1 lHX2 lHY2
  have lHP : w.heap.size < w6.heap.size := HP.out.lt
  have lHG : (w.heap.size + 1) < w6.heap.size := HG.out.lt
  have lHN : (w.heap.size + 1 + 1) < w6.heap.size := HN.out.lt
  have lHX1 : w3.heap.size < w6.heap.size := HX1.out.lt
  have lHY1 : (w3.heap.size + 1) < w6.heap.size := HY1.out.lt
  have lHX2 : w4.heap.size < w6.heap.size := HX2.out.lt
  have lHY2 : (w4.heap.size + 1) < w6.heap.size := HY2.out.lt
  have lHV1 : w5.heap.size < w6.heap.size := HV1.out.lt
  go_wp2_with fail
  obtain ⟨W, hW⟩ : ∃ W, W = w6.alloc (.cells #[.int .i64 E3, .int .i64 C3] 25) := ⟨_, rfl⟩
  have HP := Lib.hid (show Row W w.heap.size _ _ by rw [hW]; exact HP.out.alloc _)
  have HG := Lib.hid (show Row W (w.heap.size + 1) _ _ by rw [hW]; exact HG.out.alloc _)
  have HN := Lib.hid (show Row W (w.heap.size + 1 + 1) _ _ by rw [hW]; exact HN.out.alloc _)
  have HX1 := Lib.hid (show Row W w3.heap.size _ _ by rw [hW]; exact HX1.out.alloc _)
  have HY1 := Lib.hid (show Row W (w3.heap.size + 1) _ _ by rw [hW]; exact HY1.out.alloc _)
  have HX2 := Lib.hid (show Row W w4.heap.size _ _ by rw [hW]; exact HX2.out.alloc _)
  have HY2 := Lib.hid (show Row W (w4.heap.size + 1) _ _ by rw [hW]; exact HY2.out.alloc _)
  have HV1 := Lib.hid (show Row W w5.heap.size _ _ by rw [hW]; exact HV1.out.alloc _)
  have HV2 := Lib.hid (show Row W w6.heap.size 25 #[.int .i64 E3, .int .i64 C3] by rw [hW]; exact Row.new w6 _ _)
  have HB := Lib.hid (show Below w.heap.size w W by rw [hW]; exact HB.out.alloc HB.out.size _)
  rw [← hW]
  clear hW lHP lHG lHN lHX1 lHY1 lHX2 lHY2 lHV1
  have hss : (S.toList == S.toList) = true := by simp
  have hpp : (PP.toList == PP.toList) = true := by simp
  have hpb : (PB == PB) = true := by simp
  have hnb : (NB == NB) = true := by simp
  have H0 := keepM HP.out HG.out HN.out HX1.out HY1.out HX2.out HY2.out HV1.out HV2.out (⟨trivial, Below.refl _ _⟩ : True ∧ Below W.heap.size W W) (Below.refl _ _)
  go_region_held3 (fun wn => (wn.cell? ⟨w.heap.size, 0, none⟩ = some (.int .i64 d) ∧ wn.cell? ⟨w.heap.size, 1, none⟩ = some (.int .i64 a) ∧ wn.cell? ⟨w.heap.size, 2, none⟩ = some (.int .i64 i) ∧ wn.cell? ⟨(w.heap.size + 1), 0, none⟩ = some (.int .i64 e) ∧ wn.cell? ⟨(w.heap.size + 1), 1, none⟩ = some (.int .i64 c) ∧ wn.cell? ⟨(w.heap.size + 1 + 1), 0, none⟩ = some (.int .i64 e2) ∧ wn.cell? ⟨(w.heap.size + 1 + 1), 1, none⟩ = some (.int .i64 c2) ∧ wn.cell? ⟨w3.heap.size, 0, none⟩ = some (.int .i64 D) ∧ wn.cell? ⟨w3.heap.size, 1, none⟩ = some (.int .i64 A) ∧ wn.cell? ⟨w3.heap.size, 2, none⟩ = some (.int .i64 I) ∧ wn.cell? ⟨(w3.heap.size + 1), 0, none⟩ = some (.int .i64 E) ∧ wn.cell? ⟨(w3.heap.size + 1), 1, none⟩ = some (.int .i64 C) ∧ wn.cell? ⟨w4.heap.size, 0, none⟩ = some (.int .i64 D) ∧ wn.cell? ⟨w4.heap.size, 1, none⟩ = some (.int .i64 A) ∧ wn.cell? ⟨w4.heap.size, 2, none⟩ = some (.int .i64 I) ∧ wn.cell? ⟨(w4.heap.size + 1), 0, none⟩ = some (.int .i64 E) ∧ wn.cell? ⟨(w4.heap.size + 1), 1, none⟩ = some (.int .i64 C) ∧ wn.cell? ⟨w5.heap.size, 0, none⟩ = some (.int .i64 E3) ∧ wn.cell? ⟨w5.heap.size, 1, none⟩ = some (.int .i64 C3) ∧ wn.cell? ⟨w6.heap.size, 0, none⟩ = some (.int .i64 E3) ∧ wn.cell? ⟨w6.heap.size, 1, none⟩ = some (.int .i64 C3)) ∧ Below W.heap.size W wn) (first | exact HS | exact ⟨H0.1, below_drewN H0.2 1⟩) (first
    | (go_at_call 9; ((with_reducible refine (sanity_any _).mono ?_)); rintro x wn ⟨rfl, hb⟩; have HS := keepM HP.out HG.out HN.out HX1.out HY1.out HX2.out HY2.out HV1.out HV2.out (by assumption) hb)
    | (go_at_call 16; ((with_reducible refine (splace_any d a i _).mono ?_)); rintro x wn ⟨rfl, hb⟩; rw [HPB.out]; have HS := keepM HP.out HG.out HN.out HX1.out HY1.out HX2.out HY2.out HV1.out HV2.out (by assumption) hb)
    | (go_at_call 17; ((with_reducible refine (rplace_any d a i _).mono ?_)); rintro x wn ⟨rfl, hb⟩; rw [HPB.out]; have HS := keepM HP.out HG.out HN.out HX1.out HY1.out HX2.out HY2.out HV1.out HV2.out (by assumption) hb)
    | (go_at_call 18; ((with_reducible refine (snewer_any e c e2 c2 _).mono ?_)); rintro x wn ⟨rfl, hb⟩; rw [HNB.out]; have HS := keepM HP.out HG.out HN.out HX1.out HY1.out HX2.out HY2.out HV1.out HV2.out (by assumption) hb)
    | (go_at_call 19; ((with_reducible refine (rnewer_any e c e2 c2 _).mono ?_)); rintro x wn ⟨rfl, hb⟩; rw [HNB.out]; have HS := keepM HP.out HG.out HN.out HX1.out HY1.out HX2.out HY2.out HV1.out HV2.out (by assumption) hb))
  go_wp2_with fail
  go_ret
  exact ⟨by simp, below_call HB.out HS.2⟩
theorem walk_SectorMatchesSpec (d a i e c e2 c2 : Int) (p s : ByteArray) (w : World) {A B : Prop} (hw1 : A) (hw2 : B) :
    Calls Try.prog 3 #[.agg #[.int .i64 d, .int .i64 a, .int .i64 i], .agg #[.int .i64 e, .int .i64 c], .agg #[.int .i64 e2, .int .i64 c2], .string p, .string s] w fun x w' => x = .returned (.bool true) ∧ Below w.heap.size w w' := by
  by_cases h : 200 < (p.size : Int)
  · exact matches_out d a i e c e2 c2 p s w (.inl h)
  · by_cases h1 : 200 < (s.size : Int)
    · exact matches_out d a i e c e2 c2 p s w (.inr ⟨by omega, h1⟩)
    · exact matches_in d a i e c e2 c2 p s w (by omega) (by omega)

/-! ### the frame: the arguments opened and shut -/
theorem contract_SectorMatchesSpec (H : Type) (enc : TypeId × Value → H) (W : World) (base : Nat) (args : Array Value) (ds gs : List (DataW H)) (before : List MemPlace)
    (hval0 : ∀ (j : Nat) t v, Try.f3.params[j]? = some t → args[j]? = some v → Value.okWide Try.prog W .any base t v)
    (hW : DataW.Whole enc Try.prog Try.f3.params.toList Rows.sectorMatchesSpecSpec.vars false W args.toList ds gs before) :
    Calls Try.prog 3 args W fun e W' => ∃ v, e = .returned v ∧ Rows.sectorMatchesSpecSpec.post enc Try.prog Try.f3 false true false false W args v W' := by
  have hval : ∀ (j : Nat) t v, Try.f3.params[j]? = some t → args[j]? = some v → Value.okWide Try.prog W .any base t v := hval0
  have hW' := hW
  obtain ⟨p, q, hA0, hV, rfl, hfz, hnd⟩ := hW
  have hA : DataW.TrodAll enc Try.prog W 0 (fun _ => true) true Try.f3.params.toList args.toList ds p := hA0
  rw [Try.params3] at hA hval
  obtain ⟨v0, vs0, d0, ds0, p0, q0, hargs, rfl, rfl, h0, r0⟩ := trodAll_cons hA
  obtain ⟨v1, vs1, d1, ds1, p1, q1, rfl, rfl, rfl, h1, r1⟩ := trodAll_cons r0
  obtain ⟨v2, vs2, d2, ds2, p2, q2, rfl, rfl, rfl, h2, r2⟩ := trodAll_cons r1
  obtain ⟨v3, vs3, d3, ds3, p3, q3, rfl, rfl, rfl, h3, r3⟩ := trodAll_cons r2
  obtain ⟨v4, vs4, d4, ds4, p4, q4, rfl, rfl, rfl, h4, r4⟩ := trodAll_cons r3
  obtain ⟨rfl, rfl, rfl⟩ := trodAll_nil r4
  obtain rfl : args = #[v0, v1, v2, v3, v4] := by cases args; simp_all
  obtain ⟨rfl, rfl⟩ := trodVars_none hV
  have k0 := h0
  have lt0 : ∀ x ∈ p0, x.block < W.heap.size := by obtain ⟨m, hm⟩ := k0; exact DataW.trod_lt m _ _ _ hm
  have k1 := h1
  have lt1 : ∀ x ∈ p1, x.block < W.heap.size := by obtain ⟨m, hm⟩ := k1; exact DataW.trod_lt m _ _ _ hm
  have k2 := h2
  have lt2 : ∀ x ∈ p2, x.block < W.heap.size := by obtain ⟨m, hm⟩ := k2; exact DataW.trod_lt m _ _ _ hm
  have k3 := h3
  have lt3 : ∀ x ∈ p3, x.block < W.heap.size := by obtain ⟨m, hm⟩ := k3; exact DataW.trod_lt m _ _ _ hm
  have k4 := h4
  have lt4 : ∀ x ∈ p4, x.block < W.heap.size := by obtain ⟨m, hm⟩ := k4; exact DataW.trod_lt m _ _ _ hm
  obtain ⟨cs0, rfl, _⟩ := okWide_struct Try.underlying23 (hval 0 23 v0 rfl rfl)
  obtain ⟨fuel0, hf0⟩ := h0
  obtain ⟨d0x, a0x, j0x, hcs0, hd0x, ha0x, hj0x⟩ := open_place hf0
  obtain rfl : cs0 = #[.int .i64 d0x, .int .i64 a0x, .int .i64 j0x] := by apply Array.toList_inj.1; simpa [Value.cells] using hcs0
  obtain ⟨cs1, rfl, _⟩ := okWide_struct Try.underlying25 (hval 1 25 v1 rfl rfl)
  obtain ⟨fuel1, hf1⟩ := h1
  obtain ⟨e1x, c1x, hcs1, he1x, hc1x⟩ := open_gen hf1
  obtain rfl : cs1 = #[.int .i64 e1x, .int .i64 c1x] := by apply Array.toList_inj.1; simpa [Value.cells] using hcs1
  obtain ⟨cs2, rfl, _⟩ := okWide_struct Try.underlying25 (hval 2 25 v2 rfl rfl)
  obtain ⟨fuel2, hf2⟩ := h2
  obtain ⟨e2x, c2x, hcs2, he2x, hc2x⟩ := open_gen hf2
  obtain rfl : cs2 = #[.int .i64 e2x, .int .i64 c2x] := by apply Array.toList_inj.1; simpa [Value.cells] using hcs2
  obtain ⟨n3, rfl, rfl, rfl, w3⟩ := _root_.Go.ChangeMaps.open_string Try.underlying9 (hval 3 9 v3 rfl rfl) h3
  obtain ⟨n4, rfl, rfl, rfl, w4⟩ := _root_.Go.ChangeMaps.open_string Try.underlying9 (hval 4 9 v4 rfl rfl) h4
  refine (walk_SectorMatchesSpec d0x a0x j0x e1x c1x e2x c2x n3 n4 W w3 w4).mono fun e W' ⟨he, bel⟩ => ?_
  subst he
  exact ⟨_, rfl, _, _, _, [], _, [], hW', trodAll_mk1 (shut_bool Try.underlying4 _), (trodAll_cons_mk (Below.trod laidOut (by kernel_rfl) (of_decide_eq_true (by kernel_rfl)) k0 bel lt0) (trodAll_cons_mk (Below.trod laidOut (by kernel_rfl) (of_decide_eq_true (by kernel_rfl)) k1 bel lt1) (trodAll_cons_mk (Below.trod laidOut (by kernel_rfl) (of_decide_eq_true (by kernel_rfl)) k2 bel lt2) (trodAll_cons_mk (Below.trod laidOut (by kernel_rfl) (of_decide_eq_true (by kernel_rfl)) k3 bel lt3) (trodAll_cons_mk (Below.trod laidOut (by kernel_rfl) (of_decide_eq_true (by kernel_rfl)) k4 bel lt4) trodAll_mk0))))), rfl, bel.frame _, fun h => by cases h⟩

set_option maxRecDepth 100000 in
theorem lifted_SectorMatchesSpec (os : Os) (started : os.Started) (H : Type) (enc : TypeId × Value → H) :
    ReturnsInHanded {} Try.checked os 3 .any (Rows.sectorMatchesSpecSpec.pre6 enc Try.prog Try.f3 Rows.sectorMatchesSpecRow.domain false) (Rows.sectorMatchesSpecSpec.post enc Try.prog Try.f3 false true false false) := by
  refine returnsInHanded_of_change (C := Try.checked) own started (by kernel_rfl) Try.func3
    (ChangeSpec.witness6 (enc := enc) (C := Try.checked) false ⟨#[], #[.agg #[.int .i64 0, .int .i64 0, .int .i64 0], .agg #[.int .i64 0, .int .i64 0], .agg #[.int .i64 0, .int .i64 0], .string .empty, .string .empty], []⟩ 8 (by kernel_rfl) (by kernel_rfl) (by kernel_rfl) (by kernel_rfl)) ?_
  intro W base args ds gs before hval hW _ _
  exact contract_SectorMatchesSpec H enc W base args ds gs before hval hW

theorem proved_SectorMatchesSpec : Rows.SectorMatchesSpecSaid :=
  OpenClaim.holds_of_wide 3 Try.f3 rfl rfl rfl rfl rfl rfl rfl ⟨rfl, rfl, rfl, rfl, rfl⟩ rfl rfl rfl rfl rfl (by kernel_rfl) Try.func3 (by kernel_rfl)
    (of_decide_eq_true (by kernel_rfl)) (by unfold Func.isWrapper; first | (rw [if_pos (by decide +kernel)]; kernel_rfl) | (rw [if_neg (by decide +kernel)]; exact ⟨rfl, rfl⟩))
    (fun os started H enc _ => lifted_SectorMatchesSpec os started H enc)
end Go.Proofs.Ytdkkoogcaininaa
