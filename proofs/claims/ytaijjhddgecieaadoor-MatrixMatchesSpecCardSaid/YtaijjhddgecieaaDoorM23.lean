/- Matrices: the examples that every statement plays first: the walk. (Printed by mksan6.py.) -/
import Derived.Test.YtaijjhddgecieaaDoorM22
import Derived.Deep.DeepCutAuto
import Derived.Deep.Cut
namespace Go.Proofs.YtaijjhddgecieaaDoor
set_option linter.unusedSimpArgs false
set_option linter.unusedVariables false
open Go.RowKit Go.Lib

theorem leafA {wb w6 : World} {gp : Nat} (HC : Cells w6 gp (2 * 1) (Mat.flat 1 (Mat.prod 8 2 (lit 2 [1, 2, 3, 4]) (lit 1 [5, 6])))) (HB : Below wb.heap.size wb w6) :
    Row (w6.alloc (.cells #[.int .i64 8, .int .i64 2, .int .i64 1, .slice (some ⟨gp, 0, none⟩) 2 2] 24)) w6.heap.size 24 (matC 8 2 1 (some ⟨gp, 0, none⟩) 2 2) ∧
    Rd (w6.alloc (.cells #[.int .i64 8, .int .i64 2, .int .i64 1, .slice (some ⟨gp, 0, none⟩) 2 2] 24)) (w6.alloc (.cells #[.int .i64 8, .int .i64 2, .int .i64 1, .slice (some ⟨gp, 0, none⟩) 2 2] 24)).heap.size (some ⟨gp, 0, none⟩) (ints (natsL [9, 23])) ∧
    Below wb.heap.size wb (w6.alloc (.cells #[.int .i64 8, .int .i64 2, .int .i64 1, .slice (some ⟨gp, 0, none⟩) 2 2] 24)) :=
  ⟨Row.new _ _ _, ((s_res_mul w6 HC).alloc (Nat.le_refl _) _).more (by simp), HB.alloc HB.size _⟩
theorem leafB {wb w6 : World} {gz gp : Nat} (HZ : Row w6 gz 24 (matC 0 0 0 none 0 0)) (HC : Cells w6 gp (2 * 1) (Mat.flat 1 (Mat.prod 8 2 (lit 2 [1, 2, 3, 4]) (lit 1 [5, 6])))) (HB : Below wb.heap.size wb w6) (h1 : gp ≠ gz) (h2 : wb.heap.size ≤ gz) :
    Row ((((w6.setCell ⟨gz, 0, none⟩ (.int .i64 8)).setCell ⟨gz, 1, none⟩ (.int .i64 2)).setCell ⟨gz, 2, none⟩ (.int .i64 1)).setCell ⟨gz, 3, none⟩ (.slice (some ⟨gp, 0, none⟩) 2 2)) gz 24 (matC 8 2 1 (some ⟨gp, 0, none⟩) 2 2) ∧
    Rd ((((w6.setCell ⟨gz, 0, none⟩ (.int .i64 8)).setCell ⟨gz, 1, none⟩ (.int .i64 2)).setCell ⟨gz, 2, none⟩ (.int .i64 1)).setCell ⟨gz, 3, none⟩ (.slice (some ⟨gp, 0, none⟩) 2 2)) ((((w6.setCell ⟨gz, 0, none⟩ (.int .i64 8)).setCell ⟨gz, 1, none⟩ (.int .i64 2)).setCell ⟨gz, 2, none⟩ (.int .i64 1)).setCell ⟨gz, 3, none⟩ (.slice (some ⟨gp, 0, none⟩) 2 2)).heap.size (some ⟨gp, 0, none⟩) (ints (natsL [9, 23])) ∧
    Below wb.heap.size wb ((((w6.setCell ⟨gz, 0, none⟩ (.int .i64 8)).setCell ⟨gz, 1, none⟩ (.int .i64 2)).setCell ⟨gz, 2, none⟩ (.int .i64 1)).setCell ⟨gz, 3, none⟩ (.slice (some ⟨gp, 0, none⟩) 2 2)) :=
  ⟨(((HZ.put 0 _).put 1 _).put 2 _).put 3 _, s_res_mul _ ((((HC.far h1 _).far h1 _).far h1 _).far h1 _), (((HB.setCell h2 _).setCell h2 _).setCell h2 _).setCell h2 _⟩
set_option maxRecDepth 100000 in
set_option maxHeartbeats 12800000 in
theorem sanity6_any (w : World) (ht : Tab w) :
    Calls Tryd.prog 14 #[] w fun e w' => e = .returned (.bool true) ∧ Below w.heap.size w w' := by
  have HT := Lib.hid ht
  have hp := ht.lt
  have HB0 := Lib.hid (show Below w.heap.size w (w.alloc (.cells #[.int .i64 1, .int .i64 2, .int .i64 3, .int .i64 4] 3)) from (Below.refl _ w).alloc (Nat.le_refl _) _)
  have HD0 := Lib.hid (show Row (w.alloc (.cells #[.int .i64 1, .int .i64 2, .int .i64 3, .int .i64 4] 3)) w.heap.size 3 #[.int .i64 1, .int .i64 2, .int .i64 3, .int .i64 4] from Row.new w _ _)
  clear ht
  go_enter Tryd.func14, Tryd.ntmps14
  go_wp2_with fail
  refine (of_any 8 2 2 (some ⟨w.heap.size, 0, none⟩) 4 4 _).mono ?_
  rintro e w1 ⟨rfl, hb⟩
  have HB1 := Lib.hid (below_call HB0.out hb)
  have HD1 := Lib.hid (HD0.out.below hb HD0.out.lt)
  have hs1 := hb.size
  simp only [size1] at hs1
  clear hb HD0 HB0
  go_upto_region 2 with fail
  have hs1b : w.heap.size < w1.heap.size := by omega
  have HBX := Lib.hid (Row.new w1 24 (matC 8 2 2 (some ⟨w.heap.size, 0, none⟩) 4 4))
  have HDX := Lib.hid (HD1.out.alloc (.cells (matC 8 2 2 (some ⟨w.heap.size, 0, none⟩) 4 4) 24))
  have HBB := Lib.hid (HB1.out.alloc (by omega) (.cells (matC 8 2 2 (some ⟨w.heap.size, 0, none⟩) 4 4) 24))
  obtain ⟨wb, hwb⟩ : ∃ wb, wb = w1.alloc (.cells (matC 8 2 2 (some ⟨w.heap.size, 0, none⟩) 4 4) 24) := ⟨_, rfl⟩
  have hsb : w1.heap.size < wb.heap.size := by rw [hwb]; simp
  rw [← hwb] at HBX HDX HBB ⊢
  clear hwb HB1 HD1
  go_cut [2, 3] (fun p e wx => e = .int .i64 0 ∧ ∃ g2 gp, p = .pointer (some ⟨g2, 0, none⟩) ∧ Row wx g2 24 (matC 8 2 1 (some ⟨gp, 0, none⟩) 2 2) ∧ Rd wx wx.heap.size (some ⟨gp, 0, none⟩) (ints (natsL [9, 23])) ∧ Below wb.heap.size wb wx)
  case first =>
    have HXS := Lib.hid (fun (wn : World) (h : Below wb.heap.size wb wn) => mbox (HBX.out.below h HBX.out.lt))
    have HTB := Lib.hid (HT.out.next HBB.out)
    have HMUL := Lib.hid (fun (wn : World) (h : Below wb.heap.size wb wn) (gd : Nat) (hd : Row wn gd 3 #[.int .i64 5, .int .i64 6]) => s_call_mul wn (HTB.out.next h) w.heap.size gd (HDX.out.below h HDX.out.lt) hd)
    have LA := Lib.hid (show Row ((wb.alloc (.cells #[.int .i64 0, .int .i64 0, .int .i64 0, .slice none 0 0] 24)).alloc (.cells #[.int .i64 5, .int .i64 6] 3)).drew (wb.heap.size + 1) 3 #[.int .i64 5, .int .i64 6] ∧ Row ((wb.alloc (.cells #[.int .i64 0, .int .i64 0, .int .i64 0, .slice none 0 0] 24)).alloc (.cells #[.int .i64 5, .int .i64 6] 3)).drew wb.heap.size 24 (matC 0 0 0 none 0 0) ∧ Below wb.heap.size wb ((wb.alloc (.cells #[.int .i64 0, .int .i64 0, .int .i64 0, .slice none 0 0] 24)).alloc (.cells #[.int .i64 5, .int .i64 6] 3)).drew from
      ⟨Row.made _ _ (by simp), (Row.new wb _ _).alloc _, (((Below.refl _ _).alloc (Nat.le_refl _) _).alloc (by simp) _).drew⟩)
    have LC := Lib.hid (show Row ((wb.alloc (.cells #[.int .i64 5, .int .i64 6] 3)).alloc (.cells #[.int .i64 0, .int .i64 0, .int .i64 0, .slice none 0 0] 24)).drew wb.heap.size 3 #[.int .i64 5, .int .i64 6] ∧ Row ((wb.alloc (.cells #[.int .i64 5, .int .i64 6] 3)).alloc (.cells #[.int .i64 0, .int .i64 0, .int .i64 0, .slice none 0 0] 24)).drew (wb.heap.size + 1) 24 (matC 0 0 0 none 0 0) ∧ Below wb.heap.size wb ((wb.alloc (.cells #[.int .i64 5, .int .i64 6] 3)).alloc (.cells #[.int .i64 0, .int .i64 0, .int .i64 0, .slice none 0 0] 24)).drew from
      ⟨(Row.new wb _ _).alloc _, Row.made _ _ (by simp), (((Below.refl _ _).alloc (Nat.le_refl _) _).alloc (by simp) _).drew⟩)
    have LB := Lib.hid (show Row (wb.alloc (.cells #[.int .i64 5, .int .i64 6] 3)).drew wb.heap.size 3 #[.int .i64 5, .int .i64 6] ∧ Below wb.heap.size wb (wb.alloc (.cells #[.int .i64 5, .int .i64 6] 3)).drew from
      ⟨Row.new wb _ _, ((Below.refl _ _).alloc (Nat.le_refl _) _).drew⟩)
    go_region_held3 (fun wn => wn.cell? ⟨w1.heap.size, 0, none⟩ = some (.int .i64 8) ∧ wn.cell? ⟨w1.heap.size, 1, none⟩ = some (.int .i64 2) ∧ wn.cell? ⟨w1.heap.size, 2, none⟩ = some (.int .i64 2) ∧ wn.cell? ⟨w1.heap.size, 3, none⟩ = some (.slice (some ⟨w.heap.size, 0, none⟩) 4 4)) (first
      | with_reducible exact HXS.out _ (Below.refl _ _).drew
      | with_reducible exact HXS.out _ ((Below.refl _ _).alloc (Nat.le_refl _) _).drew
      | with_reducible exact HXS.out _ (((Below.refl _ _).alloc (Nat.le_refl _) _).alloc (by simp) _).drew
      | with_reducible exact HXS.out _ HB6.out
      | with_reducible exact HXS.out _ (HB6.out.alloc HB6.out.size _)
      | with_reducible exact HXS.out _ (leafB HZ6.out HC6.out HB6.out (by omega) (by omega)).2.2
      | with_reducible exact HXS.out _ HB5.out
      | with_reducible exact HXS.out _ (HB5.out.alloc HB5.out.size _)) (first
      | (go_at_call 21; (with_reducible refine (of_any 8 2 1 (some ⟨_, 0, none⟩) 2 2 _).mono ?_); rintro e5 w5 ⟨rfl, hb5⟩; (first
          | (with_reducible have HD5 := Lib.hid (LA.out.1.below hb5 LA.out.1.lt); have HZ5 := Lib.hid (LA.out.2.1.below hb5 LA.out.2.1.lt); have HB5 := Lib.hid (below_call LA.out.2.2 hb5); have hz5 := HZ5.out.lt)
          | (with_reducible have HD5 := Lib.hid (LC.out.1.below hb5 LC.out.1.lt); have HZ5 := Lib.hid (LC.out.2.1.below hb5 LC.out.2.1.lt); have HB5 := Lib.hid (below_call LC.out.2.2 hb5); have hz5 := HZ5.out.lt)
          | (with_reducible have HD5 := Lib.hid (LB.out.1.below hb5 LB.out.1.lt); have HB5 := Lib.hid (below_call LB.out.2 hb5))); have hs5 := HB5.out.size; clear hb5)
      | (go_at_call 16; (first
          | with_reducible refine (HMUL.out w5 HB5.out _ HD5.out).mono ?_
          | with_reducible refine (HMUL.out (w5.alloc (.cells #[.int .i64 0, .int .i64 0, .int .i64 0, .slice none 0 0] 24)) (HB5.out.alloc HB5.out.size _) _ (HD5.out.alloc _)).mono ?_); rintro e6 w6 ⟨gp, rfl, hgp, hc6, hb6⟩; (first
          | (with_reducible have HZ6 := Lib.hid (HZ5.out.below hb6 HZ5.out.lt); have HB6 := Lib.hid (below_call HB5.out hb6); obtain ⟨z0, z1, z2, z3⟩ := mbox HZ6.out; have f0 := HZ6.out.frozen 0; have f1 := HZ6.out.frozen 1; have f2 := HZ6.out.frozen 2; have f3 := HZ6.out.frozen 3)
          | (with_reducible have HZ6 := Lib.hid ((show Row (w5.alloc (.cells #[.int .i64 0, .int .i64 0, .int .i64 0, .slice none 0 0] 24)) w5.heap.size 24 (matC 0 0 0 none 0 0) from Row.new w5 _ _).below hb6 (by simp)); have HB6 := Lib.hid (below_call (HB5.out.alloc HB5.out.size _) hb6); obtain ⟨z0, z1, z2, z3⟩ := mbox HZ6.out; have f0 := HZ6.out.frozen 0; have f1 := HZ6.out.frozen 1; have f2 := HZ6.out.frozen 2; have f3 := HZ6.out.frozen 3)
          | (have HB6 := Lib.hid (below_call HB5.out hb6))); have hs6 := HB6.out.size; (try simp only [size1] at hgp); have HC6 := Lib.hid hc6; clear hb6 hc6))
    all_goals
      go_wp2_with fail
      go_meet
      refine ⟨rfl, _, gp, rfl, ?_⟩
      first
        | with_reducible exact leafA HC6.out HB6.out
        | with_reducible exact leafB HZ6.out HC6.out HB6.out (by omega) (by omega)
  case rest =>
    obtain ⟨rfl, g2, gp, rfl, hr2, hrd2, hb2⟩ := hcut
    have HT := Lib.hid (HT.out.next (HBB.out.trans (hb2.mono HBB.out.size)))
    have HW := Lib.hid (below_call HBB.out hb2)
    have HB1 := Lib.hid (HBX.out.below hb2 HBX.out.lt)
    have HA := Lib.hid (HDX.out.below hb2 HDX.out.lt)
    have HP := Lib.hid hr2
    have HPD := Lib.hid hrd2
    clear hr2 hrd2 hb2 HBB HBX HDX
    go_wp2_with fail
    refine (of_any 8 2 2 (some ⟨wc.heap.size, 0, none⟩) 4 4 _).mono ?_
    rintro e v1 ⟨rfl, hb⟩
    have hcb : Below wc.heap.size wc v1 := below_call ((Below.refl _ wc).alloc (Nat.le_refl _) _) hb
    have HT := Lib.hid (HT.out.next hcb)
    have HW := Lib.hid (below_call HW.out hcb)
    have HB1 := Lib.hid (HB1.out.below hcb HB1.out.lt)
    have HA := Lib.hid (HA.out.below hcb HA.out.lt)
    have HP := Lib.hid (HP.out.below hcb HP.out.lt)
    have HPD := Lib.hid ((HPD.out.below hcb).more hcb.size)
    have HD3n := Lib.hid ((show Row (wc.alloc (.cells #[.int .i64 1, .int .i64 1, .int .i64 1, .int .i64 1] 3)) (wc.heap.size) 3 #[.int .i64 1, .int .i64 1, .int .i64 1, .int .i64 1] from Row.made _ _ (by simp)).below hb (by simp <;> omega))
    clear hb hcb
    go_wp2_with fail
    refine (s_call_inv1 _ HT.out (wc.heap.size) HD3n.out).mono ?_
    rintro e v2 ⟨rfl, hb⟩
    have hcb : Below v1.heap.size v1 v2 := below_call (Below.refl _ v1) hb
    have HT := Lib.hid (HT.out.next hcb)
    have HW := Lib.hid (below_call HW.out hcb)
    have HB1 := Lib.hid (HB1.out.below hcb HB1.out.lt)
    have HA := Lib.hid (HA.out.below hcb HA.out.lt)
    have HP := Lib.hid (HP.out.below hcb HP.out.lt)
    have HPD := Lib.hid ((HPD.out.below hcb).more hcb.size)
    have HD3n := Lib.hid (HD3n.out.below hcb HD3n.out.lt)
    clear hb hcb
    clear HD3n
    go_wp2_with fail
    refine (of_any 8 2 2 (some ⟨v2.heap.size + 1, 0, none⟩) 4 4 _).mono ?_
    rintro e v3 ⟨rfl, hb⟩
    have hcb : Below v2.heap.size v2 v3 := below_call (((Below.refl _ v2).alloc (Nat.le_refl _) _).alloc (by simp) _) hb
    have HT := Lib.hid (HT.out.next hcb)
    have HW := Lib.hid (below_call HW.out hcb)
    have HB1 := Lib.hid (HB1.out.below hcb HB1.out.lt)
    have HA := Lib.hid (HA.out.below hcb HA.out.lt)
    have HP := Lib.hid (HP.out.below hcb HP.out.lt)
    have HPD := Lib.hid ((HPD.out.below hcb).more hcb.size)
    have HUn := Lib.hid ((show Row ((v2.alloc (.cells (matC 0 0 0 none 0 0) 24)).alloc (.cells #[.int .i64 1, .int .i64 1, .int .i64 0, .int .i64 1] 3)) (v2.heap.size + 1) 3 #[.int .i64 1, .int .i64 1, .int .i64 0, .int .i64 1] from Row.made _ _ (by simp)).below hb (by simp <;> omega))
    clear hb hcb
    go_wp2_with fail
    refine (s_call_inv2 _ (HT.out.next ((Below.refl _ _).alloc (Nat.le_refl _) _)) (v2.heap.size + 1) (HUn.out.alloc _)).mono ?_
    rintro e v4 ⟨g7, rfl, hrd, hb⟩
    have hcb : Below v3.heap.size v3 v4 := below_call ((Below.refl _ v3).alloc (Nat.le_refl _) _) hb
    have HT := Lib.hid (HT.out.next hcb)
    have HW := Lib.hid (below_call HW.out hcb)
    have HB1 := Lib.hid (HB1.out.below hcb HB1.out.lt)
    have HA := Lib.hid (HA.out.below hcb HA.out.lt)
    have HP := Lib.hid (HP.out.below hcb HP.out.lt)
    have HPD := Lib.hid ((HPD.out.below hcb).more hcb.size)
    have HUn := Lib.hid (HUn.out.below hcb HUn.out.lt)
    have HB6n := Lib.hid ((show Row (v3.alloc (.cells (matC 8 2 2 (some ⟨v2.heap.size + 1, 0, none⟩) 4 4) 24)) (v3.heap.size) 24 (matC 8 2 2 (some ⟨v2.heap.size + 1, 0, none⟩) 4 4) from Row.made _ _ (by simp)).below hb (by simp <;> omega))
    have HVD := Lib.hid hrd
    clear hrd
    clear hb hcb
    go_wp2_with fail
    refine (of_any 8 1 2 (some ⟨v4.heap.size + 1, 0, none⟩) 2 2 _).mono ?_
    rintro e v5 ⟨rfl, hb⟩
    have hcb : Below v4.heap.size v4 v5 := below_call (((Below.refl _ v4).alloc (Nat.le_refl _) _).alloc (by simp) _) hb
    have HT := Lib.hid (HT.out.next hcb)
    have HW := Lib.hid (below_call HW.out hcb)
    have HB1 := Lib.hid (HB1.out.below hcb HB1.out.lt)
    have HA := Lib.hid (HA.out.below hcb HA.out.lt)
    have HP := Lib.hid (HP.out.below hcb HP.out.lt)
    have HPD := Lib.hid ((HPD.out.below hcb).more hcb.size)
    have HUn := Lib.hid (HUn.out.below hcb HUn.out.lt)
    have HB6n := Lib.hid (HB6n.out.below hcb HB6n.out.lt)
    have HVD := Lib.hid ((HVD.out.below hcb).more hcb.size)
    have HB7n := Lib.hid (((show Row (v4.alloc (.cells (matC 8 2 2 (some ⟨g7, 0, none⟩) 4 4) 24)) (v4.heap.size) 24 (matC 8 2 2 (some ⟨g7, 0, none⟩) 4 4) from Row.made _ _ (by simp)).alloc _).below hb (by simp <;> omega))
    have HX1n := Lib.hid ((show Row ((v4.alloc (.cells (matC 8 2 2 (some ⟨g7, 0, none⟩) 4 4) 24)).alloc (.cells #[.int .i64 1, .int .i64 1] 3)) (v4.heap.size + 1) 3 #[.int .i64 1, .int .i64 1] from Row.made _ _ (by simp)).below hb (by simp <;> omega))
    clear hb hcb
    go_wp2_with fail
    refine (of_any 8 1 1 (some ⟨v5.heap.size, 0, none⟩) 1 1 _).mono ?_
    rintro e v6 ⟨rfl, hb⟩
    have hcb : Below v5.heap.size v5 v6 := below_call ((Below.refl _ v5).alloc (Nat.le_refl _) _) hb
    have HT := Lib.hid (HT.out.next hcb)
    have HW := Lib.hid (below_call HW.out hcb)
    have HB1 := Lib.hid (HB1.out.below hcb HB1.out.lt)
    have HA := Lib.hid (HA.out.below hcb HA.out.lt)
    have HP := Lib.hid (HP.out.below hcb HP.out.lt)
    have HPD := Lib.hid ((HPD.out.below hcb).more hcb.size)
    have HUn := Lib.hid (HUn.out.below hcb HUn.out.lt)
    have HB6n := Lib.hid (HB6n.out.below hcb HB6n.out.lt)
    have HVD := Lib.hid ((HVD.out.below hcb).more hcb.size)
    have HB7n := Lib.hid (HB7n.out.below hcb HB7n.out.lt)
    have HX1n := Lib.hid (HX1n.out.below hcb HX1n.out.lt)
    have HX2n := Lib.hid ((show Row (v5.alloc (.cells #[.int .i64 7] 3)) (v5.heap.size) 3 #[.int .i64 7] from Row.made _ _ (by simp)).below hb (by simp <;> omega))
    clear hb hcb
    go_wp2_with fail
    refine (s_call_sol1 _ HT.out (v4.heap.size + 1) (v5.heap.size) HX1n.out HX2n.out).mono ?_
    rintro e v7 ⟨g9, rfl, hrd, hb⟩
    have hcb : Below v6.heap.size v6 v7 := below_call (Below.refl _ v6) hb
    have HT := Lib.hid (HT.out.next hcb)
    have HW := Lib.hid (below_call HW.out hcb)
    have HB1 := Lib.hid (HB1.out.below hcb HB1.out.lt)
    have HA := Lib.hid (HA.out.below hcb HA.out.lt)
    have HP := Lib.hid (HP.out.below hcb HP.out.lt)
    have HPD := Lib.hid ((HPD.out.below hcb).more hcb.size)
    have HUn := Lib.hid (HUn.out.below hcb HUn.out.lt)
    have HB6n := Lib.hid (HB6n.out.below hcb HB6n.out.lt)
    have HVD := Lib.hid ((HVD.out.below hcb).more hcb.size)
    have HB7n := Lib.hid (HB7n.out.below hcb HB7n.out.lt)
    have HX1n := Lib.hid (HX1n.out.below hcb HX1n.out.lt)
    have HX2n := Lib.hid (HX2n.out.below hcb HX2n.out.lt)
    have HXD := Lib.hid hrd
    clear hrd
    clear hb hcb
    clear HX1n
    clear HX2n
    go_wp2_with fail
    refine (of_any 8 2 1 (some ⟨v7.heap.size + 1, 0, none⟩) 2 2 _).mono ?_
    rintro e v8 ⟨rfl, hb⟩
    have hcb : Below v7.heap.size v7 v8 := below_call (((Below.refl _ v7).alloc (Nat.le_refl _) _).alloc (by simp) _) hb
    have HT := Lib.hid (HT.out.next hcb)
    have HW := Lib.hid (below_call HW.out hcb)
    have HB1 := Lib.hid (HB1.out.below hcb HB1.out.lt)
    have HA := Lib.hid (HA.out.below hcb HA.out.lt)
    have HP := Lib.hid (HP.out.below hcb HP.out.lt)
    have HPD := Lib.hid ((HPD.out.below hcb).more hcb.size)
    have HUn := Lib.hid (HUn.out.below hcb HUn.out.lt)
    have HB6n := Lib.hid (HB6n.out.below hcb HB6n.out.lt)
    have HVD := Lib.hid ((HVD.out.below hcb).more hcb.size)
    have HB7n := Lib.hid (HB7n.out.below hcb HB7n.out.lt)
    have HXD := Lib.hid ((HXD.out.below hcb).more hcb.size)
    have HB9n := Lib.hid (((show Row (v7.alloc (.cells (matC 8 2 1 (some ⟨g9, 0, none⟩) 2 2) 24)) (v7.heap.size) 24 (matC 8 2 1 (some ⟨g9, 0, none⟩) 2 2) from Row.made _ _ (by simp)).alloc _).below hb (by simp <;> omega))
    have HX1n := Lib.hid ((show Row ((v7.alloc (.cells (matC 8 2 1 (some ⟨g9, 0, none⟩) 2 2) 24)).alloc (.cells #[.int .i64 1, .int .i64 1] 3)) (v7.heap.size + 1) 3 #[.int .i64 1, .int .i64 1] from Row.made _ _ (by simp)).below hb (by simp <;> omega))
    clear hb hcb
    go_wp2_with fail
    refine (of_any 8 2 1 (some ⟨v8.heap.size, 0, none⟩) 2 2 _).mono ?_
    rintro e v9 ⟨rfl, hb⟩
    have hcb : Below v8.heap.size v8 v9 := below_call ((Below.refl _ v8).alloc (Nat.le_refl _) _) hb
    have HT := Lib.hid (HT.out.next hcb)
    have HW := Lib.hid (below_call HW.out hcb)
    have HB1 := Lib.hid (HB1.out.below hcb HB1.out.lt)
    have HA := Lib.hid (HA.out.below hcb HA.out.lt)
    have HP := Lib.hid (HP.out.below hcb HP.out.lt)
    have HPD := Lib.hid ((HPD.out.below hcb).more hcb.size)
    have HUn := Lib.hid (HUn.out.below hcb HUn.out.lt)
    have HB6n := Lib.hid (HB6n.out.below hcb HB6n.out.lt)
    have HVD := Lib.hid ((HVD.out.below hcb).more hcb.size)
    have HB7n := Lib.hid (HB7n.out.below hcb HB7n.out.lt)
    have HXD := Lib.hid ((HXD.out.below hcb).more hcb.size)
    have HB9n := Lib.hid (HB9n.out.below hcb HB9n.out.lt)
    have HX1n := Lib.hid (HX1n.out.below hcb HX1n.out.lt)
    have HX2n := Lib.hid ((show Row (v8.alloc (.cells #[.int .i64 1, .int .i64 2] 3)) (v8.heap.size) 3 #[.int .i64 1, .int .i64 2] from Row.made _ _ (by simp)).below hb (by simp <;> omega))
    clear hb hcb
    go_wp2_with fail
    refine (s_call_sol2 _ HT.out (v7.heap.size + 1) (v8.heap.size) HX1n.out HX2n.out).mono ?_
    rintro e v10 ⟨rfl, hb⟩
    have hcb : Below v9.heap.size v9 v10 := below_call (Below.refl _ v9) hb
    have HT := Lib.hid (HT.out.next hcb)
    have HW := Lib.hid (below_call HW.out hcb)
    have HB1 := Lib.hid (HB1.out.below hcb HB1.out.lt)
    have HA := Lib.hid (HA.out.below hcb HA.out.lt)
    have HP := Lib.hid (HP.out.below hcb HP.out.lt)
    have HPD := Lib.hid ((HPD.out.below hcb).more hcb.size)
    have HUn := Lib.hid (HUn.out.below hcb HUn.out.lt)
    have HB6n := Lib.hid (HB6n.out.below hcb HB6n.out.lt)
    have HVD := Lib.hid ((HVD.out.below hcb).more hcb.size)
    have HB7n := Lib.hid (HB7n.out.below hcb HB7n.out.lt)
    have HXD := Lib.hid ((HXD.out.below hcb).more hcb.size)
    have HB9n := Lib.hid (HB9n.out.below hcb HB9n.out.lt)
    have HX1n := Lib.hid (HX1n.out.below hcb HX1n.out.lt)
    have HX2n := Lib.hid (HX2n.out.below hcb HX2n.out.lt)
    clear hb hcb
    clear HX1n
    clear HX2n
    go_wp2_with fail
    refine (of_any 8 2 2 (some ⟨v10.heap.size + 1, 0, none⟩) 4 4 _).mono ?_
    rintro e v11 ⟨rfl, hb⟩
    have hcb : Below v10.heap.size v10 v11 := below_call (((Below.refl _ v10).alloc (Nat.le_refl _) _).alloc (by simp) _) hb
    have HT := Lib.hid (HT.out.next hcb)
    have HW := Lib.hid (below_call HW.out hcb)
    have HB1 := Lib.hid (HB1.out.below hcb HB1.out.lt)
    have HA := Lib.hid (HA.out.below hcb HA.out.lt)
    have HP := Lib.hid (HP.out.below hcb HP.out.lt)
    have HPD := Lib.hid ((HPD.out.below hcb).more hcb.size)
    have HUn := Lib.hid (HUn.out.below hcb HUn.out.lt)
    have HB6n := Lib.hid (HB6n.out.below hcb HB6n.out.lt)
    have HVD := Lib.hid ((HVD.out.below hcb).more hcb.size)
    have HB7n := Lib.hid (HB7n.out.below hcb HB7n.out.lt)
    have HXD := Lib.hid ((HXD.out.below hcb).more hcb.size)
    have HB9n := Lib.hid (HB9n.out.below hcb HB9n.out.lt)
    have HX1n := Lib.hid ((show Row ((v10.alloc (.cells (matC 0 0 0 none 0 0) 24)).alloc (.cells #[.int .i64 1, .int .i64 2, .int .i64 2, .int .i64 4] 3)) (v10.heap.size + 1) 3 #[.int .i64 1, .int .i64 2, .int .i64 2, .int .i64 4] from Row.made _ _ (by simp)).below hb (by simp <;> omega))
    clear hb hcb
    go_wp2_with fail
    refine (s_call_rank _ HT.out (v10.heap.size + 1) HX1n.out).mono ?_
    rintro e v12 ⟨rfl, hb⟩
    have hcb : Below v11.heap.size v11 v12 := below_call (Below.refl _ v11) hb
    have HT := Lib.hid (HT.out.next hcb)
    have HW := Lib.hid (below_call HW.out hcb)
    have HB1 := Lib.hid (HB1.out.below hcb HB1.out.lt)
    have HA := Lib.hid (HA.out.below hcb HA.out.lt)
    have HP := Lib.hid (HP.out.below hcb HP.out.lt)
    have HPD := Lib.hid ((HPD.out.below hcb).more hcb.size)
    have HUn := Lib.hid (HUn.out.below hcb HUn.out.lt)
    have HB6n := Lib.hid (HB6n.out.below hcb HB6n.out.lt)
    have HVD := Lib.hid ((HVD.out.below hcb).more hcb.size)
    have HB7n := Lib.hid (HB7n.out.below hcb HB7n.out.lt)
    have HXD := Lib.hid ((HXD.out.below hcb).more hcb.size)
    have HB9n := Lib.hid (HB9n.out.below hcb HB9n.out.lt)
    have HX1n := Lib.hid (HX1n.out.below hcb HX1n.out.lt)
    clear hb hcb
    clear HX1n
    go_wp2_with fail
    refine (of_any 8 4 2 (some ⟨v12.heap.size, 0, none⟩) 8 8 _).mono ?_
    rintro e v13 ⟨rfl, hb⟩
    have hcb : Below v12.heap.size v12 v13 := below_call ((Below.refl _ v12).alloc (Nat.le_refl _) _) hb
    have HT := Lib.hid (HT.out.next hcb)
    have HW := Lib.hid (below_call HW.out hcb)
    have HB1 := Lib.hid (HB1.out.below hcb HB1.out.lt)
    have HA := Lib.hid (HA.out.below hcb HA.out.lt)
    have HP := Lib.hid (HP.out.below hcb HP.out.lt)
    have HPD := Lib.hid ((HPD.out.below hcb).more hcb.size)
    have HUn := Lib.hid (HUn.out.below hcb HUn.out.lt)
    have HB6n := Lib.hid (HB6n.out.below hcb HB6n.out.lt)
    have HVD := Lib.hid ((HVD.out.below hcb).more hcb.size)
    have HB7n := Lib.hid (HB7n.out.below hcb HB7n.out.lt)
    have HXD := Lib.hid ((HXD.out.below hcb).more hcb.size)
    have HB9n := Lib.hid (HB9n.out.below hcb HB9n.out.lt)
    have HX2n := Lib.hid ((show Row (v12.alloc (.cells #[.int .i64 0, .int .i64 0, .int .i64 1, .int .i64 1, .int .i64 2, .int .i64 2, .int .i64 0, .int .i64 3] 3)) (v12.heap.size) 3 #[.int .i64 0, .int .i64 0, .int .i64 1, .int .i64 1, .int .i64 2, .int .i64 2, .int .i64 0, .int .i64 3] from Row.made _ _ (by simp)).below hb (by simp <;> omega))
    clear hb hcb
    go_wp2_with fail
    refine (s_call_indep _ HT.out (v12.heap.size) HX2n.out).mono ?_
    rintro e v14 ⟨qi, ki, rfl, hrd, hb⟩
    have hcb : Below v13.heap.size v13 v14 := below_call (Below.refl _ v13) hb
    have HT := Lib.hid (HT.out.next hcb)
    have HW := Lib.hid (below_call HW.out hcb)
    have HB1 := Lib.hid (HB1.out.below hcb HB1.out.lt)
    have HA := Lib.hid (HA.out.below hcb HA.out.lt)
    have HP := Lib.hid (HP.out.below hcb HP.out.lt)
    have HPD := Lib.hid ((HPD.out.below hcb).more hcb.size)
    have HUn := Lib.hid (HUn.out.below hcb HUn.out.lt)
    have HB6n := Lib.hid (HB6n.out.below hcb HB6n.out.lt)
    have HVD := Lib.hid ((HVD.out.below hcb).more hcb.size)
    have HB7n := Lib.hid (HB7n.out.below hcb HB7n.out.lt)
    have HXD := Lib.hid ((HXD.out.below hcb).more hcb.size)
    have HB9n := Lib.hid (HB9n.out.below hcb HB9n.out.lt)
    have HX2n := Lib.hid (HX2n.out.below hcb HX2n.out.lt)
    have HID := Lib.hid hrd
    clear hrd
    clear hb hcb
    clear HX2n
    go_wp2_with fail
    refine (s_call_ints _ qi (some ⟨v14.heap.size, 0, none⟩) 2 ki 2 [1, 3] rfl (by decide) ((HID.out.alloc (Nat.le_refl _) _).more (by simp)) (lit_rd [1, 3] (show Row (v14.alloc (.cells #[.int .i64 1, .int .i64 3] 3)) v14.heap.size 3 #[.int .i64 1, .int .i64 3] from Row.new _ _ _) _ (by simp))).mono ?_
    rintro e v15 ⟨rfl, hb⟩
    have hcb : Below v14.heap.size v14 v15 := below_call ((Below.refl _ v14).alloc (Nat.le_refl _) _) hb
    have HT := Lib.hid (HT.out.next hcb)
    have HW := Lib.hid (below_call HW.out hcb)
    have HB1 := Lib.hid (HB1.out.below hcb HB1.out.lt)
    have HA := Lib.hid (HA.out.below hcb HA.out.lt)
    have HP := Lib.hid (HP.out.below hcb HP.out.lt)
    have HPD := Lib.hid ((HPD.out.below hcb).more hcb.size)
    have HUn := Lib.hid (HUn.out.below hcb HUn.out.lt)
    have HB6n := Lib.hid (HB6n.out.below hcb HB6n.out.lt)
    have HVD := Lib.hid ((HVD.out.below hcb).more hcb.size)
    have HB7n := Lib.hid (HB7n.out.below hcb HB7n.out.lt)
    have HXD := Lib.hid ((HXD.out.below hcb).more hcb.size)
    have HB9n := Lib.hid (HB9n.out.below hcb HB9n.out.lt)
    have HID := Lib.hid ((HID.out.below hcb).more hcb.size)
    clear hb hcb
    clear HID
    go_wp2_with fail
    have HXS := Lib.hid (fun (wn : World) (h : Below v15.heap.size v15 wn) => (⟨mbox (HB1.out.below h HB1.out.lt), mbox (HP.out.below h HP.out.lt), mbox (HB6n.out.below h HB6n.out.lt), mbox (HB7n.out.below h HB7n.out.lt), mbox (HB9n.out.below h HB9n.out.lt)⟩ : (wn.cell? ⟨w1.heap.size, 0, none⟩ = some (.int .i64 8) ∧ wn.cell? ⟨w1.heap.size, 1, none⟩ = some (.int .i64 2) ∧ wn.cell? ⟨w1.heap.size, 2, none⟩ = some (.int .i64 2) ∧ wn.cell? ⟨w1.heap.size, 3, none⟩ = some (.slice (some ⟨w.heap.size, 0, none⟩) 4 4)) ∧ (wn.cell? ⟨g2, 0, none⟩ = some (.int .i64 8) ∧ wn.cell? ⟨g2, 1, none⟩ = some (.int .i64 2) ∧ wn.cell? ⟨g2, 2, none⟩ = some (.int .i64 1) ∧ wn.cell? ⟨g2, 3, none⟩ = some (.slice (some ⟨gp, 0, none⟩) 2 2)) ∧ (wn.cell? ⟨v3.heap.size, 0, none⟩ = some (.int .i64 8) ∧ wn.cell? ⟨v3.heap.size, 1, none⟩ = some (.int .i64 2) ∧ wn.cell? ⟨v3.heap.size, 2, none⟩ = some (.int .i64 2) ∧ wn.cell? ⟨v3.heap.size, 3, none⟩ = some (.slice (some ⟨v2.heap.size + 1, 0, none⟩) 4 4)) ∧ (wn.cell? ⟨v4.heap.size, 0, none⟩ = some (.int .i64 8) ∧ wn.cell? ⟨v4.heap.size, 1, none⟩ = some (.int .i64 2) ∧ wn.cell? ⟨v4.heap.size, 2, none⟩ = some (.int .i64 2) ∧ wn.cell? ⟨v4.heap.size, 3, none⟩ = some (.slice (some ⟨g7, 0, none⟩) 4 4)) ∧ (wn.cell? ⟨v7.heap.size, 0, none⟩ = some (.int .i64 8) ∧ wn.cell? ⟨v7.heap.size, 1, none⟩ = some (.int .i64 2) ∧ wn.cell? ⟨v7.heap.size, 2, none⟩ = some (.int .i64 1) ∧ wn.cell? ⟨v7.heap.size, 3, none⟩ = some (.slice (some ⟨g9, 0, none⟩) 2 2))))
    go_region_held3 (fun wn => (wn.cell? ⟨w1.heap.size, 0, none⟩ = some (.int .i64 8) ∧ wn.cell? ⟨w1.heap.size, 1, none⟩ = some (.int .i64 2) ∧ wn.cell? ⟨w1.heap.size, 2, none⟩ = some (.int .i64 2) ∧ wn.cell? ⟨w1.heap.size, 3, none⟩ = some (.slice (some ⟨w.heap.size, 0, none⟩) 4 4)) ∧ (wn.cell? ⟨g2, 0, none⟩ = some (.int .i64 8) ∧ wn.cell? ⟨g2, 1, none⟩ = some (.int .i64 2) ∧ wn.cell? ⟨g2, 2, none⟩ = some (.int .i64 1) ∧ wn.cell? ⟨g2, 3, none⟩ = some (.slice (some ⟨gp, 0, none⟩) 2 2)) ∧ (wn.cell? ⟨v3.heap.size, 0, none⟩ = some (.int .i64 8) ∧ wn.cell? ⟨v3.heap.size, 1, none⟩ = some (.int .i64 2) ∧ wn.cell? ⟨v3.heap.size, 2, none⟩ = some (.int .i64 2) ∧ wn.cell? ⟨v3.heap.size, 3, none⟩ = some (.slice (some ⟨v2.heap.size + 1, 0, none⟩) 4 4)) ∧ (wn.cell? ⟨v4.heap.size, 0, none⟩ = some (.int .i64 8) ∧ wn.cell? ⟨v4.heap.size, 1, none⟩ = some (.int .i64 2) ∧ wn.cell? ⟨v4.heap.size, 2, none⟩ = some (.int .i64 2) ∧ wn.cell? ⟨v4.heap.size, 3, none⟩ = some (.slice (some ⟨g7, 0, none⟩) 4 4)) ∧ (wn.cell? ⟨v7.heap.size, 0, none⟩ = some (.int .i64 8) ∧ wn.cell? ⟨v7.heap.size, 1, none⟩ = some (.int .i64 2) ∧ wn.cell? ⟨v7.heap.size, 2, none⟩ = some (.int .i64 1) ∧ wn.cell? ⟨v7.heap.size, 3, none⟩ = some (.slice (some ⟨g9, 0, none⟩) 2 2))) (first | with_reducible exact HXS.out _ K1.out | with_reducible exact HXS.out _ K2.out | with_reducible exact HXS.out _ K3.out | with_reducible exact HXS.out _ K4.out | with_reducible exact HXS.out _ K5.out | with_reducible exact HXS.out _ K6.out | with_reducible exact HXS.out _ K7.out | with_reducible exact HXS.out _ K8.out | with_reducible exact HXS.out _ K9.out | with_reducible exact HXS.out _ (K3.out.alloc K3.out.size _) | with_reducible exact HXS.out _ ((Below.refl _ _).alloc (Nat.le_refl _) _).drew | with_reducible exact HXS.out _ (Below.refl _ _).drew) (first
      | (go_at_call 21; (with_reducible refine (of_any 8 2 1 (some ⟨v15.heap.size, 0, none⟩) 2 2 _).mono ?_); rintro e1 x1 ⟨rfl, hx1⟩; have K1 := Lib.hid (show Below v15.heap.size v15 x1 from below_call ((Below.refl _ _).alloc (Nat.le_refl _) _).drew hx1); have J1 := Lib.hid ((show Row (v15.alloc (.cells #[.int .i64 9, .int .i64 23] 3)).drew v15.heap.size 3 #[.int .i64 9, .int .i64 23] from Row.new v15 _ _).below hx1 (by simp)); clear hx1)
      | (go_at_call 15; (with_reducible refine (s_call_same _ 2 1 (some ⟨gp, 0, none⟩) (some ⟨v15.heap.size, 0, none⟩) 2 [9, 23] rfl (by decide) ((HPD.out.below K1.out).more K1.out.size) (lit_rd [9, 23] J1.out _ J1.out.lt)).mono ?_); rintro e2 x2 ⟨rfl, hx2⟩; have K2 := Lib.hid (show Below v15.heap.size v15 x2 from below_call K1.out hx2); clear hx2)
      | (go_at_call 15; (with_reducible refine (s_call_same _ 2 2 (some ⟨g7, 0, none⟩) (some ⟨v2.heap.size + 1, 0, none⟩) 4 [1, 1, 0, 1] rfl (by decide) ((HVD.out.below K2.out).more K2.out.size) (lit_rd [1, 1, 0, 1] (HUn.out.below K2.out HUn.out.lt) _ (by have h9 := HUn.out.lt; have h8 := K2.out.size; omega))).mono ?_); rintro e3 x3 ⟨rfl, hx3⟩; have K3 := Lib.hid (show Below v15.heap.size v15 x3 from below_call K2.out hx3); clear hx3)
      | (go_at_call 21; (with_reducible refine (of_any 8 2 1 (some ⟨x3.heap.size, 0, none⟩) 2 2 _).mono ?_); rintro e4 x4 ⟨rfl, hx4⟩; have K4 := Lib.hid (show Below v15.heap.size v15 x4 from below_call (K3.out.alloc K3.out.size _) hx4); have J4 := Lib.hid ((show Row (x3.alloc (.cells #[.int .i64 7, .int .i64 0] 3)) x3.heap.size 3 #[.int .i64 7, .int .i64 0] from Row.new x3 _ _).below hx4 (by simp)); clear hx4)
      | (go_at_call 15; (with_reducible refine (s_call_same _ 2 1 (some ⟨g9, 0, none⟩) (some ⟨x3.heap.size, 0, none⟩) 2 [7, 0] rfl (by decide) ((HXD.out.below K4.out).more K4.out.size) (lit_rd [7, 0] J4.out _ J4.out.lt)).mono ?_); rintro e5 x5 ⟨rfl, hx5⟩; have K5 := Lib.hid (show Below v15.heap.size v15 x5 from below_call K4.out hx5); clear hx5)
      | (go_at_call 28; (with_reducible refine (s_call_valid _ w.heap.size (HA.out.below K5.out HA.out.lt)).mono ?_); rintro e6 x6 ⟨rfl, hx6⟩; have K6 := Lib.hid (show Below v15.heap.size v15 x6 from below_call K5.out hx6); clear hx6)
      | (go_at_call 21; (with_reducible refine (of_any 8 2 2 none 0 0 _).mono ?_); rintro e7 x7 ⟨rfl, hx7⟩; have K7 := Lib.hid (show Below v15.heap.size v15 x7 from below_call K6.out hx7); clear hx7)
      | (go_at_call 28; (with_reducible refine (s_call_invalid _).mono ?_); rintro e8 x8 ⟨rfl, hx8⟩; have K8 := Lib.hid (show Below v15.heap.size v15 x8 from below_call K7.out hx8); clear hx8)
      | (go_at_call 29; (with_reducible refine (s_call_at _ w.heap.size (HA.out.below K8.out HA.out.lt)).mono ?_); rintro e9 x9 ⟨rfl, hx9⟩; have K9 := Lib.hid (show Below v15.heap.size v15 x9 from below_call K8.out hx9); clear hx9))
    go_wp2
    go_ret
    exact ⟨rfl, below_call HW.out K9.out⟩
end Go.Proofs.YtaijjhddgecieaaDoor
