/- Schedules: the specification's Sets. Schedules: the specification's SameTexts and plane. Schedules: the specification's plane at m = 16. -/
import Derived.Test.YtghinmlpkgcdiaaDoorXS
import Derived.Test.YtghinmlpkgcdiaaDoorOwnO
import Derived.Deep.RegionHeld3
import Derived.Test.YtghinmlpkgcdiaaDoorXR
/-! Schedules: the specification's Sets. -/
namespace Go.Proofs.YtghinmlpkgcdiaaDoor
set_option linter.unusedSimpArgs false
set_option linter.unusedVariables false
open Go.RowKit Go.Lib

/-- what is kept while an operation's set is made -/
abbrev KS (bx : Nat) (vo : Value) (bo oo : Nat) (X Y : Nat) (g : Nat) (v1 v2 : Value) (w0 wn : World) : Prop :=
  wn.cell? ⟨bx, 3, none⟩ = some vo ∧ wn.cell? ⟨bo, oo, none⟩ = some (.int .i64 (X : Int)) ∧ wn.cell? ⟨bo, oo + 1, none⟩ = some (.int .i64 (Y : Int)) ∧ wn.cell? ⟨g, X, none⟩ = some v1 ∧ wn.cell? ⟨g, Y, none⟩ = some v2 ∧ Below w0.heap.size w0 wn
section
variable {bx : Nat} {vo : Value} {bo oo X Y g : Nat} {v1 v2 : Value} {w0 wn w' : World}
theorem KS.next (h : KS bx vo bo oo X Y g v1 v2 w0 wn) (hx : bx < w0.heap.size) (ho : bo < w0.heap.size) (hb : Below w0.heap.size wn w') (h1 : w'.cell? ⟨g, X, none⟩ = some v1) (h2 : w'.cell? ⟨g, Y, none⟩ = some v2) : KS bx vo bo oo X Y g v1 v2 w0 w' := by
  obtain ⟨a, b, c, d, e, f⟩ := h
  exact ⟨(hb.cell (p := ⟨bx, 3, none⟩) hx).trans a, (hb.cell (p := ⟨bo, oo, none⟩) ho).trans b, (hb.cell (p := ⟨bo, oo + 1, none⟩) ho).trans c, h1, h2, f.trans hb⟩
theorem KS.drew (h : KS bx vo bo oo X Y g v1 v2 w0 wn) : KS bx vo bo oo X Y g v1 v2 w0 wn.drew := ⟨h.1, h.2.1, h.2.2.1, h.2.2.2.1, h.2.2.2.2.1, h.2.2.2.2.2.drew⟩
theorem KS.below (h : KS bx vo bo oo X Y g v1 v2 w0 wn) (hx : bx < w0.heap.size) (ho : bo < w0.heap.size) (hg : g < wn.heap.size) (hs : w0.heap.size ≤ wn.heap.size) (hb : Below wn.heap.size wn w') : KS bx vo bo oo X Y g v1 v2 w0 w' :=
  KS.next h hx ho (hb.mono hs) ((hb.cell (p := ⟨g, X, none⟩) hg).trans h.2.2.2.1) ((hb.cell (p := ⟨g, Y, none⟩) hg).trans h.2.2.2.2.1)
end
theorem setV_one (w : World) (t : Nat) (e2 : TypeId) (cs2 : Array Value) : SetV ((w.alloc (.cells #[.int .i64 (t : Int)] 3)).alloc (.cells cs2 e2)) (.slice (some ⟨w.heap.size, 0, none⟩) 1 1) [t] := by
  refine ⟨_, 1, rfl, by simp, fun _ => ⟨w.heap.size, #[.int .i64 (t : Int)], rfl, (Row.new w _ _).alloc _, fun p u hu => ?_⟩⟩
  rw [← hu, ← Array.getElem?_toList]; rfl
theorem ones_take (t : Nat) : (List.range (t + 1)).map (fun i => [i]) = (List.range t).map (fun i => [i]) ++ [[t]] := by
  rw [List.range_succ, List.map_append]; rfl
theorem ones_all (n : Nat) : (List.range n).map (fun i => [i]) = (Xp.inputs n).map (Xp.setOf n) := by
  unfold Xp.inputs
  rw [List.map_map]
  apply List.map_congr_left
  intro i hi
  exact (Xp.setOf_one (List.mem_range.1 hi)).symm
set_option maxRecDepth 100000 in
theorem ssets_no (f d p : Int) (qo : Option Addr) (no ko : Nat) (qx : Option Addr) (nx kx : Nat) (ops : List (Int × Int)) (out : List Int) (w : World) (hno : no ≤ 9223372036854775807) (hnx : nx ≤ 9223372036854775807)
    (hlo : ops.length = no) (hro : Rd w w.heap.size qo (opsC ops)) (hlx : out.length = nx) (hrx : Rd w w.heap.size qx (ints out)) (h : Xp.okS f d p ops out = false) :
    Calls Tryd.prog 19 #[schV f d p qo no ko qx nx kx] w fun e w' => e = .returned (.tuple #[.slice none 0 0, .int .i64 1]) ∧ Below w.heap.size w w' := by
  have HV := Lib.hid (fun (W : World) (hb : Below w.heap.size w W) => svalid_any f d p qo no ko qx nx kx ops out W hno hnx hlo ((hro.below hb).more hb.size) hlx ((hrx.below hb).more hb.size))
  rw [h] at HV
  unfold schV at HV ⊢
  have HW : Hid (Below w.heap.size w (w.alloc (.cells (schC f d p qo no ko qx nx kx) 30))) := Lib.hid ((Below.refl _ w).alloc (Nat.le_refl _) _)
  clear hlo hro hlx hrx h
  go_enter Tryd.func19, Tryd.ntmps19
  go_wp2_with fail
  refine (HV.out _ HW.out).mono ?_
  rintro e w1 ⟨rfl, hb⟩
  have HB1 := Lib.hid (below_call HW.out hb)
  clear hb
  go_wp2
  refine bodyPost_ret (v := .tuple #[.slice none 0 0, .int .i64 1]) ?_ rfl ⟨rfl, HB1.out⟩
  rw [results_tmp2 rfl]; rfl
set_option maxRecDepth 100000 in
set_option maxHeartbeats 12800000 in
theorem ssets_yes {m : Nat} (hm : Fld.IsM m) (d p : Int) (qo : Option Addr) (no ko : Nat) (qx : Option Addr) (nx kx n : Nat) (ops : List (Int × Int)) (out : List Int) (w : World) (hno : no ≤ 131072)
    (hlo : ops.length = no) (hro : Rd w w.heap.size qo (opsC ops)) (hlx : out.length = nx) (hrx : Rd w w.heap.size qx (ints out)) (h : Xp.okS m d p ops out = true) (hn : d * (m : Int) = n) (hn1 : 1 ≤ n) (hnn : n ≤ 512) :
    Calls Tryd.prog 19 #[schV m d p qo no ko qx nx kx] w fun e w' => (∃ q k vs, e = .returned (.tuple #[.slice q nx k, .int .i64 0]) ∧ Own w' w.heap.size 27 q nx k vs ∧ SetsOf w' vs (Xp.sets n (Xp.regs (Xp.inputs n) (natO ops)) out)) ∧ Below w.heap.size w w' := by
  have h' := h
  unfold Xp.okS at h'
  rw [Bool.and_eq_true, Bool.and_eq_true, hn, hlo] at h'
  obtain ⟨⟨hhd, hok⟩, hall⟩ := h'
  have hnx : nx ≤ 512 := by
    unfold Xp.headOk at hhd
    simp only [Bool.and_eq_true, decide_eq_true_eq] at hhd
    obtain ⟨⟨⟨⟨⟨⟨_, h1⟩, h2⟩, h3⟩, h4⟩, _⟩, h5⟩ := hhd
    rw [hlx] at h5
    rcases hm with rfl | rfl <;> omega
  have HV := Lib.hid (fun (W : World) (hb : Below w.heap.size w W) => svalid_any m d p qo no ko qx nx kx ops out W (by omega) (by omega) hlo ((hro.below hb).more hb.size) hlx ((hrx.below hb).more hb.size))
  rw [h] at HV
  have HALL := Lib.hid (fun (i : Nat) (x : Int) (hx : out[i]? = some x) => show -1 ≤ x ∧ x < (n : Int) + no by
    have h9 := List.all_eq_true.1 hall x (List.mem_of_getElem? hx)
    unfold Xp.outOk at h9
    simpa only [Bool.and_eq_true, decide_eq_true_eq] using h9)
  have HOK := Lib.hid (fun k o (h : ops[k]? = some o) => Xp.opOk_iff.1 (Xp.opsOk_get hok h))
  have HRX := Lib.hid hrx
  have HRO := Lib.hid hro
  have HLO := Lib.hid hlo
  have HLX := Lib.hid hlx
  have hwn : IntKind.i64.wrap (d * (m : Int)) = n := by rw [hn, IntKind.wrap_i64] <;> omega
  unfold schV at HV ⊢
  have HW : Hid (Below w.heap.size w (w.alloc (.cells (schC m d p qo no ko qx nx kx) 30))) := Lib.hid ((Below.refl _ w).alloc (Nat.le_refl _) _)
  have HR : Hid (Row (w.alloc (.cells (schC m d p qo no ko qx nx kx) 30)) w.heap.size 30 (schC m d p qo no ko qx nx kx)) := Lib.hid (Row.new w _ _)
  obtain ⟨R, hR⟩ : ∃ R, Xp.regs (Xp.inputs n) (natO ops) = R := ⟨_, rfl⟩
  obtain ⟨SE, hSE⟩ : ∃ SE, Xp.sets n R out = SE := ⟨_, rfl⟩
  have HSE := Lib.hid (fun j x (hx : out[j]? = some x) => show SE.take (j + 1) = SE.take j ++ [Xp.outSet n R x] by
    rw [← hSE, List.take_add_one, Xp.sets, List.getElem?_map, hx]; rfl)
  have HSL := Lib.hid (show SE.length = nx by rw [← hSE, Xp.sets, List.length_map, hlx])
  have HRL0 := Lib.hid (show R.length = n + no by rw [← hR, Xp.regs_length, natO_length, Xp.inputs_length, hlo])
  have HRE := Lib.hid hR
  rw [hR, hSE]
  clear hlo hro hlx hrx h hok hn hhd hall hm hR hSE
  go_enter Tryd.func19, Tryd.ntmps19
  go_wp2_with fail
  refine (HV.out _ HW.out).mono ?_
  rintro e w1 ⟨rfl, hb⟩
  have HB1 := Lib.hid (below_call HW.out hb)
  have HR1 := Lib.hid (HR.out.below hb HR.out.lt)
  have hz1 : w.heap.size < w1.heap.size := HR1.out.lt
  clear hb HW HR
  go_wp2_with fail
  go_loopw [5, 6] (fun s i wr => ∃ (t : Nat) (q : Option Addr) (k : Nat) (vs : List Value), t ≤ n ∧ i = .int .i64 t ∧ s = .slice q t k ∧ Own wr w1.heap.size 27 q t k vs ∧ SetsOf wr vs ((List.range t).map fun i => [i]) ∧ Below w1.heap.size w1 wr) (fun _ i _ => n - (intOf i).toNat)
  case atStart => exact ⟨0, none, 0, [], Nat.zero_le _, rfl, rfl, Own.nil _ _ _, SetsOf.nil _, Below.refl _ _⟩
  case round =>
    obtain ⟨t, q, k, vs, ht, rfl, rfl, ho, hg, hb⟩ := hrel
    have HO := Lib.hid ho
    have HG := Lib.hid hg
    have HB := Lib.hid hb
    have hsw := hb.size
    clear ho hg hb
    have HRW := Lib.hid (HR1.out.below HB.out HR1.out.lt)
    obtain ⟨c0, c1, c2, c3, c4⟩ := sbox HRW.out
    by_cases hlt : t < n
    · have hd : decide ((t : Int) < n) = true := decide_eq_true (by omega)
      have HO2 := Lib.hid ((HO.out.alloc (.cells #[.int .i64 (t : Int)] 3)).alloc (.cells #[Value.slice (some ⟨wr.heap.size, 0, none⟩) 1 1] 27))
      have HBI := Lib.hid (setV_one wr t 27 #[Value.slice (some ⟨wr.heap.size, 0, none⟩) 1 1])
      have hz : w.heap.size < wr.heap.size := HRW.out.lt
      go_wp2_with (refine wpList_app _ rfl (.tmp 24) (.tmp 27) 24 rfl w1.heap.size 27 (.slice none 0 0) 24 Tryd.underlying24 elem_rows rfl q t k _ rfl HO2.out _ (some ⟨wr.heap.size + 1, 0, none⟩) 1 1 [.slice (some ⟨wr.heap.size, 0, none⟩) 1 1] rfl (by have h9 := Rd.one (wr.alloc (.cells #[.int .i64 (t : Int)] 3)) 27 (.slice (some ⟨wr.heap.size, 0, none⟩) 1 1); rw [size1] at h9; exact h9) rfl (by intro u hu; simp only [List.mem_singleton] at hu; subst hu; rfl) (by unfold maxLen; omega) (by omega) (by simp; omega) ?_; intro a6 k6 w6 ho6 hg6; have HO6 := Lib.hid ho6; have HB6 := Lib.hid (below_grown2 ((HB.out.alloc (by omega) _).alloc (by simp; omega) _) hg6 HO2.out (by simp; omega) (Nat.le_refl _)); have HG6 := Lib.hid (((HG.out.keeps (((Keeps.refl 3 wr).alloc _).alloc _)).snoc HBI.out).keeps ((Keeps.refl 3 _).grown HO2.out hg6 (by decide))); rw [← ones_take] at HG6; clear ho6 hg6)
      go_roundw
      case rel => exact ⟨t + 1, a6, k6, _, by omega, by go_num, rfl, HO6.out, HG6.out, HB6.out⟩
      case measure => simp [intOf]; omega
    · have hd : decide ((t : Int) < n) = false := decide_eq_false (by omega)
      have hd2 : decide (t < n) = false := decide_eq_false (by omega)
      have htn : t = n := by omega
      have HG2 := Lib.hid (show SetsOf wr vs ((Xp.regs (Xp.inputs n) (natO (ops.take 0))).map (Xp.setOf n)) from by
        have h9 := HG.out
        rw [htn, ones_all] at h9
        exact h9)
      have HTN := Lib.hid htn
      clear htn
      go_wp2_with fail
      clear c0 c1 c2 c3 c4 hd hd2
      obtain ⟨wo, rfl⟩ : ∃ wo : World, wo = wr := ⟨_, rfl⟩
      go_loopw [5, 7] (fun s i wr => ∃ (t2 : Nat) (q : Option Addr) (n2 k : Nat) (vs : List Value), t2 ≤ no ∧ i = .int .i64 t2 ∧ s = .slice q n2 k ∧ Hid (n2 = n + t2) ∧ Own wr w1.heap.size 27 q n2 k vs ∧ SetsOf wr vs ((Xp.regs (Xp.inputs n) (natO (ops.take t2))).map (Xp.setOf n)) ∧ Below w1.heap.size w1 wr) (fun _ i _ => no - (intOf i).toNat)
      case atStart => exact ⟨0, q, t, k, vs, Nat.zero_le _, rfl, rfl, Lib.hid HTN.out, HO.out, HG2.out, HB.out⟩
      case round =>
        obtain ⟨t2, q, n2, k, vs, ht2, rfl, rfl, hn2, ho, hg, hb⟩ := hrel
        have HN2 := Lib.hid hn2.out
        have HO := Lib.hid ho
        have HG := Lib.hid hg
        have HB := Lib.hid hb
        have hsw := hb.size
        have hnle : n2 ≤ 132072 := by have := hn2.out; omega
        clear hn2 ho hg hb
        have HRW := Lib.hid (HR1.out.below HB.out HR1.out.lt)
        obtain ⟨c0, c1, c2, c3, c4⟩ := sbox HRW.out
        by_cases hlt : t2 < no
        · have hd : decide ((t2 : Int) < no) = true := decide_eq_true (by omega)
          obtain ⟨⟨x, y⟩, hop⟩ : ∃ o, ops[t2]? = some o := ⟨_, List.getElem?_eq_getElem (by rw [HLO.out]; exact hlt)⟩
          obtain ⟨hx0, hy0, hxl, hyl, hxy⟩ := HOK.out t2 _ hop
          obtain ⟨X, rfl⟩ : ∃ X : Nat, x = X := ⟨x.toNat, by simp only at hx0; omega⟩
          obtain ⟨Y, rfl⟩ : ∃ Y : Nat, y = Y := ⟨y.toNat, by simp only at hy0; omega⟩
          have hXn : X < n2 := by have := HN2.out; simp only at hxl; omega
          have hYn : Y < n2 := by have := HN2.out; simp only at hyl; omega
          obtain ⟨R, hR⟩ : ∃ R, Xp.regs (Xp.inputs n) (natO (ops.take t2)) = R := ⟨_, rfl⟩
          have hRl : R.length = n2 := by rw [← hR, Xp.regs_length, natO_length, Xp.inputs_length, HN2.out, List.length_take, HLO.out, Nat.min_eq_left ht2]
          obtain ⟨a, ha⟩ : ∃ a, R[X]? = some a := ⟨_, List.getElem?_eq_getElem (by omega)⟩
          obtain ⟨b, hb⟩ : ∃ b, R[Y]? = some b := ⟨_, List.getElem?_eq_getElem (by omega)⟩
          have HREG := Lib.hid (show (Xp.regs (Xp.inputs n) (natO (ops.take (t2 + 1)))).map (Xp.setOf n) = R.map (Xp.setOf n) ++ [Xp.mrg (Xp.setOf n a) (Xp.setOf n b)] by
            rw [natO_take hop, Xp.regs_snoc, hR, List.map_append, Xp.mrg_sets]
            simp only [Int.toNat_natCast]
            rw [ha, hb]; rfl)
          rw [hR] at HG
          obtain ⟨v1, hv1, hS1⟩ := HG.out.2 X (Xp.setOf n a) (by rw [List.getElem?_map, ha]; rfl)
          obtain ⟨v2, hv2, hS2⟩ := HG.out.2 Y (Xp.setOf n b) (by rw [List.getElem?_map, hb]; rfl)
          obtain ⟨q1, k1, rfl, _, _⟩ := id hS1
          obtain ⟨q2, k2, rfl, _, _⟩ := id hS2
          obtain ⟨A, hA⟩ : ∃ A, Xp.setOf n a = A := ⟨_, rfl⟩
          obtain ⟨B, hB⟩ : ∃ B, Xp.setOf n b = B := ⟨_, rfl⟩
          have hAl : A.length ≤ 512 := by rw [← hA]; exact Nat.le_trans (Xp.setOf_length_le n a) hnn
          have hBl : B.length ≤ 512 := by rw [← hB]; exact Nat.le_trans (Xp.setOf_length_le n b) hnn
          rw [hA, hB] at HREG
          rw [hA] at hS1 hv1
          rw [hB] at hS2 hv2
          obtain ⟨LA, hLA⟩ : ∃ L, A.length = L := ⟨_, rfl⟩
          obtain ⟨LB, hLB⟩ : ∃ L, B.length = L := ⟨_, rfl⟩
          obtain ⟨M, hM⟩ : ∃ M, Xp.mrg A B = M := ⟨_, rfl⟩
          have hMl : M.length ≤ 100000 := by rw [← hM]; have := Xp.mrg_length_le A B; omega
          rw [hM] at HREG
          rw [hLA] at hv1 hS1
          rw [hLB] at hv2 hS2
          have HBO := Lib.hid (fun (W0 : World) (hk : Keeps 3 wr W0) => show Calls Tryd.prog 51 #[.slice q1 LA k1, .slice q2 LB k2] W0 fun e w' => (∃ q k, e = .returned (.slice q M.length k) ∧ Own w' W0.heap.size 3 q M.length k (nts M)) ∧ Below W0.heap.size W0 w' from by
            have h9 := both_any q1 LA k1 A q2 LB k2 B W0 hLA hLB (by omega) (by omega) (hS1.keeps hk).rd.2 (hS2.keeps hk).rd.2
            rw [hM] at h9
            exact h9)
          obtain ⟨bo, off, rfl, hbo, hx, hy⟩ := (HRO.out.below (HB1.out.trans (HB.out.mono HB1.out.size))).op hop
          obtain ⟨g, rfl, hBg, hgl, hcx, hfx⟩ := HO.out.at_ hXn
          obtain ⟨g', eg, _, _, hcy, hfy⟩ := HO.out.at_ hYn
          injection eg with eg
          injection eg with eg
          subst eg
          rw [hv1] at hcx
          rw [hv2] at hcy
          have HV1 := Lib.hid hv1
          have HV2 := Lib.hid hv2
          have hbo1 : bo < w1.heap.size := by omega
          have HS0 : Hid (KS w.heap.size (.slice (some ⟨bo, off, none⟩) no ko) bo (off + t2 * 2) X Y g (.slice q1 LA k1) (.slice q2 LB k2) w1 wr) := Lib.hid ⟨c3, hx, hy, hcx, hcy, HB.out⟩
          have HSd := Lib.hid (KS.drew HS0.out)
          have HOd := Lib.hid (HO.out.drewN 1)
          have HGd := Lib.hid (show SetsOf wr.drew vs (R.map (Xp.setOf n)) from HG.out.keeps ((Keeps.refl 3 wr).drew))
          have hgd : g < wr.drew.heap.size := hgl
          have hswd : w1.heap.size ≤ wr.drew.heap.size := hsw
          have hn22 : n2 + 1 ≤ maxLen := by unfold maxLen; omega
          clear ha hb hop hR hRl hxy hv1 hv2 hx0 hy0 hxl hyl hS1 hS2 hA hB hLA hLB hM c0 c1 c2 c4 hfx hfy
          go_wp2_with fail
          go_region_held3 (fun wn => wn.cell? ⟨w.heap.size, 3, none⟩ = some (.slice (some ⟨bo, off, none⟩) no ko) ∧ wn.cell? ⟨bo, off + t2 * 2, none⟩ = some (.int .i64 (X : Int)) ∧ wn.cell? ⟨bo, off + t2 * 2 + 1, none⟩ = some (.int .i64 (Y : Int)) ∧ wn.cell? ⟨g, X, none⟩ = some (.slice q1 LA k1) ∧ wn.cell? ⟨g, Y, none⟩ = some (.slice q2 LB k2) ∧ Below w1.heap.size w1 wn) (first | exact HS9.out | exact HS6.out | exact HS5.out | exact HSd.out | assumption) (first
            | (go_at_call 51; (with_reducible refine (HBO.out _ ((Keeps.refl 3 wr).drew)).mono ?_); rintro e5 w5 ⟨⟨q5, k5, rfl, ho5⟩, hb5⟩; have HS5 := Lib.hid (KS.below HSd.out hz1 hbo1 hgd hswd hb5); have HV5 := Lib.hid (SetV.of_own ho5 hMl); have HO5 := Lib.hid (HOd.out.below hb5); have HG5 := Lib.hid (HGd.out.keeps (Keeps.of_below hb5)); have hs5 : w1.heap.size ≤ w5.heap.size := Nat.le_trans hswd hb5.size; have hg5 : g < w5.heap.size := Nat.lt_of_lt_of_le hgd hb5.size; have HS6 := Lib.hid (KS.below HS5.out hz1 hbo1 hg5 hs5 ((Below.refl _ w5).alloc (Nat.le_refl _) (.cells #[Value.slice q5 M.length k5] 27))); clear ho5 hb5)
            | (refine step_app3 rfl (.tmp 36) (.tmp 56) 24 rfl w1.heap.size 27 (.slice none 0 0) 24 Tryd.underlying24 elem_rows rfl (some ⟨g, 0, none⟩) n2 k _ rfl (HO5.out.alloc _) _ (some ⟨w5.heap.size, 0, none⟩) 1 1 [.slice q5 M.length k5] rfl (Rd.one w5 _ _) rfl (by intro u hu; simp only [List.mem_singleton] at hu; subst hu; rfl) hn22 (by omega) (by simp; omega) ?_; intro a6 k6 w6 ho6 hg6 hc6; have HO6 := Lib.hid ho6; have HB6x := Lib.hid (below_grown2 (Below.refl w1.heap.size _) hg6 (HO5.out.alloc _) (by simp; omega) (Nat.le_refl _)); have HS9 := Lib.hid (KS.next HS6.out hz1 hbo1 HB6x.out (hc6 g rfl X _ HV1.out) (hc6 g rfl Y _ HV2.out)); have HG6 := Lib.hid ((HG5.out.snoc HV5.out).keeps (((Keeps.refl 3 w5).alloc _).grown (HO5.out.alloc _) hg6 (by decide))); clear ho6 hg6 hc6))
          go_wp2
          go_roundw
          case rel => exact ⟨t2 + 1, a6, n2 + 1, k6, _, by omega, by go_num, rfl, Lib.hid (by have := HN2.out; omega), HO6.out, by rw [HREG.out]; exact HG6.out, HS9.out.2.2.2.2.2⟩
          case measure => simp [intOf]; omega
        · have hd : decide ((t2 : Int) < no) = false := decide_eq_false (by omega)
          have hd2 : decide (t2 < no) = false := decide_eq_false (by omega)
          obtain ⟨wp, rfl⟩ : ∃ wp : World, wp = wr := ⟨_, rfl⟩
          have HGR := Lib.hid (show SetsOf wp vs (R.map (Xp.setOf n)) from by
            have h9 := HG.out
            rw [List.take_of_length_le (by rw [HLO.out]; omega), HRE.out] at h9
            exact h9)
          have HN3 := Lib.hid (show n2 = n + no by have := HN2.out; omega)
          have HRL := Lib.hid (show R.length = n2 by rw [HRL0.out, HN3.out])
          have HBP := Lib.hid (HB1.out.trans (HB.out.mono HB1.out.size))
          have hsp := HB.out.size
          clear hlt
          go_wp2_with fail
          clear c0 c1 c2 c3 c4 hd hd2
          go_loopw [8, 9] (fun s i wr => ∃ (j : Nat) (q3 : Option Addr) (k3 : Nat) (us : List Value), j ≤ nx ∧ i = .int .i64 j ∧ s = .slice q3 j k3 ∧ Own wr wp.heap.size 27 q3 j k3 us ∧ SetsOf wr us (SE.take j) ∧ Below wp.heap.size wp wr) (fun _ i _ => nx - (intOf i).toNat)
          case atStart => exact ⟨0, none, 0, [], Nat.zero_le _, rfl, rfl, Own.nil _ _ _, SetsOf.nil _, Below.refl _ _⟩
          case round =>
            obtain ⟨j, q3, k3, us, hj, rfl, rfl, ho3, hg3, hb3⟩ := hrel
            have HO3 := Lib.hid ho3
            have HG3 := Lib.hid hg3
            have HB3 := Lib.hid hb3
            have hs3 := hb3.size
            clear ho3 hg3 hb3
            have HRJ := Lib.hid (HRW.out.below HB3.out HRW.out.lt)
            obtain ⟨c0, c1, c2, c3, c4⟩ := sbox HRJ.out
            by_cases hjl : j < nx
            · have hdj : decide ((j : Int) < nx) = true := decide_eq_true (by omega)
              obtain ⟨x, hx⟩ : ∃ x, out[j]? = some x := ⟨_, List.getElem?_eq_getElem (by rw [HLX.out]; exact hjl)⟩
              obtain ⟨bx, ox, rfl, hbx, hcx⟩ := (HRX.out.below (HBP.out.trans (HB3.out.mono HBP.out.size))) j (.int .i64 x) (by rw [ints, List.getElem?_map, hx]; rfl)
              have hxr := HALL.out j x hx
              have HTK := Lib.hid (HSE.out j x hx)
              clear hx
              by_cases hneg : x < 0
              · have hdn : decide (0 ≤ x) = false := decide_eq_false (by omega)
                have HL := Lib.hid (show Xp.outSet n R x = [] by unfold Xp.outSet; rw [if_pos hneg])
                have HOA := Lib.hid (HO3.out.alloc (.cells #[Value.slice none 0 0] 27))
                have HVN := Lib.hid (show SetV (wr.alloc (.cells #[Value.slice none 0 0] 27)) (.slice none 0 0) [] from ⟨none, 0, rfl, by simp, fun h => by simp at h⟩)
                go_wp2_with (refine wpList_app _ rfl (.tmp 81) (.tmp 83) 24 rfl wp.heap.size 27 (.slice none 0 0) 24 Tryd.underlying24 elem_rows rfl q3 j k3 _ rfl HOA.out _ (some ⟨wr.heap.size, 0, none⟩) 1 1 [.slice none 0 0] rfl (Rd.one wr _ _) rfl (by intro u hu; simp only [List.mem_singleton] at hu; subst hu; rfl) (by unfold maxLen; omega) (by omega) (by simp; omega) ?_; intro a6 k6 w6 ho6 hg6; have HO6 := Lib.hid ho6; have HB6 := Lib.hid (below_grown2 (HB3.out.alloc hs3 _) hg6 HOA.out (by simp; omega) (Nat.le_refl _)); have HG6 := Lib.hid (((HG3.out.keeps ((Keeps.refl 3 wr).alloc _)).snoc HVN.out).keeps ((Keeps.refl 3 _).grown HOA.out hg6 (by decide))); clear ho6 hg6)
                go_roundw
                case rel => exact ⟨j + 1, a6, k6, _, by omega, by go_num, rfl, HO6.out, by rw [HTK.out, HL.out]; exact HG6.out, HB6.out⟩
                case measure => simp [intOf]; omega
              · have hdn : decide (0 ≤ x) = true := decide_eq_true (by omega)
                obtain ⟨X, rfl⟩ : ∃ X : Nat, x = X := ⟨x.toNat, by omega⟩
                have hXn : X < n2 := by have := HN3.out; omega
                obtain ⟨a, ha⟩ : ∃ a, R[X]? = some a := ⟨_, List.getElem?_eq_getElem (by rw [HRL.out]; exact hXn)⟩
                obtain ⟨v1, hv1, hS1⟩ := HGR.out.2 X (Xp.setOf n a) (by rw [List.getElem?_map, ha]; rfl)
                obtain ⟨q1, k1, rfl, _, _⟩ := id hS1
                have HL := Lib.hid (show Xp.outSet n R X = Xp.setOf n a by unfold Xp.outSet; rw [if_neg (by omega), Int.toNat_natCast, ha]; rfl)
                have hAl := Xp.setOf_length_le n a
                obtain ⟨A, hA⟩ : ∃ A, Xp.setOf n a = A := ⟨_, rfl⟩
                rw [hA] at HL hS1 hv1 hAl
                obtain ⟨LA, hLA⟩ : ∃ L, A.length = L := ⟨_, rfl⟩
                have hLA5 : LA ≤ 512 := by omega
                rw [hLA] at hS1 hv1
                have HLA := Lib.hid hLA
                have HRD := Lib.hid ((hS1.keeps (Keeps.of_below (show Below wp.heap.size wp wr from HB3.out))).rd.2)
                obtain ⟨g, rfl, hBg, hgl, hcs, hfs⟩ := HO.out.at_ hXn
                rw [hv1] at hcs
                have hcs3 : wr.cell? ⟨g, X, none⟩ = some (.slice q1 LA k1) := (HB3.out.cell (p := ⟨g, X, none⟩) hgl).trans hcs
                clear ha hA hLA hS1 hv1 hcs hfs hAl
                go_wp2_with (first
                  | (refine wpList_app _ rfl (.tmp 71) (.tmp 79) 27 rfl wp.heap.size 3 (.int .i64 0) 8 Tryd.underlying27 elem_ints rfl none 0 0 [] rfl (Own.nil _ _ _) _ q1 LA k1 (nts A) rfl HRD.out (by rw [nts_length, HLA.out]) (nts_one A) (by unfold maxLen; omega) (by omega) (by omega) ?_; intro a5 k5 w5 ho5 hg5; have HV5 := Lib.hid (show SetV w5 (.slice a5 LA k5) A by { have h9 : Own w5 wp.heap.size 3 a5 LA k5 (nts A) := (by simpa using ho5); rw [← HLA.out] at h9 ⊢; exact SetV.of_own h9 (by rw [HLA.out]; omega) }); have HB5 := Lib.hid (below_grown2 HB3.out hg5 (Own.nil wr wp.heap.size 3) (by omega) (Nat.le_refl _)); have HG5 := Lib.hid (show SetsOf w5 us (SE.take j) from HG3.out.keeps (Keeps.of_below (below_grown2 (Below.refl _ wr) hg5 (Own.nil wr wr.heap.size 3) (Nat.le_refl _) (Nat.le_refl _)))); have HO35 := Lib.hid (HO3.out.below (below_grown2 (Below.refl _ wr) hg5 (Own.nil wr wr.heap.size 3) (Nat.le_refl _) (Nat.le_refl _))); have hs5 := HB5.out.size; have HOA := Lib.hid (HO35.out.alloc (.cells #[Value.slice a5 LA k5] 27)); clear ho5 hg5)
                  | (refine wpList_app _ rfl (.tmp 81) (.tmp 83) 24 rfl wp.heap.size 27 (.slice none 0 0) 24 Tryd.underlying24 elem_rows rfl q3 j k3 _ rfl HOA.out _ (some ⟨w5.heap.size, 0, none⟩) 1 1 [.slice a5 LA k5] rfl (Rd.one w5 _ _) rfl (by intro u hu; simp only [List.mem_singleton] at hu; subst hu; rfl) (by unfold maxLen; omega) (by omega) (by simp; omega) ?_; intro a6 k6 w6 ho6 hg6; have HO6 := Lib.hid ho6; have HB6 := Lib.hid (below_grown2 (HB5.out.alloc hs5 _) hg6 HOA.out (by simp; omega) (Nat.le_refl _)); have HK6 := Lib.hid (((Keeps.refl 3 w5).alloc (.cells #[Value.slice a5 LA k5] 27)).grown HOA.out hg6 (by decide)); clear ho6 hg6))
                go_roundw
                case rel => exact ⟨j + 1, a6, k6, _, by omega, by go_num, rfl, HO6.out, by rw [HTK.out, HL.out]; exact (HG5.out.snoc HV5.out).keeps HK6.out, HB6.out⟩
                case measure => simp [intOf]; omega
            · have hdj : decide ((j : Int) < nx) = false := decide_eq_false (by omega)
              have hdj2 : decide (j < nx) = false := decide_eq_false (by omega)
              have hjn : j = nx := by omega
              have HGE := Lib.hid (show SetsOf wr us SE from by
                have h9 := HG3.out
                rwa [List.take_of_length_le (by rw [HSL.out]; omega)] at h9)
              subst hjn
              go_wp2
              refine bodyPost_ret (v := .tuple #[.slice q3 j k3, .int .i64 0]) ?_ rfl ⟨⟨q3, k3, us, rfl, HO3.out.mono HBP.out.size, HGE.out⟩, HBP.out.trans (HB3.out.mono HBP.out.size)⟩
              rw [results_tmp2 rfl]; rfl
end Go.Proofs.YtghinmlpkgcdiaaDoor
/-! Schedules: the specification's SameTexts and plane. -/
namespace Go.Proofs.YtghinmlpkgcdiaaDoor
set_option linter.unusedSimpArgs false
set_option linter.unusedVariables false
open Go.RowKit Go.Lib

set_option maxRecDepth 100000 in
set_option maxHeartbeats 1600000 in
theorem same_texts (l : List ByteArray) (qa : Option Addr) (n ka : Nat) (qb : Option Addr) (kb : Nat) (w : World) (hn : l.length = n) (hn2 : n ≤ 100000) (hra : Rd w w.heap.size qa (strs l)) (hrb : Rd w w.heap.size qb (strs l)) :
    Calls Tryd.prog 16 #[.slice qa n ka, .slice qb n kb] w fun e w' => e = .returned (.bool true) ∧ ∃ m, w' = w.drewN m := by
  have HRA := Lib.hid hra
  have HRB := Lib.hid hrb
  have HN := Lib.hid hn
  clear hra hrb hn
  go_enter Tryd.func16, Tryd.ntmps16
  go_wp2
  go_loopw [5] (fun i wr => ∃ k m : Nat, k ≤ n ∧ i = .int .i64 k ∧ wr = w.drewN m) (fun i _ => n - (intOf i).toNat)
  case atStart => exact ⟨0, 0, Nat.zero_le _, rfl, (World.drewN_zero w).symm⟩
  case round =>
    obtain ⟨k, m, hk, rfl, hwr⟩ := hrel
    have HWR := Lib.hid hwr
    by_cases hlt : k < n
    · have hd : decide ((k : Int) < n) = true := decide_eq_true (by omega)
      obtain ⟨x, hx⟩ : ∃ x, l[k]? = some x := ⟨_, List.getElem?_eq_getElem (by rw [HN.out]; exact hlt)⟩
      have hxs : (strs l)[k]? = some (.string x) := by rw [strs, List.getElem?_map, hx]; rfl
      obtain ⟨ba, oa, rfl, hba, hca⟩ := HRA.out k _ hxs
      obtain ⟨bb, ob, rfl, hbb, hcb⟩ := HRB.out k _ hxs
      have hca' : wr.cell? ⟨ba, oa + k, none⟩ = some (.string x) := by rw [hwr]; exact hca
      have hcb' : wr.cell? ⟨bb, ob + k, none⟩ = some (.string x) := by rw [hwr]; exact hcb
      clear hx hxs hca hcb hwr
      go_wp2_with fail
      go_quiet (fail)
      go_wp2
      go_roundw
      case rel => exact ⟨k + 1, m + nq, by omega, by go_num, by rw [HWR.out, World.drewN_drewN]⟩
      case measure => simp [intOf]; omega
    · have hd : decide ((k : Int) < n) = false := decide_eq_false (by omega)
      have hd2 : decide (k < n) = false := decide_eq_false (by omega)
      clear hwr
      go_wp2
      go_ret
      exact ⟨rfl, m, HWR.out⟩
/-- the bits of N as bytes -/
def bitsL (N n : Nat) : List UInt8 := (List.range n).map fun i => if N.testBit i then 1 else 0
theorem bitsL_length (N n : Nat) : (bitsL N n).length = n := by simp [bitsL]
theorem bitsL_snoc (N n : Nat) : bitsL N (n + 1) = bitsL N n ++ [if N.testBit n then 1 else 0] := by
  unfold bitsL; rw [List.range_succ, List.map_append]; rfl
set_option maxRecDepth 100000 in
set_option maxHeartbeats 3200000 in
theorem plane_8 (K : Nat) (hK : K < 8) (s : ByteArray) (w : World) (hs : s.size ≤ 1000) :
    Calls Tryd.prog 56 #[.int .i64 8, .int .i64 (K : Int), .string s] w fun e w' => (∃ q c, e = .returned (.slice q s.size c) ∧ Own w' w.heap.size 5 q s.size c ((bitsL (Xp.plTo 8 (Xp.bytesOf s) K s.size) s.size).map v8)) ∧ Below w.heap.size w w' := by
  obtain ⟨N, hN⟩ : ∃ N, Xp.plTo 8 (Xp.bytesOf s) K s.size = N := ⟨_, rfl⟩
  rw [hN]
  have HNN := Lib.hid hN
  clear hN
  go_enter Tryd.func56, Tryd.ntmps56
  go_wp2
  go_loopw [7, 8] (fun o i wr => ∃ (t : Nat) (q : Option Addr) (c : Nat), t ≤ s.size ∧ i = .int .i64 t ∧ o = .slice q t c ∧ Own wr w.heap.size 5 q t c ((bitsL N t).map v8) ∧ Below w.heap.size w wr) (fun _ i _ => s.size - (intOf i).toNat)
  case atStart => exact ⟨0, none, 0, Nat.zero_le _, rfl, rfl, Own.nil _ _ _, Below.refl _ _⟩
  case round =>
    obtain ⟨t, q, c, ht, rfl, rfl, ho, hb⟩ := hrel
    have HO := Lib.hid ho
    have HB := Lib.hid hb
    have hsw := hb.size
    clear ho hb
    by_cases hlt : t < s.size
    · have hd : decide ((t : Int) < s.size) = true := decide_eq_true (by omega)
      obtain ⟨x, hx⟩ : ∃ x : Nat, (s[t]'hlt).toNat = x := ⟨_, rfl⟩
      have hx256 : x < 256 := by rw [← hx]; exact (s[t]'hlt).toNat_lt
      obtain ⟨y, hy⟩ : ∃ y, x / 2 ^ K = y := ⟨_, rfl⟩
      obtain ⟨b, hb⟩ : ∃ b, y % 2 = b := ⟨_, rfl⟩
      have hb2 : b < 2 := by omega
      have e1 : wrap64 (((s[t]'hlt).toNat : Nat) : Int) = (x : Int) := by rw [hx]; exact IntWalk.wrap64_in _ (by omega)
      have e2 : (x : Int) / 2 ^ K = (y : Int) := by rw [← hy]; simp
      have e3 : (y : Int).tmod 2 = (b : Int) := by rw [← hb, Int.tmod_eq_emod_of_nonneg (by omega)]; omega
      have e4 : (b : Int) % 256 = (b : Int) := by omega
      have HBV := Lib.hid (show ((bitsL N (t + 1)).map v8) = (bitsL N t).map v8 ++ [.int .u8 (b : Int)] by
        rw [bitsL_snoc, List.map_append]
        congr 1
        have hbit : N.testBit t = decide (b = 1) := by
          rw [← HNN.out, Xp.plTo_bit (.inl rfl) _ hK, show Xp.byteAt 8 K t = t by unfold Xp.byteAt; simp, decide_eq_true hlt, Bool.true_and, Nat.mod_eq_of_lt hK, Nat.testBit_eq_decide_div_mod_eq]
          have : Xp.bytesOf s t = x := by
            unfold Xp.bytesOf
            rw [data_get s t hlt, ← hx]
          rw [this, hy, hb]
        rw [hbit]
        have : b = 0 ∨ b = 1 := by omega
        rcases this with rfl | rfl <;> rfl)
      have HO2 := Lib.hid (HO.out.alloc (.cells #[.int .u8 (b : Int)] 5))
      clear hx hy hb
      go_wp2_with (refine wpList_app _ rfl (.tmp 32) (.tmp 38) 91 rfl w.heap.size 5 (.int .u8 0) 1 Tryd.underlying91 elem_u8 rfl q t c _ rfl HO2.out _ (some ⟨wr.heap.size, 0, none⟩) 1 1 [.int .u8 (b : Int)] rfl (Rd.one wr _ _) rfl (by intro u hu; simp only [List.mem_singleton] at hu; subst hu; rfl) (by unfold maxLen; omega) (by omega) (by simp; omega) ?_; intro a6 k6 w6 ho6 hg6; rw [← HBV.out] at ho6; have HO6 := Lib.hid ho6; have HB6 := Lib.hid (below_grown2 (HB.out.alloc hsw _) hg6 HO2.out (by simp; omega) (Nat.le_refl _)); clear ho6 hg6)
      go_roundw
      case rel => exact ⟨t + 1, a6, k6, by omega, by go_num, rfl, HO6.out, HB6.out⟩
      case measure => simp [intOf]; omega
    · have hd : decide ((t : Int) < s.size) = false := decide_eq_false (by omega)
      have hd2 : decide (t < s.size) = false := decide_eq_false (by omega)
      have htn : t = s.size := by omega
      have HO3 := Lib.hid (show Own wr w.heap.size 5 q s.size c ((bitsL N s.size).map v8) by rw [← htn]; exact HO.out)
      have HTN := Lib.hid htn
      clear htn
      go_wp2
      go_ret
      exact ⟨⟨q, c, by rw [← HTN.out]; rfl, HO3.out⟩, HB.out⟩
end Go.Proofs.YtghinmlpkgcdiaaDoor
/-! Schedules: the specification's plane at m = 16. -/
namespace Go.Proofs.YtghinmlpkgcdiaaDoor
set_option linter.unusedSimpArgs false
set_option linter.unusedVariables false
open Go.RowKit Go.Lib

theorem sym16 (xh xl K : Nat) (h1 : xh < 256) (h2 : xl < 256) : ∃ x1 x y b : Nat, b < 2 ∧ wrap64 (256 * (xh : Int)) = (x1 : Int) ∧ wrap64 ((x1 : Int) + (xl : Int)) = (x : Int) ∧ (x : Int) / 2 ^ K = (y : Int) ∧ (y : Int).tmod 2 = (b : Int) ∧ (b : Int) % 256 = (b : Int) ∧ (256 * xh + xl).testBit K = decide (b = 1) := by
  have hm : (256 * xh + xl) / 2 ^ K % 2 < 2 := Nat.mod_lt _ (by decide)
  refine ⟨256 * xh, 256 * xh + xl, (256 * xh + xl) / 2 ^ K, (256 * xh + xl) / 2 ^ K % 2, hm, ?_, ?_, ?_, ?_, ?_, ?_⟩
  · rw [IntWalk.wrap64_in _ (by omega)]; simp
  · rw [IntWalk.wrap64_in _ (by omega)]; simp
  · simp
  · generalize (256 * xh + xl) / 2 ^ K = y
    rw [Int.tmod_eq_emod_of_nonneg (by omega)]; omega
  · generalize (256 * xh + xl) / 2 ^ K % 2 = b at hm ⊢
    omega
  · exact Nat.testBit_eq_decide_div_mod_eq
set_option maxRecDepth 100000 in
set_option maxHeartbeats 3200000 in
theorem plane_16 (K : Nat) (hK : K < 16) (s : ByteArray) (NS : Nat) (w : World) (hNS : s.size = 2 * NS) (hs : s.size ≤ 1000) :
    Calls Tryd.prog 56 #[.int .i64 16, .int .i64 (K : Int), .string s] w fun e w' => (∃ q c, e = .returned (.slice q NS c) ∧ Own w' w.heap.size 5 q NS c ((bitsL (Xp.plTo 16 (Xp.bytesOf s) K s.size) NS).map v8)) ∧ Below w.heap.size w w' := by
  obtain ⟨N, hN⟩ : ∃ N, Xp.plTo 16 (Xp.bytesOf s) K s.size = N := ⟨_, rfl⟩
  rw [hN]
  have HNS := Lib.hid hNS
  have hNSl : NS ≤ 500 := by omega
  have HNN := Lib.hid hN
  clear hN hNS
  go_enter Tryd.func56, Tryd.ntmps56
  go_wp2
  go_loopw [7, 8] (fun o i wr => ∃ (t I : Nat) (q : Option Addr) (c : Nat), t ≤ NS ∧ Hid (I = 2 * t) ∧ i = .int .i64 I ∧ o = .slice q t c ∧ Own wr w.heap.size 5 q t c ((bitsL N t).map v8) ∧ Below w.heap.size w wr) (fun _ i _ => s.size - (intOf i).toNat)
  case atStart => exact ⟨0, 0, none, 0, Nat.zero_le _, Lib.hid rfl, rfl, rfl, Own.nil _ _ _, Below.refl _ _⟩
  case round =>
    obtain ⟨t, I, q, c, ht, hI, rfl, rfl, ho, hb⟩ := hrel
    have HII := Lib.hid hI.out
    clear hI
    have HO := Lib.hid ho
    have HB := Lib.hid hb
    have hsw := hb.size
    clear ho hb
    by_cases htl : t < NS
    · have hI1 : I + 1 < s.size := by have := HII.out; have := HNS.out; omega
      have hlt : I < s.size := by omega
      have hd : decide ((I : Int) < s.size) = true := decide_eq_true (by omega)
      have htN : t ≤ 500 := by omega
      obtain ⟨xh, hxh⟩ : ∃ x : Nat, (s[I]'hlt).toNat = x := ⟨_, rfl⟩
      obtain ⟨xl, hxl⟩ : ∃ x : Nat, (s[I + 1]'hI1).toNat = x := ⟨_, rfl⟩
      have hxh2 : xh < 256 := by rw [← hxh]; exact (s[I]'hlt).toNat_lt
      have hxl2 : xl < 256 := by rw [← hxl]; exact (s[I + 1]'hI1).toNat_lt
      obtain ⟨x1, x, y, b, hb2, e0c, e1, e2, e3, e4, hxb⟩ := sym16 xh xl K hxh2 hxl2
      have e0 : wrap64 (((s[I]'hlt).toNat : Nat) : Int) = (xh : Int) := by rw [hxh]; exact IntWalk.wrap64_in _ ⟨by omega, by omega⟩
      have e0b : wrap64 (((s[I + 1]'hI1).toNat : Nat) : Int) = (xl : Int) := by rw [hxl]; exact IntWalk.wrap64_in _ ⟨by omega, by omega⟩
      have HXB := Lib.hid hxb
      clear hxb
      have HBV := Lib.hid (show ((bitsL N (t + 1)).map v8) = (bitsL N t).map v8 ++ [.int .u8 (b : Int)] by
        rw [bitsL_snoc, List.map_append]
        congr 1
        have hbit : N.testBit t = decide (b = 1) := by
          rw [← HXB.out, ← HNN.out, Xp.plTo_bit (.inr rfl) _ hK, show 256 * xh + xl = 2 ^ 8 * xh + xl from rfl, Nat.testBit_two_pow_mul_add _ (show xl < 2 ^ 8 from hxl2)]
          have hI := HII.out
          by_cases h8 : K < 8
          · have hat : Xp.byteAt 16 K t = I + 1 := by unfold Xp.byteAt; simp; omega
            rw [hat, decide_eq_true hI1, Bool.true_and, if_pos h8, Nat.mod_eq_of_lt h8]
            have : Xp.bytesOf s (I + 1) = xl := by
              unfold Xp.bytesOf
              rw [data_get s (I + 1) hI1, ← hxl]
            rw [this]
          · have hat : Xp.byteAt 16 K t = I := by unfold Xp.byteAt; simp; omega
            rw [hat, decide_eq_true hlt, Bool.true_and, if_neg h8, show K % 8 = K - 8 by omega]
            have : Xp.bytesOf s I = xh := by
              unfold Xp.bytesOf
              rw [data_get s I hlt, ← hxh]
            rw [this]
        rw [hbit]
        have : b = 0 ∨ b = 1 := by omega
        rcases this with rfl | rfl <;> rfl)
      have HO2 := Lib.hid (HO.out.alloc (.cells #[.int .u8 (b : Int)] 5))
      clear hxh hxl
      go_wp2_with (refine wpList_app _ rfl (.tmp 32) (.tmp 38) 91 rfl w.heap.size 5 (.int .u8 0) 1 Tryd.underlying91 elem_u8 rfl q t c _ rfl HO2.out _ (some ⟨wr.heap.size, 0, none⟩) 1 1 [.int .u8 (b : Int)] rfl (Rd.one wr _ _) rfl (by intro u hu; simp only [List.mem_singleton] at hu; subst hu; rfl) (by unfold maxLen; omega) (by omega) (by simp; omega) ?_; intro a6 k6 w6 ho6 hg6; rw [← HBV.out] at ho6; have HO6 := Lib.hid ho6; have HB6 := Lib.hid (below_grown2 (HB.out.alloc hsw _) hg6 HO2.out (by simp; omega) (Nat.le_refl _)); clear ho6 hg6)
      go_roundw
      case rel => exact ⟨t + 1, I + 2, a6, k6, by omega, Lib.hid (by have := HII.out; omega), by go_num, rfl, HO6.out, HB6.out⟩
      case measure => simp [intOf]; omega
    · have hIs : s.size ≤ I := by have := HII.out; have := HNS.out; omega
      have hd : decide ((I : Int) < s.size) = false := decide_eq_false (by omega)
      have hd2 : decide (I < s.size) = false := decide_eq_false (by omega)
      have htn : t = NS := by omega
      have HO3 := Lib.hid (show Own wr w.heap.size 5 q NS c ((bitsL N NS).map v8) by rw [← htn]; exact HO.out)
      have HTN := Lib.hid htn
      clear htn
      go_wp2
      go_ret
      exact ⟨⟨q, c, by rw [← HTN.out]; rfl, HO3.out⟩, HB.out⟩
end Go.Proofs.YtghinmlpkgcdiaaDoor
