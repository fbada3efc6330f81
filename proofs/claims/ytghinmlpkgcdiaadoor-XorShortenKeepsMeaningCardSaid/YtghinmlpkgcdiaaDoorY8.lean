/- Schedules: Shorten, the walk. -/
import Derived.Test.YtghinmlpkgcdiaaDoorYB
import Derived.Deep.Cut
namespace Go.Proofs.YtghinmlpkgcdiaaDoor
set_option linter.unusedSimpArgs false
set_option linter.unusedVariables false
open Go.RowKit Go.Lib

/-- the length of the slice in a cell -/
def lenAt (w : World) (g i : Nat) : Nat := match w.cell? ⟨g, i, none⟩ with
  | some (.slice _ n _) => n
  | _ => 0
theorem sets_ok (n : Nat) (R : List Nat) (out : List Int) : Xp.SetsOk n (Xp.sets n R out) := by
  intro l hl
  unfold Xp.sets at hl
  obtain ⟨x, _, rfl⟩ := List.mem_map.1 hl
  unfold Xp.outSet
  split
  · exact ⟨List.Pairwise.nil, fun x hx => by cases hx⟩
  · refine ⟨Xp.rising_filter _ _, fun x hx => ?_⟩
    unfold Xp.setOf at hx
    exact List.mem_range.1 (List.mem_filter.1 hx).1
theorem sets_total (n : Nat) (R : List Nat) (out : List Int) : Xp.total (Xp.sets n R out) ≤ out.length * n := by
  have h := Xp.total_le (Xp.sets n R out) n (fun l hl => by
    unfold Xp.sets at hl
    obtain ⟨x, _, rfl⟩ := List.mem_map.1 hl
    unfold Xp.outSet
    split
    · simp
    · exact Xp.setOf_length_le n _)
  rwa [Xp.sets, List.length_map] at h
theorem mapped_step {α : Type} {f : α → α} {ls : List α} {i : Nat} {l : α} (h : ls[i]? = some l) :
    ((ls.take i).map f ++ ls.drop i)[i]? = some l ∧ ((ls.take i).map f ++ ls.drop i).set i (f l) = (ls.take (i + 1)).map f ++ ls.drop (i + 1) := by
  obtain ⟨hi, e⟩ := List.getElem?_eq_some_iff.1 h
  have hd : ls.drop i = l :: ls.drop (i + 1) := by rw [List.drop_eq_getElem_cons hi, e]
  have hl : ((ls.take i).map f).length = i := by rw [List.length_map, List.length_take]; omega
  refine ⟨?_, ?_⟩
  · rw [List.getElem?_append_right (by omega), hl, Nat.sub_self, hd]; rfl
  · rw [List.set_append_right _ _ (by omega), hl, Nat.sub_self, hd, List.set_cons_zero, List.take_add_one, h, List.map_append, List.append_assoc]; rfl
theorem set_self2 {α : Type} : ∀ (l : List α) (j : Nat) (a : α), l[j]? = some a → l.set j a = l
  | [], _, _, h => by simp at h
  | b :: r, 0, a, h => by simp at h; subst h; rfl
  | b :: r, j + 1, a, h => by simp at h; simp [set_self2 r j a h]
set_option maxRecDepth 100000 in
set_option maxHeartbeats 25600000 in
theorem shorten_yes {m D P : Nat} (hm : Fld.IsM m) (qo : Option Addr) (no ko : Nat) (qx : Option Addr) (nx kx : Nat) (ops : List (Int × Int)) (out : List Int) (w : World) (ht : Tab w) (hno : no ≤ 131072)
    (hlo : ops.length = no) (hro : Rd w w.heap.size qo (opsC ops)) (hlx : out.length = nx) (hrx : Rd w w.heap.size qx (ints out)) (hok : Xp.okS m D P ops out = true) (n0 : Nat) (hn0 : D * m = n0) (h8 : 8 ≤ n0) (h512 : n0 ≤ 512) (hnx : nx ≤ 512)
    (RES : List (Int × Int) × List (List Nat)) (FO : List (Int × Int)) (FU : List Int) (hRES : Xp.shr n0 (Xp.total (Xp.sets n0 (Xp.regs (Xp.inputs n0) (natO ops)) out)) [] (Xp.sets n0 (Xp.regs (Xp.inputs n0) (natO ops)) out) = RES) (hFO : (Xp.fin n0 RES.1 RES.2).1 = FO) (hFU : (Xp.fin n0 RES.1 RES.2).2 = FU) :
    Calls Tryd.prog 12 #[schV m D P qo no ko qx nx kx] w fun e w' =>
      ((FO.length < no ∧ ∃ q k q2 k2, e = .returned (.tuple #[schV m D P q FO.length k q2 nx k2, .int .i64 0]) ∧ OpsR w' w.heap.size q FO.length k FO ∧ Own w' w.heap.size 3 q2 nx k2 (ints FU)) ∨
       (no ≤ FO.length ∧ ∃ q k q2 k2, e = .returned (.tuple #[schV m D P q no k q2 nx k2, .int .i64 0]) ∧ OpsR w' w.heap.size q no k ops ∧ Own w' w.heap.size 3 q2 nx k2 (ints out))) ∧ Below w.heap.size w w' := by
  have e : ((D : Int) * (m : Int)) = ((D * m : Nat) : Int) := by simp
  have HV := Lib.hid (fun (W : World) (hb : Below w.heap.size w W) => xsets_yes hm D P qo no ko qx nx kx n0 ops out W (ht.next hb) hno hlo ((hro.below hb).more hb.size) hlx ((hrx.below hb).more hb.size) hok (by rw [e, hn0]) (by omega) h512)
  have HIN := Lib.hid (fun (W : World) (a b : Value) => inputs_any (m : Int) D P a b n0 (by rw [e, hn0, IntKind.wrap_i64] <;> omega) W)
  have HSOK := Lib.hid (sets_ok n0 (Xp.regs (Xp.inputs n0) (natO ops)) out)
  have hT := sets_total n0 (Xp.regs (Xp.inputs n0) (natO ops)) out
  have hTT : nx * n0 ≤ 512 * 512 := Nat.mul_le_mul hnx h512
  rw [hlx] at hT
  have HLS := Lib.hid (show (Xp.sets n0 (Xp.regs (Xp.inputs n0) (natO ops)) out).length = nx by rw [Xp.sets, List.length_map, hlx])
  obtain ⟨ls0, hls0⟩ : ∃ ls0, Xp.sets n0 (Xp.regs (Xp.inputs n0) (natO ops)) out = ls0 := ⟨_, rfl⟩
  rw [hls0] at HV HSOK hT HLS hRES
  obtain ⟨M, hM⟩ : ∃ M, Xp.total ls0 = M := ⟨_, rfl⟩
  rw [hM] at hT hRES
  have hM3 : M ≤ 300000 := by omega
  have HM := Lib.hid hM
  have HRES := Lib.hid hRES
  have HFO := Lib.hid hFO
  have HFU := Lib.hid hFU
  have HRO := Lib.hid hro
  have HRX := Lib.hid hrx
  have HLO := Lib.hid hlo
  have HLX := Lib.hid hlx
  have HN0 := Lib.hid hn0
  have HNW := Lib.hid e
  obtain ⟨FN, hFN⟩ : ∃ FN, FO.length = FN := ⟨_, rfl⟩
  rw [hFN]
  have HFN := Lib.hid hFN
  clear hFN
  unfold schV at HV HIN ⊢
  have HW : Hid (Below w.heap.size w ((w.alloc (.cells (schC m D P qo no ko qx nx kx) 30)).alloc (.cells (schC 0 0 0 none 0 0 none 0 0) 30))) := Lib.hid (((Below.refl _ w).alloc (Nat.le_refl _) _).alloc (by simp) _)
  have HA : Hid (Row ((w.alloc (.cells (schC m D P qo no ko qx nx kx) 30)).alloc (.cells (schC 0 0 0 none 0 0 none 0 0) 30)) w.heap.size 30 (schC m D P qo no ko qx nx kx)) := Lib.hid ((Row.new w _ _).alloc _)
  have HZ : Hid (Row ((w.alloc (.cells (schC m D P qo no ko qx nx kx) 30)).alloc (.cells (schC 0 0 0 none 0 0 none 0 0) 30)) (w.heap.size + 1) 30 (schC 0 0 0 none 0 0 none 0 0)) := Lib.hid (Row.made _ _ (by simp))
  clear ht hlo hro hlx hrx hok hm hRES hFO hFU hM hls0 hTT hT hn0 e
  go_enter Tryd.func12, Tryd.ntmps12
  go_upto_region 1 with fail
  obtain ⟨w1, hw1⟩ : ∃ w1, w1 = ((w.alloc (.cells (schC m D P qo no ko qx nx kx) 30)).alloc (.cells (schC 0 0 0 none 0 0 none 0 0) 30)) := ⟨_, rfl⟩
  rw [← hw1] at HW HA HZ ⊢
  clear hw1
  obtain ⟨c0, c1, c2, c3, c4⟩ := sbox HA.out
  have hz1 : w.heap.size + 1 < w1.heap.size := HZ.out.lt
  go_wp2_with fail
  clear c0 c1 c2 c3 c4
  refine (HV.out _ HW.out).mono ?_
  rintro e w2 ⟨⟨qs, ks, vs, rfl, ho, hf⟩, hb⟩
  have HB2 := Lib.hid hb
  have HA2 := Lib.hid (HA.out.below hb HA.out.lt)
  have HZ2 := Lib.hid (HZ.out.below hb HZ.out.lt)
  have HO2 := Lib.hid ho
  have HF2 := Lib.hid hf
  clear ho hf hb
  obtain ⟨c0, c1, c2, c3, c4⟩ := sbox HA2.out
  have hz2 : w.heap.size < w2.heap.size := HA2.out.lt
  go_upto_region 5 with fail
  obtain ⟨w3, hw3⟩ : ∃ w3, w3 = w2.alloc (.cells (schC m D P none 0 0 none 0 0) 30) := ⟨_, rfl⟩
  have hb23 : Below w2.heap.size w2 w3 := by rw [hw3]; exact (Below.refl _ w2).alloc (Nat.le_refl _) _
  have HB3 := Lib.hid (show Below w1.heap.size w1 w3 from below_call HB2.out hb23)
  have HR3 := Lib.hid (show Row w3 w2.heap.size 30 (schC m D P none 0 0 none 0 0) by rw [hw3]; exact Row.new _ _ _)
  rw [← hw3]
  have HO3 := Lib.hid (HO2.out.below hb23)
  have HF3 := Lib.hid (HF2.out.keeps (Keeps.of_below hb23))
  clear hw3 hb23 c0 c1 c2 c3 c4
  obtain ⟨wO, hwO⟩ : ∃ wO, w2.heap.size = wO := ⟨_, rfl⟩
  have HWO := Lib.hid (show w1.heap.size ≤ wO by rw [← hwO]; exact HB2.out.size)
  rw [hwO] at HR3 ⊢
  clear hwO
  have hns6 : nx ≤ 1000000 := by omega
  go_wp2_with fail
  refine (counts_at HSOK.out (by omega) (by rw [HM.out]; exact hM3) qs nx ks w3 (RowsT.of HO3.out HF3.out) hns6).mono ?_
  rintro e w4 ⟨⟨nc, hnc, rfl, hcm⟩, hb⟩
  have HB4 := Lib.hid hb
  have HC4 := Lib.hid hcm
  clear hcm hb
  go_wp2_with fail
  refine (best_at HSOK.out (by omega) (by rw [HM.out]; exact hM3) _ nc w4 HC4.out).mono ?_
  rintro e w5 ⟨⟨r, X, Y, rfl, hbest, hpp⟩, hb⟩
  have HB5 := Lib.hid (show Below w3.heap.size w3 w5 from below_call HB4.out hb)
  have HBE := Lib.hid hbest
  have HPP := Lib.hid hpp
  clear hbest hpp hb
  go_wp2_with fail
  obtain ⟨w6, hw6⟩ : ∃ w6, w6 = w5.alloc (.cells (pkC X Y) 59) := ⟨_, rfl⟩
  have hb56 : Below w5.heap.size w5 w6 := by rw [hw6]; exact (Below.refl _ w5).alloc (Nat.le_refl _) _
  have HB6 := Lib.hid (show Below w3.heap.size w3 w6 from below_call HB5.out hb56)
  have HSH := Lib.hid (show ShM w1 w6 m D P qs nx ks vs ls0 wO w5.heap.size none 0 0 [] X Y from
    ⟨HR3.out.below HB6.out HR3.out.lt, OpsR.nil _ _, HO3.out.below HB6.out, HF3.out.keeps (Keeps.of_below HB6.out), by rw [hw6]; exact Row.new _ _ _, HWO.out, by have := HB3.out.size; have := HB5.out.size; omega, HB3.out.trans (HB6.out.mono HB3.out.size)⟩)
  rw [← hw6]
  clear hw6 hb56 HB6
  obtain ⟨gp0, hgp0⟩ : ∃ g, w5.heap.size = g := ⟨_, rfl⟩
  rw [hgp0] at HSH ⊢
  clear hgp0
  go_loopw [7, 8] (fun p7 o8 wr => ∃ (gp : Nat) (r : Option (Nat × Nat)) (X Y : Int) (K : Nat) (O : List (Int × Int)) (ls : List (List Nat)) (vs : List Value) (q : Option Addr) (n1 k : Nat), p7 = .pointer (some ⟨gp, 0, none⟩) ∧ o8 = .bool r.isSome ∧ Hid (Xp.IsBest (Xp.allPairs ls) r ∧ ∀ p, r = some p → X = (p.1 : Int) ∧ Y = (p.2 : Int)) ∧ ShM w1 wr m D P qs nx ks vs ls wO gp q n1 k O X Y ∧ Hid (Xp.SetsOk (n0 + O.length) ls ∧ Xp.shr n0 K O ls = RES ∧ Xp.total ls ≤ K) ∧ n1 + Xp.total ls ≤ M) (fun _ _ wr => M - lenAt wr wO 3)
  case atStart => exact ⟨gp0, r, X, Y, M, [], ls0, vs, none, 0, 0, rfl, rfl, Lib.hid ⟨HBE.out, HPP.out⟩, HSH.out, Lib.hid ⟨HSOK.out, HRES.out, by rw [HM.out]; exact Nat.le_refl _⟩, by rw [HM.out]; omega⟩
  case round =>
    obtain ⟨gp, r, X, Y, K, O, ls, vs, q, n1, k, rfl, rfl, hbe, hsh, hst, hnt⟩ := hrel
    have HBE := Lib.hid hbe.out
    have HSH := Lib.hid hsh
    have HST := Lib.hid hst.out
    clear hbe hsh hst
    rcases r with _ | ⟨a, b⟩
    · have hres : RES = (O, ls) := by rw [← HST.out.2.1, Xp.shr_none (Xp.bestOf_is HBE.out.1)]
      have hfo := HFO.out
      have hfu := HFU.out
      rw [hres] at hfo hfu
      simp only at hfo hfu
      have HFI := Lib.hid (finish_any (m : Int) D P w1.heap.size q n1 k O qs nx ks ls n0 wr (by rw [HNW.out, HN0.out, IntKind.wrap_i64] <;> omega) (by omega) (by omega) HSH.out.ops HSH.out.below.size HSH.out.rowsT hnx (by omega))
      rw [hfo, hfu] at HFI
      unfold schV at HFI
      rw [HFN.out] at HFI
      obtain ⟨c0, c1, c2, c3, c4⟩ := sbox HSH.out.out
      have hzO := HSH.out.out.lt
      clear hres hfo hfu hnt
      go_wp2_with fail
      clear c0 c1 c2 c3 c4
      refine HFI.out.mono ?_
      rintro e w13 ⟨⟨q2, k2, qx2, kx2, rfl, ho2, hx2, hlie⟩, hon⟩
      have hXB : ∀ j, FinX wr q j → w1.heap.size ≤ j := fun j hj => by
        rcases hj with hj | hj
        · exact (HSH.out.ops.lt hj).1
        · have := HSH.out.below.size; omega
      have HB13 := Lib.hid (show Below w1.heap.size w1 w13 from HSH.out.below.trans (hon.below HSH.out.below.size hXB))
      have HR13 := Lib.hid (show Row w13 wO 30 (schC m D P q n1 k none 0 0) from hon.row HSH.out.out (fun hj => by
        rcases hj with hj | hj
        · obtain ⟨_, _, cur, hr⟩ := HSH.out.ops.lt hj
          exact absurd (hr.type HSH.out.out) (by decide)
        · omega))
      have HO13 := Lib.hid ho2
      have HX13 := Lib.hid hx2
      have hx13 : w1.heap.size ≤ wr.heap.size := HSH.out.below.size
      have hz13 := HR13.out.lt
      clear ho2 hx2 hlie hon hXB hzO
      go_upto_region 19 with (refine wpList_store_row rfl _ _ _ rfl wO (schC m D P q2 FN k2 qx2 nx kx2) rfl rfl _ _ HR13.out (by kernel_rfl) rfl (schC_one _ _ _ _ _ _ _ _ _) ?_)
      obtain ⟨w14, hw14⟩ : ∃ w14, w14 = w13.setRow wO (schC m D P q2 FN k2 qx2 nx kx2) := ⟨_, rfl⟩
      have HR14 := Lib.hid (show Row w14 wO 30 (schC m D P q2 FN k2 qx2 nx kx2) by rw [hw14]; exact HR13.out.whole _)
      have HB14 := Lib.hid (show Below w1.heap.size w1 w14 by rw [hw14]; exact below_whole HB13.out HWO.out _)
      have HO14 := Lib.hid (show OpsR w14 w1.heap.size q2 FN k2 FO by
        rw [hw14]
        exact HO13.out.kept fun g hg => setRow_other _ _ _ _ (fun e => by
          obtain ⟨_, _, cur, hr⟩ := HO13.out.lt hg
          subst e
          exact absurd (hr.type HR13.out) (by decide)))
      have HX14 := Lib.hid (show Own w14 w1.heap.size 3 qx2 nx kx2 (ints FU) by
        rw [hw14]
        exact (Own.mono HX13.out hx13).kept fun g hg => setRow_other _ _ _ _ (fun e => by
          obtain ⟨cur, hr, _⟩ := HX13.out.row hg
          subst e
          exact absurd (hr.type HR13.out) (by decide)))
      rw [← hw14]
      clear hw14 hz13 HR13 HB13 HO13 HX13
      have HA14 := Lib.hid (HA.out.below HB14.out HA.out.lt)
      have HZ14 := Lib.hid (HZ.out.below HB14.out HZ.out.lt)
      obtain ⟨a0, a1, a2, a3, a4⟩ := sbox HA14.out
      obtain ⟨c0, c1, c2, c3, c4⟩ := sbox HR14.out
      have hzA := HA14.out.lt
      have hzZ := HZ14.out.lt
      have hzO := HR14.out.lt
      have hww : w.heap.size ≤ w1.heap.size := by omega
      have HBW := Lib.hid (fun (W : World) (h : Below w1.heap.size w1 W) => (HW.out.trans (h.mono hww) : Below w.heap.size w W))
      by_cases hge : no ≤ FN
      · have hdg : decide ((no : Int) ≤ (FN : Int)) = true := decide_eq_true (by omega)
        have hdg2 : decide (no ≤ FN) = true := decide_eq_true hge
        have HCO := Lib.hid (fun (W : World) (h : Below w1.heap.size w1 W) => clone_ops qo no ko ops W HLO.out (by omega) ((HRO.out.below (HBW.out W h)).more (HBW.out W h).size))
        have HCX := Lib.hid (fun (W : World) (h : Below w1.heap.size w1 W) => clone_ints qx nx kx (ints out) W (by rw [ints, List.length_map, HLX.out]) (by omega) ((HRX.out.below (HBW.out W h)).more (HBW.out W h).size) (by intro u hu; unfold ints at hu; obtain ⟨z, _, rfl⟩ := List.mem_map.1 hu; rfl))
        have HSX := Lib.hid (fun (W : World) (h : Below w1.heap.size w1 W) => show W.cell? ⟨w.heap.size, 3, none⟩ = some (.slice qo no ko) ∧ W.cell? ⟨w.heap.size, 4, none⟩ = some (.slice qx nx kx) from
          ⟨(sbox (HA.out.below h HA.out.lt)).2.2.2.1, (sbox (HA.out.below h HA.out.lt)).2.2.2.2⟩)
        have HB14d := Lib.hid (show Below w1.heap.size w1 w14.drew from HB14.out.drew)
        have HSd := Lib.hid (HSX.out _ HB14d.out)
        have hs14 : w1.heap.size ≤ w14.heap.size := HB14.out.size
        have hwO := HWO.out
        go_wp2_with fail
        clear a0 a1 a2 a3 a4 c0 c1 c2 c3 c4
        go_region_held3 (fun W => W.cell? ⟨w.heap.size, 3, none⟩ = some (.slice qo no ko) ∧ W.cell? ⟨w.heap.size, 4, none⟩ = some (.slice qx nx kx)) (first | exact HSX.out _ ((HB16.out.setCell (p := ⟨wO, 3, none⟩) hwO _).setCell (p := ⟨wO, 4, none⟩) hwO _) | exact HSX.out _ ((HB16.out.setCell (p := ⟨wO, 4, none⟩) hwO _).setCell (p := ⟨wO, 3, none⟩) hwO _) | exact HSX.out _ (HB16.out.setCell (p := ⟨wO, 3, none⟩) hwO _) | exact HSX.out _ (HB16.out.setCell (p := ⟨wO, 4, none⟩) hwO _) | exact HSX.out _ HB16.out | exact HSX.out _ HB15.out | exact HSd.out | assumption) (first
          | (go_at_call 37; (with_reducible refine (HCO.out _ HB14d.out).mono ?_); rintro e15 w15 ⟨q3, k3, rfl, ho3, hb3⟩; have HO15 := Lib.hid ho3; have HB145 := Lib.hid (show Below w14.heap.size w14 w15 from (Below.refl _ w14).drew.trans hb3); have HB15 := Lib.hid (show Below w1.heap.size w1 w15 from HB14.out.trans (HB145.out.mono hs14)); clear ho3 hb3)
          | (go_at_call 38; (with_reducible refine (HCX.out _ HB15.out).mono ?_); rintro e16 w16 ⟨q4, k4, rfl, hx4, hb4⟩; have HX16 := Lib.hid hx4; have HO16 := Lib.hid (HO15.out.keeps (Keeps.of_below hb4)); have HB146 := Lib.hid (show Below w14.heap.size w14 w16 from HB145.out.trans (hb4.mono HB145.out.size)); have HB16 := Lib.hid (show Below w1.heap.size w1 w16 from HB14.out.trans (HB146.out.mono hs14)); have HR16 := Lib.hid (HR14.out.below HB146.out HR14.out.lt); obtain ⟨c0, c1, c2, c3, c4⟩ := sbox HR16.out; have hf3 := HR16.out.frozen 3; have hf4 := HR16.out.frozen 4; have hs15 := HB145.out.size; clear hx4 hb4))
        obtain ⟨w17, hw17⟩ : ∃ w17, w17 = (w16.setCell ⟨wO, 3, none⟩ (.slice q3 no k3)).setCell ⟨wO, 4, none⟩ (.slice q4 nx k4) := ⟨_, rfl⟩
        have HR17 := Lib.hid (show Row w17 wO 30 (schC m D P q3 no k3 q4 nx k4) by rw [hw17]; exact (HR16.out.put 3 _).put 4 _)
        have hk : ∀ e : TypeId, e ≠ 30 → Keeps e w16 w17 := fun e he => by
          rw [hw17]
          exact ((Keeps.refl e w16).put (p := ⟨wO, 3, none⟩) HR16.out he _).put (p := ⟨wO, 4, none⟩) (HR16.out.put 3 (.slice q3 no k3)) he _
        have HB17 := Lib.hid (show Below w1.heap.size w1 w17 by rw [hw17]; exact (HB16.out.setCell (p := ⟨wO, 3, none⟩) hwO _).setCell (p := ⟨wO, 4, none⟩) hwO _)
        have HO17 := Lib.hid (HO16.out.keeps (hk _ (by decide)))
        have HX17 := Lib.hid (HX16.out.keeps (hk _ (by decide)))
        rw [← hw17]
        clear hw17 hk c0 c1 c2 c3 c4 hf3 hf4
        have HZ17 := Lib.hid (HZ.out.below HB17.out HZ.out.lt)
        obtain ⟨c0, c1, c2, c3, c4⟩ := sbox HR17.out
        have hzO2 := HR17.out.lt
        have hzZ2 := HZ17.out.lt
        go_wp2_with (refine wpList_store_row rfl _ _ _ rfl (w.heap.size + 1) (schC m D P q3 no k3 q4 nx k4) rfl rfl _ _ HZ17.out (by kernel_rfl) rfl (schC_one _ _ _ _ _ _ _ _ _) ?_)
        have hw14 : w.heap.size + 1 < w14.heap.size := by omega
        refine bodyPost_ret (v := .tuple #[.agg (schC m D P q3 no k3 q4 nx k4), .int .i64 0]) ?_ rfl ⟨.inr ⟨by omega, q3, k3, q4, k4, rfl, ?_, ?_⟩, below_whole (HBW.out _ HB17.out) (by omega) _⟩
        · exact results_row_tmp rfl _ _ (w.heap.size + 1) _ _ _ _ rfl rfl (HZ17.out.whole _) Tryd.underlying30 (by rfl) (by kernel_rfl)
        · exact (HO17.out.mono (show w.heap.size ≤ w14.heap.size by omega)).kept fun g hg => setRow_other _ _ _ _ (fun e => by
            have h9 : w14.heap.size ≤ g := (HO17.out.lt hg).1
            omega)
        · exact (Own.mono HX17.out (show w.heap.size ≤ w15.heap.size by have := HB145.out.size; omega)).kept fun g hg => setRow_other _ _ _ _ (fun e => by
            have h9 : w15.heap.size ≤ g := (HX17.out.lt hg).1
            have := HB145.out.size
            omega)
      · have hdg : decide ((no : Int) ≤ (FN : Int)) = false := decide_eq_false (by omega)
        have hdg2 : decide (no ≤ FN) = false := decide_eq_false hge
        go_wp2_with (refine wpList_store_row rfl _ _ _ rfl (w.heap.size + 1) (schC m D P q2 FN k2 qx2 nx kx2) rfl rfl _ _ HZ14.out (by kernel_rfl) rfl (schC_one _ _ _ _ _ _ _ _ _) ?_)
        refine bodyPost_ret (v := .tuple #[.agg (schC m D P q2 FN k2 qx2 nx kx2), .int .i64 0]) ?_ rfl ⟨.inl ⟨by omega, q2, k2, qx2, kx2, rfl, ?_, ?_⟩, below_whole (HBW.out _ HB14.out) (by omega) _⟩
        · exact results_row_tmp rfl _ _ (w.heap.size + 1) _ _ _ _ rfl rfl (HZ14.out.whole _) Tryd.underlying30 (by rfl) (by kernel_rfl)
        · exact (HO14.out.mono hww).kept fun g hg => setRow_other _ _ _ _ (fun e => by
            have h9 := (HO14.out.lt hg).1
            omega)
        · exact (Own.mono HX14.out hww).kept fun g hg => setRow_other _ _ _ _ (fun e => by
            have h9 := (HX14.out.lt hg).1
            omega)
    · obtain ⟨hX, hY⟩ := HBE.out.2 (a, b) rfl
      simp only at hX hY
      subst hX; subst hY
      obtain ⟨hab, hbN, htot⟩ := Xp.best_facts HST.out.1 HBE.out.1
      simp only at hab hbN htot
      have hol : O.length = n1 := HSH.out.ops.len
      obtain ⟨RN, hRN⟩ : ∃ RN, n0 + n1 = RN := ⟨_, rfl⟩
      obtain ⟨K', rfl⟩ : ∃ K', K = K' + 1 := ⟨K - 1, by have := HST.out.2.2; omega⟩
      have HRES2 := Lib.hid (show Xp.shr n0 K' (O ++ [((a : Int), (b : Int))]) (ls.map (Xp.repl a b RN)) = RES by
        have h9 := HST.out.2.1
        rw [Xp.shr_some (Xp.bestOf_is HBE.out.1), hol, hRN] at h9
        exact h9)
      rw [hol, hRN] at hbN htot
      have HSO2 := Lib.hid (show Xp.SetsOk (RN + 1) (ls.map (Xp.repl a b RN)) from by
        have h9 := HST.out.1
        rw [hol, hRN] at h9
        exact h9.repl)
      have HSO := Lib.hid (show Xp.SetsOk RN ls from by
        have h9 := HST.out.1
        rwa [hol, hRN] at h9)
      have HTK := Lib.hid (show Xp.total ls ≤ K' + 1 from HST.out.2.2)
      have HTT := Lib.hid htot
      have HRN := Lib.hid hRN
      have hRNs : RN ≤ 400000 := by omega
      have hwr : IntKind.i64.wrap ((n0 : Int) + (n1 : Int)) = (RN : Int) := by rw [← hRN, IntKind.wrap_i64] <;> omega
      have hn1s : n1 ≤ 300000 := by omega
      have HSF := Lib.hid (fun (W : World) (h : Below wr.heap.size wr W) => show (W.cell? ⟨w.heap.size, 0, none⟩ = some (.int .i64 (m : Int)) ∧ W.cell? ⟨w.heap.size, 1, none⟩ = some (.int .i64 (D : Int)) ∧ W.cell? ⟨w.heap.size, 2, none⟩ = some (.int .i64 (P : Int)) ∧ W.cell? ⟨w.heap.size, 3, none⟩ = some (.slice qo no ko) ∧ W.cell? ⟨w.heap.size, 4, none⟩ = some (.slice qx nx kx)) ∧ W.cell? ⟨wO, 3, none⟩ = some (.slice q n1 k) from
        ⟨sbox ((HA.out.below HSH.out.below HA.out.lt).below h (Nat.lt_of_lt_of_le HA.out.lt HSH.out.below.size)), (sbox (HSH.out.next h).out).2.2.2.1⟩)
      have HSd := Lib.hid (HSF.out wr.drew (Below.refl _ wr).drew)
      have HLI := Lib.hid (show lenAt wr wO 3 = n1 by unfold lenAt; rw [(HSF.out wr (Below.refl _ wr)).2])
      clear hRN hol htot
      go_wp2_with fail
      go_region_held3 (fun W => (W.cell? ⟨w.heap.size, 0, none⟩ = some (.int .i64 (m : Int)) ∧ W.cell? ⟨w.heap.size, 1, none⟩ = some (.int .i64 (D : Int)) ∧ W.cell? ⟨w.heap.size, 2, none⟩ = some (.int .i64 (P : Int)) ∧ W.cell? ⟨w.heap.size, 3, none⟩ = some (.slice qo no ko) ∧ W.cell? ⟨w.heap.size, 4, none⟩ = some (.slice qx nx kx)) ∧ W.cell? ⟨wO, 3, none⟩ = some (.slice q n1 k)) (first | exact HS8.out | exact HSd.out | assumption) (first
        | (go_at_call 33; (with_reducible refine (HIN.out _ _ _).mono ?_); rintro e8 w8 ⟨rfl, hb8⟩; have HB8 := Lib.hid (show Below wr.heap.size wr w8 from below_call (Below.refl _ wr).drew hb8); have HS8 := Lib.hid (HSF.out _ HB8.out); clear hb8))
      have HM8 := Lib.hid (HSH.out.next HB8.out)
      have HMA := Lib.hid (HM8.out.next ((Below.refl w8.heap.size w8).alloc (Nat.le_refl _) (.cells #[.int .i64 (a : Int), .int .i64 (b : Int)] 66)))
      have HN := Lib.hid (show Row (w8.alloc (.cells #[.int .i64 (a : Int), .int .i64 (b : Int)] 66)) w8.heap.size 66 #[.int .i64 (a : Int), .int .i64 (b : Int)] from Row.new _ _ _)
      obtain ⟨p0, p1⟩ := pbox HM8.out.pair
      obtain ⟨c0, c1, c2, c3, c4⟩ := sbox HM8.out.out
      have hzO := HM8.out.out.lt
      have hzG := HM8.out.pair.lt
      have hsB : w1.heap.size ≤ w8.heap.size := HM8.out.below.size
      go_upto_region 10 with (refine wpList_op rfl (.tmp 48) (.tmp 54) rfl w1.heap.size q n1 k O rfl HMA.out.ops w8.heap.size 1 (a : Int) (b : Int) rfl (HN.out.cell 0) (HN.out.cell 1) (by omega) (by rw [size1]; omega) ?_; intro a6 k6 w9 ho6 hg6 hn6; have HF6 := Lib.hid (HMA.out.op ho6 hg6); obtain ⟨c0, c1, c2, c3, c4⟩ := sbox HF6.out.1; have hfz := HF6.out.1.frozen 3; clear ho6 hg6 hn6)
      obtain ⟨w10, hw10⟩ : ∃ w10, w10 = w9.setCell ⟨wO, 3, none⟩ (.slice a6 (n1 + 1) k6) := ⟨_, rfl⟩
      have HM10 := Lib.hid (show ShM w1 w10 m D P qs nx ks vs ls wO gp a6 (n1 + 1) k6 (O ++ [((a : Int), (b : Int))]) a b by rw [hw10]; exact HF6.out.2)
      rw [← hw10]
      clear hw10 c0 c1 c2 c3 c4 hfz HF6 p0 p1 hzO hzG hsB HMA HN HS8 HSd
      obtain ⟨wr0, rfl⟩ : ∃ W : World, W = wr := ⟨_, rfl⟩
      obtain ⟨O2, hO2⟩ : ∃ O2, O ++ [((a : Int), (b : Int))] = O2 := ⟨_, rfl⟩
      have HO2L := Lib.hid (show O2.length = n1 + 1 by rw [← hO2, List.length_append, HSH.out.ops.len]; rfl)
      rw [hO2] at HM10 HRES2
      have HLSN := Lib.hid (show ls.length = nx by rw [← HSH.out.fam.len, HSH.out.rows.len])
      have HLT := Lib.hid (fun (l : List Nat) (h : l ∈ ls) => show l.length ≤ 300000 from by have := len_total h; omega)
      have HSM := Lib.hid (fun (l : List Nat) (h : l ∈ ls) => HSO.out l h)
      clear hO2 hwr
      go_wp2_with fail
      go_loopw [59] (fun i5 wr => ∃ (i : Nat) (vs2 : List Value), i ≤ nx ∧ i5 = .int .i64 i ∧ ShM w1 wr m D P qs nx ks vs2 ((ls.take i).map (Xp.repl a b RN) ++ ls.drop i) wO gp a6 (n1 + 1) k6 O2 a b) (fun i5 _ => nx - (intOf i5).toNat)
      case atStart => exact ⟨0, vs, Nat.zero_le _, rfl, HM10.out⟩
      case round =>
        obtain ⟨i, vs2, hi, rfl, hm2⟩ := hrel
        have HM2 := Lib.hid hm2
        clear hm2
        by_cases hil : i < nx
        · have hdi : decide ((i : Int) < nx) = true := decide_eq_true (by omega)
          obtain ⟨l, hl⟩ : ∃ l, ls[i]? = some l := ⟨_, List.getElem?_eq_getElem (by rw [HLSN.out]; exact hil)⟩
          obtain ⟨hL2, hL3⟩ := mapped_step (f := Xp.repl a b RN) hl
          have HL2 := Lib.hid hL2
          have HL3 := Lib.hid hL3
          have hll := HLT.out l (List.mem_of_getElem? hl)
          have HSL := Lib.hid (HSM.out l (List.mem_of_getElem? hl))
          obtain ⟨ql, kl, hv, hol⟩ := HM2.out.fam.own i l hL2
          obtain ⟨gS, rfl, _, hglt, hcS, hfS⟩ := HM2.out.rows.at_ hil
          rw [hv] at hcS
          have HV2 := Lib.hid hv
          have HOL := Lib.hid hol
          obtain ⟨L, hL⟩ : ∃ L, l.length = L := ⟨_, rfl⟩
          have HLL := Lib.hid hL
          have HCA := Lib.hid (contains_any ql L kl l a wr hL (by omega) (by rw [hL] at hol; exact hol.rd))
          have HCB := Lib.hid (contains_any ql L kl l b wr hL (by omega) (by rw [hL] at hol; exact hol.rd))
          rw [hL] at hcS hll
          obtain ⟨p0, p1⟩ := pbox HM2.out.pair
          have hzG := HM2.out.pair.lt
          clear hl hL2 hL3 hv hol hL
          obtain ⟨ba, hba⟩ : ∃ ba, decide (a ∈ l) = ba := ⟨_, rfl⟩
          obtain ⟨bb, hbb⟩ : ∃ bb, decide (b ∈ l) = bb := ⟨_, rfl⟩
          rw [hba] at HCA
          rw [hbb] at HCB
          have HBA := Lib.hid hba
          have HBB := Lib.hid hbb
          clear hba hbb
          cases ba
          · have HRP := Lib.hid (show Xp.repl a b RN l = l by
              unfold Xp.repl
              rw [if_neg (fun h => (of_decide_eq_false HBA.out) h.1)])
            have h9 := HM2.out
            rw [HRP.out, set_self2 _ _ _ HL2.out] at HL3
            rw [HL3.out] at h9
            have HM3 := Lib.hid h9
            clear h9
            go_wp2_with fail
            refine HCA.out.mono ?_
            rintro e w2' ⟨rfl, rfl⟩
            go_wp2_with fail
            go_roundw
            case rel => exact ⟨i + 1, vs2, by omega, by go_num, HM3.out⟩
            case measure => simp [intOf]; omega
          · cases bb
            · have HRP := Lib.hid (show Xp.repl a b RN l = l by
                unfold Xp.repl
                rw [if_neg (fun h => (of_decide_eq_false HBB.out) h.2)])
              have h9 := HM2.out
              rw [HRP.out, set_self2 _ _ _ HL2.out] at HL3
              rw [HL3.out] at h9
              have HM3 := Lib.hid h9
              clear h9
              go_wp2_with fail
              refine HCA.out.mono ?_
              rintro e w2' ⟨rfl, rfl⟩
              go_wp2_with fail
              refine HCB.out.mono ?_
              rintro e w2' ⟨rfl, rfl⟩
              go_wp2_with fail
              go_roundw
              case rel => exact ⟨i + 1, vs2, by omega, by go_num, HM3.out⟩
              case measure => simp [intOf]; omega
            · have hal := of_decide_eq_true HBA.out
              have hbl := of_decide_eq_true HBB.out
              have hL1 : 0 < l.length := List.length_pos_of_mem hal
              obtain ⟨g, rfl, _, hgl, _, _⟩ := HOL.out.at_ hL1
              have HDE := Lib.hid (delete_any gp a b w1.heap.size g L kl l wr HM2.out.pair HLL.out (by omega) (by have h9 := HOL.out; rw [HLL.out] at h9; exact h9) hal)
              obtain ⟨FL, hFL⟩ : ∃ FL, l.filter (keepAB a b) = FL := ⟨_, rfl⟩
              have HRP := Lib.hid (show Xp.repl a b RN l = FL ++ [RN] by
                unfold Xp.repl
                rw [if_pos ⟨hal, hbl⟩, ← hFL])
              rw [hFL] at HDE
              obtain ⟨fn, hfn⟩ : ∃ fn, FL.length = fn := ⟨_, rfl⟩
              have hfn3 : fn ≤ 300000 := by rw [← hfn, ← hFL]; exact Nat.le_trans (List.length_filter_le _ _) (by rw [HLL.out]; omega)
              have HFN := Lib.hid hfn
              rw [hfn] at HDE
              clear hal hbl hL1 hFL hfn
              go_wp2_with fail
              refine HCA.out.mono ?_
              rintro e w2' ⟨rfl, rfl⟩
              go_wp2_with fail
              refine HCB.out.mono ?_
              rintro e w2' ⟨rfl, rfl⟩
              go_wp2_with fail
              refine HDE.out.mono ?_
              rintro e wD ⟨rfl, hoD, honD⟩
              have HOD := Lib.hid (hoD.alloc (.cells #[.int .i64 (RN : Int)] 3))
              have HGD := Lib.hid ((only_grown honD).trans (World.grownBy_alloc wD (.cells #[.int .i64 (RN : Int)] 3) (some g)))
              have hsD := honD.size
              have hs1 := HM2.out.below.size
              clear hoD honD
              go_wp2_with (refine wpList_app2 _ rfl (.tmp 78) (.tmp 80) 27 rfl w1.heap.size 3 (.int .i64 0) 8 Tryd.underlying27 elem_ints rfl (some ⟨g, 0, none⟩) fn kl (nts FL) rfl HOD.out _ (some ⟨wD.heap.size, 0, none⟩) 1 1 [.int .i64 (RN : Int)] rfl (Rd.one wD _ _) rfl (by intro u hu; simp only [List.mem_singleton] at hu; subst hu; rfl) (by unfold maxLen; omega) (by omega) (by rw [size1]; omega) ?_; intro a7 k7 w11 ho7 hg7 hn7; have HST := Lib.hid (HM2.out.set (a' := a7) (c' := k7) (l' := FL ++ [RN]) (kl := kl) hil HL2.out HV2.out rfl (HGD.out.trans hg7) (by rw [nts_snoc, List.length_append, HFN.out]; exact ho7) (by rcases hn7 with h | ⟨g3, h, h3⟩; exact .inl h; exact .inr ⟨g3, h, by rw [size1] at h3; omega⟩)); clear ho7 hg7 hn7; obtain ⟨gS2, egS2, _, hgSl, hcS2, hfS2⟩ := HST.out.1.at_ hil; (obtain rfl : gS = gS2 := by injection egS2 with egS2; injection egS2); rw [HV2.out] at hcS2)
              have h9 := HST.out.2
              rw [List.length_append, HFN.out] at h9
              have HM3 := Lib.hid h9
              clear h9
              go_roundw
              case rel => exact ⟨i + 1, _, by omega, by go_num, by rw [← HL3.out, HRP.out]; exact HM3.out⟩
              case measure => simp [intOf]; omega
        · have hdi : decide ((i : Int) < nx) = false := decide_eq_false (by omega)
          have hdi2 : decide (i < nx) = false := decide_eq_false (by omega)
          have h9 := HM2.out
          rw [List.take_of_length_le (l := ls) (by rw [HLSN.out]; omega), List.drop_of_length_le (l := ls) (by rw [HLSN.out]; omega), List.append_nil] at h9
          obtain ⟨ls2, hls2⟩ : ∃ ls2, ls.map (Xp.repl a b RN) = ls2 := ⟨_, rfl⟩
          rw [hls2] at h9 HSO2 HRES2 HTT
          have HM3 := Lib.hid h9
          obtain ⟨p0, p1⟩ := pbox HM3.out.pair
          have hzG := HM3.out.pair.lt
          clear h9 hls2
          go_upto_region 7 with fail
          obtain ⟨w12, hw12⟩ : ∃ w12, w12 = wr.alloc (.cells (pkC a b) 59) := ⟨_, rfl⟩
          have HM12 := Lib.hid (show ShM w1 w12 m D P qs nx ks vs2 ls2 wO wr.heap.size a6 (n1 + 1) k6 O2 a b by
            have h9 := HM3.out.next (show Below wr.heap.size wr w12 by rw [hw12]; exact (Below.refl _ wr).alloc (Nat.le_refl _) _)
            exact ⟨h9.out, h9.ops, h9.rows, h9.fam, by rw [hw12]; exact Row.new _ _ _, h9.oB, HM3.out.below.size, h9.below⟩)
          rw [← hw12]
          clear hw12 p0 p1 hzG
          obtain ⟨gp2, hgp2⟩ : ∃ g, wr.heap.size = g := ⟨_, rfl⟩
          rw [hgp2] at HM12 ⊢
          clear hgp2
          go_wp2_with fail
          refine (counts_at HSO2.out (by omega) (by have := HTT.out; omega) qs nx ks w12 HM12.out.rowsT hns6).mono ?_
          rintro e w13 ⟨⟨nc2, hnc2, rfl, hcm⟩, hb⟩
          have HM13 := Lib.hid (HM12.out.next hb)
          have HC13 := Lib.hid hcm
          clear hcm hb
          go_wp2_with fail
          refine (best_at HSO2.out (by omega) (by have := HTT.out; omega) _ nc2 w13 HC13.out).mono ?_
          rintro e w14 ⟨⟨r2, X2, Y2, rfl, hbest, hpp⟩, hb⟩
          have HM14 := Lib.hid (HM13.out.next hb)
          have HBE2 := Lib.hid hbest
          have HPP2 := Lib.hid hpp
          clear hbest hpp hb
          have hzg2 := HM14.out.pair.lt
          go_wp2_with (refine wpList_store_row rfl _ _ _ rfl gp2 (pkC X2 Y2) rfl rfl _ _ HM14.out.pair (by kernel_rfl) rfl (pk_one X2 Y2) ?_)
          have HM15 := Lib.hid (HM14.out.whole (X' := X2) (Y' := Y2))
          go_roundw
          case rel => exact ⟨gp2, r2, X2, Y2, K', O2, ls2, vs2, a6, n1 + 1, k6, rfl, rfl, Lib.hid ⟨HBE2.out, HPP2.out⟩, HM15.out, Lib.hid ⟨by rw [HO2L.out, ← Nat.add_assoc, HRN.out]; exact HSO2.out, HRES2.out, by have := HTT.out; have := HTK.out; omega⟩, by have := HTT.out; omega⟩
          case measure =>
            have e1 : lenAt (w14.setRow gp2 (pkC X2 Y2)) wO 3 = n1 + 1 := by
              unfold lenAt
              rw [(sbox HM15.out.out).2.2.2.1]
            rw [e1, HLI.out]
            have := HTT.out
            omega
end Go.Proofs.YtghinmlpkgcdiaaDoor
