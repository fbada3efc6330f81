/- Schedules: the program's Compile, the walk. -/
import Derived.Test.YtghinmlpkgcdiaaDoorX12
namespace Go.Proofs.YtghinmlpkgcdiaaDoor
set_option linter.unusedSimpArgs false
set_option linter.unusedVariables false
open Go.RowKit Go.Lib

theorem testBit_div (P k : Nat) : P / 2 ^ k % 2 = if P.testBit k then 1 else 0 := by
  have e : P.testBit k = (P / 2 ^ k % 2 == 1) := by
    rw [Nat.testBit, Nat.shiftRight_eq_div_pow, Nat.and_comm, Nat.and_one_is_mod]
    rcases (show P / 2 ^ k % 2 = 0 ∨ P / 2 ^ k % 2 = 1 by omega) with h | h <;> rw [h] <;> rfl
  rw [e]
  rcases (show P / 2 ^ k % 2 = 0 ∨ P / 2 ^ k % 2 = 1 by omega) with h | h <;> rw [h] <;> rfl
theorem i64_bit (P k : Nat) (hP : P < 65536) : (bits .and .i64 ((P : Int) / 2 ^ k) 1 != 0) = P.testBit k := by
  have e : ((P : Int) / 2 ^ k) = ((P / 2 ^ k : Nat) : Int) := by simp
  have hd : P / 2 ^ k ≤ P := Nat.div_le_self _ _
  rw [e, i64_and1 _ (by omega), testBit_div]
  cases P.testBit k <;> rfl
set_option maxRecDepth 100000 in
set_option maxHeartbeats 12800000 in
theorem compile_yes {m D : Nat} (hm : Fld.IsM m) (nm : Value) (qp : Option Addr) (np kp : Nat) (dom : Int) (rows : List (List Nat)) (w : World) (ht : Tab w) (hr : Grid w w.heap.size qp np (intsOf rows)) (hnm : nm.oneCell' = true) (hD : 1 ≤ D) (hw32 : D + np ≤ 32) (hrows : ∀ r ∈ rows, r.length = D ∧ ∀ x ∈ r, x < 2 ^ m) (hok : Xp.okC m D (intsOf rows) = true) :
    Calls Tryd.prog 11 #[.agg (codC nm m D qp np kp dom)] w fun e w' => (∃ q k qx kx, e = .returned (.tuple #[schV m D np q (Xp.fin ((D * m : Nat) : Int) [] (Xp.csets m rows)).1.length k qx (np * m) kx, .int .i64 0]) ∧ OpsR w' w.heap.size q (Xp.fin ((D * m : Nat) : Int) [] (Xp.csets m rows)).1.length k (Xp.fin ((D * m : Nat) : Int) [] (Xp.csets m rows)).1 ∧ Own w' w.heap.size 3 qx (np * m) kx (ints (Xp.fin ((D * m : Nat) : Int) [] (Xp.csets m rows)).2)) ∧ Below w.heap.size w w' := by
  have HV := Lib.hid (fun (W : World) (hb : Below w.heap.size w W) => evalid_any nm m D qp np kp dom (intsOf rows) W (ht.next hb) ((hr.below hb).more hb.size) (by omega) hnm)
  rw [hok] at HV
  have HT := Lib.hid ht
  have HGR := Lib.hid hr
  have hnpl : rows.length = np := by have := hr.len; unfold intsOf at this; rwa [List.length_map] at this
  have HNP := Lib.hid hnpl
  have HROWS := Lib.hid hrows
  have hm16 : 8 ≤ m ∧ m ≤ 16 := by rcases hm with rfl | rfl <;> omega
  have HMM := Lib.hid hm
  have hDm : D * m ≤ 512 := by have := Nat.mul_le_mul (show D ≤ 32 by omega) hm16.2; omega
  have htot : Xp.total (Xp.csets m rows) ≤ 500000 := by
    have h1 := Xp.csets_total m D rows (fun r hr => (hrows r hr).1)
    have h2 : rows.length * m ≤ 512 := by have := Nat.mul_le_mul (show rows.length ≤ 32 by omega) hm16.2; omega
    have h3 := Nat.mul_le_mul h2 hDm
    omega
  have HCL := Lib.hid (show (Xp.csets m rows).length = np * m by rw [Xp.csets_length, hnpl])
  have hnm2 : np * m ≤ 512 := by have := Nat.mul_le_mul (show np ≤ 32 by omega) hm16.2; omega
  have HFI := Lib.hid (fun (W : World) (qs : Option Addr) (ks : Nat) (hs : RowsT W qs (np * m) (Xp.csets m rows)) => finish_any m D np W.heap.size none 0 0 [] qs (np * m) ks (Xp.csets m rows) ((D * m : Nat) : Int) W (by rw [← Int.natCast_mul, IntKind.wrap_i64] <;> omega) (by omega) (by omega) (OpsR.nil _ _) (Nat.le_refl _) hs hnm2 (by omega))
  obtain ⟨FO, hFO⟩ : ∃ FO, (Xp.fin ((D * m : Nat) : Int) [] (Xp.csets m rows)).1 = FO := ⟨_, rfl⟩
  obtain ⟨FU, hFU⟩ : ∃ FU, (Xp.fin ((D * m : Nat) : Int) [] (Xp.csets m rows)).2 = FU := ⟨_, rfl⟩
  rw [hFO, hFU] at HFI ⊢
  obtain ⟨FN, hFN⟩ : ∃ FN, FO.length = FN := ⟨_, rfl⟩
  rw [hFN] at HFI ⊢
  obtain ⟨NX, hNX⟩ : ∃ NX, np * m = NX := ⟨_, rfl⟩
  rw [hNX] at HFI HCL hnm2 ⊢
  have HNX := Lib.hid hNX
  have HMR := make_rows m (by omega)
  unfold schV at HFI ⊢
  have HW : Hid (Below w.heap.size w ((w.alloc (.cells (codC nm m D qp np kp dom) 26)).alloc (.cells (schC 0 0 0 none 0 0 none 0 0) 30))) := Lib.hid (((Below.refl _ w).alloc (Nat.le_refl _) _).alloc (by simp) _)
  have HC : Hid (Row ((w.alloc (.cells (codC nm m D qp np kp dom) 26)).alloc (.cells (schC 0 0 0 none 0 0 none 0 0) 30)) w.heap.size 26 (codC nm m D qp np kp dom)) := Lib.hid ((Row.new w _ _).alloc _)
  have HZ : Hid (Row ((w.alloc (.cells (codC nm m D qp np kp dom) 26)).alloc (.cells (schC 0 0 0 none 0 0 none 0 0) 30)) (w.heap.size + 1) 30 (schC 0 0 0 none 0 0 none 0 0)) := Lib.hid (Row.made _ _ (by simp))
  clear ht hr hrows hok hm htot hFO hFU hFN hNX hnpl
  go_enter Tryd.func11, Tryd.ntmps11
  go_wp2_with fail
  refine (HV.out _ HW.out).mono ?_
  rintro e w1 ⟨rfl, hb⟩
  have HB1 := Lib.hid (below_call HW.out hb)
  have HC1 := Lib.hid (HC.out.below hb HC.out.lt)
  have HZ1 := Lib.hid (HZ.out.below hb HZ.out.lt)
  have hz1 : w.heap.size + 1 < w1.heap.size := HZ1.out.lt
  obtain ⟨c0, c1, c2, c3, c4⟩ := cbox HC1.out
  clear hb HW HC HZ
  go_wp2_with fail
  clear c0 c1 c2 c3 c4
  go_loopw [5, 24] (fun s i wr => ∃ (t n : Nat) (q : Option Addr) (k : Nat) (vs : List Value), t ≤ np ∧ i = .int .i64 t ∧ s = .slice q n k ∧ Hid (n = t * m) ∧ Own wr w1.heap.size 27 q n k vs ∧ Fam wr w1.heap.size vs (Xp.csets m (rows.take t)) ∧ Below w1.heap.size w1 wr) (fun _ i _ => np - (intOf i).toNat)
  case atStart => exact ⟨0, 0, none, 0, [], Nat.zero_le _, rfl, rfl, Lib.hid (by simp), Own.nil _ _ _, Fam.nil _ _, Below.refl _ _⟩
  case round =>
    obtain ⟨t, n, q, k, vs, htn, rfl, rfl, hn, ho, hf, hb⟩ := hrel
    have HN := Lib.hid hn.out
    have HO := Lib.hid ho
    have HF := Lib.hid hf
    have HB := Lib.hid hb
    have hsw := hb.size
    obtain ⟨wo, rfl⟩ : ∃ wo : World, wo = wr := ⟨_, rfl⟩
    clear hn ho hf hb
    by_cases hlt : t < np
    · have hd : decide ((t : Int) < np) = true := decide_eq_true (by omega)
      obtain ⟨r, hrr⟩ : ∃ r, rows[t]? = some r := ⟨_, List.getElem?_eq_getElem (by rw [HNP.out]; exact hlt)⟩
      obtain ⟨hrl, hrx⟩ := HROWS.out r (List.mem_of_getElem? hrr)
      obtain ⟨bp, offp, qr, kr, rfl, hbp, hcr, _, hrd⟩ := (HGR.out.below (HB1.out.trans (HB.out.mono HB1.out.size))).row t _ (intsOf_get hrr)
      rw [List.length_map, hrl] at hcr
      have HRR := Lib.hid hrr
      have HRL := Lib.hid hrl
      have HRX := Lib.hid hrx
      have HRD := Lib.hid hrd
      have HOP := Lib.hid (show Own (wo.alloc (.cells (madeCells #[.slice none 0 0] m) 27)) wo.heap.size 27 (some ⟨wo.heap.size, 0, none⟩) m m (List.replicate m (.slice none 0 0)) from by
        have h9 := Own.new wo wo.heap.size 27 (madeCells #[.slice none 0 0] m) m (Nat.le_refl _) (by rw [← Array.length_toList, toList_madeCells_one, List.length_replicate]) (by unfold maxLen; omega)
        rwa [toList_madeCells_one] at h9)
      have HFP := Lib.hid (Fam.empty (wo.alloc (.cells (madeCells #[.slice none 0 0] m) 27)) wo.heap.size m)
      have hno : n ≤ 512 := by
        have h1 : t * m ≤ np * m := Nat.mul_le_mul_right _ (by omega)
        rw [HNX.out] at h1
        have := HN.out
        omega
      have hbq : bp < wo.heap.size := by have := HB1.out.size; omega
      clear hrr hrl hrx hrd
      go_wp2_with fail
      clear hcr
      go_loopw [32] (fun i wr => ∃ (j : Nat) (us : List Value), j ≤ D ∧ i = .int .i64 j ∧ Own wr wo.heap.size 27 (some ⟨wo.heap.size, 0, none⟩) m m us ∧ Fam wr wo.heap.size us (Xp.planesTo m r (j * m)) ∧ Below wo.heap.size wo wr) (fun i _ => D - (intOf i).toNat)
      case atStart => exact ⟨0, _, Nat.zero_le _, rfl, HOP.out, by rw [Nat.zero_mul, Xp.planesTo_zero]; exact HFP.out, (Below.refl _ _).alloc (Nat.le_refl _) _⟩
      case round =>
        obtain ⟨j, us, hjD, rfl, ho, hf, hb⟩ := hrel
        have HO2 := Lib.hid ho
        have HF2 := Lib.hid hf
        have HB2 := Lib.hid hb
        clear ho hf hb HOP HFP
        by_cases hjlt : j < D
        · have hd2 : decide ((j : Int) < D) = true := decide_eq_true (by omega)
          obtain ⟨X, hX⟩ : ∃ X, r[j]? = some X := ⟨_, List.getElem?_eq_getElem (by rw [HRL.out]; exact hjlt)⟩
          have HX := Lib.hid hX
          have HXB := Lib.hid (HRX.out X (List.mem_of_getElem? hX))
          obtain ⟨bq, oq, rfl, hbq2, hcx⟩ := ((HRD.out.more (show w.heap.size ≤ wo.heap.size by omega)).below HB2.out) j (.int .i64 (X : Int)) (by rw [ints, List.getElem?_map, List.getElem?_map, hX]; rfl)
          clear hX
          go_wp2_with fail
          clear hcx
          go_loopw [38] (fun i wr => ∃ (l : Nat) (us : List Value), l ≤ m ∧ i = .int .i64 l ∧ Own wr wo.heap.size 27 (some ⟨wo.heap.size, 0, none⟩) m m us ∧ Fam wr wo.heap.size us (Xp.planesTo m r (j * m + l)) ∧ Below wo.heap.size wo wr) (fun i _ => m - (intOf i).toNat)
          case atStart => exact ⟨0, us, Nat.zero_le _, rfl, HO2.out, HF2.out, HB2.out⟩
          case round =>
            obtain ⟨l, us3, hlm, rfl, ho, hf, hb⟩ := hrel
            have HO3 := Lib.hid ho
            have HF3 := Lib.hid hf
            have HB3 := Lib.hid hb
            clear ho hf hb
            by_cases hllt : l < m
            · have hd3 : decide ((l : Int) < m) = true := decide_eq_true (by omega)
              obtain ⟨Bs, hBs⟩ : ∃ Bs, 1 <<< l = Bs := ⟨_, rfl⟩
              have hwl : IntKind.i64.wrap ((2 : Int) ^ l) = (Bs : Int) := by
                rw [← hBs, Nat.one_shiftLeft, show (2 : Int) ^ l = ((2 ^ l : Nat) : Int) by simp, IntKind.wrap_i64]
                all_goals
                  have : (2 : Nat) ^ l ≤ 2 ^ 16 := Nat.pow_le_pow_right (by decide) (by omega)
                  generalize 2 ^ l = y at this ⊢
                  omega
              obtain ⟨P, hP⟩ : ∃ P, Fld.mul m X Bs = P := ⟨_, rfl⟩
              have HMU := Lib.hid (fun (W : World) (ht : Tab W) => fmul_yes m X Bs HMM.out HXB.out (by rw [← hBs, Nat.one_shiftLeft]; exact Nat.pow_lt_pow_right (by decide) hllt) W ht)
              rw [hP] at HMU
              unfold pairV at HMU
              have hPlt : P < 65536 := by
                have := Fld.mul_lt HMM.out Bs HXB.out
                rw [hP] at this
                rcases HMM.out with h | h <;> (rw [h] at this; omega)
              obtain ⟨T, hT⟩ : ∃ T, j * m + l = T := ⟨_, rfl⟩
              have HTT := Lib.hid hT
              have hT512 : T < 512 := by
                have h1 : (j + 1) * m ≤ D * m := Nat.mul_le_mul_right _ (by omega)
                rw [Nat.add_mul] at h1
                omega
              have HBIT := Lib.hid (show Fld.mul m (r[T / m]?.getD 0) (1 <<< (T % m)) = P by
                rw [← hT, Nat.mul_comm j m, Nat.mul_add_div (by omega), Nat.div_eq_of_lt hllt, Nat.add_zero, HX.out, Nat.mul_add_mod, Nat.mod_eq_of_lt hllt, hBs]
                exact hP)
              have HTW := Lib.hid (HT.out.next ((HB1.out.trans (HB.out.mono HB1.out.size)).trans (HB3.out.mono (by have := HB1.out.size; omega))))
              rw [hT] at HF3
              clear hBs hP hT
              go_wp2_with fail
              refine (HMU.out _ HTW.out).mono ?_
              rintro e w4 ⟨rfl, hb4⟩
              have HO4 := Lib.hid (HO3.out.below hb4)
              have HF4 := Lib.hid (HF3.out.keeps (Keeps.of_below hb4))
              have HB4 := Lib.hid (below_call HB3.out (by exact hb4))
              clear hb4
              go_wp2_with fail
              go_loopw [51] (fun i wr => ∃ (k2 : Nat) (us : List Value), k2 ≤ m ∧ i = .int .i64 k2 ∧ Own wr wo.heap.size 27 (some ⟨wo.heap.size, 0, none⟩) m m us ∧ Fam wr wo.heap.size us (Xp.planesAt m r T k2) ∧ Below wo.heap.size wo wr) (fun i _ => m - (intOf i).toNat)
              case atStart => exact ⟨0, us3, Nat.zero_le _, rfl, HO4.out, by rw [Xp.planesAt_zero]; exact HF4.out, HB4.out⟩
              case round =>
                obtain ⟨k2, us4, hk2, rfl, ho, hf, hb⟩ := hrel
                have HO5 := Lib.hid ho
                have HF5 := Lib.hid hf
                have HB5 := Lib.hid hb
                have hsz := hb.size
                clear ho hf hb
                by_cases hk2m : k2 < m
                · have hd4 : decide ((k2 : Int) < m) = true := decide_eq_true (by omega)
                  obtain ⟨b, hb⟩ : ∃ b, P.testBit k2 = b := ⟨_, rfl⟩
                  have hbt : (bits .and .i64 ((P : Int) / 2 ^ k2) 1 != 0) = b := by rw [i64_bit P k2 hPlt, hb]
                  have HBB := Lib.hid (show (Fld.mul m (r[T / m]?.getD 0) (1 <<< (T % m))).testBit k2 = b by rw [HBIT.out, hb])
                  clear hb
                  cases b
                  · have HF6 := HF5.out
                    rw [Xp.planesAt_keep HBB.out] at HF6
                    have HF7 := Lib.hid HF6
                    clear HF6
                    go_wp2_with fail
                    go_roundw
                    case rel => exact ⟨k2 + 1, us4, by omega, by go_num, HO5.out, HF7.out, HB5.out⟩
                    case measure => simp [intOf]; omega
                  · obtain ⟨pl, hpl⟩ : ∃ pl, Xp.plane m r k2 T = pl := ⟨_, rfl⟩
                    have HPG := Lib.hid (show (Xp.planesAt m r T k2)[k2]? = some pl by rw [Xp.planesAt_get hk2m, hpl])
                    have HPP := Lib.hid (show (Xp.planesAt m r T k2).set k2 (pl ++ [T]) = Xp.planesAt m r T (k2 + 1) by rw [← hpl]; exact Xp.planesAt_put hk2m HBB.out)
                    have hpll : pl.length ≤ 512 := by have := Xp.plane_length m r k2 T; rw [hpl] at this; omega
                    obtain ⟨J, hJ⟩ : ∃ J, j * m = J := ⟨_, rfl⟩
                    have hw1 : IntKind.i64.wrap ((j : Int) * (m : Int)) = (J : Int) := by rw [← Int.natCast_mul, hJ, IntKind.wrap_i64] <;> (have := HTT.out; omega)
                    have hw2 : IntKind.i64.wrap ((J : Int) + (l : Int)) = (T : Int) := by rw [← hJ, ← Int.natCast_add, HTT.out, IntKind.wrap_i64] <;> omega
                    obtain ⟨q5, k5, hvj, hoj⟩ := HF5.out.own k2 pl HPG.out
                    have HVJ := Lib.hid hvj
                    have HOJ := Lib.hid (hoj.alloc (.cells #[.int .i64 (T : Int)] 3))
                    have HFA := Lib.hid (HF5.out.keeps ((Keeps.refl 3 wr).alloc (.cells #[.int .i64 (T : Int)] 3)))
                    have HOA := Lib.hid (HO5.out.alloc (.cells #[.int .i64 (T : Int)] 3))
                    have HBA := Lib.hid (HB5.out.alloc hsz (.cells #[.int .i64 (T : Int)] 3))
                    obtain ⟨L, hL⟩ : ∃ L, pl.length = L := ⟨_, rfl⟩
                    have HL := Lib.hid hL
                    obtain ⟨gz, egz, _, _, hcz, hfz⟩ := HO5.out.at_ hk2m
                    obtain rfl : wo.heap.size = gz := by injection egz with egz; injection egz
                    rw [hvj, hL] at hcz
                    rw [hL] at HOJ hpll
                    clear hpl hvj hoj hL egz hJ
                    go_wp2_with (refine wpList_app2 _ rfl (.tmp 64) (.tmp 70) 27 rfl wo.heap.size 3 (.int .i64 0) 8 Tryd.underlying27 elem_ints rfl q5 L k5 (nts pl) rfl HOJ.out _ (some ⟨wr.heap.size, 0, none⟩) 1 1 [.int .i64 (T : Int)] rfl (Rd.one wr _ _) rfl (by intro u hu; simp only [List.mem_singleton] at hu; subst hu; rfl) (by unfold maxLen; omega) (by omega) (by rw [size1]; omega) ?_; intro a6 k6 w6 ho6 hg6 hn6; have HO7 := Lib.hid (HOA.out.keeps_grown hg6 HOJ.out (by decide)); have HB7 := Lib.hid (below_grown2 HBA.out hg6 HOJ.out (by rw [size1]; omega) (Nat.le_refl _)); have HF7 := Lib.hid (fam_app HFA.out HPG.out HVJ.out HL.out hg6 ho6 hn6); obtain ⟨gz, egz, _, _, hcz2, hfz2⟩ := HO7.out.at_ hk2m; (obtain rfl : wo.heap.size = gz := by (injection egz with egz; injection egz)); rw [HVJ.out] at hcz2; clear ho6 hg6 hn6 egz hcz hfz)
                    obtain ⟨cs7, hrow7, _⟩ := HO7.out.row rfl
                    have HO8 := Lib.hid (HO7.out.put hk2m (.slice a6 (L + 1) k6))
                    have HF8 := HF7.out.keeps ((Keeps.refl 3 w6).put (p := ⟨wo.heap.size, k2, none⟩) hrow7 (by decide) (.slice a6 (L + 1) k6))
                    rw [HPP.out] at HF8
                    have HF9 := Lib.hid HF8
                    have HB8 := Lib.hid (HB7.out.setCell (p := ⟨wo.heap.size, k2, none⟩) (Nat.le_refl _) (.slice a6 (L + 1) k6))
                    clear hrow7 HF8
                    go_roundw
                    case rel => exact ⟨k2 + 1, _, by omega, by go_num, HO8.out, HF9.out, HB8.out⟩
                    case measure => simp [intOf]; omega
                · have hd4 : decide ((k2 : Int) < m) = false := decide_eq_false (by omega)
                  have HF6 := HF5.out
                  rw [show k2 = m by omega, Xp.planesAt_end, ← HTT.out] at HF6
                  have HF7 := Lib.hid HF6
                  clear HF6
                  go_wp2_with fail
                  go_roundw
                  case rel => exact ⟨l + 1, us4, by omega, by go_num, HO5.out, HF7.out, HB5.out⟩
                  case measure => simp [intOf]; omega
            · have hd3 : decide ((l : Int) < m) = false := decide_eq_false (by omega)
              have HF6 := HF3.out
              rw [show j * m + l = (j + 1) * m by rw [Nat.add_mul]; omega] at HF6
              have HF7 := Lib.hid HF6
              clear HF6
              go_wp2_with fail
              go_roundw
              case rel => exact ⟨j + 1, us3, by omega, by go_num, HO3.out, HF7.out, HB3.out⟩
              case measure => simp [intOf]; omega
        · have hd2 : decide ((j : Int) < D) = false := decide_eq_false (by omega)
          have HF6 := HF2.out
          rw [show Xp.planesTo m r (j * m) = Xp.planes m r by unfold Xp.planes; rw [HRL.out, show j = D by omega]] at HF6
          have HF7 := Lib.hid (HF.out.join HB2.out HF6 hsw)
          rw [← Xp.csets_take HRR.out] at HF7
          have HUS := Lib.hid HF6.one
          have HOW := Lib.hid (HO.out.below HB2.out)
          have HULEN := Lib.hid (show us.length = m by rw [HF6.len, Xp.planes_length])
          clear HF6
          go_wp2_with (refine wpList_app _ rfl (.tmp 76) (.tmp 77) 24 rfl w1.heap.size 27 (.slice none 0 0) 24 Tryd.underlying24 elem_rows rfl q n k vs rfl HOW.out _ (some ⟨wo.heap.size, 0, none⟩) m m us rfl HO2.out.rd HULEN.out HUS.out (by unfold maxLen; omega) (by omega) (by have := HB2.out.size; omega) ?_; intro a9 k9 w9 ho9 hg9; have HO9 := Lib.hid ho9; have HB9 := Lib.hid (below_grown2 (HB.out.trans (HB2.out.mono hsw)) hg9 HOW.out (by have := HB2.out.size; omega) (Nat.le_refl _)); have HF9 := Lib.hid (HF7.out.keeps ((Keeps.refl 3 wr).grown HOW.out hg9 (by decide))); clear ho9 hg9)
          go_roundw
          case rel => exact ⟨t + 1, n + m, a9, k9, _, by omega, by go_num, rfl, Lib.hid (by rw [HN.out, Nat.add_mul, Nat.one_mul]), HO9.out, HF9.out, HB9.out⟩
          case measure => simp [intOf]; omega
    · have hd : decide ((t : Int) < np) = false := decide_eq_false (by omega)
      have htn2 : t = np := by omega
      obtain rfl : n = NX := by rw [HN.out, ← HNX.out, htn2]
      have HF2 := HF.out
      rw [List.take_of_length_le (by rw [HNP.out]; omega)] at HF2
      have HRT := Lib.hid (RowsT.of HO.out HF2)
      have HBW := Lib.hid (HB1.out.trans (HB.out.mono HB1.out.size))
      have HC2 := Lib.hid (HC1.out.below HB.out HC1.out.lt)
      have HZ2 := Lib.hid (HZ1.out.below HB.out HZ1.out.lt)
      obtain ⟨c0, c1, c2, c3, c4⟩ := cbox HC2.out
      clear htn2 HF2
      go_wp2_with fail
      refine (HFI.out _ _ _ HRT.out).mono ?_
      rintro e w5 ⟨⟨q5, k5, qx5, kx5, rfl, ho5, hx5, _⟩, hon⟩
      have HB5 := Lib.hid (show Below wo.heap.size wo w5 from hon.below (Nat.le_refl _) (fun k hk => by
        rcases hk with hk | hk
        · cases hk
        · exact hk))
      have HO5 := Lib.hid ho5
      have HX5 := Lib.hid hx5
      have HZ5 := Lib.hid (HZ2.out.below HB5.out HZ2.out.lt)
      have hz5 := HZ2.out.lt
      clear ho5 hx5 hon c0 c1 c2 c3 c4
      go_wp2_with (refine wpList_store_row rfl _ _ _ rfl (w.heap.size + 1) (schC m D np q5 FN k5 qx5 n kx5) rfl rfl _ _ HZ5.out (by kernel_rfl) rfl (schC_one _ _ _ _ _ _ _ _ _) ?_)
      refine bodyPost_ret (v := .tuple #[.agg (schC m D np q5 FN k5 qx5 n kx5), .int .i64 0]) ?_ rfl ⟨⟨q5, k5, qx5, kx5, rfl, ?_, ?_⟩, below_whole (below_call HBW.out HB5.out) (by omega) _⟩
      · exact results_row_tmp rfl _ _ (w.heap.size + 1) _ _ _ _ rfl rfl (HZ5.out.whole _) Tryd.underlying30 (by rfl) (by kernel_rfl)
      · exact (HO5.out.mono (by omega)).kept fun g hg => setRow_other _ _ _ _ (fun e => by
          have h9 := (HO5.out.lt hg).1
          omega)
      · exact (Own.mono HX5.out (by omega)).kept fun g hg => setRow_other _ _ _ _ (fun e => by
          have h9 := (HX5.out.lt hg).1
          omega)
end Go.Proofs.YtghinmlpkgcdiaaDoor
