/- Schedules: the specification's Compile. -/
import Derived.Test.YtghinmlpkgcdiaaDoorXW
namespace Go.Proofs.YtghinmlpkgcdiaaDoor
set_option linter.unusedSimpArgs false
set_option linter.unusedVariables false
open Go.RowKit Go.Lib

theorem cvalid_any (nm : Value) (f d : Int) (qp : Option Addr) (np kp : Nat) (dom : Int) (zss : List (List Int)) (w : World) (hr : Grid w w.heap.size qp np zss) (hnp : np ≤ 28) (hd4 : d ≤ 4) (hnm : nm.oneCell' = true) :
    Calls Tryd.prog 48 #[.agg (codC nm f d qp np kp dom)] w fun e w' => e = .returned (.bool (Xp.okC f d zss)) ∧ Below w.heap.size w w' := by
  by_cases h : (f ≠ 8 ∧ f ≠ 16) ∨ d < 1
  · have e : Xp.okC f d zss = false := by
      unfold Xp.okC
      rcases h with ⟨h1, h2⟩ | h
      · rw [decide_eq_false h1, decide_eq_false h2]; rfl
      · rw [decide_eq_false (show ¬ 1 ≤ d by omega), Bool.and_false]; rfl
    rw [e]
    exact cvalid_no nm f d qp np kp dom w hnm h
  · have hd1 : 1 ≤ d := by omega
    obtain ⟨D, rfl⟩ : ∃ D : Nat, d = D := ⟨d.toNat, by omega⟩
    have hf : f = 8 ∨ f = 16 := by omega
    obtain ⟨m, rfl, hm⟩ : ∃ m : Nat, f = m ∧ Fld.IsM m := by
      rcases hf with rfl | rfl
      · exact ⟨8, rfl, .inl rfl⟩
      · exact ⟨16, rfl, .inr rfl⟩
    have e : Xp.okC m D zss = zss.all (Xp.okRow m D) := by
      unfold Xp.okC
      have h8 : (decide ((m : Int) = 8) || decide ((m : Int) = 16)) = true := by
        rcases hm with rfl | rfl <;> rfl
      rw [h8, decide_eq_true hd1, hr.len, decide_eq_true (show (np : Int) ≤ 32 by omega), decide_eq_true (show (D : Int) ≤ 32 - (np : Int) by omega)]
      simp
    rw [e]
    exact cvalid_yes hm nm qp np kp dom zss w hr hnp (by omega) (by omega) hnm
set_option maxRecDepth 100000 in
set_option maxHeartbeats 1600000 in
theorem scompile_no (nm : Value) (f d : Int) (qp : Option Addr) (np kp : Nat) (dom : Int) (zss : List (List Int)) (w : World) (hr : Grid w w.heap.size qp np zss) (hnp : np ≤ 28) (hd4 : d ≤ 4) (hnm : nm.oneCell' = true) (h : Xp.okC f d zss = false) :
    Calls Tryd.prog 17 #[.agg (codC nm f d qp np kp dom)] w fun e w' => e = .returned (.tuple #[schV 0 0 0 none 0 0 none 0 0, .int .i64 1]) ∧ Below w.heap.size w w' := by
  have HV := Lib.hid (fun (W : World) (hb : Below w.heap.size w W) => cvalid_any nm f d qp np kp dom zss W ((hr.below hb).more hb.size) hnp hd4 hnm)
  rw [h] at HV
  have HW : Hid (Below w.heap.size w ((w.alloc (.cells (codC nm f d qp np kp dom) 26)).alloc (.cells (schC 0 0 0 none 0 0 none 0 0) 30))) := Lib.hid (((Below.refl _ w).alloc (Nat.le_refl _) _).alloc (by simp) _)
  have HZ : Hid (Row ((w.alloc (.cells (codC nm f d qp np kp dom) 26)).alloc (.cells (schC 0 0 0 none 0 0 none 0 0) 30)) (w.heap.size + 1) 30 (schC 0 0 0 none 0 0 none 0 0)) := Lib.hid (Row.made _ _ (by simp))
  clear hr h
  go_enter Tryd.func17, Tryd.ntmps17
  go_wp2_with fail
  refine (HV.out _ HW.out).mono ?_
  rintro e w1 ⟨rfl, hb⟩
  have HB1 := Lib.hid (below_call HW.out hb)
  have HZ1 := Lib.hid (HZ.out.below hb HZ.out.lt)
  clear hb
  go_wp2_with (refine wpList_store_row rfl _ _ _ rfl (w.heap.size + 1) (schC 0 0 0 none 0 0 none 0 0) rfl rfl _ _ HZ1.out (by kernel_rfl) rfl (schC_one _ _ _ _ _ _ _ _ _) ?_)
  refine bodyPost_ret (v := .tuple #[schV 0 0 0 none 0 0 none 0 0, .int .i64 1]) ?_ rfl ⟨rfl, below_whole HB1.out (by omega) _⟩
  exact results_row_tmp rfl _ _ (w.heap.size + 1) _ _ _ _ rfl rfl (HZ1.out.whole _) Tryd.underlying30 (by rfl) (by kernel_rfl)
set_option maxRecDepth 100000 in
set_option maxHeartbeats 12800000 in
theorem scompile_yes {m D : Nat} (hm : Fld.IsM m) (nm : Value) (qp : Option Addr) (np kp : Nat) (dom : Int) (rows : List (List Nat)) (w : World) (hr : Grid w w.heap.size qp np (intsOf rows)) (hnm : nm.oneCell' = true) (hD : 1 ≤ D) (hD4 : D ≤ 4) (hnp28 : np ≤ 28) (hrows : ∀ r ∈ rows, r.length = D ∧ ∀ x ∈ r, x < 2 ^ m) (hok : Xp.okC m D (intsOf rows) = true) :
    Calls Tryd.prog 17 #[.agg (codC nm m D qp np kp dom)] w fun e w' => (∃ q k qx kx, e = .returned (.tuple #[schV m D np q (Xp.fin ((D * m : Nat) : Int) [] (Xp.csets m rows)).1.length k qx (np * m) kx, .int .i64 0]) ∧ OpsR w' w.heap.size q (Xp.fin ((D * m : Nat) : Int) [] (Xp.csets m rows)).1.length k (Xp.fin ((D * m : Nat) : Int) [] (Xp.csets m rows)).1 ∧ Own w' w.heap.size 3 qx (np * m) kx (ints (Xp.fin ((D * m : Nat) : Int) [] (Xp.csets m rows)).2)) ∧ Below w.heap.size w w' := by
  have HV := Lib.hid (fun (W : World) (hb : Below w.heap.size w W) => cvalid_any nm m D qp np kp dom (intsOf rows) W ((hr.below hb).more hb.size) hnp28 (by omega) hnm)
  rw [hok] at HV
  have HGR := Lib.hid hr
  have hnpl : rows.length = np := by have := hr.len; unfold intsOf at this; rwa [List.length_map] at this
  have HNP := Lib.hid hnpl
  have HROWS := Lib.hid hrows
  have hm16 : 8 ≤ m ∧ m ≤ 16 := by rcases hm with rfl | rfl <;> omega
  have HMM := Lib.hid hm
  have hDm : D * m ≤ 512 := by have := Nat.mul_le_mul (show D ≤ 32 by omega) hm16.2; omega
  have htot : Xp.total (Xp.csets m rows) ≤ 500000 := by
    have h1 := Xp.csets_total m D rows (fun r hr => (hrows r hr).1)
    have h2 : rows.length * m ≤ 512 := by have := Nat.mul_le_mul (show rows.length ≤ 32 by omega) hm16.2; omega
    have h3 := Nat.mul_le_mul h2 hDm
    omega
  have HCL := Lib.hid (show (Xp.csets m rows).length = np * m by rw [Xp.csets_length, hnpl])
  have hnm2 : np * m ≤ 512 := by have := Nat.mul_le_mul (show np ≤ 32 by omega) hm16.2; omega
  have HFI := Lib.hid (fun (W : World) (qs : Option Addr) (ks : Nat) (hs : RowsR W qs (np * m) (Xp.csets m rows)) => sfinish_any m D np W.heap.size none 0 0 [] qs (np * m) ks (Xp.csets m rows) ((D * m : Nat) : Int) W (by rw [← Int.natCast_mul, IntKind.wrap_i64] <;> omega) (by omega) (by omega) (OpsR.nil _ _) (Nat.le_refl _) hs hnm2 (by omega))
  obtain ⟨FO, hFO⟩ : ∃ FO, (Xp.fin ((D * m : Nat) : Int) [] (Xp.csets m rows)).1 = FO := ⟨_, rfl⟩
  obtain ⟨FU, hFU⟩ : ∃ FU, (Xp.fin ((D * m : Nat) : Int) [] (Xp.csets m rows)).2 = FU := ⟨_, rfl⟩
  rw [hFO, hFU] at HFI ⊢
  obtain ⟨FN, hFN⟩ : ∃ FN, FO.length = FN := ⟨_, rfl⟩
  rw [hFN] at HFI ⊢
  obtain ⟨NX, hNX⟩ : ∃ NX, np * m = NX := ⟨_, rfl⟩
  rw [hNX] at HFI HCL hnm2 ⊢
  have HNX := Lib.hid hNX
  unfold schV at HFI ⊢
  have HW : Hid (Below w.heap.size w ((w.alloc (.cells (codC nm m D qp np kp dom) 26)).alloc (.cells (schC 0 0 0 none 0 0 none 0 0) 30))) := Lib.hid (((Below.refl _ w).alloc (Nat.le_refl _) _).alloc (by simp) _)
  have HC : Hid (Row ((w.alloc (.cells (codC nm m D qp np kp dom) 26)).alloc (.cells (schC 0 0 0 none 0 0 none 0 0) 30)) w.heap.size 26 (codC nm m D qp np kp dom)) := Lib.hid ((Row.new w _ _).alloc _)
  have HZ : Hid (Row ((w.alloc (.cells (codC nm m D qp np kp dom) 26)).alloc (.cells (schC 0 0 0 none 0 0 none 0 0) 30)) (w.heap.size + 1) 30 (schC 0 0 0 none 0 0 none 0 0)) := Lib.hid (Row.made _ _ (by simp))
  clear hr hrows hok hm htot hFO hFU hFN hNX hnpl
  go_enter Tryd.func17, Tryd.ntmps17
  go_wp2_with fail
  refine (HV.out _ HW.out).mono ?_
  rintro e w1 ⟨rfl, hb⟩
  have HB1 := Lib.hid (below_call HW.out hb)
  have HC1 := Lib.hid (HC.out.below hb HC.out.lt)
  have HZ1 := Lib.hid (HZ.out.below hb HZ.out.lt)
  have hz1 : w.heap.size + 1 < w1.heap.size := HZ1.out.lt
  obtain ⟨c0, c1, c2, c3, c4⟩ := cbox HC1.out
  clear hb HW HC HZ
  go_wp2_with fail
  clear c0 c1 c2 c3 c4
  go_loopw [5, 6] (fun s i wr => ∃ (t n : Nat) (q : Option Addr) (k : Nat) (vs : List Value), t ≤ np ∧ i = .int .i64 t ∧ s = .slice q n k ∧ Hid (n = t * m) ∧ Own wr w1.heap.size 27 q n k vs ∧ SetsOf wr vs (Xp.csets m (rows.take t)) ∧ Below w1.heap.size w1 wr) (fun _ i _ => np - (intOf i).toNat)
  case atStart => exact ⟨0, 0, none, 0, [], Nat.zero_le _, rfl, rfl, Lib.hid (by simp), Own.nil _ _ _, SetsOf.nil _, Below.refl _ _⟩
  case round =>
    obtain ⟨t, n, q, k, vs, htn, rfl, rfl, hn, ho, hf, hb⟩ := hrel
    have HN := Lib.hid hn.out
    have HO := Lib.hid ho
    have HF := Lib.hid hf
    have HB := Lib.hid hb
    have hsw := hb.size
    obtain ⟨wo, rfl⟩ : ∃ wo : World, wo = wr := ⟨_, rfl⟩
    clear hn ho hf hb
    have HCW := Lib.hid (HC1.out.below HB.out HC1.out.lt)
    obtain ⟨c0, c1, c2, c3, c4⟩ := cbox HCW.out
    by_cases hlt : t < np
    · have hd : decide ((t : Int) < np) = true := decide_eq_true (by omega)
      obtain ⟨r, hrr⟩ : ∃ r, rows[t]? = some r := ⟨_, List.getElem?_eq_getElem (by rw [HNP.out]; exact hlt)⟩
      obtain ⟨hrl, hrx⟩ := HROWS.out r (List.mem_of_getElem? hrr)
      obtain ⟨bp, offp, qr, kr, rfl, hbp, hcr, _, hrd⟩ := (HGR.out.below HB1.out).row t _ (intsOf_get hrr)
      rw [List.length_map, hrl] at hcr
      have HRR := Lib.hid hrr
      have HRL := Lib.hid hrl
      have HRX := Lib.hid hrx
      have HRD := Lib.hid hrd
      have HPL := Lib.hid (show (Xp.planes m r).length = m from Xp.planes_length m r)
      have hno : n + m ≤ 528 := by
        have h1 : t * m ≤ np * m := Nat.mul_le_mul_right _ (by omega)
        rw [HNX.out] at h1
        have := HN.out
        omega
      have hbq : bp < w1.heap.size := by have := HB1.out.size; omega
      clear hrr hrl hrx hrd
      go_wp2_with fail
      clear c0 c1 c2 c3 c4
      go_loopw [5, 7] (fun s i wr => ∃ (K n2 : Nat) (q : Option Addr) (k : Nat) (vs : List Value), K ≤ m ∧ i = .int .i64 K ∧ s = .slice q n2 k ∧ Hid (n2 = n + K) ∧ Own wr w1.heap.size 27 q n2 k vs ∧ SetsOf wr vs (Xp.csets m (rows.take t) ++ (Xp.planes m r).take K) ∧ Below w1.heap.size w1 wr) (fun _ i _ => m - (intOf i).toNat)
      case atStart => exact ⟨0, n, q, k, vs, Nat.zero_le _, rfl, rfl, Lib.hid rfl, HO.out, by rw [List.take_zero, List.append_nil]; exact HF.out, HB.out⟩
      case round =>
        obtain ⟨K, n2, q2, k2, vs2, hK, rfl, rfl, hn2, ho, hf, hb1⟩ := hrel
        have HN2 := Lib.hid hn2.out
        have HO2 := Lib.hid ho
        have HF2 := Lib.hid hf
        have HB12 := Lib.hid hb1
        obtain ⟨wz, rfl⟩ : ∃ wz : World, wz = wr := ⟨_, rfl⟩
        have HCZ := Lib.hid (HC1.out.below HB12.out HC1.out.lt)
        obtain ⟨c0, c1, c2, c3, c4⟩ := cbox HCZ.out
        have hn23 : n2 ≤ 528 := by have := hn2.out; omega
        have hszz : w1.heap.size ≤ wz.heap.size := hb1.size
        clear hn2 ho hf hb1
        by_cases hKl : K < m
        · have hdK : decide ((K : Int) < m) = true := decide_eq_true (by omega)
          have HTK := Lib.hid (show (Xp.planes m r).take (K + 1) = (Xp.planes m r).take K ++ [Xp.plane m r K (D * m)] by
            rw [List.take_add_one]
            congr 1
            unfold Xp.planes Xp.planesTo
            rw [List.getElem?_map, List.getElem?_range hKl, HRL.out]; rfl)
          go_wp2_with fail
          clear c0 c1 c2 c3 c4
          go_loopw [8, 9] (fun s i wr => ∃ (j L8 : Nat) (q8 : Option Addr) (k8 : Nat), j ≤ D ∧ i = .int .i64 j ∧ s = .slice q8 L8 k8 ∧ Hid ((Xp.plane m r K (j * m)).length = L8) ∧ Own wr wz.heap.size 3 q8 L8 k8 (nts (Xp.plane m r K (j * m))) ∧ Below wz.heap.size wz wr) (fun _ i _ => D - (intOf i).toNat)
          case atStart => exact ⟨0, 0, none, 0, Nat.zero_le _, rfl, rfl, Lib.hid (by rw [Nat.zero_mul]; rfl), by rw [Nat.zero_mul]; exact Own.nil _ _ _, Below.refl _ _⟩
          case round =>
            obtain ⟨j, L8, q8, k8, hjD, rfl, rfl, hl8, ho, hb⟩ := hrel
            have HL8 := Lib.hid hl8.out
            have HO8 := Lib.hid ho
            have HB8 := Lib.hid hb
            have hsz8 := hb.size
            have HCY := Lib.hid (HCZ.out.below HB8.out HCZ.out.lt)
            obtain ⟨c0, c1, c2, c3, c4⟩ := cbox HCY.out
            clear hl8 ho hb
            by_cases hjl : j < D
            · have hdj : decide ((j : Int) < D) = true := decide_eq_true (by omega)
              obtain ⟨X, hX⟩ : ∃ X, r[j]? = some X := ⟨_, List.getElem?_eq_getElem (by rw [HRL.out]; exact hjl)⟩
              have HX := Lib.hid hX
              have HXB := Lib.hid (HRX.out X (List.mem_of_getElem? hX))
              have hXr : (ints (r.map fun (x : Nat) => (x : Int)))[j]? = some (.int .i64 (X : Int)) := by rw [ints, List.getElem?_map, List.getElem?_map, hX]; rfl
              obtain ⟨bq, oq, rfl, hbq2, hcx⟩ := (HRD.out.more (show w.heap.size ≤ w1.heap.size by omega)) j (.int .i64 (X : Int)) hXr
              have HBO := Lib.hid (fun (W : World) (h : Below wz.heap.size wz W) => (HB12.out.trans (h.mono HB12.out.size) : Below w1.heap.size w1 W))
              have HCELL := Lib.hid (fun (W : World) (h : Below wz.heap.size wz W) => show W.cell? ⟨w.heap.size, 1, none⟩ = some (.int .i64 (m : Int)) ∧ W.cell? ⟨w.heap.size, 3, none⟩ = some (.slice (some ⟨bp, offp, none⟩) np kp) ∧ W.cell? ⟨bp, offp + t, none⟩ = some (.slice (some ⟨bq, oq, none⟩) D kr) ∧ W.cell? ⟨bq, oq + j, none⟩ = some (.int .i64 (X : Int)) from
                ⟨(cbox (HCZ.out.below h HCZ.out.lt)).2.1, (cbox (HCZ.out.below h HCZ.out.lt)).2.2.2.1, ((HBO.out W h).cell (p := ⟨bp, offp + t, none⟩) hbq).trans hcr, ((HBO.out W h).cell (p := ⟨bq, oq + j, none⟩) hbq2).trans hcx⟩)
              clear hX hXr hcx
              go_wp2_with fail
              clear c0 c1 c2 c3 c4
              go_loopw [8, 10] (fun s i wr => ∃ (l L8 : Nat) (q8 : Option Addr) (k8 : Nat), l ≤ m ∧ i = .int .i64 l ∧ s = .slice q8 L8 k8 ∧ Hid ((Xp.plane m r K (j * m + l)).length = L8) ∧ Own wr wz.heap.size 3 q8 L8 k8 (nts (Xp.plane m r K (j * m + l))) ∧ Below wz.heap.size wz wr) (fun _ i _ => m - (intOf i).toNat)
              case atStart => exact ⟨0, L8, q8, k8, Nat.zero_le _, rfl, rfl, Lib.hid HL8.out, HO8.out, HB8.out⟩
              case round =>
                obtain ⟨l, L9, q9, k9, hlm, rfl, rfl, hl9, ho, hb⟩ := hrel
                have HL9 := Lib.hid hl9.out
                have HO9 := Lib.hid ho
                have HB9 := Lib.hid hb
                have hsz9 := hb.size
                have HCX := Lib.hid (HCZ.out.below HB9.out HCZ.out.lt)
                obtain ⟨c0, c1, c2, c3, c4⟩ := cbox HCX.out
                obtain ⟨e1, e3, er, ex⟩ := HCELL.out _ HB9.out
                clear hl9 ho hb
                by_cases hll : l < m
                · have hd3 : decide ((l : Int) < m) = true := decide_eq_true (by omega)
                  obtain ⟨Bs, hBs⟩ : ∃ Bs, 1 <<< l = Bs := ⟨_, rfl⟩
                  have hwl : IntKind.i64.wrap ((2 : Int) ^ l) = (Bs : Int) := by
                    rw [← hBs, Nat.one_shiftLeft, show (2 : Int) ^ l = ((2 ^ l : Nat) : Int) by simp, IntKind.wrap_i64]
                    all_goals
                      have : (2 : Nat) ^ l ≤ 2 ^ 16 := Nat.pow_le_pow_right (by decide) (by omega)
                      generalize 2 ^ l = y at this ⊢
                      omega
                  obtain ⟨P, hP⟩ : ∃ P, Fld.mul m X Bs = P := ⟨_, rfl⟩
                  have HMU := Lib.hid (fun (W : World) => rmul_yes m X Bs HMM.out HXB.out (by rw [← hBs, Nat.one_shiftLeft]; exact Nat.pow_lt_pow_right (by decide) hll) W)
                  rw [hP] at HMU
                  unfold pairV at HMU
                  have hPlt : P < 65536 := by
                    have := Fld.mul_lt HMM.out Bs HXB.out
                    rw [hP] at this
                    rcases HMM.out with h | h <;> (rw [h] at this; omega)
                  obtain ⟨T, hT⟩ : ∃ T, j * m + l = T := ⟨_, rfl⟩
                  have HTT := Lib.hid hT
                  have hT512 : T < 512 := by
                    have h1 : (j + 1) * m ≤ D * m := Nat.mul_le_mul_right _ (by omega)
                    rw [Nat.add_mul] at h1
                    omega
                  have HBIT := Lib.hid (show Fld.mul m (r[T / m]?.getD 0) (1 <<< (T % m)) = P by
                    rw [← hT, Nat.mul_comm j m, Nat.mul_add_div (by omega), Nat.div_eq_of_lt hll, Nat.add_zero, HX.out, Nat.mul_add_mod, Nat.mod_eq_of_lt hll, hBs]
                    exact hP)
                  rw [hT] at HO9 HL9
                  obtain ⟨pl, hpl⟩ : ∃ pl, Xp.plane m r K T = pl := ⟨_, rfl⟩
                  have hpll : L9 ≤ 512 := by have := Xp.plane_length m r K T; rw [HL9.out] at this; omega
                  have HPS := Lib.hid (show Xp.plane m r K (j * m + (l + 1)) = if P.testBit K then pl ++ [T] else pl by
                    rw [← Nat.add_assoc, hT, Xp.plane_succ, HBIT.out, hpl])
                  rw [hpl] at HO9 HL9
                  obtain ⟨y, hy⟩ : ∃ y, P / 2 ^ K = y := ⟨_, rfl⟩
                  obtain ⟨y2, hy2⟩ : ∃ y2, y % 2 = y2 := ⟨_, rfl⟩
                  obtain ⟨b, hb⟩ : ∃ b, P.testBit K = b := ⟨_, rfl⟩
                  have f1 : (P : Int) / 2 ^ K = (y : Int) := by rw [← hy]; simp
                  have f2 : (y : Int).tmod 2 = (y2 : Int) := by rw [← hy2, Int.tmod_eq_emod_of_nonneg (by omega)]; omega
                  have f3 : (y : Int) % 2 = (y2 : Int) := by rw [← hy2]; omega
                  have f4 : ((y2 : Int) == 1) = b := by
                    rw [← hb, Nat.testBit_eq_decide_div_mod_eq, hy, hy2, Bool.eq_iff_iff, beq_iff_eq, decide_eq_true_eq]
                    omega
                  rw [hb] at HPS
                  obtain ⟨J, hJ⟩ : ∃ J, j * m = J := ⟨_, rfl⟩
                  have hw1 : IntKind.i64.wrap ((j : Int) * (m : Int)) = (J : Int) := by rw [← Int.natCast_mul, hJ, IntKind.wrap_i64] <;> (have := HTT.out; omega)
                  have hw2 : IntKind.i64.wrap ((J : Int) + (l : Int)) = (T : Int) := by rw [← hJ, ← Int.natCast_add, HTT.out, IntKind.wrap_i64] <;> omega
                  have HSd := Lib.hid (HCELL.out _ HB9.out.drew)
                  clear hBs hP hT hpl hy hy2 hb hJ c0 c1 c2 c3 c4
                  go_wp2_with fail
                  clear e1 e3 er ex
                  go_region_held3 (fun wn => wn.cell? ⟨w.heap.size, 1, none⟩ = some (.int .i64 (m : Int)) ∧ wn.cell? ⟨w.heap.size, 3, none⟩ = some (.slice (some ⟨bp, offp, none⟩) np kp) ∧ wn.cell? ⟨bp, offp + t, none⟩ = some (.slice (some ⟨bq, oq, none⟩) D kr) ∧ wn.cell? ⟨bq, oq + j, none⟩ = some (.int .i64 (X : Int))) (first | exact HS5.out | exact HSd.out | assumption) (first
                    | (go_at_call 49; (with_reducible refine (HMU.out _).mono ?_); rintro e5 w5 ⟨rfl, hw5⟩; have HB5 := Lib.hid (show Below wz.heap.size wz w5 by rw [hw5]; exact HB9.out.drew); have HO5 := Lib.hid (show Own w5 wz.heap.size 3 q9 L9 k9 (nts pl) by rw [hw5]; exact HO9.out.drewN 1); have HS5 := Lib.hid (HCELL.out _ HB5.out); clear hw5))
                  have hs5 := HB5.out.size
                  obtain ⟨e1, e3, er, ex⟩ := HS5.out
                  cases b
                  · go_wp2_with fail
                    go_roundw
                    case rel => exact ⟨l + 1, L9, q9, k9, by omega, by go_num, rfl, Lib.hid (by rw [HPS.out]; exact HL9.out), by rw [HPS.out]; exact HO5.out, HB5.out⟩
                    case measure => simp [intOf]; omega
                  · have HOJ := Lib.hid (HO5.out.alloc (.cells #[.int .i64 (T : Int)] 3))
                    go_wp2_with (refine wpList_app _ rfl (.tmp 64) (.tmp 71) 27 rfl wz.heap.size 3 (.int .i64 0) 8 Tryd.underlying27 elem_ints rfl q9 L9 k9 (nts pl) rfl HOJ.out _ (some ⟨w5.heap.size, 0, none⟩) 1 1 [.int .i64 (T : Int)] rfl (Rd.one w5 _ _) rfl (by intro u hu; simp only [List.mem_singleton] at hu; subst hu; rfl) (by unfold maxLen; omega) (by omega) (by rw [size1]; omega) ?_; intro a6 k6 w6 ho6 hg6; have HO6 := Lib.hid ho6; have HB6 := Lib.hid (below_grown2 (HB5.out.alloc hs5 _) hg6 HOJ.out (by rw [size1]; omega) (Nat.le_refl _)); clear ho6 hg6)
                    go_roundw
                    case rel => exact ⟨l + 1, L9 + 1, a6, k6, by omega, by go_num, rfl, Lib.hid (by rw [HPS.out, if_pos rfl, List.length_append, HL9.out]; rfl), by rw [HPS.out, if_pos rfl, nts_snoc]; exact HO6.out, HB6.out⟩
                    case measure => simp [intOf]; omega
                · have hd3 : decide ((l : Int) < m) = false := decide_eq_false (by omega)
                  have hd4 : decide (l < m) = false := decide_eq_false (by omega)
                  have HLM := Lib.hid (show j * m + l = (j + 1) * m by rw [Nat.add_mul]; omega)
                  rw [HLM.out] at HL9 HO9
                  go_wp2_with fail
                  go_roundw
                  case rel => exact ⟨j + 1, L9, q9, k9, by omega, by go_num, rfl, Lib.hid HL9.out, HO9.out, HB9.out⟩
                  case measure => simp [intOf]; omega
            · have hdj : decide ((j : Int) < D) = false := decide_eq_false (by omega)
              have hdj2 : decide (j < D) = false := decide_eq_false (by omega)
              have hjD2 : j = D := by omega
              have h9 := HO8.out
              have h8 := HL8.out
              rw [hjD2] at h9 h8
              have HVX := Lib.hid (show SetV wr (.slice q8 L8 k8) (Xp.plane m r K (D * m)) from by
                rw [← h8] at h9 ⊢
                exact SetV.of_own h9 (by have := Xp.plane_length m r K (D * m); omega))
              have HOW := Lib.hid ((HO2.out.below HB8.out).alloc (.cells #[Value.slice q8 L8 k8] 27))
              have HFW := Lib.hid ((HF2.out.keeps (Keeps.of_below HB8.out)).snoc HVX.out)
              have HBW := Lib.hid (HB12.out.trans (HB8.out.mono HB12.out.size))
              have hsW := HBW.out.size
              clear hjD2 h9 h8
              go_wp2_with (refine wpList_app _ rfl (.tmp 73) (.tmp 75) 24 rfl w1.heap.size 27 (.slice none 0 0) 24 Tryd.underlying24 elem_rows rfl q2 n2 k2 vs2 rfl HOW.out _ (some ⟨wr.heap.size, 0, none⟩) 1 1 [.slice q8 L8 k8] rfl (Rd.one wr _ _) rfl (by intro u hu; simp only [List.mem_singleton] at hu; subst hu; rfl) (by unfold maxLen; omega) (by omega) (by rw [size1]; omega) ?_; intro a9 k9 w9 ho9 hg9; have HO9 := Lib.hid ho9; have HB9 := Lib.hid (below_grown2 (HBW.out.alloc hsW _) hg9 HOW.out (by rw [size1]; omega) (Nat.le_refl _)); have HF9 := Lib.hid (HFW.out.keeps (((Keeps.refl 3 wr).alloc _).grown HOW.out hg9 (by decide))); clear ho9 hg9)
              go_roundw
              case rel => exact ⟨K + 1, n2 + 1, a9, k9, _, by omega, by go_num, rfl, Lib.hid (by have := HN2.out; omega), HO9.out, by rw [HTK.out, ← List.append_assoc]; exact HF9.out, HB9.out⟩
              case measure => simp [intOf]; omega
        · have hdK : decide ((K : Int) < m) = false := decide_eq_false (by omega)
          have hdK2 : decide (K < m) = false := decide_eq_false (by omega)
          have hKm : K = m := by omega
          have h9 := HF2.out
          rw [List.take_of_length_le (l := Xp.planes m r) (by rw [HPL.out]; omega), ← Xp.csets_take HRR.out] at h9
          have HF3 := Lib.hid h9
          have HN3 := Lib.hid (show n2 = (t + 1) * m by rw [HN2.out, HN.out, hKm, Nat.add_mul, Nat.one_mul])
          clear h9 hKm
          go_wp2_with fail
          go_roundw
          case rel => exact ⟨t + 1, n2, q2, k2, _, by omega, by go_num, rfl, Lib.hid HN3.out, HO2.out, HF3.out, HB12.out⟩
          case measure => simp [intOf]; omega
    · have hd : decide ((t : Int) < np) = false := decide_eq_false (by omega)
      have htn2 : t = np := by omega
      obtain rfl : n = NX := by rw [HN.out, ← HNX.out, htn2]
      have HF2 := HF.out
      rw [List.take_of_length_le (by rw [HNP.out]; omega)] at HF2
      have HRT := Lib.hid (RowsR.of HO.out HF2)
      have HBW := Lib.hid (HB1.out.trans (HB.out.mono HB1.out.size))
      have HC2 := Lib.hid (HC1.out.below HB.out HC1.out.lt)
      have HZ2 := Lib.hid (HZ1.out.below HB.out HZ1.out.lt)
      clear htn2 HF2
      go_wp2_with fail
      refine (HFI.out _ _ _ HRT.out).mono ?_
      rintro e w5 ⟨⟨q5, k5, qx5, kx5, rfl, ho5, hx5, _⟩, hon⟩
      have HB5 := Lib.hid (show Below wo.heap.size wo w5 from hon.below (Nat.le_refl _) (fun k hk => by
        rcases hk with hk | hk
        · cases hk
        · exact hk))
      have HO5 := Lib.hid ho5
      have HX5 := Lib.hid hx5
      have HZ5 := Lib.hid (HZ2.out.below HB5.out HZ2.out.lt)
      have hz5 := HZ2.out.lt
      clear ho5 hx5 hon c0 c1 c2 c3 c4
      go_wp2_with (refine wpList_store_row rfl _ _ _ rfl (w.heap.size + 1) (schC m D np q5 FN k5 qx5 n kx5) rfl rfl _ _ HZ5.out (by kernel_rfl) rfl (schC_one _ _ _ _ _ _ _ _ _) ?_)
      refine bodyPost_ret (v := .tuple #[.agg (schC m D np q5 FN k5 qx5 n kx5), .int .i64 0]) ?_ rfl ⟨⟨q5, k5, qx5, kx5, rfl, ?_, ?_⟩, below_whole (below_call HBW.out HB5.out) (by omega) _⟩
      · exact results_row_tmp rfl _ _ (w.heap.size + 1) _ _ _ _ rfl rfl (HZ5.out.whole _) Tryd.underlying30 (by rfl) (by kernel_rfl)
      · exact (HO5.out.mono (by omega)).kept fun g hg => setRow_other _ _ _ _ (fun e => by
          have h9 := (HO5.out.lt hg).1
          omega)
      · exact (Own.mono HX5.out (by omega)).kept fun g hg => setRow_other _ _ _ _ (fun e => by
          have h9 := (HX5.out.lt hg).1
          omega)
end Go.Proofs.YtghinmlpkgcdiaaDoor
