/- Schedules: the specification's Run. -/
import Derived.Test.YtghinmlpkgcdiaaDoorXU
import Derived.Deep.DeepCutAuto
import Derived.BigQuiet
namespace Go.Proofs.YtghinmlpkgcdiaaDoor
set_option linter.unusedSimpArgs false
set_option linter.unusedVariables false
open Go.RowKit Go.Lib

theorem sum_step (sm bt K : Nat) (hb : bt < 2) (hs : sm < 2 ^ K) (hK : K < 16) : ∃ y s2 : Nat, wrap64 ((bt : Int) * 2 ^ K) = (y : Int) ∧ wrap64 ((sm : Int) + (y : Int)) = (s2 : Int) ∧ s2 = sm + bt * 2 ^ K := by
  have hP : 2 ^ K ≤ 2 ^ 15 := Nat.pow_le_pow_right (by decide) (by omega)
  have h2 : bt * 2 ^ K ≤ 1 * 2 ^ K := Nat.mul_le_mul_right _ (by omega)
  have e : ((bt : Int) * 2 ^ K) = ((bt * 2 ^ K : Nat) : Int) := by simp
  refine ⟨bt * 2 ^ K, sm + bt * 2 ^ K, ?_, ?_, rfl⟩
  · rw [e]
    generalize bt * 2 ^ K = y at h2 ⊢
    generalize 2 ^ K = P at *
    exact IntWalk.wrap64_in _ ⟨by omega, by omega⟩
  · generalize bt * 2 ^ K = y at h2 ⊢
    generalize 2 ^ K = P at *
    rw [IntWalk.wrap64_in _ ⟨by omega, by omega⟩]; omega
theorem lo_parts (sm : Nat) (h : sm < 65536) : ∃ lo hi : Nat, lo < 256 ∧ hi < 256 ∧ sm % 256 = lo ∧ sm / 256 % 256 = hi ∧ (sm : Int).tmod 256 = (lo : Int) ∧ (sm : Int) % 256 = (lo : Int) ∧ (lo : Int) % 256 = (lo : Int) ∧ (sm : Int).tdiv 256 = (hi : Int) ∧ (sm : Int) / 256 = (hi : Int) ∧ (hi : Int) % 256 = (hi : Int) := by
  refine ⟨sm % 256, sm / 256, by omega, by omega, rfl, by omega, ?_, ?_, ?_, ?_, ?_, ?_⟩
  · rw [Int.tmod_eq_emod_of_nonneg (by omega)]; omega
  · omega
  · omega
  · rw [Int.tdiv_eq_ediv_of_nonneg (by omega)]; omega
  · omega
  · omega
set_option maxRecDepth 100000 in
set_option maxHeartbeats 25600000 in
theorem srun_any {m D : Nat} (hm : Fld.IsM m) (p : Nat) (qo : Option Addr) (no ko : Nat) (qx : Option Addr) (nx kx n NS : Nat) (ops : List (Int × Int)) (out : List Int) (qd : Option Addr) (kd : Nat) (ss : List ByteArray) (w : World) (hno : no ≤ 131072)
    (hlo : ops.length = no) (hro : Rd w w.heap.size qo (opsC ops)) (hlx : out.length = nx) (hrx : Rd w w.heap.size qx (ints out)) (hok : Xp.okS m D p ops out = true) (hD : 1 ≤ D)
    (hld : ss.length = D) (hrd : Rd w w.heap.size qd (strs ss)) (hsz : ∀ s ∈ ss, s.size ≤ 1000) (s0 : ByteArray) (hs0 : ss[0]? = some s0) (hn0 : s0.size = n) (hNS : n / (m / 8) = NS) (F : Bool) (hF : Xp.fits m ss = F) :
    Calls Tryd.prog 24 #[schV m D p qo no ko qx nx kx, .slice qd D kd] w fun e w' => ((F = true ∧ ∃ q k, e = .returned (.tuple #[.slice q p k, .int .i64 0]) ∧ Own w' w.heap.size 9 q p k (strsB (Xp.runOut m n p (Xp.regs (Xp.runIn m ss) (natO ops)) out))) ∨ (F = false ∧ e = .returned (.tuple #[.slice none 0 0, .int .i64 1]))) ∧ Below w.heap.size w w' := by
  have HV := Lib.hid (fun (W : World) (hb : Below w.heap.size w W) => svalid_any m D p qo no ko qx nx kx ops out W (by omega) (by
      unfold Xp.okS Xp.headOk at hok
      simp only [Bool.and_eq_true, decide_eq_true_eq] at hok
      have h9 := hok.1.1.2
      have h8 : (p : Int) ≤ 32 := by omega
      rw [hlx] at h9
      rcases hm with rfl | rfl <;> omega) hlo ((hro.below hb).more hb.size) hlx ((hrx.below hb).more hb.size))
  rw [hok] at HV
  have h' := hok
  unfold Xp.okS at h'
  rw [Bool.and_eq_true, Bool.and_eq_true, hlo] at h'
  obtain ⟨⟨hhd, hops⟩, hall⟩ := h'
  unfold Xp.headOk at hhd
  simp only [Bool.and_eq_true, decide_eq_true_eq] at hhd
  obtain ⟨⟨⟨⟨⟨⟨_, hd1⟩, hd2⟩, hd3⟩, hd4⟩, _⟩, hnxp⟩ := hhd
  rw [hlx] at hnxp
  have hnxp2 : nx = p * m := by
    have : ((p * m : Nat) : Int) = (p : Int) * m := by simp
    omega
  have hm16 : 8 ≤ m ∧ m ≤ 16 := by rcases hm with rfl | rfl <;> omega
  have hDm : D * m ≤ 512 := by have := Nat.mul_le_mul (show D ≤ 32 by omega) hm16.2; omega
  have hpm : nx ≤ 512 := by have := Nat.mul_le_mul (show p ≤ 32 by omega) hm16.2; omega
  have hDm8 : 8 ≤ D * m := by have := Nat.mul_le_mul hD hm16.1; omega
  obtain ⟨NI, hNI⟩ : ∃ NI, D * m = NI := ⟨_, rfl⟩
  have HOK := Lib.hid (fun (k : Nat) (o : Int × Int) (h : ops[k]? = some o) => show 0 ≤ o.1 ∧ 0 ≤ o.2 ∧ o.1 < (NI : Int) + k ∧ o.2 < (NI : Int) + k from by
    obtain ⟨h1, h2, h3, h4, h5⟩ := Xp.opOk_iff.1 (Xp.opsOk_get hops h)
    have : ((D * m : Nat) : Int) = (D : Int) * m := by simp
    rw [← hNI]
    omega)
  obtain ⟨z, hz⟩ : ∃ z, m / 8 = z := ⟨_, rfl⟩
  have hz12 : 1 ≤ z ∧ z ≤ 2 := by rcases hm with rfl | rfl <;> omega
  have hn1000 : n ≤ 1000 := by rw [← hn0]; exact hsz s0 (List.mem_of_getElem? hs0)
  have hNS1000 : NS ≤ 1000 := by rw [← hNS]; exact Nat.le_trans (Nat.div_le_self _ _) hn1000
  have HALL := Lib.hid (fun (i : Nat) (x : Int) (hx : out[i]? = some x) => show -1 ≤ x ∧ x < (NI : Int) + no by
    have h9 := List.all_eq_true.1 hall x (List.mem_of_getElem? hx)
    unfold Xp.outOk at h9
    simp only [Bool.and_eq_true, decide_eq_true_eq] at h9
    have : ((D * m : Nat) : Int) = (D : Int) * m := by simp
    omega)
  obtain ⟨b16, hb16⟩ : ∃ b, ((m : Int) == 16) = b := ⟨_, rfl⟩
  have HB16 := Lib.hid hb16
  have HPL := Lib.hid (fun (K : Nat) (hK : K < m) (s : ByteArray) (W : World) (h1 : s.size = n) (h2 : n = NS * (m / 8)) => plane_any hm K hK s NS W (by rw [h1, h2]) (by omega))
  have HM := Lib.hid hm
  -- a unit that does not fit
  have HFF := Lib.hid (fun (s : ByteArray) (h1 : s ∈ ss) (h2 : s.size ≠ n ∨ (m = 16 ∧ n % 2 = 1)) => show F = false from by
    rw [← hF]
    unfold Xp.fits
    have hhd : (ss.headD ByteArray.empty) = s0 := by
      cases ss with
      | nil => simp at hs0
      | cons a r => simpa using hs0
    rw [hhd, hn0]
    rcases h2 with h2 | ⟨h2, h3⟩
    · rw [Bool.and_eq_false_iff]
      right
      rw [Bool.not_eq_false', List.any_eq_true]
      exact ⟨s, h1, by simp only [bne_iff_ne, ne_eq]; omega⟩
    · rw [Bool.and_eq_false_iff]
      left
      subst h2
      exact decide_eq_false (by omega))
  have HFT := Lib.hid (fun (h1 : ∀ s ∈ ss, s.size = n) (h2 : n = NS * (m / 8)) => show F = true from by
    rw [← hF]
    unfold Xp.fits
    have hhd : (ss.headD ByteArray.empty) = s0 := by
      cases ss with
      | nil => simp at hs0
      | cons a r => simpa using hs0
    rw [hhd, hn0, Bool.and_eq_true]
    refine ⟨decide_eq_true (by rw [h2, Nat.mul_mod_left]), ?_⟩
    rw [Bool.not_eq_true', List.any_eq_false]
    intro s hs
    rw [h1 s hs]; simp)
  have HNSE := Lib.hid (fun (h : ¬ (m = 16 ∧ n % 2 = 1)) => show n = NS * (m / 8) from by
    rw [← hNS]
    rcases hm with rfl | rfl <;> omega)
  have HRX := Lib.hid hrx
  have HRO := Lib.hid hro
  have HLX := Lib.hid hlx
  have HLO := Lib.hid hlo
  have HRD := Lib.hid hrd
  have HLD := Lib.hid hld
  have HSZ := Lib.hid hsz
  have HNXP := Lib.hid hnxp2
  have HNI := Lib.hid hNI
  have HS0 := Lib.hid hs0
  have HN0 := Lib.hid hn0
  have HZ := Lib.hid hz
  obtain ⟨OUT, hOUT⟩ : ∃ OUT, Xp.runOut m n p (Xp.regs (Xp.runIn m ss) (natO ops)) out = OUT := ⟨_, rfl⟩
  rw [hOUT]
  have HOUT := Lib.hid hOUT
  have hNI8 : 8 ≤ NI ∧ NI ≤ 512 := by omega
  have hp32 : p ≤ 32 := by omega
  have hD32 : D ≤ 32 := by omega
  unfold schV at HV ⊢
  have HW : Hid (Below w.heap.size w (w.alloc (.cells (schC m D p qo no ko qx nx kx) 30))) := Lib.hid ((Below.refl _ w).alloc (Nat.le_refl _) _)
  have HR : Hid (Row (w.alloc (.cells (schC m D p qo no ko qx nx kx) 30)) w.heap.size 30 (schC m D p qo no ko qx nx kx)) := Lib.hid (Row.new w _ _)
  have hne : ((D : Int) != (D : Int)) = false := by simp
  clear hlo hro hlx hrx hok hops hall hm hNS hF hs0 hn0 hld hrd hsz hOUT hNI hDm8 hDm hnxp hnxp2 hd1 hd2 hd3 hd4 hz
  go_enter Tryd.func24, Tryd.ntmps24
  go_wp2_with fail
  refine (HV.out _ HW.out).mono ?_
  rintro e w1 ⟨rfl, hb⟩
  have HB1 := Lib.hid (below_call HW.out hb)
  have HR1 := Lib.hid (HR.out.below hb HR.out.lt)
  have hz1 : w.heap.size < w1.heap.size := HR1.out.lt
  obtain ⟨c0, c1, c2, c3, c4⟩ := sbox HR1.out
  clear hb HW HR
  go_wp2_with fail
  obtain ⟨bd, od, rfl, -, -⟩ := HRD.out 0 (.string s0) (by rw [strs, List.getElem?_map, HS0.out]; rfl)
  have HSF := Lib.hid (fun (t : Nat) (s : ByteArray) (hs : ss[t]? = some s) (wn : World) (hb : Below w1.heap.size w1 wn) => show wn.cell? ⟨bd, od + t, none⟩ = some (.string s) ∧ wn.cell? ⟨w.heap.size, 0, none⟩ = some (.int .i64 (m : Int)) ∧ Below w1.heap.size w1 wn from
    ⟨(rd_at (HRD.out.below (HB1.out.trans (hb.mono HB1.out.size))) (j := t) (u := .string s) (by rw [strs, List.getElem?_map, hs]; rfl)).2, (hb.cell (p := ⟨w.heap.size, 0, none⟩) hz1).trans c0, hb⟩)
  clear c0 c1 c2 c3 c4
  go_loopw [7, 8] (fun s i wr => ∃ (t : Nat) (q : Option Addr) (N2 k : Nat) (vs : List Value), t ≤ D ∧ i = .int .i64 t ∧ s = .slice q N2 k ∧ Hid (N2 = t * m) ∧ Own wr w1.heap.size 91 q N2 k vs ∧ BitsOf wr NS vs (Xp.runIn m (ss.take t)) ∧ Hid (∀ (i : Nat) (s : ByteArray), i < t → ss[i]? = some s → s.size = n ∧ n = NS * (m / 8)) ∧ Below w1.heap.size w1 wr) (fun _ i _ => D - (intOf i).toNat)
  case atStart => exact ⟨0, none, 0, 0, [], Nat.zero_le _, rfl, rfl, Lib.hid (by omega), Own.nil _ _ _, BitsOf.nil _ _, Lib.hid (by omega), Below.refl _ _⟩
  case round =>
    obtain ⟨t, q, N2, k, vs, ht, rfl, rfl, hn2, ho, hg, hgood, hb⟩ := hrel
    have HN2 := Lib.hid hn2.out
    have HGOOD := Lib.hid hgood.out
    have HO := Lib.hid ho
    have HG := Lib.hid hg
    have HB := Lib.hid hb
    have hsw := hb.size
    clear hn2 hgood ho hg hb
    have HRW := Lib.hid (HR1.out.below HB.out HR1.out.lt)
    obtain ⟨c0, c1, c2, c3, c4⟩ := sbox HRW.out
    by_cases hlt : t < D
    -- @A0
    · have hd : decide ((t : Int) < D) = true := decide_eq_true (by omega)
      obtain ⟨s, hs⟩ : ∃ s, ss[t]? = some s := ⟨_, List.getElem?_eq_getElem (by rw [HLD.out]; exact hlt)⟩
      have hss := HSZ.out s (List.mem_of_getElem? hs)
      obtain ⟨hcd, -⟩ := HSF.out t s hs wr HB.out
      obtain ⟨hcd0, -⟩ := HSF.out 0 s0 HS0.out wr HB.out
      rw [Nat.add_zero] at hcd0
      have hs0n : s0.size = n := HN0.out
      obtain ⟨gd, hgd⟩ : ∃ b, decide (s.size = n ∧ ¬ (m = 16 ∧ n % 2 = 1)) = b := ⟨_, rfl⟩
      have HGD := Lib.hid hgd
      have hD0 : 0 < D := by omega
      have HS := Lib.hid hs
      obtain ⟨wo, rfl⟩ : ∃ wo : World, wo = wr := ⟨_, rfl⟩
      clear hs hgd
      go_upto_region 8 with fail
      go_cut [60] (fun v wx => v = .bool (!gd) ∧ ∃ nq, wx = wo.drewN nq)
      case first =>
        by_cases hq1 : s.size = n
        · have hq : ((s.size : Int) != (s0.size : Int)) = false := by rw [hq1, hs0n]; simp
          have HQ1 := Lib.hid hq1
          clear hq1 hs0n
          cases b16
          · have HG1 := Lib.hid (show gd = true by
              rw [← HGD.out]
              refine decide_eq_true ⟨HQ1.out, fun h => ?_⟩
              have h9 := HB16.out
              rw [h.1] at h9
              exact absurd h9 (by decide))
            go_quiet (fail)
            go_wp2_with fail
            go_meet
            exact ⟨by rw [HG1.out]; rfl, nq, rfl⟩
          · have hm16' : m = 16 := by have := HB16.out; simp only [beq_iff_eq] at this; omega
            have HM16 := Lib.hid hm16'
            clear hm16'
            by_cases hq2 : n % 2 = 1
            · have HQ3 := Lib.hid (show ((s.size : Int) % 2 == 1) = true by rw [HQ1.out, beq_iff_eq]; omega)
              have HG1 := Lib.hid (show gd = false by
                rw [← HGD.out]
                exact decide_eq_false (fun h => h.2 ⟨HM16.out, hq2⟩))
              clear hq2
              go_quiet (fail)
              go_wp2_with fail
              go_meet
              exact ⟨by rw [HG1.out, HQ3.out]; rfl, nq, rfl⟩
            · have HQ3 := Lib.hid (show ((s.size : Int) % 2 == 1) = false by rw [HQ1.out, beq_eq_false_iff_ne]; omega)
              have HG1 := Lib.hid (show gd = true by
                rw [← HGD.out]
                exact decide_eq_true ⟨HQ1.out, fun h => hq2 h.2⟩)
              clear hq2
              go_quiet (fail)
              go_wp2_with fail
              go_meet
              exact ⟨by rw [HG1.out, HQ3.out]; rfl, nq, rfl⟩
        · have hq : ((s.size : Int) != (s0.size : Int)) = true := by rw [hs0n, bne_iff_ne]; omega
          have HG1 := Lib.hid (show gd = false by
            rw [← HGD.out]
            exact decide_eq_false (fun h => hq1 h.1))
          clear hq1 hs0n
          go_quiet (fail)
          go_wp2_with fail
          go_meet
          exact ⟨by rw [HG1.out]; rfl, nq, rfl⟩
      case rest =>
        obtain ⟨rfl, nq, hwc⟩ := hcut
        have HBC := Lib.hid (show Below w1.heap.size w1 wc by rw [hwc]; exact below_drewN HB.out nq)
        cases gd
        · have HFB := Lib.hid (HFF.out s (List.mem_of_getElem? HS.out) (by
            have h9 := of_decide_eq_false HGD.out
            omega))
          clear hwc
          go_wp2
          refine bodyPost_ret (v := .tuple #[.slice none 0 0, .int .i64 1]) ?_ rfl ⟨.inr ⟨HFB.out, rfl⟩, HB1.out.trans (HBC.out.mono HB1.out.size)⟩
          rw [results_tmp2 rfl]; rfl
        · obtain ⟨hsn, hgd16⟩ := of_decide_eq_true HGD.out
          have HNS := Lib.hid (HNSE.out hgd16)
          have HSN := Lib.hid hsn
          have HOC := Lib.hid (show Own wc w1.heap.size 91 q N2 k vs by rw [hwc]; exact HO.out.drewN nq)
          have HGC := Lib.hid (show BitsOf wc NS vs (Xp.runIn m (ss.take t)) by rw [hwc]; exact HG.out.keeps ((KeepF.refl 5 wo).drewN nq))
          clear hwc hgd16 hsn hs0n hcd hcd0 c0 c1 c2 c3 c4 HO HG HB
          go_wp2_with fail
          go_loopw [7, 9] (fun v i wr => ∃ (k2 : Nat) (q : Option Addr) (N3 c : Nat) (vs : List Value), k2 ≤ m ∧ i = .int .i64 k2 ∧ v = .slice q N3 c ∧ Hid (N3 = t * m + k2) ∧ Own wr w1.heap.size 91 q N3 c vs ∧ BitsOf wr NS vs (Xp.runIn m (ss.take t) ++ (Xp.plList m (Xp.bytesOf s) s.size 0).take k2) ∧ Below w1.heap.size w1 wr) (fun _ i _ => m - (intOf i).toNat)
          case atStart => exact ⟨0, q, N2, k, vs, Nat.zero_le _, rfl, rfl, Lib.hid (by rw [HN2.out]; rfl), HOC.out, by rw [List.take_zero, List.append_nil]; exact HGC.out, HBC.out⟩
          case round =>
            obtain ⟨k2, q, N3, c, vs, hk2, rfl, rfl, hn3, ho, hg, hb⟩ := hrel
            have HN3 := Lib.hid hn3.out
            have HO := Lib.hid ho
            have HG := Lib.hid hg
            have HB := Lib.hid hb
            have hsw := hb.size
            have HRW := Lib.hid (HR1.out.below HB.out HR1.out.lt)
            obtain ⟨c0, c1, c2, c3, c4⟩ := sbox HRW.out
            clear hn3 ho hg hb
            by_cases hkl : k2 < m
            · have hdk : decide ((k2 : Int) < m) = true := decide_eq_true (by omega)
              have hN3 : N3 ≤ 1000 := by
                rw [HN3.out]
                have h9 := Nat.mul_le_mul (show t ≤ 32 by omega) hm16.2
                omega
              have HPK := Lib.hid (fun (W : World) => HPL.out k2 hkl s W HSN.out HNS.out)
              obtain ⟨N, hN⟩ : ∃ N, Xp.plTo m (Xp.bytesOf s) k2 s.size = N := ⟨_, rfl⟩
              have HTK := Lib.hid (runIn_snoc (t := t) (ss := ss) (s := s) hkl)
              rw [hN] at HTK HPK
              obtain ⟨LL, hLL⟩ : ∃ LL, Xp.runIn m (ss.take t) ++ (Xp.plList m (Xp.bytesOf s) s.size 0).take k2 = LL := ⟨_, rfl⟩
              rw [hLL] at HTK HG
              have HOd := Lib.hid (HO.out.drewN 1)
              have HGd := Lib.hid (show BitsOf wr.drew NS vs LL from HG.out.keeps ((KeepF.refl 5 wr).drew))
              have HBd := Lib.hid (show Below w1.heap.size w1 wr.drew from HB.out.drew)
              have HSd := Lib.hid (HSF.out t s HS.out wr.drew HBd.out)
              obtain ⟨hcd, -⟩ := HSF.out t s HS.out wr HB.out
              have hswd : w1.heap.size ≤ wr.drew.heap.size := hsw
              have hn22 : N3 + 1 ≤ maxLen := by unfold maxLen; omega
              clear hN hLL c1 c2 c3 c4
              go_wp2_with fail
              go_region_held3 (fun wn => wn.cell? ⟨bd, od + t, none⟩ = some (.string s) ∧ wn.cell? ⟨w.heap.size, 0, none⟩ = some (.int .i64 (m : Int)) ∧ Below w1.heap.size w1 wn) (first | exact HS9.out | exact HS6.out | exact HS5.out | exact HSd.out | assumption) (first
                | (go_at_call 56; (with_reducible refine (HPK.out _).mono ?_); rintro e5 w5 ⟨⟨q5, k5, rfl, hv5⟩, hb5⟩; have HV5 := Lib.hid hv5; have HB5 := Lib.hid (HBd.out.trans (hb5.mono hswd)); have HS5 := Lib.hid (HSF.out t s HS.out _ HB5.out); have HO5 := Lib.hid (HOd.out.below hb5); have HG5 := Lib.hid (HGd.out.keeps (KeepF.of_below hb5)); have hs5 := HB5.out.size; have HB6 := Lib.hid (HB5.out.alloc hs5 (.cells #[Value.slice q5 NS k5] 91)); have HS6 := Lib.hid (HSF.out t s HS.out _ HB6.out); clear hv5 hb5)
                | (refine step_app3 rfl (.tmp 67) (.tmp 76) 90 rfl w1.heap.size 91 (.slice none 0 0) 24 Tryd.underlying90 elem_bytes rfl q N3 c _ rfl (HO5.out.alloc _) _ (some ⟨w5.heap.size, 0, none⟩) 1 1 [.slice q5 NS k5] rfl (Rd.one w5 _ _) rfl (by intro u hu; simp only [List.mem_singleton] at hu; subst hu; rfl) hn22 (by omega) (by simp; omega) ?_; intro a6 k6 w6 ho6 hg6 hc6; have HO6 := Lib.hid ho6; have HB9 := Lib.hid (below_grown2 HB6.out hg6 (HO5.out.alloc _) (by simp; omega) (Nat.le_refl _)); have HS9 := Lib.hid (HSF.out t s HS.out _ HB9.out); have HG6 := Lib.hid ((HG5.out.snoc HV5.out).keeps (((KeepF.refl 5 w5).alloc _).grown (HO5.out.alloc _) hg6 (by decide))); clear ho6 hg6 hc6))
              go_wp2
              go_roundw
              case rel => (repeat apply Exists.intro); exact ⟨⟨k2 + 1, a6, N3 + 1, k6, _, by omega, by go_num, rfl, Lib.hid (by have := HN3.out; omega), HO6.out, by rw [HTK.out]; exact HG6.out, HB9.out⟩, rfl⟩
              case measure => simp [intOf]; omega
            · have hdk : decide ((k2 : Int) < m) = false := decide_eq_false (by omega)
              have hdk2 : decide (k2 < m) = false := decide_eq_false (by omega)
              have hkm : k2 = m := by omega
              have HGX := Lib.hid (show BitsOf wr NS vs (Xp.runIn m (ss.take (t + 1))) from by
                have h9 := HG.out
                rwa [hkm, runIn_full HS.out] at h9)
              have HNX := Lib.hid (show N3 = (t + 1) * m by rw [HN3.out, hkm, Nat.add_mul, Nat.one_mul])
              have HGOOD2 := Lib.hid (fun (i : Nat) (s' : ByteArray) (hi : i < t + 1) (h : ss[i]? = some s') => show s'.size = n ∧ n = NS * (m / 8) from by
                by_cases e : i < t
                · exact HGOOD.out i s' e h
                · obtain rfl : i = t := by omega
                  have h8 := HS.out
                  rw [h8] at h
                  injection h with h
                  subst h
                  exact ⟨HSN.out, HNS.out⟩)
              clear hkm
              go_wp2
              go_roundw
              case rel => exact ⟨t + 1, q, N3, c, vs, by omega, by go_num, rfl, Lib.hid HNX.out, HO.out, HGX.out, Lib.hid HGOOD2.out, HB.out⟩
              case measure => simp [intOf]; omega
    -- @A1
    · have hd : decide ((t : Int) < D) = false := decide_eq_false (by omega)
      have hd2 : decide (t < D) = false := decide_eq_false (by omega)
      have htD : t = D := by omega
      have HNX := Lib.hid (show N2 = NI by rw [HN2.out, htD, HNI.out])
      have HGX := Lib.hid (show BitsOf wr NS vs (Xp.regs (Xp.runIn m ss) (natO (ops.take 0))) from by
        have h9 := HG.out
        rw [htD, List.take_of_length_le (by rw [HLD.out]; exact Nat.le_refl _)] at h9
        exact h9)
      have HNS := Lib.hid (HGOOD.out 0 s0 (by omega) HS0.out).2
      have HFX := Lib.hid (HFT.out (fun s hs => by
        obtain ⟨i, hi, e⟩ := List.getElem_of_mem hs
        exact (HGOOD.out i s (by rw [HLD.out] at hi; omega) (by rw [List.getElem?_eq_getElem hi, e])).1) HNS.out)
      clear htD
      go_wp2_with fail
      clear c0 c1 c2 c3 c4 hd hd2
      obtain ⟨wo, rfl⟩ : ∃ wo : World, wo = wr := ⟨_, rfl⟩
      go_loopw [7, 10] (fun v i wr => ∃ (t2 : Nat) (q : Option Addr) (n2 k : Nat) (vs : List Value), t2 ≤ no ∧ i = .int .i64 t2 ∧ v = .slice q n2 k ∧ Hid (n2 = NI + t2) ∧ Own wr w1.heap.size 91 q n2 k vs ∧ BitsOf wr NS vs (Xp.regs (Xp.runIn m ss) (natO (ops.take t2))) ∧ Below w1.heap.size w1 wr) (fun _ i _ => no - (intOf i).toNat)
      case atStart => exact ⟨0, q, N2, k, vs, Nat.zero_le _, rfl, rfl, Lib.hid HNX.out, HO.out, HGX.out, HB.out⟩
      case round =>
        obtain ⟨t2, q, n2, k, vs, ht2, rfl, rfl, hn2, ho, hg, hb⟩ := hrel
        have HN2b := Lib.hid hn2.out
        have HO := Lib.hid ho
        have HG := Lib.hid hg
        have HB := Lib.hid hb
        have hsw := hb.size
        have hnle : n2 ≤ 132072 := by have := hn2.out; omega
        clear hn2 ho hg hb
        have HRW := Lib.hid (HR1.out.below HB.out HR1.out.lt)
        obtain ⟨c0, c1, c2, c3, c4⟩ := sbox HRW.out
        by_cases hlt2 : t2 < no
        -- @A0
        · have hd : decide ((t2 : Int) < no) = true := decide_eq_true (by omega)
          obtain ⟨⟨x, y⟩, hop⟩ : ∃ o, ops[t2]? = some o := ⟨_, List.getElem?_eq_getElem (by rw [HLO.out]; exact hlt2)⟩
          obtain ⟨hx0, hy0, hxl, hyl⟩ := HOK.out t2 _ hop
          obtain ⟨X, rfl⟩ : ∃ X : Nat, x = X := ⟨x.toNat, by simp only at hx0; omega⟩
          obtain ⟨Y, rfl⟩ : ∃ Y : Nat, y = Y := ⟨y.toNat, by simp only at hy0; omega⟩
          have hXn : X < n2 := by have := HN2b.out; simp only at hxl; omega
          have hYn : Y < n2 := by have := HN2b.out; simp only at hyl; omega
          obtain ⟨R, hR⟩ : ∃ R, Xp.regs (Xp.runIn m ss) (natO (ops.take t2)) = R := ⟨_, rfl⟩
          have hRl : R.length = n2 := by rw [← hR, Xp.regs_length, natO_length, Xp.runIn_length, HLD.out, HN2b.out, HNI.out, List.length_take, HLO.out, Nat.min_eq_left ht2]
          obtain ⟨a, ha⟩ : ∃ a, R[X]? = some a := ⟨_, List.getElem?_eq_getElem (by omega)⟩
          obtain ⟨b, hb⟩ : ∃ b, R[Y]? = some b := ⟨_, List.getElem?_eq_getElem (by omega)⟩
          obtain ⟨M, hM⟩ : ∃ M, a ^^^ b = M := ⟨_, rfl⟩
          have HREG := Lib.hid (show Xp.regs (Xp.runIn m ss) (natO (ops.take (t2 + 1))) = R ++ [M] by
            rw [natO_take hop, Xp.regs_snoc, hR]
            simp only [Int.toNat_natCast]
            rw [ha, hb, ← hM]; rfl)
          rw [hR] at HG
          obtain ⟨v1, hv1, hS1⟩ := HG.out.2 X a ha
          obtain ⟨v2, hv2, hS2⟩ := HG.out.2 Y b hb
          obtain ⟨q1, k1, rfl, _⟩ := id hS1
          obtain ⟨q2, k2, rfl, _⟩ := id hS2
          have HXO := Lib.hid (fun (W : World) => show Calls Tryd.prog 57 #[.string (strB (bitsL a NS)), .string (strB (bitsL b NS))] W fun e w' => e = .returned (.tuple #[.string (strB (bitsL M NS)), .int .i64 0]) ∧ Below W.heap.size W w' from by
            have h9 := rxor_any (strB (bitsL a NS)) (strB (bitsL b NS)) W (by rw [strB_size, bitsL_length]; omega) (by rw [strB_size, bitsL_length]; omega)
            rw [xorS, xorE, if_pos (by rw [strB_size, strB_size, bitsL_length, bitsL_length]), if_pos (by rw [strB_size, strB_size, bitsL_length, bitsL_length]), strB_data, strB_data, bitsL_xor, hM] at h9
            exact h9)
          obtain ⟨bo, off, rfl, hbo, hx, hy⟩ := (HRO.out.below (HB1.out.trans (HB.out.mono HB1.out.size))).op hop
          obtain ⟨g, rfl, hBg, hgl, hcx, hfx⟩ := HO.out.at_ hXn
          obtain ⟨g', eg, _, _, hcy, hfy⟩ := HO.out.at_ hYn
          injection eg with eg
          injection eg with eg
          subst eg
          rw [hv1] at hcx
          rw [hv2] at hcy
          have hbo1 : bo < w1.heap.size := by omega
          have HSG := Lib.hid (fun (wn : World) (hb : Below wr.heap.size wr wn) => show wn.cell? ⟨w.heap.size, 3, none⟩ = some (.slice (some ⟨bo, off, none⟩) no ko) ∧ wn.cell? ⟨bo, off + t2 * 2, none⟩ = some (.int .i64 (X : Int)) ∧ wn.cell? ⟨bo, off + t2 * 2 + 1, none⟩ = some (.int .i64 (Y : Int)) ∧ wn.cell? ⟨g, X, none⟩ = some (.slice q1 NS k1) ∧ wn.cell? ⟨g, Y, none⟩ = some (.slice q2 NS k2) ∧ (convert 91 9 (.slice q1 NS k1)).run Tryd.prog wn = .ok (.string (strB (bitsL a NS))) wn ∧ (convert 91 9 (.slice q2 NS k2)).run Tryd.prog wn = .ok (.string (strB (bitsL b NS))) wn ∧ Below wr.heap.size wr wn from
            ⟨(hb.cell (p := ⟨w.heap.size, 3, none⟩) (by show w.heap.size < _; omega)).trans c3, (hb.cell (p := ⟨bo, off + t2 * 2, none⟩) (by show bo < _; omega)).trans hx, (hb.cell (p := ⟨bo, off + t2 * 2 + 1, none⟩) (by show bo < _; omega)).trans hy, (hb.cell (p := ⟨g, X, none⟩) hgl).trans hcx, (hb.cell (p := ⟨g, Y, none⟩) hgl).trans hcy,
              conv_all wn q1 NS k1 _ (hS1.keeps (KeepF.of_below hb)).rd.2 (bitsL_length _ _), conv_all wn q2 NS k2 _ (hS2.keeps (KeepF.of_below hb)).rd.2 (bitsL_length _ _), hb⟩)
          have HBd := Lib.hid (show Below wr.heap.size wr wr.drew from (Below.refl _ wr).drew)
          have HSd := Lib.hid (HSG.out wr.drew HBd.out)
          have hn22 : n2 + 1 ≤ maxLen := by unfold maxLen; omega
          clear ha hb hop hR hRl hv1 hv2 hx0 hy0 hxl hyl hS1 hS2 hM c0 c1 c2 c4 hfx hfy
          go_wp2_with fail
          go_region_held3 (fun wn => wn.cell? ⟨w.heap.size, 3, none⟩ = some (.slice (some ⟨bo, off, none⟩) no ko) ∧ wn.cell? ⟨bo, off + t2 * 2, none⟩ = some (.int .i64 (X : Int)) ∧ wn.cell? ⟨bo, off + t2 * 2 + 1, none⟩ = some (.int .i64 (Y : Int)) ∧ wn.cell? ⟨g, X, none⟩ = some (.slice q1 NS k1) ∧ wn.cell? ⟨g, Y, none⟩ = some (.slice q2 NS k2) ∧ (convert 91 9 (.slice q1 NS k1)).run Tryd.prog wn = .ok (.string (strB (bitsL a NS))) wn ∧ (convert 91 9 (.slice q2 NS k2)).run Tryd.prog wn = .ok (.string (strB (bitsL b NS))) wn ∧ Below wr.heap.size wr wn) (first | exact HS5.out | exact HSd.out | assumption) (first
            | (go_at_call 57; (with_reducible refine (HXO.out _).mono ?_); rintro e5 w5 ⟨rfl, hb5⟩; have HB5 := Lib.hid (HBd.out.trans hb5); have HS5 := Lib.hid (HSG.out _ HB5.out); clear hb5))
          all_goals (
            obtain ⟨cB, wB, hcv, hbB, hvB, hsB⟩ := conv_bits w5 M NS
            have HBB := Lib.hid (HB.out.trans ((HB5.out.trans (hbB.mono HB5.out.size)).mono hsw))
            have HOB := Lib.hid ((HO.out.below HB5.out).below hbB)
            have HGB := Lib.hid ((HG.out.keeps (KeepF.of_below HB5.out)).keeps (KeepF.of_below hbB))
            have HVB := Lib.hid hvB
            have hsB1 := HBB.out.size
            have HOA := Lib.hid (HOB.out.alloc (.cells #[Value.slice (some ⟨w5.heap.size, 0, none⟩) NS cB] 91))
            clear hbB hvB
            go_wp2_with (refine wpList_app _ rfl (.tmp 109) (.tmp 112) 90 rfl w1.heap.size 91 (.slice none 0 0) 24 Tryd.underlying90 elem_bytes rfl (some ⟨g, 0, none⟩) n2 k _ rfl HOA.out _ (some ⟨wB.heap.size, 0, none⟩) 1 1 [.slice (some ⟨w5.heap.size, 0, none⟩) NS cB] rfl (Rd.one wB _ _) rfl (by intro u hu; simp only [List.mem_singleton] at hu; subst hu; rfl) hn22 (by omega) (by simp; omega) ?_; intro a6 k6 w6 ho6 hg6; have HO6 := Lib.hid ho6; have HB6 := Lib.hid (below_grown2 (HBB.out.alloc hsB1 _) hg6 HOA.out (by simp; omega) (Nat.le_refl _)); have HG6 := Lib.hid ((HGB.out.snoc HVB.out).keeps (((KeepF.refl 5 wB).alloc _).grown HOA.out hg6 (by decide))); clear ho6 hg6)
            go_roundw
            case rel => exact ⟨t2 + 1, a6, n2 + 1, k6, _, by omega, by go_num, rfl, Lib.hid (by have := HN2b.out; omega), HO6.out, by rw [HREG.out]; exact HG6.out, HB6.out⟩
            case measure => simp [intOf]; omega)
        -- @A1
        · have hd : decide ((t2 : Int) < no) = false := decide_eq_false (by omega)
          have hd2 : decide (t2 < no) = false := decide_eq_false (by omega)
          obtain ⟨wp, rfl⟩ : ∃ wp : World, wp = wr := ⟨_, rfl⟩
          obtain ⟨R, hR⟩ : ∃ R, Xp.regs (Xp.runIn m ss) (natO ops) = R := ⟨_, rfl⟩
          have HGR := Lib.hid (show BitsOf wp NS vs R from by
            have h9 := HG.out
            rwa [List.take_of_length_le (by rw [HLO.out]; omega), hR] at h9)
          have HN3 := Lib.hid (show n2 = NI + no by have := HN2b.out; omega)
          have HRL := Lib.hid (show R.length = n2 by rw [← hR, Xp.regs_length, natO_length, Xp.runIn_length, HLD.out, HN3.out, HNI.out, HLO.out])
          have HBP := Lib.hid (HB1.out.trans (HB.out.mono HB1.out.size))
          have hsp := HB.out.size
          rw [hR] at HOUT
          have HOL := Lib.hid (show OUT.length = p by rw [← HOUT.out]; unfold Xp.runOut; simp)
          clear hlt2 hR
          go_wp2_with fail
          clear c0 c1 c2 c3 c4 hd hd2
          go_loopw [13, 14] (fun v i wr => ∃ (c : Nat) (q3 : Option Addr) (k3 : Nat), c ≤ p ∧ i = .int .i64 c ∧ v = .slice q3 c k3 ∧ Own wr wp.heap.size 9 q3 c k3 (strsB (OUT.take c)) ∧ Below wp.heap.size wp wr) (fun _ i _ => p - (intOf i).toNat)
          case atStart => exact ⟨0, none, 0, Nat.zero_le _, rfl, rfl, Own.nil _ _ _, Below.refl _ _⟩
          case round =>
            obtain ⟨c, q3, k3, hc, rfl, rfl, ho3, hb3⟩ := hrel
            have HO3 := Lib.hid ho3
            have HB3 := Lib.hid hb3
            have hs3 := hb3.size
            clear ho3 hb3
            have HRJ := Lib.hid (HRW.out.below HB3.out HRW.out.lt)
            obtain ⟨c0, c1, c2, c3, c4⟩ := sbox HRJ.out
            by_cases hcl : c < p
            · have hdc : decide ((c : Int) < p) = true := decide_eq_true (by omega)
              obtain ⟨Rf, hRf⟩ : ∃ Rf : Nat → Nat, (fun K => (Xp.outRow m R out c)[K]?.getD 0) = Rf := ⟨_, rfl⟩
              obtain ⟨U, hU⟩ : ∃ U, Xp.unitL m Rf n = U := ⟨_, rfl⟩
              have HTK := Lib.hid (show strsB (OUT.take (c + 1)) = strsB (OUT.take c) ++ [.string (strB U)] from by
                have h8 : OUT[c]? = some U := by rw [← HOUT.out, runOut_get hcl, hRf, hU]
                exact strsB_take h8)
              have HUL := Lib.hid (show U.length = n by rw [← hU, Xp.unitL_length])
              have HUE := Lib.hid hU
              have HRF := Lib.hid (fun (K : Nat) (hK : K < m) (r : Int) (hr : out[c * m + K]? = some r) => show Rf K = Xp.outN R r from by
                rw [← hRf]
                unfold Xp.outRow
                simp only [List.getElem?_map, List.getElem?_range hK, Option.map_some, Option.getD_some]
                rw [hr]; rfl)
              clear hU hRf
              obtain ⟨wq, rfl⟩ : ∃ wq : World, wq = wr := ⟨_, rfl⟩
              go_wp2_with fail
              clear c0 c1 c2 c3 c4
              go_loopw [15, 16] (fun v i wy => ∃ (ps N5 : Nat) (q5 : Option Addr) (k5 : Nat), ps ≤ NS ∧ i = .int .i64 ps ∧ v = .slice q5 N5 k5 ∧ Hid (N5 = ps * z) ∧ Own wy wq.heap.size 5 q5 N5 k5 ((U.take N5).map v8) ∧ Below wq.heap.size wq wy) (fun _ i _ => NS - (intOf i).toNat)
              case atStart => exact ⟨0, 0, none, 0, Nat.zero_le _, rfl, rfl, Lib.hid (by omega), Own.nil _ _ _, Below.refl _ _⟩
              case round =>
                obtain ⟨ps, N5, q5, k5, hps, rfl, rfl, hn5, ho5, hb5⟩ := hrel
                have HN5 := Lib.hid hn5.out
                have HO5 := Lib.hid ho5
                have HB5 := Lib.hid hb5
                have hs5 := hb5.size
                clear hn5 ho5 hb5
                obtain ⟨wy, rfl⟩ : ∃ wy : World, wy = wr := ⟨_, rfl⟩
                have HRY := Lib.hid (HRJ.out.below HB5.out HRJ.out.lt)
                obtain ⟨c0, c1, c2, c3, c4⟩ := sbox HRY.out
                have HBY := Lib.hid (show Below wp.heap.size wp wy from HB3.out.trans (HB5.out.mono hs3))
                obtain ⟨v0, hv0, hV0⟩ := HGR.out.2 0 _ (List.getElem?_eq_getElem (by rw [HRL.out, HN3.out]; omega))
                obtain ⟨q0, k0, rfl, _⟩ := id hV0
                have hn20 : 0 < n2 := by have := HN3.out; omega
                obtain ⟨g, rfl, hBg, hgl, hcz, hfz⟩ := HO.out.at_ hn20
                rw [hv0] at hcz
                have hcz2 : wy.cell? ⟨g, 0, none⟩ = some (.slice q0 NS k0) := (HBY.out.cell (p := ⟨g, 0, none⟩) hgl).trans hcz
                clear hv0 hV0 hcz hfz
                by_cases hpl : ps < NS
                · have hdp : decide ((ps : Int) < NS) = true := decide_eq_true (by omega)
                  go_wp2_with fail
                  go_loop [17, 18] (fun x k => ∃ (K sm : Nat), K ≤ m ∧ k = .int .i64 K ∧ x = .int .i64 sm ∧ Hid (sm = sumTo Rf ps K)) (fun _ k => m - (intOf k).toNat)
                  case atStart => exact ⟨0, 0, Nat.zero_le _, rfl, rfl, Lib.hid rfl⟩
                  case round =>
                    obtain ⟨K, sm, hK, rfl, rfl, hsm⟩ := hrel
                    have HSM := Lib.hid hsm.out
                    clear hsm
                    by_cases hKm : K < m
                    · have hdK : decide ((K : Int) < m) = true := decide_eq_true (by omega)
                      obtain ⟨cm, hcm⟩ : ∃ cm, c * m = cm := ⟨_, rfl⟩
                      have hcmx : cm + K < nx := by
                        rw [← hcm, HNXP.out]
                        have h1 := Nat.mul_le_mul_right m (show c + 1 ≤ p from hcl)
                        rw [Nat.add_mul, Nat.one_mul] at h1
                        omega
                      obtain ⟨r, hr⟩ : ∃ r, out[cm + K]? = some r := ⟨_, List.getElem?_eq_getElem (by rw [HLX.out]; exact hcmx)⟩
                      have hrr := HALL.out _ _ hr
                      have HRK := Lib.hid (HRF.out K hKm r (by rw [hcm]; exact hr))
                      obtain ⟨bx, ox, rfl, hbx, hcx⟩ := (HRX.out.below (HBP.out.trans (HBY.out.mono HBP.out.size))) (cm + K) (.int .i64 r) (by rw [ints, List.getElem?_map, hr]; rfl)
                      have hw1 : IntKind.i64.wrap ((c : Int) * (m : Int)) = (cm : Int) := by
                        have : ((c * m : Nat) : Int) = (c : Int) * m := by simp
                        rw [← this, hcm, IntKind.wrap_i64] <;> omega
                      obtain ⟨ck, hck⟩ : ∃ ck, cm + K = ck := ⟨_, rfl⟩
                      have hw2 : IntKind.i64.wrap ((cm : Int) + (K : Int)) = (ck : Int) := by
                        rw [← hck, IntKind.wrap_i64] <;> omega
                      rw [hck] at hcx hcmx
                      have hsml : sm < 2 ^ K := by rw [HSM.out]; exact sumTo_lt _ _ _
                      have HSML := Lib.hid hsml
                      clear hr hcm hck hsml
                      by_cases hneg : r < 0
                      · have hdr : decide (0 ≤ r) = false := decide_eq_false (by omega)
                        have HSN := Lib.hid (show sm = sumTo Rf ps (K + 1) from by
                          rw [HSM.out]
                          show sumTo Rf ps K = sumTo Rf ps K + (if (Rf K).testBit ps then 2 ^ K else 0)
                          rw [HRK.out, Xp.outN, if_pos hneg]
                          simp)
                        go_wp2_with fail
                        go_round
                        case rel => exact ⟨K + 1, sm, by omega, by go_num, rfl, Lib.hid HSN.out⟩
                        case measure => simp [intOf]; omega
                      · have hdr : decide (0 ≤ r) = true := decide_eq_true (by omega)
                        obtain ⟨X, rfl⟩ : ∃ X : Nat, r = X := ⟨r.toNat, by omega⟩
                        have hXn : X < n2 := by have := HN3.out; omega
                        obtain ⟨N, hN⟩ : ∃ N, R[X]? = some N := ⟨_, List.getElem?_eq_getElem (by rw [HRL.out]; exact hXn)⟩
                        obtain ⟨v, hv, hV⟩ := HGR.out.2 X N hN
                        obtain ⟨qv, kv, rfl, hrow⟩ := hV
                        obtain ⟨gv, cs, fr, rfl, hheap, hcs⟩ := hrow (by omega)
                        obtain ⟨g', eg, _, hgl', hcX, hfX⟩ := HO.out.at_ hXn
                        injection eg with eg
                        injection eg with eg
                        subst eg
                        rw [hv] at hcX
                        have hcX2 : wy.cell? ⟨g, X, none⟩ = some (.slice (some ⟨gv, 0, none⟩) NS kv) := (HBY.out.cell (p := ⟨g, X, none⟩) hgl).trans hcX
                        obtain ⟨bt, hbt⟩ : ∃ bt : Nat, (if N.testBit ps then 1 else 0) = bt := ⟨_, rfl⟩
                        have hbt2 : bt < 2 := by rw [← hbt]; split <;> omega
                        have hcB : wy.cell? ⟨gv, ps, none⟩ = some (.int .u8 (bt : Int)) := by
                          refine (HBY.out.cell (p := ⟨gv, ps, none⟩) (heap_lt hheap)).trans ?_
                          rw [cell_of_row _ _ _ _ _ _ hheap]
                          refine hcs ps _ ?_
                          rw [List.getElem?_map, bitsL_get hpl, ← hbt]
                          cases N.testBit ps <;> rfl
                        have HBT := Lib.hid hbt
                        have HRN := Lib.hid (show Rf K = N by rw [HRK.out, Xp.outN, if_neg (by omega), Int.toNat_natCast, hN]; rfl)
                        have e0 : wrap64 (bt : Int) = bt := IntWalk.wrap64_in _ (by omega)
                        obtain ⟨y, s2, e1, e2, hs2⟩ := sum_step sm bt K hbt2 HSML.out (by omega)
                        have HSN := Lib.hid (show s2 = sumTo Rf ps (K + 1) from by
                          show s2 = sumTo Rf ps K + (if (Rf K).testBit ps then 2 ^ K else 0)
                          rw [hs2, ← HSM.out, HRN.out, ← HBT.out]
                          cases N.testBit ps <;> simp)
                        clear hN hv hcX hbt hheap hcs hrow hs2
                        go_wp2_with fail
                        go_round
                        case rel => exact ⟨K + 1, s2, by omega, by go_num, by rw [e2], Lib.hid HSN.out⟩
                        case measure => simp [intOf]; omega
                    · have hdK : decide ((K : Int) < m) = false := decide_eq_false (by omega)
                      have hdK2 : decide (K < m) = false := decide_eq_false (by omega)
                      have hKm' : K = m := by omega
                      have hsx : sm = sumTo Rf ps m := by rw [HSM.out, hKm']
                      have hsl : sm < 65536 := by
                        rw [hsx]
                        refine Nat.lt_of_lt_of_le (sumTo_lt Rf ps m) ?_
                        exact show 2 ^ m ≤ 2 ^ 16 from Nat.pow_le_pow_right (by decide) hm16.2
                      obtain ⟨lo, hi, hlo, hhi, hl1, hh1, e1, e2, e3, e4, e5, e6⟩ := lo_parts sm hsl
                      have HSX := Lib.hid hsx
                      have hn52 : N5 + 2 ≤ maxLen := by
                        have h8 := HN5.out
                        have h9 := Nat.mul_le_mul (show ps ≤ 1000 by omega) hz12.2
                        unfold maxLen; omega
                      have hn53 : N5 ≤ 2000 := by
                        have h8 := HN5.out
                        have h9 := Nat.mul_le_mul (show ps ≤ 1000 by omega) hz12.2
                        omega
                      clear hKm' hsx
                      cases b16
                      · have HM8 := Lib.hid (show m = 8 from by
                          rcases HM.out with h | h
                          · exact h
                          · have h9 := HB16.out
                            rw [h] at h9
                            exact absurd h9 (by decide))
                        have HZ1 := Lib.hid (show z = 1 by rw [← HZ.out, HM8.out])
                        have HTV := Lib.hid (show (U.take (N5 + 1)).map v8 = (U.take N5).map v8 ++ [.int .u8 (lo : Int)] from by
                          have h8 := HN5.out
                          rw [HZ1.out, Nat.mul_one] at h8
                          have h7 := HNS.out
                          rw [HM8.out] at h7
                          rw [← HUE.out, unitL_take (by omega), ← sum_byte HM.out, HM8.out, h8]
                          have h6 := HSX.out
                          rw [HM8.out] at h6
                          rw [show ps / (8 / 8) = ps by omega, ← h6, show Xp.high 8 ps = 0 by unfold Xp.high; omega, Nat.pow_zero, Nat.div_one, hl1])
                        have HO2 := Lib.hid (HO5.out.alloc (.cells #[.int .u8 (lo : Int)] 5))
                        clear hl1 hh1 e4 e5 e6
                        go_wp2_with (refine wpList_app _ rfl (.tmp 167) (.tmp 171) 91 rfl wq.heap.size 5 (.int .u8 0) 1 Tryd.underlying91 elem_u8 rfl q5 N5 k5 _ rfl HO2.out _ (some ⟨wy.heap.size, 0, none⟩) 1 1 [.int .u8 (lo : Int)] rfl (Rd.one wy _ _) rfl (by intro u hu; simp only [List.mem_singleton] at hu; subst hu; rfl) (by unfold maxLen; omega) (by omega) (by simp; omega) ?_; intro a6 k6 w6 ho6 hg6; rw [← HTV.out] at ho6; have HO6 := Lib.hid ho6; have HB6 := Lib.hid (below_grown2 (HB5.out.alloc hs5 _) hg6 HO2.out (by simp; omega) (Nat.le_refl _)); clear ho6 hg6)
                        go_roundw
                        case rel => exact ⟨ps + 1, N5 + 1, a6, k6, by omega, by go_num, rfl, Lib.hid (by rw [HN5.out, HZ1.out]; omega), HO6.out, HB6.out⟩
                        case measure => simp [intOf]; omega
                      · have HM16 := Lib.hid (show m = 16 from by
                          have h9 := HB16.out
                          simp only [beq_iff_eq] at h9
                          omega)
                        have HZ2 := Lib.hid (show z = 2 by rw [← HZ.out, HM16.out])
                        have HTV1 := Lib.hid (show (U.take (N5 + 1)).map v8 = (U.take N5).map v8 ++ [.int .u8 (hi : Int)] from by
                          have h8 := HN5.out
                          rw [HZ2.out] at h8
                          have h7 := HNS.out
                          rw [HM16.out] at h7
                          rw [← HUE.out, unitL_take (by omega), ← sum_byte HM.out, HM16.out, h8]
                          have h6 := HSX.out
                          rw [HM16.out] at h6
                          rw [show ps * 2 / (16 / 8) = ps by omega, ← h6, show Xp.high 16 (ps * 2) = 8 by unfold Xp.high; omega, show 2 ^ 8 = 256 from rfl, hh1])
                        have HTV2 := Lib.hid (show (U.take (N5 + 1 + 1)).map v8 = (U.take (N5 + 1)).map v8 ++ [.int .u8 (lo : Int)] from by
                          have h8 := HN5.out
                          rw [HZ2.out] at h8
                          have h7 := HNS.out
                          rw [HM16.out] at h7
                          rw [← HUE.out, unitL_take (by omega), ← sum_byte HM.out, HM16.out, h8]
                          have h6 := HSX.out
                          rw [HM16.out] at h6
                          rw [show (ps * 2 + 1) / (16 / 8) = ps by omega, ← h6, show Xp.high 16 (ps * 2 + 1) = 0 by unfold Xp.high; omega, Nat.pow_zero, Nat.div_one, hl1])
                        have HO2 := Lib.hid (HO5.out.alloc (.cells #[.int .u8 (hi : Int)] 5))
                        clear hl1 hh1
                        go_wp2_with (first
                          | (refine wpList_app _ rfl (.tmp 161) (.tmp 165) 91 rfl wq.heap.size 5 (.int .u8 0) 1 Tryd.underlying91 elem_u8 rfl q5 N5 k5 _ rfl HO2.out _ (some ⟨wy.heap.size, 0, none⟩) 1 1 [.int .u8 (hi : Int)] rfl (Rd.one wy _ _) rfl (by intro u hu; simp only [List.mem_singleton] at hu; subst hu; rfl) (by unfold maxLen; omega) (by omega) (by simp; omega) ?_; intro a7 k7 w7 ho7 hg7; rw [← HTV1.out] at ho7; have HO7 := Lib.hid ho7; have HB7 := Lib.hid (below_grown2 (HB5.out.alloc hs5 _) hg7 HO2.out (by simp; omega) (Nat.le_refl _)); have hs7 := HB7.out.size; have HO8 := Lib.hid (HO7.out.alloc (.cells #[.int .u8 (lo : Int)] 5)); clear ho7 hg7)
                          | (refine wpList_app _ rfl (.tmp 167) (.tmp 171) 91 rfl wq.heap.size 5 (.int .u8 0) 1 Tryd.underlying91 elem_u8 rfl a7 (N5 + 1) k7 _ rfl HO8.out _ (some ⟨w7.heap.size, 0, none⟩) 1 1 [.int .u8 (lo : Int)] rfl (Rd.one w7 _ _) rfl (by intro u hu; simp only [List.mem_singleton] at hu; subst hu; rfl) (by unfold maxLen; omega) (by omega) (by simp; omega) ?_; intro a6 k6 w6 ho6 hg6; rw [← HTV2.out] at ho6; have HO6 := Lib.hid ho6; have HB6 := Lib.hid (below_grown2 (HB7.out.alloc hs7 _) hg6 HO8.out (by simp; omega) (Nat.le_refl _)); clear ho6 hg6))
                        go_roundw
                        case rel => exact ⟨ps + 1, N5 + 1 + 1, a6, k6, by omega, by go_num, rfl, Lib.hid (by rw [HN5.out, HZ2.out]; omega), HO6.out, HB6.out⟩
                        case measure => simp [intOf]; omega
                · have hdp : decide ((ps : Int) < NS) = false := decide_eq_false (by omega)
                  have hdp2 : decide (ps < NS) = false := decide_eq_false (by omega)
                  have hpe : ps = NS := by omega
                  have hNn : N5 = n := by rw [HN5.out, hpe, HNS.out, HZ.out]
                  have hcv : (convert 91 9 (.slice q5 N5 k5)).run Tryd.prog wy = .ok (.string (strB U)) wy := by
                    have h9 := HO5.out.rd
                    rw [List.take_of_length_le (by rw [HUL.out, hNn]; exact Nat.le_refl _)] at h9
                    exact conv_all wy q5 N5 k5 U h9 (by rw [HUL.out, hNn])
                  have HO3Y := Lib.hid ((HO3.out.below HB5.out).alloc (.cells #[.string (strB U)] 9))
                  clear hpe hNn
                  have hsy := HBY.out.size
                  go_wp2_with (refine wpList_app _ rfl (.tmp 173) (.tmp 176) 36 rfl wp.heap.size 9 (.string ⟨#[]⟩) 16 Tryd.underlying36 elem_strs rfl q3 c k3 _ rfl HO3Y.out _ (some ⟨wy.heap.size, 0, none⟩) 1 1 [.string (strB U)] rfl (Rd.one wy _ _) rfl (by intro u hu; simp only [List.mem_singleton] at hu; subst hu; rfl) (by unfold maxLen; omega) (by omega) (by simp; omega) ?_; intro a6 k6 w6 ho6 hg6; rw [← HTK.out] at ho6; have HO6 := Lib.hid ho6; have HB6 := Lib.hid (below_grown2 (HBY.out.alloc hsy _) hg6 HO3Y.out (by simp; omega) (Nat.le_refl _)); clear ho6 hg6)
                  go_roundw
                  case rel => exact ⟨c + 1, a6, k6, by omega, by go_num, rfl, HO6.out, HB6.out⟩
                  case measure => simp [intOf]; omega
            · have hdc : decide ((c : Int) < p) = false := decide_eq_false (by omega)
              have hdc2 : decide (c < p) = false := decide_eq_false (by omega)
              have hcp : c = p := by omega
              have HOE := Lib.hid (show Own wr wp.heap.size 9 q3 p k3 (strsB OUT) from by
                have h9 := HO3.out
                rwa [List.take_of_length_le (by rw [HOL.out]; omega), hcp] at h9)
              have HCP := Lib.hid hcp
              clear hcp
              go_wp2
              refine bodyPost_ret (v := .tuple #[.slice q3 c k3, .int .i64 0]) ?_ rfl ⟨.inl ⟨HFX.out, q3, k3, by rw [← HCP.out], HOE.out.mono HBP.out.size⟩, HBP.out.trans (HB3.out.mono HBP.out.size)⟩
              rw [results_tmp2 rfl]; rfl
end Go.Proofs.YtghinmlpkgcdiaaDoor
