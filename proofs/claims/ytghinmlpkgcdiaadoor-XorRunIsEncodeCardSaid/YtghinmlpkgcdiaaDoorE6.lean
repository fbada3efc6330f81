/- Runs and codes: the statement's long way. -/
import Derived.Test.YtghinmlpkgcdiaaDoorE5
import Derived.Deep.RegionHeld3
import Derived.Deep.DeepCutAuto
import Derived.BigQuiet
namespace Go.Proofs.YtghinmlpkgcdiaaDoor
set_option linter.unusedSimpArgs false
set_option linter.unusedVariables false
open Go.ChangeShapes Go.WideShapes Go.ChangeAt Go.RowKit Go.Lib

section
variable (nm : ByteArray) (f d : Int) (qp : Option Addr) (np kp : Nat) (dom : Int) (zss : List (List Int)) (qd : Option Addr) (nd kd : Nat) (ss : List ByteArray) (w : World)
theorem comp_small2 {f d : Int} {zss : List (List Int)} (hb : Xp.okC f d zss = true) : (Xp.compO f d zss).length ≤ 131072 ∧ (Xp.compU f d zss).length ≤ 512 := by
  have h9 := comp_okS f d zss
  rw [hb] at h9
  obtain ⟨m, D, P, _, _, _, _, _, _, _, h4, h5, _, _, h8⟩ := okS_parts h9
  exact ⟨h4, by omega⟩
set_option maxRecDepth 100000 in
set_option maxHeartbeats 25600000 in
theorem re_2 {A : Bool} (ht : Tab w) (hc : CodeIn w f d qp np kp zss) (ha : StrIn w qd nd kd ss) (h : encOut f d np ss = false) (hok : Xp.okC f d zss = true) (hA : Xp.acc f d np (Xp.compO f d zss) (Xp.compU f d zss) ss = A) :
    Calls Tryd.prog 4 #[.agg (codC (.string nm) f d qp np kp dom), .slice qd nd kd] w fun e w' => e = .returned (.bool true) ∧ Below w.heap.size w w' := by
  have HB0 := Lib.hid ((Below.refl _ w).alloc (Nat.le_refl _) (.cells (codC (.string nm) f d qp np kp dom) 26))
  have HX0 := Lib.hid (Row.new w 26 (codC (.string nm) f d qp np kp dom))
  have HT := Lib.hid ht
  unfold encOut at h
  obtain ⟨X, hX⟩ : ∃ X, IntKind.i64.wrap (d * (np : Int)) = X := ⟨_, rfl⟩
  rw [hX] at h
  simp only [Bool.or_eq_false_iff, Bool.not_eq_false', Bool.and_eq_false_iff] at h
  obtain ⟨⟨⟨e1, e2⟩, e34⟩, e5⟩ := h
  have h9 := e5
  unfold few08 at h9
  rw [Bool.and_eq_true, decide_eq_true_eq, ha.len, List.all_eq_true] at h9
  obtain ⟨hnd, hsz0⟩ := h9
  have hsz : ∀ s ∈ ss, s.size ≤ 1000 := fun s hs => by have := of_decide_eq_true (hsz0 s hs); omega
  have hnp : np ≤ 3 := by have := of_decide_eq_false e2; omega
  have HF := Lib.hid (fun (W : World) (hb : Below w.heap.size w W) => few08_any qd nd kd ss W (ha.next hb))
  rw [e5] at HF
  have HCX := Lib.hid (fun (W : World) (hb : Below w.heap.size w W) => xcompile_say (nm := .string nm) (kp := kp) (dom := dom) W (ht.next hb) (hc.next hb).grid (by omega) hc.f64 hc.d64 rfl hok)
  have hoks := comp_okS f d zss
  rw [hok, hc.grid.len] at hoks
  obtain ⟨m, D, rows, hfm, hdD, hm, hD, hw32, hz, hrows⟩ := okC_get hok
  subst hfm
  subst hdD
  subst hz
  have hnpl : rows.length = np := by have := hc.grid.len; unfold intsOf at this; rwa [List.length_map] at this
  have HEN := Lib.hid (fun (W : World) (hb : Below w.heap.size w W) => encode_say hm (.string nm) qp np kp dom rows qd nd kd ss W (ht.next hb) (hc.next hb).grid rfl hD (by omega) hrows hok ha.len (by omega) (ha.next hb).rd hsz hA)
  have q1 : Xp.compH true (m : Int) = m := rfl
  have q2 : Xp.compH true (D : Int) = D := rfl
  have q3 : Xp.compH true (np : Int) = np := rfl
  have q4 : Xp.errB true = 0 := rfl
  rw [q1, q2, q3] at HCX hoks
  rw [q4] at HCX
  obtain ⟨O, hO⟩ : ∃ O, Xp.compO (m : Int) (D : Int) (intsOf rows) = O := ⟨_, rfl⟩
  obtain ⟨U, hU⟩ : ∃ U, Xp.compU (m : Int) (D : Int) (intsOf rows) = U := ⟨_, rfl⟩
  rw [hO, hU] at HCX HEN hoks hA
  have hsm := comp_small2 hok
  rw [hO, hU] at hsm
  obtain ⟨NO, hNO⟩ : ∃ n, O.length = n := ⟨_, rfl⟩
  obtain ⟨NX, hNX⟩ : ∃ n, U.length = n := ⟨_, rfl⟩
  rw [hNO, hNX] at HCX hsm
  have hshp : (Xp.shorten (m : Int) (D : Int) (np : Int) O U).1.length ≤ O.length ∧ Xp.okS (m : Int) (D : Int) (np : Int) (Xp.shorten (m : Int) (D : Int) (np : Int) O U).1 (Xp.shorten (m : Int) (D : Int) (np : Int) O U).2 = true := by
    obtain ⟨f1, f2, _⟩ := Xp.shorten_facts hm hoks
    exact ⟨f2, f1⟩
  have HSH := Lib.hid (fun (qa : Option Addr) (ka : Nat) (qx : Option Addr) (kx : Nat) (W : World) (hb : Below w.heap.size w W) (hi : SchIn W m D np qa NO ka qx NX kx O U) => xshorten_say W (ht.next hb) (show NO ≤ 131072 by omega) hi hoks)
  have HPA := Lib.hid (shorten_par hoks ss)
  have HAC := Lib.hid (shorten_acc hoks ss)
  obtain ⟨TO, hTO⟩ : ∃ TO, (Xp.shorten (m : Int) (D : Int) (np : Int) O U).1 = TO := ⟨_, rfl⟩
  obtain ⟨TU, hTU⟩ : ∃ TU, (Xp.shorten (m : Int) (D : Int) (np : Int) O U).2 = TU := ⟨_, rfl⟩
  rw [hTO, hTU] at HSH HPA HAC
  rw [hTO] at hshp
  obtain ⟨NT, hNT⟩ : ∃ n, TO.length = n := ⟨_, rfl⟩
  rw [hNT] at HSH hshp
  rw [hNO] at hshp
  obtain ⟨PB, hPB⟩ : ∃ PB, Xp.parB (m : Int) (D : Int) (np : Int) O U ss = PB := ⟨_, rfl⟩
  rw [hPB] at HPA HEN
  have HRX := Lib.hid (fun (qa : Option Addr) (ka : Nat) (qx : Option Addr) (kx : Nat) (W : World) (hb : Below w.heap.size w W) (hi : SchIn W m D np qa NO ka qx NX kx O U) => by
    have h9 := xrun_say (kd := kd) W (ht.next hb) (show NO ≤ 131072 by omega) hi ha.len (by omega) ((ha.next hb).rd) hsz
    rw [hA, hPB] at h9
    exact h9)
  have HRT := Lib.hid (fun (qa : Option Addr) (ka : Nat) (qx : Option Addr) (kx : Nat) (W : World) (hb : Below w.heap.size w W) (hi : SchIn W m D np qa NT ka qx NX kx TO TU) => by
    have h9 := xrun_say (kd := kd) W (ht.next hb) (show NT ≤ 131072 by omega) hi ha.len (by omega) ((ha.next hb).rd) hsz
    rw [HAC.out, hA, HPA.out] at h9
    exact h9)
  unfold schV at HCX HSH HRX HRT
  obtain ⟨E, hE⟩ : ∃ E, Xp.errB A = E := ⟨_, rfl⟩
  rw [hE] at HEN HRX HRT
  have HE := Lib.hid hE
  have hE0 : (E != 0) = !A := by rw [← hE]; cases A <;> rfl
  have hEE : (E != E) = false := by simp
  clear ht hc ha e5 hok hoks hm hrows hO hU hNO hNX hTO hTU hNT hsz hsz0 hA hPB q1 q2 q3 q4 hE hnpl
  go_enter Tryd.func4, Tryd.ntmps4
  go_wp2_with fail
  refine (sanity11_any _ (HT.out.next HB0.out)).mono ?_
  rintro e v1 ⟨rfl, hb⟩
  have HB1 := Lib.hid (below_call HB0.out hb)
  have HX1 := Lib.hid (HX0.out.below hb (by first | exact HX0.out.lt | simp))
  clear hb
  go_upto_region 2 with fail
  go_cut [44] (fun v wx => v = .bool false ∧ wx = v1)
  case first =>
    obtain ⟨c0, c1, c2, c3, c4⟩ := cbox HX1.out
    obtain ⟨b3, e3⟩ : ∃ b, ((m : Int) == 16) = b := ⟨_, rfl⟩
    cases b3
    · clear e34
      go_wp2_with fail
      refine (HF.out _ HB1.out).mono ?_
      rintro e v2 ⟨rfl, rfl⟩
      go_wp2_with fail
      go_meet
      exact ⟨rfl, rfl⟩
    · have e4 : decide (2 < X) = false := by
        rcases e34 with h | h
        · rw [e3] at h; cases h
        · exact h
      clear e34
      go_wp2_with fail
      refine (HF.out _ HB1.out).mono ?_
      rintro e v2 ⟨rfl, rfl⟩
      go_wp2_with fail
      go_meet
      exact ⟨rfl, rfl⟩
  case rest =>
    obtain ⟨rfl, rfl⟩ := hcut
    obtain ⟨c0, c1, c2, c3, c4⟩ := cbox HX1.out
    clear e34 e1 e2
    go_wp2_with fail
    clear c0 c1 c2 c3 c4
    refine (HEN.out _ HB1.out).mono ?_
    rintro e v3 ⟨⟨qu, nu, ku, rfl, hen⟩, hb⟩
    have HB3 := Lib.hid (below_call HB1.out hb)
    have HX3 := Lib.hid (HX1.out.below hb HX1.out.lt)
    have HEU := Lib.hid hen
    obtain ⟨c0, c1, c2, c3, c4⟩ := cbox HX3.out
    clear hb hen
    go_wp2_with fail
    clear c0 c1 c2 c3 c4
    refine (HCX.out _ HB3.out).mono ?_
    rintro e v4 ⟨⟨qa, ka, qxa, kxa, rfl, hin⟩, hb⟩
    have HB4 := Lib.hid (below_call HB3.out hb)
    have HX4 := Lib.hid (HX3.out.below hb HX3.out.lt)
    have HK4 := Lib.hid (show Below v3.heap.size v3 v4 from hb)
    have HI4 := Lib.hid hin
    clear hb hin
    go_upto_region 6 with fail
    obtain ⟨v5, hv5⟩ : ∃ v5, v5 = v4.alloc (.cells (schC m D np qa NO ka qxa NX kxa) 30) := ⟨_, rfl⟩
    rw [← hv5]
    have hb45 : Below v4.heap.size v4 v5 := by rw [hv5]; exact (Below.refl _ v4).alloc (Nat.le_refl _) _
    have HB5 := Lib.hid (below_call HB4.out hb45)
    have HX5 := Lib.hid (HX4.out.below hb45 HX4.out.lt)
    have HK5 := Lib.hid (below_call HK4.out hb45)
    have HI5 := Lib.hid (HI4.out.next hb45)
    have HA5 := Lib.hid (show Row v5 v4.heap.size 30 (schC m D np qa NO ka qxa NX kxa) by rw [hv5]; exact Row.new _ _ _)
    clear hv5 hb45
    obtain ⟨a0, a1, a2, a3, a4⟩ := sbox HA5.out
    have hz5 : v4.heap.size < v5.heap.size := HA5.out.lt
    go_wp2_with fail
    clear a0 a1 a2 a3 a4
    refine (HSH.out _ _ _ _ _ HB5.out HI5.out).mono ?_
    rintro e v6 ⟨⟨qt, kt, qxt, kxt, rfl, hin⟩, hb⟩
    have HB6 := Lib.hid (below_call HB5.out hb)
    have HX6 := Lib.hid (HX5.out.below hb HX5.out.lt)
    have HK6 := Lib.hid (below_call HK5.out hb)
    have HI6 := Lib.hid (HI5.out.next hb)
    have HA6 := Lib.hid (HA5.out.below hb HA5.out.lt)
    have HJ6 := Lib.hid hin
    clear hb hin hz5
    go_upto_region 9 with fail
    obtain ⟨v7, hv7⟩ : ∃ v7, v7 = v6.alloc (.cells (schC m D np qt NT kt qxt NX kxt) 30) := ⟨_, rfl⟩
    rw [← hv7]
    have hb67 : Below v6.heap.size v6 v7 := by rw [hv7]; exact (Below.refl _ v6).alloc (Nat.le_refl _) _
    have HB7 := Lib.hid (below_call HB6.out hb67)
    have HX7 := Lib.hid (HX6.out.below hb67 HX6.out.lt)
    have HK7 := Lib.hid (below_call HK6.out hb67)
    have HI7 := Lib.hid (HI6.out.next hb67)
    have HJ7 := Lib.hid (HJ6.out.next hb67)
    have HA7 := Lib.hid (HA6.out.below hb67 HA6.out.lt)
    have HC7 := Lib.hid (show Row v7 v6.heap.size 30 (schC m D np qt NT kt qxt NX kxt) by rw [hv7]; exact Row.new _ _ _)
    clear hv7 hb67
    obtain ⟨a0, a1, a2, a3, a4⟩ := sbox HA7.out
    have hz7 : v4.heap.size < v7.heap.size := HA7.out.lt
    have hz7b : v6.heap.size < v7.heap.size := HC7.out.lt
    go_wp2_with fail
    clear a0 a1 a2 a3 a4
    refine (HRX.out _ _ _ _ _ HB7.out HI7.out).mono ?_
    rintro e v8 ⟨⟨qs, ns, ks, rfl, hls, hrs⟩, hb⟩
    have HB8 := Lib.hid (below_call HB7.out hb)
    have HX8 := Lib.hid (HX7.out.below hb HX7.out.lt)
    have HK8 := Lib.hid (below_call HK7.out hb)
    have HJ8 := Lib.hid (HJ7.out.next hb)
    have HC8 := Lib.hid (HC7.out.below hb HC7.out.lt)
    have HLS := Lib.hid hls
    have HRS8 := Lib.hid hrs
    clear hb hls hrs hz7 hz7b
    obtain ⟨a0, a1, a2, a3, a4⟩ := sbox HC8.out
    have hz8 : v6.heap.size < v8.heap.size := HC8.out.lt
    go_wp2_with fail
    clear a0 a1 a2 a3 a4
    refine (HRT.out _ _ _ _ _ HB8.out HJ8.out).mono ?_
    rintro e v9 ⟨⟨qw, nw, kw, rfl, hlw, hrw⟩, hb⟩
    have HB9 := Lib.hid (below_call HB8.out hb)
    have HX9 := Lib.hid (HX8.out.below hb HX8.out.lt)
    have HK9 := Lib.hid (below_call HK8.out hb)
    have HRS9 := Lib.hid ((HRS8.out.below hb).more hb.size)
    have HLW := Lib.hid hlw
    have HRW9 := Lib.hid hrw
    clear hb hlw hrw hz8
    cases A
    · have hE1 : E = 1 := HE.out.symm
      subst hE1
      go_wp2
      go_ret
      exact ⟨rfl, HB9.out⟩
    · have hE1 : E = 0 := HE.out.symm
      subst hE1
      obtain ⟨k1, k2, k3, k4, k5, ho⟩ := HEU.out rfl
      rw [← k5] at ho k4
      have HOU := Lib.hid (ho.below HK9.out)
      obtain ⟨g, rfl, _, hg, _, _⟩ := HOU.out.at_ (k := 0) (by omega)
      have hns : ns = np := by rw [← HLS.out, k4]
      have hnw : nw = np := by rw [← HLW.out, k4]
      subst hns
      subst hnw
      have hcap := HOU.out.cap
      have HTL := Lib.hid (show Rd v9 v9.heap.size (some ⟨g, 0 + (strs ss).length, none⟩) (strs PB) from rd_tail (by
        have h9 := HOU.out.rd
        unfold strs at h9 ⊢
        rwa [List.map_append] at h9))
      subst k2
      subst k1
      obtain ⟨c0, c1, c2, c3, c4⟩ := cbox HX9.out
      have HSM := Lib.hid (fun (qz : Option Addr) (kz : Nat) (hz : Rd v9 v9.heap.size qz (strs PB)) => same_texts PB qs nw ks qz kz v9 k4 (by omega) HRS9.out hz)
      have hsl : 0 + (strs ss).length = nd := by rw [Nat.zero_add]; unfold strs; rw [List.length_map]; exact k3
      rw [hsl] at HTL
      by_cases hk : ku = nd
      · subst hk
        have hn0 : nw = 0 := by omega
        subst hn0
        have hp0 : PB = [] := List.length_eq_zero_iff.1 k4
        have HZ := Lib.hid (show Rd v9 v9.heap.size (some ⟨g, 0, none⟩) (strs PB) from by rw [hp0]; exact Rd.nil _ _ _)
        clear hp0
        go_wp2_with fail
        clear c0 c1 c2 c3 c4
        refine (HSM.out _ _ HZ.out).mono ?_
        rintro e v10 ⟨rfl, m10, hv10⟩
        have hb10 : Below v9.heap.size v9 v10 := by rw [hv10]; exact below_drewN (Below.refl _ _) m10
        have HB10 := Lib.hid (below_call HB9.out hb10)
        have HTX := Lib.hid (same_texts PB qw 0 kw qs ks v10 k4 (by omega) ((HRW9.out.below hb10).more hb10.size) ((HRS9.out.below hb10).more hb10.size))
        clear hv10 hb10
        go_wp2_with fail
        refine HTX.out.mono ?_
        rintro e v11 ⟨rfl, m11, hv11⟩
        have HB11 := Lib.hid (show Below w.heap.size w v11 by rw [hv11]; exact below_drewN HB10.out m11)
        clear hv11
        go_wp2
        go_ret
        exact ⟨rfl, HB11.out⟩
      · have HZ := HTL
        go_wp2_with fail
        clear c0 c1 c2 c3 c4
        refine (HSM.out _ _ HZ.out).mono ?_
        rintro e v10 ⟨rfl, m10, hv10⟩
        have hb10 : Below v9.heap.size v9 v10 := by rw [hv10]; exact below_drewN (Below.refl _ _) m10
        have HB10 := Lib.hid (below_call HB9.out hb10)
        have HTX := Lib.hid (same_texts PB qw nw kw qs ks v10 k4 (by omega) ((HRW9.out.below hb10).more hb10.size) ((HRS9.out.below hb10).more hb10.size))
        clear hv10 hb10
        go_wp2_with fail
        refine HTX.out.mono ?_
        rintro e v11 ⟨rfl, m11, hv11⟩
        have HB11 := Lib.hid (show Below w.heap.size w v11 by rw [hv11]; exact below_drewN HB10.out m11)
        clear hv11
        go_wp2
        go_ret
        exact ⟨rfl, HB11.out⟩
end
end Go.Proofs.YtghinmlpkgcdiaaDoor
