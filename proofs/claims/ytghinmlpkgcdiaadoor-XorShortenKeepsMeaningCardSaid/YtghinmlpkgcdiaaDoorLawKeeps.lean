/- XorShortenKeepsMeaning: for every schedule and list of data units the statement returns true; the arguments read as they did. -/
import Derived.Test.YtghinmlpkgcdiaaDoorY9
import Derived.Deep.RegionHeld3
import Derived.BigQuiet
namespace Go.Proofs.YtghinmlpkgcdiaaDoor
set_option linter.unusedSimpArgs false
set_option linter.unusedVariables false
open Go.ChangeShapes Go.WideShapes Go.ChangeAt Go.RowKit Go.Lib

section
variable (f d p : Int) (qo : Option Addr) (no ko : Nat) (qx : Option Addr) (nx kx : Nat) (ops : List (Int × Int)) (out : List Int) (qd : Option Addr) (nd kd : Nat) (ss : List ByteArray) (w : World)
set_option maxRecDepth 100000 in
set_option maxHeartbeats 6400000 in
theorem km_0 (ht : Tab w) (hs : SchIn w f d p qo no ko qx nx kx ops out) (ha : StrIn w qd nd kd ss) (hf : few11 f d no nx = false ∨ (few11 f d no nx = true ∧ few08 ss = false) ∨ (few11 f d no nx = true ∧ few08 ss = true ∧ no ≤ 131072 ∧ Xp.okS f d p ops out = false)) :
    Calls Tryd.prog 9 #[schV f d p qo no ko qx nx kx, .slice qd nd kd] w fun e w' => e = .returned (.bool true) ∧ Below w.heap.size w w' := by
  have HB0 := Lib.hid ((Below.refl _ w).alloc (Nat.le_refl _) (.cells (schC f d p qo no ko qx nx kx) 30))
  have HX0 := Lib.hid (Row.new w 30 (schC f d p qo no ko qx nx kx))
  have HT := Lib.hid ht
  have HS := Lib.hid hs
  have HA := Lib.hid ha
  unfold schV
  clear ht hs ha
  rcases hf with hf1 | ⟨hf1, hf2⟩ | ⟨hf1, hf2, hno, hok⟩
  · go_enter Tryd.func9, Tryd.ntmps9
    go_wp2_with fail
    refine (sanity11_any _ (HT.out.next HB0.out)).mono ?_
    rintro e v1 ⟨rfl, hb⟩
    have HB1 := Lib.hid (below_call HB0.out hb)
    have HX1 := Lib.hid (HX0.out.below hb (by first | exact HX0.out.lt | simp))
    clear hb
    obtain ⟨c0, c1, c2, c3, c4⟩ := sbox HX1.out
    have h9 := few11_any f d p qo no ko qx nx kx v1
    rw [hf1] at h9
    unfold schV at h9
    go_wp2_with fail
    clear c0 c1 c2 c3 c4
    refine (h9).mono ?_
    rintro e v2 ⟨rfl, hb⟩
    have HB2 := Lib.hid (below_call HB1.out hb)
    clear hb h9
    go_wp2
    go_ret
    exact ⟨rfl, HB2.out⟩
  · go_enter Tryd.func9, Tryd.ntmps9
    go_wp2_with fail
    refine (sanity11_any _ (HT.out.next HB0.out)).mono ?_
    rintro e v1 ⟨rfl, hb⟩
    have HB1 := Lib.hid (below_call HB0.out hb)
    have HX1 := Lib.hid (HX0.out.below hb (by first | exact HX0.out.lt | simp))
    clear hb
    obtain ⟨c0, c1, c2, c3, c4⟩ := sbox HX1.out
    have h9 := few11_any f d p qo no ko qx nx kx v1
    rw [hf1] at h9
    unfold schV at h9
    go_wp2_with fail
    clear c0 c1 c2 c3 c4
    refine (h9).mono ?_
    rintro e v2 ⟨rfl, hb⟩
    have HB2 := Lib.hid (below_call HB1.out hb)
    clear hb h9
    have h9 := few08_any qd nd kd ss v2 (HA.out.next HB2.out)
    rw [hf2] at h9
    go_wp2_with fail
    refine h9.mono ?_
    rintro e v9 ⟨rfl, e9⟩
    rw [e9]
    clear h9 e9 v9
    go_wp2
    go_ret
    exact ⟨rfl, HB2.out⟩
  · go_enter Tryd.func9, Tryd.ntmps9
    go_wp2_with fail
    refine (sanity11_any _ (HT.out.next HB0.out)).mono ?_
    rintro e v1 ⟨rfl, hb⟩
    have HB1 := Lib.hid (below_call HB0.out hb)
    have HX1 := Lib.hid (HX0.out.below hb (by first | exact HX0.out.lt | simp))
    clear hb
    obtain ⟨c0, c1, c2, c3, c4⟩ := sbox HX1.out
    have h9 := few11_any f d p qo no ko qx nx kx v1
    rw [hf1] at h9
    unfold schV at h9
    go_wp2_with fail
    clear c0 c1 c2 c3 c4
    refine (h9).mono ?_
    rintro e v2 ⟨rfl, hb⟩
    have HB2 := Lib.hid (below_call HB1.out hb)
    have HX2 := Lib.hid (HX1.out.below hb HX1.out.lt)
    clear hb h9
    have h9 := few08_any qd nd kd ss v2 (HA.out.next HB2.out)
    rw [hf2] at h9
    go_wp2_with fail
    refine h9.mono ?_
    rintro e v9 ⟨rfl, e9⟩
    rw [e9]
    clear h9 e9 v9
    obtain ⟨c0, c1, c2, c3, c4⟩ := sbox HX2.out
    have h9 := xvalid_any f d p qo no ko qx nx kx ops out v2 (HT.out.next HB2.out) (by omega) HS.out.lo (HS.out.next HB2.out).ro HS.out.lx (HS.out.next HB2.out).rx
    rw [hok] at h9
    unfold schV at h9
    go_wp2_with fail
    clear c0 c1 c2 c3 c4
    refine h9.mono ?_
    rintro e v3 ⟨rfl, hb⟩
    have HB3 := Lib.hid (below_call HB2.out hb)
    clear hb h9
    go_wp2
    go_ret
    exact ⟨rfl, HB3.out⟩
set_option maxRecDepth 100000 in
set_option maxHeartbeats 12800000 in
theorem km_1 (ht : Tab w) (hs : SchIn w f d p qo no ko qx nx kx ops out) (ha : StrIn w qd nd kd ss) (hf1 : few11 f d no nx = true) (hf2 : few08 ss = true) (hok : Xp.okS f d p ops out = true) :
    Calls Tryd.prog 9 #[schV f d p qo no ko qx nx kx, .slice qd nd kd] w fun e w' => e = .returned (.bool true) ∧ Below w.heap.size w w' := by
  obtain ⟨hno, hl24, hsz⟩ : no ≤ 300 ∧ nd ≤ 24 ∧ ∀ s ∈ ss, s.size ≤ 64 := by
    have hf1 := hf1
    have hf2 := hf2
    unfold few11 at hf1; unfold few08 at hf2
    simp only [Bool.and_eq_true, decide_eq_true_eq, List.all_eq_true] at hf1 hf2
    rw [ha.len] at hf2
    exact ⟨hf1.2, hf2.1, hf2.2⟩
  have HB0 := Lib.hid ((Below.refl _ w).alloc (Nat.le_refl _) (.cells (schC f d p qo no ko qx nx kx) 30))
  have HX0 := Lib.hid (Row.new w 30 (schC f d p qo no ko qx nx kx))
  have HT := Lib.hid ht
  have HS := Lib.hid hs
  have HA := Lib.hid ha
  have hokT : Xp.okS f d p (Xp.shorten f d p ops out).1 (Xp.shorten f d p ops out).2 = true ∧ (Xp.shorten f d p ops out).1.length ≤ ops.length := by
    obtain ⟨m, D, P, rfl, rfl, rfl, hm, _⟩ := okS_parts hok
    obtain ⟨f1, f2, _⟩ := Xp.shorten_facts hm hok
    exact ⟨f1, f2⟩
  have HSE := Lib.hid (shorten_sets hok)
  have HPA := Lib.hid (shorten_par hok ss)
  have HAC := Lib.hid (shorten_acc hok ss)
  have HSH1 := Lib.hid (fun (W : World) (hb : Below w.heap.size w W) => xshorten_say W (ht.next hb) (show no ≤ 131072 by omega) (hs.next hb) hok)
  obtain ⟨TO, hTO⟩ : ∃ TO, (Xp.shorten f d p ops out).1 = TO := ⟨_, rfl⟩
  obtain ⟨TU, hTU⟩ : ∃ TU, (Xp.shorten f d p ops out).2 = TU := ⟨_, rfl⟩
  rw [hTO, hTU] at hokT HSE HPA HAC HSH1
  obtain ⟨okT, hlT⟩ := hokT
  have hokA : (Xp.shorten f d p TO TU).1.length ≤ TO.length := by
    obtain ⟨m, D, P, rfl, rfl, rfl, hm, _⟩ := okS_parts okT
    exact (Xp.shorten_facts hm okT).2.1
  obtain ⟨AO, hAO⟩ : ∃ AO, (Xp.shorten f d p TO TU).1 = AO := ⟨_, rfl⟩
  obtain ⟨AU, hAU⟩ : ∃ AU, (Xp.shorten f d p TO TU).2 = AU := ⟨_, rfl⟩
  rw [hAO] at hokA
  obtain ⟨n1, hn1⟩ : ∃ n, TO.length = n := ⟨_, rfl⟩
  obtain ⟨n2, hn2⟩ : ∃ n, AO.length = n := ⟨_, rfl⟩
  rw [hs.lo, hn1] at hlT
  rw [hn1, hn2] at hokA
  rw [hn1] at HSH1
  have hok' := hok
  have HSH2 := Lib.hid (fun (q : Option Addr) (k : Nat) (q' : Option Addr) (k' : Nat) (W : World) (hb : Below w.heap.size w W) (hi : SchIn W f d p q n1 k q' nx k' TO TU) => by
    have h9 := xshorten_say W (ht.next hb) (show n1 ≤ 131072 by omega) hi okT
    rw [hAO, hAU, hn2] at h9
    exact h9)
  obtain ⟨E2, hE2⟩ : ∃ E, Xp.errB (Xp.acc f d p ops out ss) = E := ⟨_, rfl⟩
  obtain ⟨SE, hSE⟩ : ∃ SE, Xp.setsB f d p ops out = SE := ⟨_, rfl⟩
  obtain ⟨UN, hUN⟩ : ∃ UN, Xp.parB f d p ops out ss = UN := ⟨_, rfl⟩
  have HSL := Lib.hid (show SE.length ≤ 100000 by rw [← hSE]; exact Nat.le_trans setsB_len (by omega))
  have HUL := Lib.hid (show UN.length ≤ 100000 by
    rw [← hUN]
    unfold Xp.parB
    split
    · next h =>
      obtain ⟨m, D, P, NS, rfl, rfl, rfl, _, _, _, _, _, hok⟩ := acc_parts h
      obtain ⟨m', D', P', _, _, e3, _, _, _, hp, _⟩ := okS_parts hok
      rw [parity_len]; omega
    · simp)
  have HSX := Lib.hid (fun (W : World) (hb : Below w.heap.size w W) => by
    have h9 := xsets_say (f := f) (d := d) (p := p) (qo := qo) (ko := ko) (qx := qx) (kx := kx) W (ht.next hb) (show no ≤ 131072 by omega) (hs.next hb)
    rw [hok, hSE] at h9
    exact h9)
  have HST := Lib.hid (fun (q : Option Addr) (k : Nat) (q' : Option Addr) (k' : Nat) (W : World) (hb : Below w.heap.size w W) (hi : SchIn W f d p q n1 k q' nx k' TO TU) => by
    have h9 := xsets_say W (ht.next hb) (show n1 ≤ 131072 by omega) hi
    rw [okT, HSE.out, hSE] at h9
    exact h9)
  have HRX := Lib.hid (fun (W : World) (hb : Below w.heap.size w W) => by
    have h9 := xrun_say (f := f) (d := d) (p := p) (qo := qo) (ko := ko) (qx := qx) (kx := kx) (kd := kd) W (ht.next hb) (show no ≤ 131072 by omega) (hs.next hb) ha.len (by omega) ((ha.next hb).rd) (fun s hs' => by have := hsz s hs'; omega)
    rw [hE2, hUN] at h9
    exact h9)
  have HRT := Lib.hid (fun (q : Option Addr) (k : Nat) (q' : Option Addr) (k' : Nat) (W : World) (hb : Below w.heap.size w W) (hi : SchIn W f d p q n1 k q' nx k' TO TU) => by
    have h9 := xrun_say (kd := kd) W (ht.next hb) (show n1 ≤ 131072 by omega) hi ha.len (by omega) ((ha.next hb).rd) (fun s hs' => by have := hsz s hs'; omega)
    rw [HAC.out, hE2, HPA.out, hUN] at h9
    exact h9)
  have HVX := Lib.hid (fun (W : World) (hb : Below w.heap.size w W) => by
    have h9 := xvalid_any f d p qo no ko qx nx kx ops out W (ht.next hb) (by omega) hs.lo (hs.next hb).ro hs.lx (hs.next hb).rx
    rw [hok] at h9
    exact h9)
  have HVT := Lib.hid (fun (q : Option Addr) (k : Nat) (q' : Option Addr) (k' : Nat) (W : World) (hb : Below w.heap.size w W) (hi : SchIn W f d p q n1 k q' nx k' TO TU) => by
    have h9 := xvalid_any f d p q n1 k q' nx k' TO TU W (ht.next hb) (by omega) hi.lo hi.ro hi.lx hi.rx
    rw [okT] at h9
    exact h9)
  unfold schV at HSH1 HSH2 HSX HST HRX HRT HVX HVT ⊢
  have hg1 : decide ((no : Int) < (n1 : Int)) = false := decide_eq_false (by omega)
  have hg2 : decide ((n1 : Int) < (n2 : Int)) = false := decide_eq_false (by omega)
  have hg1' : decide (no < n1) = false := decide_eq_false (by omega)
  have hg2' : decide (n1 < n2) = false := decide_eq_false (by omega)
  clear ht hs ha hsz hE2 hSE hUN hok hok' hTO hTU hAO hAU hn1 hn2 hlT hokA okT
  go_enter Tryd.func9, Tryd.ntmps9
  go_wp2_with fail
  refine (sanity11_any _ (HT.out.next HB0.out)).mono ?_
  rintro e v1 ⟨rfl, hb⟩
  have HB1 := Lib.hid (below_call HB0.out hb)
  have HX1 := Lib.hid (HX0.out.below hb (by first | exact HX0.out.lt | simp))
  clear hb
  obtain ⟨c0, c1, c2, c3, c4⟩ := sbox HX1.out
  have h9 := few11_any f d p qo no ko qx nx kx v1
  rw [hf1] at h9
  unfold schV at h9
  go_wp2_with fail
  clear c0 c1 c2 c3 c4
  refine (h9).mono ?_
  rintro e v2 ⟨rfl, hb⟩
  have HB2 := Lib.hid (below_call HB1.out hb)
  have HX2 := Lib.hid (HX1.out.below hb HX1.out.lt)
  clear hb h9
  have h9 := few08_any qd nd kd ss v2 (HA.out.next HB2.out)
  rw [hf2] at h9
  go_wp2_with fail
  refine h9.mono ?_
  rintro e v9 ⟨rfl, e9⟩
  rw [e9]
  clear h9 e9 v9
  obtain ⟨c0, c1, c2, c3, c4⟩ := sbox HX2.out
  go_wp2_with fail
  clear c0 c1 c2 c3 c4
  refine (HVX.out _ HB2.out).mono ?_
  rintro e v3 ⟨rfl, hb⟩
  have HB3 := Lib.hid (below_call HB2.out hb)
  have HX3 := Lib.hid (HX2.out.below hb HX2.out.lt)
  clear hb
  obtain ⟨c0, c1, c2, c3, c4⟩ := sbox HX3.out
  go_wp2_with fail
  clear c0 c1 c2 c3 c4
  refine (HSH1.out _ HB3.out).mono ?_
  rintro e v4 ⟨⟨qt, kt, qy, ky, rfl, hin⟩, hb⟩
  have HB4 := Lib.hid (below_call HB3.out hb)
  have HX4 := Lib.hid (HX3.out.below hb HX3.out.lt)
  have HI4 := Lib.hid hin
  clear hb hin
  go_upto_region 5 with fail
  obtain ⟨v5, hv5⟩ : ∃ v5, v5 = v4.alloc (.cells (schC f d p qt n1 kt qy nx ky) 30) := ⟨_, rfl⟩
  rw [← hv5]
  have hb45 : Below v4.heap.size v4 v5 := by rw [hv5]; exact (Below.refl _ v4).alloc (Nat.le_refl _) _
  have HB5 := Lib.hid (below_call HB4.out hb45)
  have HX5 := Lib.hid (HX4.out.below hb45 HX4.out.lt)
  have HI5 := Lib.hid (HI4.out.next hb45)
  have HY5 := Lib.hid (show Row v5 v4.heap.size 30 (schC f d p qt n1 kt qy nx ky) by rw [hv5]; exact Row.new _ _ _)
  clear hv5 hb45
  obtain ⟨c0, c1, c2, c3, c4⟩ := sbox HY5.out
  have hz5 : v4.heap.size < v5.heap.size := HY5.out.lt
  go_wp2_with fail
  clear c0 c1 c2 c3 c4
  refine (HSH2.out _ _ _ _ _ HB5.out HI5.out).mono ?_
  rintro e v6 ⟨⟨qa, ka, qz, kz, rfl, hin⟩, hb⟩
  have HB6 := Lib.hid (below_call HB5.out hb)
  have HX6 := Lib.hid (HX5.out.below hb HX5.out.lt)
  have HY6 := Lib.hid (HY5.out.below hb HY5.out.lt)
  have HI6 := Lib.hid (HI5.out.next hb)
  clear hb hin hz5
  go_upto_region 6 with fail
  obtain ⟨v7, hv7⟩ : ∃ v7, v7 = v6.alloc (.cells (schC f d p qa n2 ka qz nx kz) 30) := ⟨_, rfl⟩
  rw [← hv7]
  have hb67 : Below v6.heap.size v6 v7 := by rw [hv7]; exact (Below.refl _ v6).alloc (Nat.le_refl _) _
  have HB7 := Lib.hid (below_call HB6.out hb67)
  have HX7 := Lib.hid (HX6.out.below hb67 HX6.out.lt)
  have HY7 := Lib.hid (HY6.out.below hb67 HY6.out.lt)
  have HI7 := Lib.hid (HI6.out.next hb67)
  have HZ7 := Lib.hid (show Row v7 v6.heap.size 30 (schC f d p qa n2 ka qz nx kz) by rw [hv7]; exact Row.new _ _ _)
  clear hv7 hb67
  obtain ⟨c0, c1, c2, c3, c4⟩ := sbox HY7.out
  have hz7 : v4.heap.size < v7.heap.size := HY7.out.lt
  go_wp2_with fail
  clear c0 c1 c2 c3 c4
  refine (HVT.out _ _ _ _ _ HB7.out HI7.out).mono ?_
  rintro e v8 ⟨rfl, hb⟩
  have HB8 := Lib.hid (below_call HB7.out hb)
  have HX8 := Lib.hid (HX7.out.below hb HX7.out.lt)
  have HY8 := Lib.hid (HY7.out.below hb HY7.out.lt)
  have HZ8 := Lib.hid (HZ7.out.below hb HZ7.out.lt)
  have HI8 := Lib.hid (HI7.out.next hb)
  clear hb hz7
  obtain ⟨a0, a1, a2, a3, a4⟩ := sbox HX8.out
  obtain ⟨b0, b1, b2, b3, b4⟩ := sbox HY8.out
  obtain ⟨c0, c1, c2, c3, c4⟩ := sbox HZ8.out
  have hzx := HX8.out.lt
  have hzy := HY8.out.lt
  have hzz := HZ8.out.lt
  go_wp2_with fail
  clear a0 a1 a2 a3 a4 b0 b1 b2 b3 b4 c0 c1 c2 c3 c4 hzx hzy hzz
  refine (HSX.out _ HB8.out).mono ?_
  rintro e v9 ⟨⟨qu, nu, ku, vu, rfl, hlu, hru, hsu⟩, hb⟩
  have HB9 := Lib.hid (below_call HB8.out hb)
  have HX9 := Lib.hid (HX8.out.below hb HX8.out.lt)
  have HY9 := Lib.hid (HY8.out.below hb HY8.out.lt)
  have HI9 := Lib.hid (HI8.out.next hb)
  have HRU9 := Lib.hid hru
  have HSU9 := Lib.hid hsu
  have HLU := Lib.hid hlu
  clear hb hlu hru hsu
  obtain ⟨c0, c1, c2, c3, c4⟩ := sbox HY9.out
  have hz9 := HY9.out.lt
  go_wp2_with fail
  clear c0 c1 c2 c3 c4 hz9
  refine (HST.out _ _ _ _ _ HB9.out HI9.out).mono ?_
  rintro e v10 ⟨⟨qv, nv, kv, vv, rfl, hlv, hrv, hsv⟩, hb⟩
  have HB10 := Lib.hid (below_call HB9.out hb)
  have HX10 := Lib.hid (HX9.out.below hb HX9.out.lt)
  have HY10 := Lib.hid (HY9.out.below hb HY9.out.lt)
  have HI10 := Lib.hid (HI9.out.next hb)
  have HRU10 := Lib.hid ((HRU9.out.below hb).more hb.size)
  have HSU10 := Lib.hid (HSU9.out.keeps (Keeps.of_below hb))
  have HRV10 := Lib.hid hrv
  have HSV10 := Lib.hid hsv
  have HLV := Lib.hid hlv
  clear hb hlv hrv hsv
  obtain ⟨c0, c1, c2, c3, c4⟩ := sbox HX10.out
  have hz10 := HX10.out.lt
  go_wp2_with fail
  clear c0 c1 c2 c3 c4 hz10
  refine (HRX.out _ HB10.out).mono ?_
  rintro e v11 ⟨⟨qs, ns, ks, rfl, hls, hrs⟩, hb⟩
  have HB11 := Lib.hid (below_call HB10.out hb)
  have HY11 := Lib.hid (HY10.out.below hb HY10.out.lt)
  have HI11 := Lib.hid (HI10.out.next hb)
  have HRU11 := Lib.hid ((HRU10.out.below hb).more hb.size)
  have HSU11 := Lib.hid (HSU10.out.keeps (Keeps.of_below hb))
  have HRV11 := Lib.hid ((HRV10.out.below hb).more hb.size)
  have HSV11 := Lib.hid (HSV10.out.keeps (Keeps.of_below hb))
  have HRS11 := Lib.hid hrs
  have HLS := Lib.hid hls
  clear hb hls hrs
  obtain ⟨c0, c1, c2, c3, c4⟩ := sbox HY11.out
  have hz11 := HY11.out.lt
  go_wp2_with fail
  clear c0 c1 c2 c3 c4 hz11
  refine (HRT.out _ _ _ _ _ HB11.out HI11.out).mono ?_
  rintro e v12 ⟨⟨qw, nw, kw, rfl, hlw, hrw⟩, hb⟩
  have HB12 := Lib.hid (below_call HB11.out hb)
  have HRU12 := Lib.hid ((HRU11.out.below hb).more hb.size)
  have HSU12 := Lib.hid (HSU11.out.keeps (Keeps.of_below hb))
  have HRV12 := Lib.hid ((HRV11.out.below hb).more hb.size)
  have HSV12 := Lib.hid (HSV11.out.keeps (Keeps.of_below hb))
  have HRS12 := Lib.hid ((HRS11.out.below hb).more hb.size)
  have HRW12 := Lib.hid hrw
  have HLW := Lib.hid hlw
  clear hb hlw hrw
  obtain rfl : nu = nv := by rw [← HLU.out, ← HLV.out]
  obtain rfl : ns = nw := by rw [← HLS.out, ← HLW.out]
  have hee : (E2 == E2) = true := by simp
  go_wp2_with fail
  refine (same_sets SE qu nu ku vu qv kv vv v12 HLU.out (by have := HSL.out; have := HLU.out; omega) HRU12.out HRV12.out HSU12.out HSV12.out).mono ?_
  rintro e v13 ⟨rfl, m13, hv13⟩
  have hb13 : Below v12.heap.size v12 v13 := by rw [hv13]; exact below_drewN (Below.refl _ _) m13
  have HB13 := Lib.hid (below_call HB12.out hb13)
  have HTX := Lib.hid (same_texts UN qs ns ks qw kw v13 HLS.out (by have := HUL.out; have := HLS.out; omega) ((HRS12.out.below hb13).more hb13.size) ((HRW12.out.below hb13).more hb13.size))
  clear hv13 hb13
  go_wp2_with fail
  refine HTX.out.mono ?_
  rintro e v14 ⟨rfl, m14, hv14⟩
  have HB14 := Lib.hid (show Below w.heap.size w v14 by rw [hv14]; exact below_drewN HB13.out m14)
  clear hv14
  go_wp2
  go_ret
  exact ⟨rfl, HB14.out⟩
theorem walk_XorShortenKeepsMeaning (hs : SchIn w f d p qo no ko qx nx kx ops out) (ha : StrIn w qd nd kd ss) (ht : Tab w) :
    Calls Tryd.prog 9 #[schV f d p qo no ko qx nx kx, .slice qd nd kd] w fun e w' => e = .returned (.bool true) ∧ Below w.heap.size w w' := by
  cases hf1 : few11 f d no nx
  · exact km_0 f d p qo no ko qx nx kx ops out qd nd kd ss w ht hs ha (.inl hf1)
  cases hf2 : few08 ss
  · exact km_0 f d p qo no ko qx nx kx ops out qd nd kd ss w ht hs ha (.inr (.inl ⟨hf1, hf2⟩))
  · have hno : no ≤ 300 := by
      unfold few11 at hf1
      simp only [Bool.and_eq_true, decide_eq_true_eq] at hf1
      exact hf1.2
    cases hok : Xp.okS f d p ops out
    · exact km_0 f d p qo no ko qx nx kx ops out qd nd kd ss w ht hs ha (.inr (.inr ⟨hf1, hf2, by omega, hok⟩))
    · exact km_1 f d p qo no ko qx nx kx ops out qd nd kd ss w ht hs ha hf1 hf2 hok
end
set_option maxRecDepth 100000
/-! ### the frame: the arguments opened and shut -/
theorem contract_XorShortenKeepsMeaning (H : Type) (enc : TypeId × Value → H) (W : World) (base : Nat) (args : Array Value) (ds gs : List (DataW H)) (before : List MemPlace)
    (hval0 : ∀ (j : Nat) t v, Tryd.f9.params[j]? = some t → args[j]? = some v → Value.okWide Tryd.prog W .any base t v)
    (hW : DataW.Whole enc Tryd.prog Tryd.f9.params.toList Rows.xorShortenKeepsMeaningSpec.vars false W args.toList ds gs before) (hL : laidMetH Tryd.prog Rows.xorShortenKeepsMeaningRow.laid W) :
    Calls Tryd.prog 9 args W fun e W' => ∃ v, e = .returned v ∧ Rows.xorShortenKeepsMeaningSpec.post enc Tryd.prog Tryd.f9 false true false false W args v W' := by
  have hval : ∀ (j : Nat) t v, Tryd.f9.params[j]? = some t → args[j]? = some v → Value.okWide Tryd.prog W .any base t v := hval0
  have hW' := hW
  obtain ⟨p, q, hA0, hV, rfl, hfz, hnd⟩ := hW
  have hA : DataW.TrodAll enc Tryd.prog W 0 (fun _ => true) true Tryd.f9.params.toList args.toList ds p := hA0
  rw [Tryd.params9] at hA hval
  obtain ⟨v0, vs0, d0, ds0, p0, q0, hargs, rfl, rfl, h0, r0⟩ := trodAll_cons hA
  obtain ⟨v1, vs1, d1, ds1, p1, q1, rfl, rfl, rfl, h1, r1⟩ := trodAll_cons r0
  obtain ⟨rfl, rfl, rfl⟩ := trodAll_nil r1
  obtain rfl : args = #[v0, v1] := by cases args; simp_all
  obtain ⟨rfl, rfl⟩ := trodVars_none hV
  have k0 := h0
  have lt0 : ∀ x ∈ p0, x.block < W.heap.size := by obtain ⟨m, hm⟩ := k0; exact DataW.trod_lt m _ _ _ hm
  have k1 := h1
  have lt1 : ∀ x ∈ p1, x.block < W.heap.size := by obtain ⟨m, hm⟩ := k1; exact DataW.trod_lt m _ _ _ hm
  obtain ⟨cs0, rfl, _⟩ := okWide_struct Tryd.underlying30 (hval 0 30 v0 rfl rfl)
  obtain ⟨fuel0, hf0⟩ := h0
  obtain ⟨sf0, sd0, sp0, sqo0, sno0, sko0, sqx0, snx0, skx0, sops0, sout0, hcs0, hsc0⟩ := open_sched hf0
  obtain rfl : cs0 = schC sf0 sd0 sp0 sqo0 sno0 sko0 sqx0 snx0 skx0 := by apply Array.toList_inj.1; simpa [Value.cells] using hcs0
  obtain ⟨ta1, tn1, tk1, ts1, rfl, hst1⟩ := got_strIn (show Got enc Tryd.prog W 36 v1 from by
    obtain ⟨ga1, gn1, gk1, rfl⟩ := okWide_slice Tryd.underlying36 (hval 1 36 v1 rfl rfl)
    obtain ⟨fuel1, hf1⟩ := h1
    exact ⟨fuel1, _, hf1⟩)
  refine (walk_XorShortenKeepsMeaning sf0 sd0 sp0 sqo0 sno0 sko0 sqx0 snx0 skx0 sops0 sout0 ta1 tn1 tk1 ts1 W hsc0 hst1 (tab_of hL)).mono fun e W' ⟨he, bel⟩ => ?_
  subst he
  exact ⟨_, rfl, _, _, _, [], _, [], hW', trodAll_mk1 (shut_bool Tryd.underlying4 _), (trodAll_cons_mk (Below.trod laidOut (by kernel_rfl) (of_decide_eq_true (by kernel_rfl)) k0 bel lt0) (trodAll_cons_mk (Below.trod laidOut (by kernel_rfl) (of_decide_eq_true (by kernel_rfl)) k1 bel lt1) trodAll_mk0)), rfl, bel.frame _, fun h => by cases h⟩
theorem laid_XorShortenKeepsMeaning (os : Os) : laidMet Tryd.prog Rows.xorShortenKeepsMeaningRow.laid ((laidWorld os).forCall (fun _ _ => 0) ⟨#[], #[.agg #[.int .i64 0, .int .i64 0, .int .i64 0, .slice none 0 0, .slice none 0 0], .slice none 0 0], []⟩).memory :=
  laidMet_of_run' 8 (by kernel_rfl) (by kernel_rfl)
theorem reads_XorShortenKeepsMeaning (os : Os) {H : Type} (enc : TypeId × Value → H) : ∃ places, DataW.whole enc Tryd.prog ((laidWorld os).forCall (fun _ _ => 0) ⟨#[], #[.agg #[.int .i64 0, .int .i64 0, .int .i64 0, .slice none 0 0, .slice none 0 0], .slice none 0 0], []⟩).memory Tryd.f9.params.toList Rows.xorShortenKeepsMeaningSpec.vars false (#[.agg #[.int .i64 0, .int .i64 0, .int .i64 0, .slice none 0 0, .slice none 0 0], .slice none 0 0] : Array Value).toList 8 = some ([.agg [.lit (.int .i64 0), .lit (.int .i64 0), .lit (.int .i64 0), .nil, .nil], .nil], [], places) :=
  ⟨[], by kernel_rfl⟩
set_option maxRecDepth 100000 in
theorem lifted_XorShortenKeepsMeaning (os : Os) (started : os.Started) (H : Type) (enc : TypeId × Value → H) (F : Stop.Interp) :
    ReturnsInHanded {} Tryd.checked os 9 .any ((OpenSpec.ofChange Rows.xorShortenKeepsMeaningSpec).preRow enc Tryd.prog Tryd.f9 Rows.xorShortenKeepsMeaningRow.domain false Rows.xorShortenKeepsMeaningRow.laid) (((OpenSpec.ofChange Rows.xorShortenKeepsMeaningSpec).at F).post enc Tryd.prog Tryd.f9 false true false false) := by
  obtain ⟨places, hx⟩ := reads_XorShortenKeepsMeaning os enc
  refine returnsInHanded_of_row (C := Tryd.checked) (s := OpenSpec.ofChange Rows.xorShortenKeepsMeaningSpec) own started (by kernel_rfl) Tryd.func9
    (witness_row_at (enc := enc) (C := Tryd.checked) false (laidWorld os) #[.agg #[.int .i64 0, .int .i64 0, .int .i64 0, .slice none 0 0, .slice none 0 0], .slice none 0 0] rfl (by kernel_rfl) (by kernel_rfl) (by kernel_rfl)
      (OpenSpec.preRow_of_cond 8 hx (by kernel_rfl) (fun k hk => by cases hk) (by kernel_rfl) (laid_XorShortenKeepsMeaning os))) ?_
  intro W base args ds gs before hval hW _ hcond _ hL _ _
  exact contract_XorShortenKeepsMeaning H enc W base args ds gs before hval hW hL

theorem said_XorShortenKeepsMeaning : Rows.XorShortenKeepsMeaningSaid :=
  OpenClaim.holds_of_cond 9 Tryd.f9 rfl rfl rfl rfl rfl rfl rfl ⟨rfl, rfl, rfl, rfl, rfl⟩ rfl rfl rfl rfl rfl (by kernel_rfl) Tryd.func9 (by kernel_rfl)
    (of_decide_eq_true (by kernel_rfl)) (by unfold Func.isWrapper; first | (rw [if_pos (by decide +kernel)]; kernel_rfl) | (rw [if_neg (by decide +kernel)]; exact ⟨rfl, rfl⟩))
    (fun os started H enc _ F => by rw [OpenClaim.pre_eq_preRow]; exact lifted_XorShortenKeepsMeaning os started H enc F)
theorem plain_XorShortenKeepsMeaning (f : FuncId) (fn : Func) (hf : Tryd.pinned.checked.prog.funcNamed "solvent/solventlaw11.XorShortenKeepsMeaning" = some f) (hfn : Tryd.pinned.checked.prog.funcs[f]? = some fn) :
    false = Tryd.pinned.checked.prog.looks [] ∧ ∀ (j : Nat) t, fn.params[j]? = some t → Tryd.pinned.checked.prog.wantsStandIn t = false := by
  obtain rfl : f = 9 := Option.some.inj ((show Tryd.prog.funcNamed "solvent/solventlaw11.XorShortenKeepsMeaning" = some 9 by kernel_rfl).symm.trans hf) |>.symm
  obtain rfl : fn = Tryd.f9 := (Option.some.inj (Tryd.func9.symm.trans hfn)).symm
  refine ⟨by kernel_rfl, fun j t ht => ?_⟩
  rw [Tryd.params9] at ht
  have hm := Array.mem_of_getElem? ht
  simp only [List.mem_toArray, List.mem_cons, List.not_mem_nil, or_false] at hm
  rcases hm with rfl | rfl
  all_goals first | exact (show Tryd.prog.wantsStandIn 30 = false by kernel_rfl) | exact (show Tryd.prog.wantsStandIn 36 = false by kernel_rfl)
theorem proved_XorShortenKeepsMeaning : Rows.XorShortenKeepsMeaningCardSaid :=
  Claim7.holds_tied_plain_at .later [] _ _ _ _ said_XorShortenKeepsMeaning (fun _ h => by cases h) (by kernel_rfl) (fun _ h => by cases h) xorShortenKeepsMeaning_row_tie rfl ⟨rfl, rfl⟩ (by kernel_rfl) rfl plain_XorShortenKeepsMeaning (by kernel_rfl)
end Go.Proofs.YtghinmlpkgcdiaaDoor
