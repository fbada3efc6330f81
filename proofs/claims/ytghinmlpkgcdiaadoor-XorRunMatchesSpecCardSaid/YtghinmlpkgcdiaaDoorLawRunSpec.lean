/- XorRunMatchesSpec: for every schedule and list of data units the statement returns true; the arguments read as they did. -/
import Derived.Test.YtghinmlpkgcdiaaDoorX34
import Derived.Deep.RegionHeld3
import Derived.BigQuiet
namespace Go.Proofs.YtghinmlpkgcdiaaDoor
set_option linter.unusedSimpArgs false
set_option linter.unusedVariables false
open Go.ChangeShapes Go.WideShapes Go.ChangeAt Go.RowKit Go.Lib

section
variable (f d p : Int) (qo : Option Addr) (no ko : Nat) (qx : Option Addr) (nx kx : Nat) (ops : List (Int × Int)) (out : List Int) (qd : Option Addr) (nd kd : Nat) (ss : List ByteArray) (w : World)
set_option maxRecDepth 100000 in
set_option maxHeartbeats 6400000 in
theorem rs_0 (ht : Tab w) (hs : SchIn w f d p qo no ko qx nx kx ops out) (ha : StrIn w qd nd kd ss) (hf : few11 f d no nx = false ∨ (few11 f d no nx = true ∧ few08 ss = false)) :
    Calls Tryd.prog 6 #[schV f d p qo no ko qx nx kx, .slice qd nd kd] w fun e w' => e = .returned (.bool true) ∧ Below w.heap.size w w' := by
  have HB0 := Lib.hid ((Below.refl _ w).alloc (Nat.le_refl _) (.cells (schC f d p qo no ko qx nx kx) 30))
  have HX0 := Lib.hid (Row.new w 30 (schC f d p qo no ko qx nx kx))
  have HT := Lib.hid ht
  have HS := Lib.hid hs
  have HA := Lib.hid ha
  unfold schV
  clear ht hs ha
  rcases hf with hf1 | ⟨hf1, hf2⟩
  · go_enter Tryd.func6, Tryd.ntmps6
    go_wp2_with fail
    refine (sanity11_any _ (HT.out.next HB0.out)).mono ?_
    rintro e v1 ⟨rfl, hb⟩
    have HB1 := Lib.hid (below_call HB0.out hb)
    have HX1 := Lib.hid (HX0.out.below hb (by first | exact HX0.out.lt | simp))
    clear hb
    obtain ⟨c0, c1, c2, c3, c4⟩ := sbox HX1.out
    have h9 := few11_any f d p qo no ko qx nx kx v1
    rw [hf1] at h9
    unfold schV at h9
    go_wp2_with fail
    clear c0 c1 c2 c3 c4
    refine (h9).mono ?_
    rintro e v2 ⟨rfl, hb⟩
    have HB2 := Lib.hid (below_call HB1.out hb)
    clear hb h9
    go_wp2
    go_ret
    exact ⟨rfl, HB2.out⟩
  · go_enter Tryd.func6, Tryd.ntmps6
    go_wp2_with fail
    refine (sanity11_any _ (HT.out.next HB0.out)).mono ?_
    rintro e v1 ⟨rfl, hb⟩
    have HB1 := Lib.hid (below_call HB0.out hb)
    have HX1 := Lib.hid (HX0.out.below hb (by first | exact HX0.out.lt | simp))
    clear hb
    obtain ⟨c0, c1, c2, c3, c4⟩ := sbox HX1.out
    have h9 := few11_any f d p qo no ko qx nx kx v1
    rw [hf1] at h9
    unfold schV at h9
    go_wp2_with fail
    clear c0 c1 c2 c3 c4
    refine (h9).mono ?_
    rintro e v2 ⟨rfl, hb⟩
    have HB2 := Lib.hid (below_call HB1.out hb)
    clear hb h9
    have h9 := few08_any qd nd kd ss v2 (HA.out.next HB2.out)
    rw [hf2] at h9
    go_wp2_with fail
    refine h9.mono ?_
    rintro e v9 ⟨rfl, e9⟩
    rw [e9]
    clear h9 e9 v9
    go_wp2
    go_ret
    exact ⟨rfl, HB2.out⟩
set_option maxRecDepth 100000 in
set_option maxHeartbeats 12800000 in
theorem rs_1 (ht : Tab w) (hs : SchIn w f d p qo no ko qx nx kx ops out) (ha : StrIn w qd nd kd ss) (hf1 : few11 f d no nx = true) (hf2 : few08 ss = true) :
    Calls Tryd.prog 6 #[schV f d p qo no ko qx nx kx, .slice qd nd kd] w fun e w' => e = .returned (.bool true) ∧ Below w.heap.size w w' := by
  obtain ⟨hno, hl24, hsz⟩ : no ≤ 300 ∧ nd ≤ 24 ∧ ∀ s ∈ ss, s.size ≤ 64 := by
    have hf1 := hf1
    have hf2 := hf2
    unfold few11 at hf1; unfold few08 at hf2
    simp only [Bool.and_eq_true, decide_eq_true_eq, List.all_eq_true] at hf1 hf2
    rw [ha.len] at hf2
    exact ⟨hf1.2, hf2.1, hf2.2⟩
  have HB0 := Lib.hid ((Below.refl _ w).alloc (Nat.le_refl _) (.cells (schC f d p qo no ko qx nx kx) 30))
  have HX0 := Lib.hid (Row.new w 30 (schC f d p qo no ko qx nx kx))
  have HT := Lib.hid ht
  have HS := Lib.hid hs
  have HA := Lib.hid ha
  obtain ⟨E1, hE1⟩ : ∃ E, Xp.errB (Xp.okS f d p ops out) = E := ⟨_, rfl⟩
  obtain ⟨E2, hE2⟩ : ∃ E, Xp.errB (Xp.acc f d p ops out ss) = E := ⟨_, rfl⟩
  obtain ⟨SE, hSE⟩ : ∃ SE, Xp.setsB f d p ops out = SE := ⟨_, rfl⟩
  obtain ⟨UN, hUN⟩ : ∃ UN, Xp.parB f d p ops out ss = UN := ⟨_, rfl⟩
  obtain ⟨bo, hbo⟩ : ∃ b, Xp.okS f d p ops out = b := ⟨_, rfl⟩
  have HSL := Lib.hid (show SE.length ≤ 100000 by rw [← hSE]; exact Nat.le_trans setsB_len (by omega))
  have HUL := Lib.hid (show UN.length ≤ 100000 by
    rw [← hUN]
    unfold Xp.parB
    split
    · next h =>
      obtain ⟨m, D, P, NS, rfl, rfl, rfl, _, _, _, _, _, hok⟩ := acc_parts h
      obtain ⟨m', D', P', _, _, e3, _, _, _, hp, _⟩ := okS_parts hok
      rw [parity_len]; omega
    · simp)
  have HSX := Lib.hid (fun (W : World) (hb : Below w.heap.size w W) => by
    have h9 := xsets_say (f := f) (d := d) (p := p) (qo := qo) (ko := ko) (qx := qx) (kx := kx) W (ht.next hb) (show no ≤ 131072 by omega) (hs.next hb)
    rw [hE1, hSE] at h9
    exact h9)
  have HSR := Lib.hid (fun (W : World) (hb : Below w.heap.size w W) => by
    have h9 := ssets_say (f := f) (d := d) (p := p) (qo := qo) (ko := ko) (qx := qx) (kx := kx) W (show no ≤ 131072 by omega) (hs.next hb)
    rw [hE1, hSE] at h9
    exact h9)
  have HRX := Lib.hid (fun (W : World) (hb : Below w.heap.size w W) => by
    have h9 := xrun_say (f := f) (d := d) (p := p) (qo := qo) (ko := ko) (qx := qx) (kx := kx) (kd := kd) W (ht.next hb) (show no ≤ 131072 by omega) (hs.next hb) ha.len (by omega) ((ha.next hb).rd) (fun s hs' => by have := hsz s hs'; omega)
    rw [hE2, hUN] at h9
    exact h9)
  have HRR := Lib.hid (fun (W : World) (hb : Below w.heap.size w W) => by
    have h9 := srun_say (f := f) (d := d) (p := p) (qo := qo) (ko := ko) (qx := qx) (kx := kx) (kd := kd) W (show no ≤ 131072 by omega) (hs.next hb) ha.len (by omega) ((ha.next hb).rd) (fun s hs' => by have := hsz s hs'; omega)
    rw [hE2, hUN] at h9
    exact h9)
  have HVX := Lib.hid (fun (W : World) (hb : Below w.heap.size w W) => by
    have h9 := xvalid_any f d p qo no ko qx nx kx ops out W (ht.next hb) (by omega) hs.lo (hs.next hb).ro hs.lx (hs.next hb).rx
    rw [hbo] at h9
    exact h9)
  have HVR := Lib.hid (fun (W : World) (hb : Below w.heap.size w W) => by
    have h9 := svalid_any f d p qo no ko qx nx kx ops out W (by omega) (by have := hs.cx; have := hs.mx; unfold maxLen at this; omega) hs.lo (hs.next hb).ro hs.lx (hs.next hb).rx
    rw [hbo] at h9
    exact h9)
  unfold schV at HSX HSR HRX HRR HVX HVR ⊢
  clear ht hs ha hsz hE1 hE2 hSE hUN hbo
  go_enter Tryd.func6, Tryd.ntmps6
  go_wp2_with fail
  refine (sanity11_any _ (HT.out.next HB0.out)).mono ?_
  rintro e v1 ⟨rfl, hb⟩
  have HB1 := Lib.hid (below_call HB0.out hb)
  have HX1 := Lib.hid (HX0.out.below hb (by first | exact HX0.out.lt | simp))
  clear hb
  obtain ⟨c0, c1, c2, c3, c4⟩ := sbox HX1.out
  have h9 := few11_any f d p qo no ko qx nx kx v1
  rw [hf1] at h9
  unfold schV at h9
  go_wp2_with fail
  clear c0 c1 c2 c3 c4
  refine (h9).mono ?_
  rintro e v2 ⟨rfl, hb⟩
  have HB2 := Lib.hid (below_call HB1.out hb)
  have HX2 := Lib.hid (HX1.out.below hb HX1.out.lt)
  clear hb h9
  have h9 := few08_any qd nd kd ss v2 (HA.out.next HB2.out)
  rw [hf2] at h9
  go_wp2_with fail
  refine h9.mono ?_
  rintro e v9 ⟨rfl, e9⟩
  rw [e9]
  clear h9 e9 v9
  obtain ⟨c0, c1, c2, c3, c4⟩ := sbox HX2.out
  go_wp2_with fail
  clear c0 c1 c2 c3 c4
  refine (HSX.out _ HB2.out).mono ?_
  rintro e v3 ⟨⟨qa, na, ka, va, rfl, hla, hra, hsa⟩, hb⟩
  have HB3 := Lib.hid (below_call HB2.out hb)
  have HX3 := Lib.hid (HX2.out.below hb HX2.out.lt)
  have HRA3 := Lib.hid hra
  have HSA3 := Lib.hid hsa
  have HLA := Lib.hid hla
  clear hb hla hra hsa
  obtain ⟨c0, c1, c2, c3, c4⟩ := sbox HX3.out
  go_wp2_with fail
  clear c0 c1 c2 c3 c4
  refine (HSR.out _ HB3.out).mono ?_
  rintro e v4 ⟨⟨qb, nb, kb, vb, rfl, hlb, hrb, hsb⟩, hb⟩
  have HB4 := Lib.hid (below_call HB3.out hb)
  have HX4 := Lib.hid (HX3.out.below hb HX3.out.lt)
  have HRA4 := Lib.hid ((HRA3.out.below hb).more hb.size)
  have HSA4 := Lib.hid (HSA3.out.keeps (Keeps.of_below hb))
  have HRB4 := Lib.hid hrb
  have HSB4 := Lib.hid hsb
  have HLB := Lib.hid hlb
  clear hb hlb hrb hsb
  obtain ⟨c0, c1, c2, c3, c4⟩ := sbox HX4.out
  go_wp2_with fail
  clear c0 c1 c2 c3 c4
  refine (HRX.out _ HB4.out).mono ?_
  rintro e v5 ⟨⟨qu, nu, ku, rfl, hlu, hru⟩, hb⟩
  have HB5 := Lib.hid (below_call HB4.out hb)
  have HX5 := Lib.hid (HX4.out.below hb HX4.out.lt)
  have HRA5 := Lib.hid ((HRA4.out.below hb).more hb.size)
  have HSA5 := Lib.hid (HSA4.out.keeps (Keeps.of_below hb))
  have HRB5 := Lib.hid ((HRB4.out.below hb).more hb.size)
  have HSB5 := Lib.hid (HSB4.out.keeps (Keeps.of_below hb))
  have HRU5 := Lib.hid hru
  have HLU := Lib.hid hlu
  clear hb hlu hru
  obtain ⟨c0, c1, c2, c3, c4⟩ := sbox HX5.out
  go_wp2_with fail
  clear c0 c1 c2 c3 c4
  refine (HRR.out _ HB5.out).mono ?_
  rintro e v6 ⟨⟨qv, nv, kv, rfl, hlv, hrv⟩, hb⟩
  have HB6 := Lib.hid (below_call HB5.out hb)
  have HX6 := Lib.hid (HX5.out.below hb HX5.out.lt)
  have HRA6 := Lib.hid ((HRA5.out.below hb).more hb.size)
  have HSA6 := Lib.hid (HSA5.out.keeps (Keeps.of_below hb))
  have HRB6 := Lib.hid ((HRB5.out.below hb).more hb.size)
  have HSB6 := Lib.hid (HSB5.out.keeps (Keeps.of_below hb))
  have HRU6 := Lib.hid ((HRU5.out.below hb).more hb.size)
  have HRV6 := Lib.hid hrv
  have HLV := Lib.hid hlv
  clear hb hlv hrv
  obtain rfl : na = nb := by rw [← HLA.out, ← HLB.out]
  obtain rfl : nu = nv := by rw [← HLU.out, ← HLV.out]
  obtain ⟨c0, c1, c2, c3, c4⟩ := sbox HX6.out
  have HXS := Lib.hid (fun (wn : World) (h : Below v6.heap.size v6 wn) => (sbox (HX6.out.below h HX6.out.lt) : wn.cell? ⟨w.heap.size, 0, none⟩ = some (.int .i64 f) ∧ wn.cell? ⟨w.heap.size, 1, none⟩ = some (.int .i64 d) ∧ wn.cell? ⟨w.heap.size, 2, none⟩ = some (.int .i64 p) ∧ wn.cell? ⟨w.heap.size, 3, none⟩ = some (.slice qo no ko) ∧ wn.cell? ⟨w.heap.size, 4, none⟩ = some (.slice qx nx kx)))
  have HSS := Lib.hid (fun (W : World) (h : Below v6.heap.size v6 W) => same_sets SE qa na ka va qb kb vb W HLA.out (by have := HSL.out; have := HLA.out; omega) ((HRA6.out.below h).more h.size) ((HRB6.out.below h).more h.size) (HSA6.out.keeps (Keeps.of_below h)) (HSB6.out.keeps (Keeps.of_below h)))
  have HST := Lib.hid (fun (W : World) (h : Below v6.heap.size v6 W) => same_texts UN qu nu ku qv kv W HLU.out (by have := HUL.out; have := HLU.out; omega) ((HRU6.out.below h).more h.size) ((HRV6.out.below h).more h.size))
  clear c0 c1 c2 c3 c4
  go_upto_region 8 with fail
  go_region_held3 (fun wn => wn.cell? ⟨w.heap.size, 0, none⟩ = some (.int .i64 f) ∧ wn.cell? ⟨w.heap.size, 1, none⟩ = some (.int .i64 d) ∧ wn.cell? ⟨w.heap.size, 2, none⟩ = some (.int .i64 p) ∧ wn.cell? ⟨w.heap.size, 3, none⟩ = some (.slice qo no ko) ∧ wn.cell? ⟨w.heap.size, 4, none⟩ = some (.slice qx nx kx)) (first | with_reducible exact HXS.out _ K4.out | with_reducible exact HXS.out _ K3.out | with_reducible exact HXS.out _ K2.out | with_reducible exact HXS.out _ K1.out | with_reducible exact HXS.out _ (Below.refl _ _).drew) (first
    | (go_at_call 22; (with_reducible refine (HVX.out _ (below_call HB6.out (Below.refl _ _).drew)).mono ?_); rintro e1 x1 ⟨rfl, hx1⟩; have K1 := Lib.hid (show Below v6.heap.size v6 x1 from below_call (Below.refl _ _).drew hx1); clear hx1)
    | (go_at_call 25; (with_reducible refine (HVR.out _ (below_call HB6.out K1.out)).mono ?_); rintro e2 x2 ⟨rfl, hx2⟩; have K2 := Lib.hid (show Below v6.heap.size v6 x2 from below_call K1.out hx2); clear hx2)
    | (go_at_call 21; (with_reducible refine (HSS.out _ K2.out).mono ?_); rintro e3 x3 ⟨rfl, m3, hx3⟩; have K3 := Lib.hid (show Below v6.heap.size v6 x3 from by rw [hx3]; exact below_drewN K2.out m3); clear hx3)
    | (go_at_call 16; (with_reducible refine (HST.out _ K3.out).mono ?_); rintro e4 x4 ⟨rfl, m4, hx4⟩; have K4 := Lib.hid (show Below v6.heap.size v6 x4 from by rw [hx4]; exact below_drewN K3.out m4); clear hx4))
  go_wp2
  go_ret
  exact ⟨rfl, below_call HB6.out K4.out⟩
theorem walk_XorRunMatchesSpec (hs : SchIn w f d p qo no ko qx nx kx ops out) (ha : StrIn w qd nd kd ss) (ht : Tab w) :
    Calls Tryd.prog 6 #[schV f d p qo no ko qx nx kx, .slice qd nd kd] w fun e w' => e = .returned (.bool true) ∧ Below w.heap.size w w' := by
  cases hf1 : few11 f d no nx
  · exact rs_0 f d p qo no ko qx nx kx ops out qd nd kd ss w ht hs ha (.inl hf1)
  cases hf2 : few08 ss
  · exact rs_0 f d p qo no ko qx nx kx ops out qd nd kd ss w ht hs ha (.inr ⟨hf1, hf2⟩)
  · exact rs_1 f d p qo no ko qx nx kx ops out qd nd kd ss w ht hs ha hf1 hf2
end
set_option maxRecDepth 100000
/-! ### the frame: the arguments opened and shut -/
theorem contract_XorRunMatchesSpec (H : Type) (enc : TypeId × Value → H) (W : World) (base : Nat) (args : Array Value) (ds gs : List (DataW H)) (before : List MemPlace)
    (hval0 : ∀ (j : Nat) t v, Tryd.f6.params[j]? = some t → args[j]? = some v → Value.okWide Tryd.prog W .any base t v)
    (hW : DataW.Whole enc Tryd.prog Tryd.f6.params.toList Rows.xorRunMatchesSpecSpec.vars false W args.toList ds gs before) (hL : laidMetH Tryd.prog Rows.xorRunMatchesSpecRow.laid W) :
    Calls Tryd.prog 6 args W fun e W' => ∃ v, e = .returned v ∧ Rows.xorRunMatchesSpecSpec.post enc Tryd.prog Tryd.f6 false true false false W args v W' := by
  have hval : ∀ (j : Nat) t v, Tryd.f6.params[j]? = some t → args[j]? = some v → Value.okWide Tryd.prog W .any base t v := hval0
  have hW' := hW
  obtain ⟨p, q, hA0, hV, rfl, hfz, hnd⟩ := hW
  have hA : DataW.TrodAll enc Tryd.prog W 0 (fun _ => true) true Tryd.f6.params.toList args.toList ds p := hA0
  rw [Tryd.params6] at hA hval
  obtain ⟨v0, vs0, d0, ds0, p0, q0, hargs, rfl, rfl, h0, r0⟩ := trodAll_cons hA
  obtain ⟨v1, vs1, d1, ds1, p1, q1, rfl, rfl, rfl, h1, r1⟩ := trodAll_cons r0
  obtain ⟨rfl, rfl, rfl⟩ := trodAll_nil r1
  obtain rfl : args = #[v0, v1] := by cases args; simp_all
  obtain ⟨rfl, rfl⟩ := trodVars_none hV
  have k0 := h0
  have lt0 : ∀ x ∈ p0, x.block < W.heap.size := by obtain ⟨m, hm⟩ := k0; exact DataW.trod_lt m _ _ _ hm
  have k1 := h1
  have lt1 : ∀ x ∈ p1, x.block < W.heap.size := by obtain ⟨m, hm⟩ := k1; exact DataW.trod_lt m _ _ _ hm
  obtain ⟨cs0, rfl, _⟩ := okWide_struct Tryd.underlying30 (hval 0 30 v0 rfl rfl)
  obtain ⟨fuel0, hf0⟩ := h0
  obtain ⟨sf0, sd0, sp0, sqo0, sno0, sko0, sqx0, snx0, skx0, sops0, sout0, hcs0, hsc0⟩ := open_sched hf0
  obtain rfl : cs0 = schC sf0 sd0 sp0 sqo0 sno0 sko0 sqx0 snx0 skx0 := by apply Array.toList_inj.1; simpa [Value.cells] using hcs0
  obtain ⟨ta1, tn1, tk1, ts1, rfl, hst1⟩ := got_strIn (show Got enc Tryd.prog W 36 v1 from by
    obtain ⟨ga1, gn1, gk1, rfl⟩ := okWide_slice Tryd.underlying36 (hval 1 36 v1 rfl rfl)
    obtain ⟨fuel1, hf1⟩ := h1
    exact ⟨fuel1, _, hf1⟩)
  refine (walk_XorRunMatchesSpec sf0 sd0 sp0 sqo0 sno0 sko0 sqx0 snx0 skx0 sops0 sout0 ta1 tn1 tk1 ts1 W hsc0 hst1 (tab_of hL)).mono fun e W' ⟨he, bel⟩ => ?_
  subst he
  exact ⟨_, rfl, _, _, _, [], _, [], hW', trodAll_mk1 (shut_bool Tryd.underlying4 _), (trodAll_cons_mk (Below.trod laidOut (by kernel_rfl) (of_decide_eq_true (by kernel_rfl)) k0 bel lt0) (trodAll_cons_mk (Below.trod laidOut (by kernel_rfl) (of_decide_eq_true (by kernel_rfl)) k1 bel lt1) trodAll_mk0)), rfl, bel.frame _, fun h => by cases h⟩
theorem laid_XorRunMatchesSpec (os : Os) : laidMet Tryd.prog Rows.xorRunMatchesSpecRow.laid ((laidWorld os).forCall (fun _ _ => 0) ⟨#[], #[.agg #[.int .i64 0, .int .i64 0, .int .i64 0, .slice none 0 0, .slice none 0 0], .slice none 0 0], []⟩).memory :=
  laidMet_of_run' 8 (by kernel_rfl) (by kernel_rfl)
theorem reads_XorRunMatchesSpec (os : Os) {H : Type} (enc : TypeId × Value → H) : ∃ places, DataW.whole enc Tryd.prog ((laidWorld os).forCall (fun _ _ => 0) ⟨#[], #[.agg #[.int .i64 0, .int .i64 0, .int .i64 0, .slice none 0 0, .slice none 0 0], .slice none 0 0], []⟩).memory Tryd.f6.params.toList Rows.xorRunMatchesSpecSpec.vars false (#[.agg #[.int .i64 0, .int .i64 0, .int .i64 0, .slice none 0 0, .slice none 0 0], .slice none 0 0] : Array Value).toList 8 = some ([.agg [.lit (.int .i64 0), .lit (.int .i64 0), .lit (.int .i64 0), .nil, .nil], .nil], [], places) :=
  ⟨[], by kernel_rfl⟩
set_option maxRecDepth 100000 in
theorem lifted_XorRunMatchesSpec (os : Os) (started : os.Started) (H : Type) (enc : TypeId × Value → H) (F : Stop.Interp) :
    ReturnsInHanded {} Tryd.checked os 6 .any ((OpenSpec.ofChange Rows.xorRunMatchesSpecSpec).preRow enc Tryd.prog Tryd.f6 Rows.xorRunMatchesSpecRow.domain false Rows.xorRunMatchesSpecRow.laid) (((OpenSpec.ofChange Rows.xorRunMatchesSpecSpec).at F).post enc Tryd.prog Tryd.f6 false true false false) := by
  obtain ⟨places, hx⟩ := reads_XorRunMatchesSpec os enc
  refine returnsInHanded_of_row (C := Tryd.checked) (s := OpenSpec.ofChange Rows.xorRunMatchesSpecSpec) own started (by kernel_rfl) Tryd.func6
    (witness_row_at (enc := enc) (C := Tryd.checked) false (laidWorld os) #[.agg #[.int .i64 0, .int .i64 0, .int .i64 0, .slice none 0 0, .slice none 0 0], .slice none 0 0] rfl (by kernel_rfl) (by kernel_rfl) (by kernel_rfl)
      (OpenSpec.preRow_of_cond 8 hx (by kernel_rfl) (fun k hk => by cases hk) (by kernel_rfl) (laid_XorRunMatchesSpec os))) ?_
  intro W base args ds gs before hval hW _ hcond _ hL _ _
  exact contract_XorRunMatchesSpec H enc W base args ds gs before hval hW hL

theorem said_XorRunMatchesSpec : Rows.XorRunMatchesSpecSaid :=
  OpenClaim.holds_of_cond 6 Tryd.f6 rfl rfl rfl rfl rfl rfl rfl ⟨rfl, rfl, rfl, rfl, rfl⟩ rfl rfl rfl rfl rfl (by kernel_rfl) Tryd.func6 (by kernel_rfl)
    (of_decide_eq_true (by kernel_rfl)) (by unfold Func.isWrapper; first | (rw [if_pos (by decide +kernel)]; kernel_rfl) | (rw [if_neg (by decide +kernel)]; exact ⟨rfl, rfl⟩))
    (fun os started H enc _ F => by rw [OpenClaim.pre_eq_preRow]; exact lifted_XorRunMatchesSpec os started H enc F)
theorem plain_XorRunMatchesSpec (f : FuncId) (fn : Func) (hf : Tryd.pinned.checked.prog.funcNamed "solvent/solventlaw11.XorRunMatchesSpec" = some f) (hfn : Tryd.pinned.checked.prog.funcs[f]? = some fn) :
    false = Tryd.pinned.checked.prog.looks [] ∧ ∀ (j : Nat) t, fn.params[j]? = some t → Tryd.pinned.checked.prog.wantsStandIn t = false := by
  obtain rfl : f = 6 := Option.some.inj ((show Tryd.prog.funcNamed "solvent/solventlaw11.XorRunMatchesSpec" = some 6 by kernel_rfl).symm.trans hf) |>.symm
  obtain rfl : fn = Tryd.f6 := (Option.some.inj (Tryd.func6.symm.trans hfn)).symm
  refine ⟨by kernel_rfl, fun j t ht => ?_⟩
  rw [Tryd.params6] at ht
  have hm := Array.mem_of_getElem? ht
  simp only [List.mem_toArray, List.mem_cons, List.not_mem_nil, or_false] at hm
  rcases hm with rfl | rfl
  all_goals first | exact (show Tryd.prog.wantsStandIn 30 = false by kernel_rfl) | exact (show Tryd.prog.wantsStandIn 36 = false by kernel_rfl)
theorem proved_XorRunMatchesSpec : Rows.XorRunMatchesSpecCardSaid :=
  Claim7.holds_tied_plain_at .later [] _ _ _ _ said_XorRunMatchesSpec (fun _ h => by cases h) (by kernel_rfl) (fun _ h => by cases h) xorRunMatchesSpec_row_tie rfl ⟨rfl, rfl⟩ (by kernel_rfl) rfl plain_XorRunMatchesSpec (by kernel_rfl)
end Go.Proofs.YtghinmlpkgcdiaaDoor
