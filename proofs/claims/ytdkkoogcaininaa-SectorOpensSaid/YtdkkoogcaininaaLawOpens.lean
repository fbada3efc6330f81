/- SectorOpens: for all places, generations and payloads the law returns true, and its arguments read as they did. No condition. -/
import Derived.Test.YtdkkoogcaininaaS17
import Derived.Test.YtdkkoogcaininaaOpenS
import Derived.ChangeMaps5
namespace Go.Proofs.Ytdkkoogcaininaa
set_option linter.unusedSimpArgs false
set_option linter.unusedVariables false
open Go.ChangeShapes Go.WideShapes Go.ChangeAt Go.RowKit Go.Lib

set_option maxRecDepth 100000 in
set_option maxHeartbeats 3200000 in
theorem opens_out (d a i e c d2 a2 i2 : Int) (p : ByteArray) (w : World) (h : okS d a i e c p = false) :
    Calls Try.prog 4 #[.agg #[.int .i64 d, .int .i64 a, .int .i64 i], .agg #[.int .i64 e, .int .i64 c], .string p, .agg #[.int .i64 d2, .int .i64 a2, .int .i64 i2]] w fun x w' => x = .returned (.bool true) ∧ Below w.heap.size w w' := by
  have H1 := Lib.hid h
  clear h
  go_enter Try.func4, Try.ntmps4
  go_wp2_with fail
  refine (seal_no d a i e c p _ H1.out).mono ?_
  rintro x w1 ⟨rfl, hb⟩
  have HB := Lib.hid (below_call ((((Below.refl w.heap.size w).alloc (Nat.le_refl _) _).alloc (by simp) _).alloc (by simp; omega) _) hb)
  clear hb
  go_wp2_with fail
  refine (sanity_any _).mono ?_
  rintro x w2 ⟨rfl, hb⟩
  have HB := Lib.hid (below_call HB.out hb)
  clear hb
  go_wp2_with fail
  go_ret
  exact ⟨by first | rfl | (simp; done), HB.out⟩
set_option maxRecDepth 100000 in
set_option maxHeartbeats 6400000 in
theorem opens_in (d a i e c d2 a2 i2 : Int) (p : ByteArray) (w : World) (h : okS d a i e c p = true) :
    Calls Try.prog 4 #[.agg #[.int .i64 d, .int .i64 a, .int .i64 i], .agg #[.int .i64 e, .int .i64 c], .string p, .agg #[.int .i64 d2, .int .i64 a2, .int .i64 i2]] w fun x w' => x = .returned (.bool true) ∧ Below w.heap.size w w' := by
  have H1 := Lib.hid h
  have HO := Lib.hid (open_own h)
  have HL := Lib.hid (lab_own h)
  obtain ⟨hss, hps⟩ := okS_size h
  obtain ⟨S, hS⟩ : ∃ S, strB (sealOf d.toNat a.toNat i.toNat e.toNat c.toNat p.data.toList) = S := ⟨_, rfl⟩
  have HS := Lib.hid hS
  have HSD := Lib.hid (show S.data.toList = sealOf d.toNat a.toNat i.toNat e.toNat c.toNat p.data.toList by rw [← hS, strB_data])
  rw [hS] at hss
  obtain ⟨PA, hPA⟩ : ∃ x, strB (padL p.data.toList) = x := ⟨_, rfl⟩
  rw [hPA] at HO
  have HPA := Lib.hid hPA
  obtain ⟨ge, gc, PQ, er, hQ⟩ : ∃ (ge gc : Int) (PQ : ByteArray) (er : Int), (opV (opOf d2 a2 i2 (sealOf d.toNat a.toNat i.toNat e.toNat c.toNat p.data.toList)) = .tuple #[.agg #[.int .i64 ge, .int .i64 gc], .string PQ, .int .i64 er] ∧
      ((d2 = d ∧ a2 = a ∧ i2 = i) ∨ (¬ (d2 = d ∧ a2 = a ∧ i2 = i) ∧ er = 8 ∧ PQ = .empty) ∨ (¬ (d2 = d ∧ a2 = a ∧ i2 = i) ∧ er = 1 ∧ placeB d2 a2 i2 = false))) := by
    by_cases hE : d2 = d ∧ a2 = a ∧ i2 = i
    · obtain ⟨rfl, rfl, rfl⟩ := hE
      exact ⟨_, _, _, _, HO.out, .inl ⟨rfl, rfl, rfl⟩⟩
    · cases hp : placeB d2 a2 i2 with
      | true => exact ⟨_, _, _, _, open_else h d2 a2 i2 hp hE, .inr (.inl ⟨hE, rfl, rfl⟩)⟩
      | false => exact ⟨_, _, _, _, open_none (d := d) (a := a) (i := i) (e := e) (c := c) (p := p) d2 a2 i2 hp _, .inr (.inr ⟨hE, rfl, rfl⟩)⟩
  have HQ := Lib.hid hQ
  clear h hS hPA hQ
  go_enter Try.func4, Try.ntmps4
  go_wp2_with fail
  refine (seal_yes d a i e c p _ H1.out).mono ?_
  rintro x w1 ⟨rfl, hb⟩
  rw [HS.out]
  have HP := Lib.hid (show Row w1 w.heap.size 23 #[.int .i64 d, .int .i64 a, .int .i64 i] from (((Row.new w _ _).alloc _).alloc _).below hb (by simp; omega))
  have HG := Lib.hid (show Row w1 (w.heap.size + 1) 25 #[.int .i64 e, .int .i64 c] from ((Row.made _ _ (by simp)).alloc _).below hb (by first | (simp; done) | (simp; omega)))
  have HA := Lib.hid (show Row w1 (w.heap.size + 1 + 1) 23 #[.int .i64 d2, .int .i64 a2, .int .i64 i2] from (Row.made _ _ (by simp)).below hb (by first | (simp; done) | (simp; omega)))
  have HB := Lib.hid (below_call ((((Below.refl w.heap.size w).alloc (Nat.le_refl _) _).alloc (by simp) _).alloc (by simp; omega) _) hb)
  clear hb
  obtain ⟨p0, p1, p2⟩ := row3 HP.out
  obtain ⟨a0, a1, a2'⟩ := row3 HA.out
  have hl1 : w.heap.size < w1.heap.size := HP.out.lt
  have hl2 : w.heap.size + 1 < w1.heap.size := HG.out.lt
  have hl3 : w.heap.size + 1 + 1 < w1.heap.size := HA.out.lt
  go_wp2_with fail
  refine (sopen_any d a i S _).mono ?_
  rintro x w2 ⟨rfl, hb⟩
  rw [HSD.out, HO.out]
  have HP := Lib.hid (HP.out.below hb HP.out.lt)
  have HG := Lib.hid (HG.out.below hb HG.out.lt)
  have HA := Lib.hid (HA.out.below hb HA.out.lt)
  have HB := Lib.hid (below_call HB.out hb)
  clear hb p0 p1 p2 a0 a1 a2' hl1 hl2 hl3
  obtain ⟨p0, p1, p2⟩ := row3 HP.out
  obtain ⟨a0, a1, a2'⟩ := row3 HA.out
  have hl1 : w.heap.size < w2.heap.size := HP.out.lt
  have hl2 : w.heap.size + 1 < w2.heap.size := HG.out.lt
  have hl3 : w.heap.size + 1 + 1 < w2.heap.size := HA.out.lt
  go_wp2_with fail
  refine (sopen_any d2 a2 i2 S _).mono ?_
  rintro x w3 ⟨rfl, hb⟩
  rw [HSD.out, HQ.out.1]
  have HV := Lib.hid (show Row w3 w2.heap.size 25 #[.int .i64 e, .int .i64 c] from (Row.new w2 _ _).below hb (by simp))
  have HP := Lib.hid ((HP.out.alloc _).below hb (by simp; omega))
  have HG := Lib.hid ((HG.out.alloc _).below hb (by simp; omega))
  have HA := Lib.hid ((HA.out.alloc _).below hb (by simp; omega))
  have HB := Lib.hid (below_call (HB.out.alloc HB.out.size _) hb)
  clear hb p0 p1 p2 a0 a1 a2' hl1 hl2 hl3
  obtain ⟨p0, p1, p2⟩ := row3 HP.out
  obtain ⟨a0, a1, a2'⟩ := row3 HA.out
  have hl1 : w.heap.size < w3.heap.size := HP.out.lt
  have hl2 : w.heap.size + 1 < w3.heap.size := HG.out.lt
  have hl3 : w.heap.size + 1 + 1 < w3.heap.size := HA.out.lt
  have hl4 : w2.heap.size < w3.heap.size := HV.out.lt
  go_wp2_with fail
  refine (slabel_any S _).mono ?_
  rintro x w4 ⟨rfl, hb⟩
  rw [HSD.out, HL.out]
  have HV := Lib.hid ((HV.out.alloc _).below hb (by simp; omega))
  have HP := Lib.hid ((HP.out.alloc _).below hb (by simp; omega))
  have HG := Lib.hid ((HG.out.alloc _).below hb (by simp; omega))
  have HA := Lib.hid ((HA.out.alloc _).below hb (by simp; omega))
  have HB := Lib.hid (below_call (HB.out.alloc HB.out.size _) hb)
  clear hb p0 p1 p2 a0 a1 a2' hl1 hl2 hl3 hl4
  obtain ⟨p0, p1, p2⟩ := row3 HP.out
  obtain ⟨a0, a1, a2'⟩ := row3 HA.out
  have hl1 : w.heap.size < w4.heap.size := HP.out.lt
  have hl2 : w.heap.size + 1 < w4.heap.size := HG.out.lt
  have hl3 : w.heap.size + 1 + 1 < w4.heap.size := HA.out.lt
  have hl4 : w2.heap.size < w4.heap.size := HV.out.lt
  obtain ⟨W, hW⟩ : ∃ W, W = (w4.alloc (.cells #[.int .i64 d, .int .i64 a, .int .i64 i] 23)).alloc (.cells #[.int .i64 e, .int .i64 c] 25) := ⟨_, rfl⟩
  have HX := Lib.hid (show Row W w4.heap.size 23 #[.int .i64 d, .int .i64 a, .int .i64 i] by rw [hW]; exact (Row.new _ _ _).alloc _)
  have HY := Lib.hid (show Row W (w4.heap.size + 1) 25 #[.int .i64 e, .int .i64 c] by rw [hW]; exact Row.made _ _ (by simp))
  have HV := Lib.hid (show Row W w2.heap.size 25 #[.int .i64 e, .int .i64 c] by rw [hW]; exact (HV.out.alloc _).alloc _)
  have HP := Lib.hid (show Row W w.heap.size 23 #[.int .i64 d, .int .i64 a, .int .i64 i] by rw [hW]; exact (HP.out.alloc _).alloc _)
  have HG := Lib.hid (show Row W (w.heap.size + 1) 25 #[.int .i64 e, .int .i64 c] by rw [hW]; exact (HG.out.alloc _).alloc _)
  have HB := Lib.hid (show Below w.heap.size w W by rw [hW]; exact (HB.out.alloc HB.out.size _).alloc (by have := HB.out.size; simp; omega) _)
  rcases HQ.out.2 with hE | ⟨hE, h2, h3⟩ | ⟨hE, h2, h3⟩
  case' inl => obtain ⟨rfl, rfl, rfl⟩ := hE
  case' inr.inl => subst h2 h3
  case' inr.inr => subst h2; have HPL := Lib.hid h3; clear h3
  all_goals go_wp2_with fail
  all_goals rw [← hW]
  all_goals
    clear hW p0 p1 p2 a0 a1 a2' hl1 hl2 hl3 hl4
    (try clear hE)
    (try subst_vars)
    first
      | refine (sanity_any _).mono ?_
      | (refine (splace_any _ _ _ _).mono ?_
         rintro x w5 ⟨rfl, hb⟩
         rw [HPL.out]
         have HB := Lib.hid (below_call HB.out hb)
         have HP := Lib.hid (HP.out.below hb HP.out.lt)
         have HG := Lib.hid (HG.out.below hb HG.out.lt)
         have HV := Lib.hid (HV.out.below hb HV.out.lt)
         have HX := Lib.hid (HX.out.below hb HX.out.lt)
         have HY := Lib.hid (HY.out.below hb HY.out.lt)
         clear hb
         go_wp2_with fail
         refine (sanity_any _).mono ?_)
    rintro x w6 ⟨rfl, hb⟩
    have HB := Lib.hid (below_call HB.out hb)
    have HP := Lib.hid (HP.out.below hb HP.out.lt)
    have HG := Lib.hid (HG.out.below hb HG.out.lt)
    have HV := Lib.hid (HV.out.below hb HV.out.lt)
    have HX := Lib.hid (HX.out.below hb HX.out.lt)
    have HY := Lib.hid (HY.out.below hb HY.out.lt)
    clear hb
    obtain ⟨g0, g1⟩ := row2 HG.out
    obtain ⟨v0, v1⟩ := row2 HV.out
    go_wp2_with fail
    refine (padded_any _ _ hps).mono ?_
    rintro x w7 ⟨rfl, hb⟩
    (try rw [HPA.out])
    have HB := Lib.hid (below_call HB.out hb)
    have HP := Lib.hid (HP.out.below hb HP.out.lt)
    have HG := Lib.hid (HG.out.below hb HG.out.lt)
    have HX := Lib.hid (HX.out.below hb HX.out.lt)
    have HY := Lib.hid (HY.out.below hb HY.out.lt)
    clear hb g0 g1 v0 v1
    obtain ⟨g0, g1⟩ := row2 HG.out
    obtain ⟨v0, v1⟩ := row2 HY.out
    obtain ⟨p0, p1, p2⟩ := row3 HP.out
    obtain ⟨x0, x1, x2⟩ := row3 HX.out
    go_wp2_with fail
    all_goals go_ret
    all_goals exact ⟨by simp, HB.out⟩
theorem walk_SectorOpens (d a i e c : Int) (p : ByteArray) (d2 a2 i2 : Int) (w : World) {A : Prop} (hw1 : A) :
    Calls Try.prog 4 #[.agg #[.int .i64 d, .int .i64 a, .int .i64 i], .agg #[.int .i64 e, .int .i64 c], .string p, .agg #[.int .i64 d2, .int .i64 a2, .int .i64 i2]] w fun x w' => x = .returned (.bool true) ∧ Below w.heap.size w w' := by
  cases h : okS d a i e c p with
  | false => exact opens_out d a i e c d2 a2 i2 p w h
  | true => exact opens_in d a i e c d2 a2 i2 p w h

/-! ### the frame: the arguments opened and shut -/
theorem contract_SectorOpens (H : Type) (enc : TypeId × Value → H) (W : World) (base : Nat) (args : Array Value) (ds gs : List (DataW H)) (before : List MemPlace)
    (hval0 : ∀ (j : Nat) t v, Try.f4.params[j]? = some t → args[j]? = some v → Value.okWide Try.prog W .any base t v)
    (hW : DataW.Whole enc Try.prog Try.f4.params.toList Rows.sectorOpensSpec.vars false W args.toList ds gs before) :
    Calls Try.prog 4 args W fun e W' => ∃ v, e = .returned v ∧ Rows.sectorOpensSpec.post enc Try.prog Try.f4 false true false false W args v W' := by
  have hval : ∀ (j : Nat) t v, Try.f4.params[j]? = some t → args[j]? = some v → Value.okWide Try.prog W .any base t v := hval0
  have hW' := hW
  obtain ⟨p, q, hA0, hV, rfl, hfz, hnd⟩ := hW
  have hA : DataW.TrodAll enc Try.prog W 0 (fun _ => true) true Try.f4.params.toList args.toList ds p := hA0
  rw [Try.params4] at hA hval
  obtain ⟨v0, vs0, d0, ds0, p0, q0, hargs, rfl, rfl, h0, r0⟩ := trodAll_cons hA
  obtain ⟨v1, vs1, d1, ds1, p1, q1, rfl, rfl, rfl, h1, r1⟩ := trodAll_cons r0
  obtain ⟨v2, vs2, d2, ds2, p2, q2, rfl, rfl, rfl, h2, r2⟩ := trodAll_cons r1
  obtain ⟨v3, vs3, d3, ds3, p3, q3, rfl, rfl, rfl, h3, r3⟩ := trodAll_cons r2
  obtain ⟨rfl, rfl, rfl⟩ := trodAll_nil r3
  obtain rfl : args = #[v0, v1, v2, v3] := by cases args; simp_all
  obtain ⟨rfl, rfl⟩ := trodVars_none hV
  have k0 := h0
  have lt0 : ∀ x ∈ p0, x.block < W.heap.size := by obtain ⟨m, hm⟩ := k0; exact DataW.trod_lt m _ _ _ hm
  have k1 := h1
  have lt1 : ∀ x ∈ p1, x.block < W.heap.size := by obtain ⟨m, hm⟩ := k1; exact DataW.trod_lt m _ _ _ hm
  have k2 := h2
  have lt2 : ∀ x ∈ p2, x.block < W.heap.size := by obtain ⟨m, hm⟩ := k2; exact DataW.trod_lt m _ _ _ hm
  have k3 := h3
  have lt3 : ∀ x ∈ p3, x.block < W.heap.size := by obtain ⟨m, hm⟩ := k3; exact DataW.trod_lt m _ _ _ hm
  obtain ⟨cs0, rfl, _⟩ := okWide_struct Try.underlying23 (hval 0 23 v0 rfl rfl)
  obtain ⟨fuel0, hf0⟩ := h0
  obtain ⟨d0x, a0x, j0x, hcs0, hd0x, ha0x, hj0x⟩ := open_place hf0
  obtain rfl : cs0 = #[.int .i64 d0x, .int .i64 a0x, .int .i64 j0x] := by apply Array.toList_inj.1; simpa [Value.cells] using hcs0
  obtain ⟨cs1, rfl, _⟩ := okWide_struct Try.underlying25 (hval 1 25 v1 rfl rfl)
  obtain ⟨fuel1, hf1⟩ := h1
  obtain ⟨e1x, c1x, hcs1, he1x, hc1x⟩ := open_gen hf1
  obtain rfl : cs1 = #[.int .i64 e1x, .int .i64 c1x] := by apply Array.toList_inj.1; simpa [Value.cells] using hcs1
  obtain ⟨n2, rfl, rfl, rfl, w2⟩ := _root_.Go.ChangeMaps.open_string Try.underlying9 (hval 2 9 v2 rfl rfl) h2
  obtain ⟨cs3, rfl, _⟩ := okWide_struct Try.underlying23 (hval 3 23 v3 rfl rfl)
  obtain ⟨fuel3, hf3⟩ := h3
  obtain ⟨d3x, a3x, j3x, hcs3, hd3x, ha3x, hj3x⟩ := open_place hf3
  obtain rfl : cs3 = #[.int .i64 d3x, .int .i64 a3x, .int .i64 j3x] := by apply Array.toList_inj.1; simpa [Value.cells] using hcs3
  refine (walk_SectorOpens d0x a0x j0x e1x c1x n2 d3x a3x j3x W w2).mono fun e W' ⟨he, bel⟩ => ?_
  subst he
  exact ⟨_, rfl, _, _, _, [], _, [], hW', trodAll_mk1 (shut_bool Try.underlying4 _), (trodAll_cons_mk (Below.trod laidOut (by kernel_rfl) (of_decide_eq_true (by kernel_rfl)) k0 bel lt0) (trodAll_cons_mk (Below.trod laidOut (by kernel_rfl) (of_decide_eq_true (by kernel_rfl)) k1 bel lt1) (trodAll_cons_mk (Below.trod laidOut (by kernel_rfl) (of_decide_eq_true (by kernel_rfl)) k2 bel lt2) (trodAll_cons_mk (Below.trod laidOut (by kernel_rfl) (of_decide_eq_true (by kernel_rfl)) k3 bel lt3) trodAll_mk0)))), rfl, bel.frame _, fun h => by cases h⟩

set_option maxRecDepth 100000 in
theorem lifted_SectorOpens (os : Os) (started : os.Started) (H : Type) (enc : TypeId × Value → H) :
    ReturnsInHanded {} Try.checked os 4 .any (Rows.sectorOpensSpec.pre6 enc Try.prog Try.f4 Rows.sectorOpensRow.domain false) (Rows.sectorOpensSpec.post enc Try.prog Try.f4 false true false false) := by
  refine returnsInHanded_of_change (C := Try.checked) own started (by kernel_rfl) Try.func4
    (ChangeSpec.witness6 (enc := enc) (C := Try.checked) false ⟨#[], #[.agg #[.int .i64 0, .int .i64 0, .int .i64 0], .agg #[.int .i64 0, .int .i64 0], .string .empty, .agg #[.int .i64 0, .int .i64 0, .int .i64 0]], []⟩ 8 (by kernel_rfl) (by kernel_rfl) (by kernel_rfl) (by kernel_rfl)) ?_
  intro W base args ds gs before hval hW _ _
  exact contract_SectorOpens H enc W base args ds gs before hval hW

theorem proved_SectorOpens : Rows.SectorOpensSaid :=
  OpenClaim.holds_of_wide 4 Try.f4 rfl rfl rfl rfl rfl rfl rfl ⟨rfl, rfl, rfl, rfl, rfl⟩ rfl rfl rfl rfl rfl (by kernel_rfl) Try.func4 (by kernel_rfl)
    (of_decide_eq_true (by kernel_rfl)) (by unfold Func.isWrapper; first | (rw [if_pos (by decide +kernel)]; kernel_rfl) | (rw [if_neg (by decide +kernel)]; exact ⟨rfl, rfl⟩))
    (fun os started H enc _ => lifted_SectorOpens os started H enc)
end Go.Proofs.Ytdkkoogcaininaa
