/- SectorDistinct: for all places, generations and payloads the law returns true, and its arguments read as they did. No condition. -/
import Derived.Test.YtdkkoogcaininaaS17
import Derived.Test.YtdkkoogcaininaaOpenS
import Derived.ChangeMaps5
namespace Go.Proofs.Ytdkkoogcaininaa
set_option linter.unusedSimpArgs false
set_option linter.unusedVariables false
open Go.ChangeShapes Go.WideShapes Go.ChangeAt Go.RowKit Go.Lib

set_option maxRecDepth 100000 in
set_option maxHeartbeats 3200000 in
theorem distinct_out (d a i e c d2 a2 i2 e2 c2 : Int) (p q : ByteArray) (w : World) (h : okS d a i e c p = false ∨ (okS d a i e c p = true ∧ okS d2 a2 i2 e2 c2 q = false)) :
    Calls Try.prog 6 #[.agg #[.int .i64 d, .int .i64 a, .int .i64 i], .agg #[.int .i64 e, .int .i64 c], .string p, .agg #[.int .i64 d2, .int .i64 a2, .int .i64 i2], .agg #[.int .i64 e2, .int .i64 c2], .string q] w fun x w' => x = .returned (.bool true) ∧ Below w.heap.size w w' := by
  cases h2 : okS d2 a2 i2 e2 c2 q
  all_goals
    rcases h with h | ⟨h, h3⟩
    all_goals first | (exfalso; rw [h2] at h3; cases h3; done) | skip
    all_goals
      have H1 := Lib.hid h
      have H2 := Lib.hid h2
      clear h h2
      go_enter Try.func6, Try.ntmps6
      go_wp2_with fail
      first
        | refine (seal_no d a i e c p _ H1.out).mono ?_
        | refine (seal_yes d a i e c p _ H1.out).mono ?_
      rintro x w1 ⟨rfl, hb⟩
      have HA := Lib.hid (show Row w1 (w.heap.size + 1 + 1) 23 #[.int .i64 d2, .int .i64 a2, .int .i64 i2] from ((Row.made _ _ (by simp)).alloc _).below hb (by simp))
      have HG := Lib.hid (show Row w1 (w.heap.size + 1 + 1 + 1) 25 #[.int .i64 e2, .int .i64 c2] from (Row.made _ _ (by simp)).below hb (by simp))
      have HB := Lib.hid (below_call (((((Below.refl w.heap.size w).alloc (Nat.le_refl _) _).alloc (by simp) _).alloc (by simp; omega) _).alloc (by simp; omega) _) hb)
      obtain ⟨a0, a1, a2'⟩ := row3 HA.out
      obtain ⟨g0, g1⟩ := row2 HG.out
      clear hb
      go_wp2_with fail
      first
        | refine (seal_no d2 a2 i2 e2 c2 q _ H2.out).mono ?_
        | refine (seal_yes d2 a2 i2 e2 c2 q _ H2.out).mono ?_
      rintro x w2 ⟨rfl, hb⟩
      have HB2 := Lib.hid (below_call HB.out hb)
      clear hb a0 a1 a2' g0 g1
      go_wp2_with fail
      refine (sanity_any _).mono ?_
      rintro x w3 ⟨rfl, hb⟩
      have HB3 := Lib.hid (below_call HB2.out hb)
      clear hb
      go_wp2_with fail
      go_ret
      exact ⟨rfl, HB3.out⟩
set_option maxRecDepth 100000 in
set_option maxHeartbeats 6400000 in
theorem distinct_in (d a i e c d2 a2 i2 e2 c2 : Int) (p q : ByteArray) (w : World) (h : okS d a i e c p = true) (h2 : okS d2 a2 i2 e2 c2 q = true) :
    Calls Try.prog 6 #[.agg #[.int .i64 d, .int .i64 a, .int .i64 i], .agg #[.int .i64 e, .int .i64 c], .string p, .agg #[.int .i64 d2, .int .i64 a2, .int .i64 i2], .agg #[.int .i64 e2, .int .i64 c2], .string q] w fun x w' => x = .returned (.bool true) ∧ Below w.heap.size w w' := by
  have H1 := Lib.hid h
  have H2 := Lib.hid h2
  have hinj := seal_inj d a i e c d2 a2 i2 e2 c2 p q h h2
  have hp1 : p.size ≤ 40 := by simp only [okS, Bool.and_eq_true, decide_eq_true_eq] at h; exact h.2
  have hp2 : q.size ≤ 40 := by simp only [okS, Bool.and_eq_true, decide_eq_true_eq] at h2; exact h2.2
  obtain ⟨S, hS⟩ : ∃ S, sealOf d.toNat a.toNat i.toNat e.toNat c.toNat p.data.toList = S := ⟨_, rfl⟩
  obtain ⟨T, hT⟩ : ∃ T, sealOf d2.toNat a2.toNat i2.toNat e2.toNat c2.toNat q.data.toList = T := ⟨_, rfl⟩
  rw [hS, hT] at hinj
  obtain ⟨PA, hPA⟩ : ∃ x, strB (padL p.data.toList) = x := ⟨_, rfl⟩
  obtain ⟨PB, hPB⟩ : ∃ x, strB (padL q.data.toList) = x := ⟨_, rfl⟩
  obtain ⟨SB, hSB⟩ : ∃ b, ((strB S).toList == (strB T).toList) = b := ⟨_, rfl⟩
  obtain ⟨QB, hQB⟩ : ∃ b, (PA.toList == PB.toList) = b := ⟨_, rfl⟩
  have HSB := Lib.hid (show SB = decide (S = T) by rw [← hSB, str_beq2])
  have HQB := Lib.hid (show QB = decide (padL p.data.toList = padL q.data.toList) by rw [← hQB, ← hPA, ← hPB, str_beq2])
  have HI := Lib.hid hinj
  have HPA := Lib.hid hPA
  have HPB := Lib.hid hPB
  have HS := Lib.hid hS
  have HT := Lib.hid hT
  obtain ⟨SS, hSS⟩ : ∃ x, strB S = x := ⟨_, rfl⟩
  obtain ⟨TT, hTT⟩ : ∃ x, strB T = x := ⟨_, rfl⟩
  rw [hSS, hTT] at hSB
  have HSS := Lib.hid hSS
  have HTT := Lib.hid hTT
  have HEQ := Lib.hid (fun (he : d = d2 ∧ a = a2 ∧ i = i2 ∧ e = e2 ∧ c = c2) (hq : QB = true) => show SB = true by
    obtain ⟨rfl, rfl, rfl, rfl, rfl⟩ := he
    rw [HQB.out, decide_eq_true_eq] at hq
    rw [HSB.out, decide_eq_true_eq, ← hS, ← hT]; exact seal_pad _ _ _ _ _ _ _ hq)
  have HNE := Lib.hid (fun (hs : SB = true) => show d = d2 ∧ a = a2 ∧ i = i2 ∧ e = e2 ∧ c = c2 ∧ QB = true by
    rw [HSB.out, decide_eq_true_eq] at hs
    obtain ⟨g1, g2, g3, g4, g5, g6⟩ := hinj hs
    exact ⟨g1, g2, g3, g4, g5, by rw [HQB.out, decide_eq_true_eq]; exact g6⟩)
  clear h h2 hinj hPA hPB hS hT hSS hTT HSB HQB HI
  go_enter Try.func6, Try.ntmps6
  go_wp2_with fail
  refine (seal_yes d a i e c p _ H1.out).mono ?_
  rintro x w1 ⟨rfl, hb⟩
  rw [HS.out, HSS.out]
  have HP := Lib.hid (show Row w1 w.heap.size 23 #[.int .i64 d, .int .i64 a, .int .i64 i] from ((((Row.new w _ _).alloc _).alloc _).alloc _).below hb (by simp; omega))
  have HQ := Lib.hid (show Row w1 (w.heap.size + 1) 25 #[.int .i64 e, .int .i64 c] from (((Row.made _ _ (by simp)).alloc _).alloc _).below hb (by first | (simp; done) | (simp; omega)))
  have HA := Lib.hid (show Row w1 (w.heap.size + 1 + 1) 23 #[.int .i64 d2, .int .i64 a2, .int .i64 i2] from ((Row.made _ _ (by simp)).alloc _).below hb (by simp))
  have HG := Lib.hid (show Row w1 (w.heap.size + 1 + 1 + 1) 25 #[.int .i64 e2, .int .i64 c2] from (Row.made _ _ (by simp)).below hb (by simp))
  have HB := Lib.hid (below_call (((((Below.refl w.heap.size w).alloc (Nat.le_refl _) _).alloc (by simp) _).alloc (by simp; omega) _).alloc (by simp; omega) _) hb)
  obtain ⟨a0, a1, a2'⟩ := row3 HA.out
  obtain ⟨g0, g1⟩ := row2 HG.out
  clear hb
  go_wp2_with fail
  refine (seal_yes d2 a2 i2 e2 c2 q _ H2.out).mono ?_
  rintro x w2 ⟨rfl, hb⟩
  rw [HT.out, HTT.out]
  have HP := Lib.hid (HP.out.below hb HP.out.lt)
  have HQ := Lib.hid (HQ.out.below hb HQ.out.lt)
  have HA := Lib.hid (HA.out.below hb HA.out.lt)
  have HG := Lib.hid (HG.out.below hb HG.out.lt)
  have HB := Lib.hid (below_call HB.out hb)
  clear hb a0 a1 a2' g0 g1
  obtain ⟨a0, a1, a2'⟩ := row3 HA.out
  obtain ⟨g0, g1⟩ := row2 HG.out
  obtain ⟨b0, b1, b2⟩ := row3 HP.out
  obtain ⟨k0, k1⟩ := row2 HQ.out
  by_cases hE : d = d2 ∧ a = a2 ∧ i = i2 ∧ e = e2 ∧ c = c2
  · have heq := HEQ.out hE
    have hne := fun hs => (HNE.out hs).2.2.2.2.2
    have HV := Lib.hid (show SB = QB by
      cases hq : QB with
      | true => exact heq hq
      | false =>
        cases hs : SB with
        | false => rfl
        | true => exact absurd (hne hs) (by rw [hq]; simp))
    obtain ⟨rfl, rfl, rfl, rfl, rfl⟩ := hE
    clear heq hne HEQ HNE
    go_wp2_with fail
    refine (padded_any p _ hp1).mono ?_
    rintro x w3 ⟨rfl, hb⟩
    rw [HPA.out]
    have HB := Lib.hid (below_call HB.out hb)
    clear hb a0 a1 a2' g0 g1 b0 b1 b2 k0 k1
    go_wp2_with fail
    refine (padded_any q _ hp2).mono ?_
    rintro x w4 ⟨rfl, hb⟩
    rw [HPB.out]
    have HB := Lib.hid (below_call HB.out hb)
    clear hb
    go_wp2_with fail
    refine (sanity_any _).mono ?_
    rintro x w5 ⟨rfl, hb⟩
    have HB := Lib.hid (below_call HB.out hb)
    clear hb
    go_wp2_with fail
    all_goals go_ret
    all_goals exact ⟨by first | (rw [HV.out]; simp; done) | (have := HV.out; simp_all; done), HB.out⟩
  · have hsb : SB = false := by
      cases hs : SB with
      | false => rfl
      | true => have := HNE.out hs; exact absurd ⟨this.1, this.2.1, this.2.2.1, this.2.2.2.1, this.2.2.2.2.1⟩ hE
    subst hsb
    clear HEQ HNE
    go_wp2_with fail
    all_goals
      refine (sanity_any _).mono ?_
      rintro x w5 ⟨rfl, hb⟩
      have HB := Lib.hid (below_call HB.out hb)
      clear hb a0 a1 a2' g0 g1 b0 b1 b2 k0 k1
      go_wp2_with fail
      all_goals go_ret
      all_goals exact ⟨by simp, HB.out⟩
theorem walk_SectorDistinct (d a i e c : Int) (p : ByteArray) (d2 a2 i2 e2 c2 : Int) (q : ByteArray) (w : World) {A B : Prop} (hw1 : A) (hw2 : B) :
    Calls Try.prog 6 #[.agg #[.int .i64 d, .int .i64 a, .int .i64 i], .agg #[.int .i64 e, .int .i64 c], .string p, .agg #[.int .i64 d2, .int .i64 a2, .int .i64 i2], .agg #[.int .i64 e2, .int .i64 c2], .string q] w fun x w' => x = .returned (.bool true) ∧ Below w.heap.size w w' := by
  cases h : okS d a i e c p with
  | false => exact distinct_out d a i e c d2 a2 i2 e2 c2 p q w (.inl h)
  | true =>
    cases h2 : okS d2 a2 i2 e2 c2 q with
    | false => exact distinct_out d a i e c d2 a2 i2 e2 c2 p q w (.inr ⟨h, h2⟩)
    | true => exact distinct_in d a i e c d2 a2 i2 e2 c2 p q w h h2

/-! ### the frame: the arguments opened and shut -/
theorem contract_SectorDistinct (H : Type) (enc : TypeId × Value → H) (W : World) (base : Nat) (args : Array Value) (ds gs : List (DataW H)) (before : List MemPlace)
    (hval0 : ∀ (j : Nat) t v, Try.f6.params[j]? = some t → args[j]? = some v → Value.okWide Try.prog W .any base t v)
    (hW : DataW.Whole enc Try.prog Try.f6.params.toList Rows.sectorDistinctSpec.vars false W args.toList ds gs before) :
    Calls Try.prog 6 args W fun e W' => ∃ v, e = .returned v ∧ Rows.sectorDistinctSpec.post enc Try.prog Try.f6 false true false false W args v W' := by
  have hval : ∀ (j : Nat) t v, Try.f6.params[j]? = some t → args[j]? = some v → Value.okWide Try.prog W .any base t v := hval0
  have hW' := hW
  obtain ⟨p, q, hA0, hV, rfl, hfz, hnd⟩ := hW
  have hA : DataW.TrodAll enc Try.prog W 0 (fun _ => true) true Try.f6.params.toList args.toList ds p := hA0
  rw [Try.params6] at hA hval
  obtain ⟨v0, vs0, d0, ds0, p0, q0, hargs, rfl, rfl, h0, r0⟩ := trodAll_cons hA
  obtain ⟨v1, vs1, d1, ds1, p1, q1, rfl, rfl, rfl, h1, r1⟩ := trodAll_cons r0
  obtain ⟨v2, vs2, d2, ds2, p2, q2, rfl, rfl, rfl, h2, r2⟩ := trodAll_cons r1
  obtain ⟨v3, vs3, d3, ds3, p3, q3, rfl, rfl, rfl, h3, r3⟩ := trodAll_cons r2
  obtain ⟨v4, vs4, d4, ds4, p4, q4, rfl, rfl, rfl, h4, r4⟩ := trodAll_cons r3
  obtain ⟨v5, vs5, d5, ds5, p5, q5, rfl, rfl, rfl, h5, r5⟩ := trodAll_cons r4
  obtain ⟨rfl, rfl, rfl⟩ := trodAll_nil r5
  obtain rfl : args = #[v0, v1, v2, v3, v4, v5] := by cases args; simp_all
  obtain ⟨rfl, rfl⟩ := trodVars_none hV
  have k0 := h0
  have lt0 : ∀ x ∈ p0, x.block < W.heap.size := by obtain ⟨m, hm⟩ := k0; exact DataW.trod_lt m _ _ _ hm
  have k1 := h1
  have lt1 : ∀ x ∈ p1, x.block < W.heap.size := by obtain ⟨m, hm⟩ := k1; exact DataW.trod_lt m _ _ _ hm
  have k2 := h2
  have lt2 : ∀ x ∈ p2, x.block < W.heap.size := by obtain ⟨m, hm⟩ := k2; exact DataW.trod_lt m _ _ _ hm
  have k3 := h3
  have lt3 : ∀ x ∈ p3, x.block < W.heap.size := by obtain ⟨m, hm⟩ := k3; exact DataW.trod_lt m _ _ _ hm
  have k4 := h4
  have lt4 : ∀ x ∈ p4, x.block < W.heap.size := by obtain ⟨m, hm⟩ := k4; exact DataW.trod_lt m _ _ _ hm
  have k5 := h5
  have lt5 : ∀ x ∈ p5, x.block < W.heap.size := by obtain ⟨m, hm⟩ := k5; exact DataW.trod_lt m _ _ _ hm
  obtain ⟨cs0, rfl, _⟩ := okWide_struct Try.underlying23 (hval 0 23 v0 rfl rfl)
  obtain ⟨fuel0, hf0⟩ := h0
  obtain ⟨d0x, a0x, j0x, hcs0, hd0x, ha0x, hj0x⟩ := open_place hf0
  obtain rfl : cs0 = #[.int .i64 d0x, .int .i64 a0x, .int .i64 j0x] := by apply Array.toList_inj.1; simpa [Value.cells] using hcs0
  obtain ⟨cs1, rfl, _⟩ := okWide_struct Try.underlying25 (hval 1 25 v1 rfl rfl)
  obtain ⟨fuel1, hf1⟩ := h1
  obtain ⟨e1x, c1x, hcs1, he1x, hc1x⟩ := open_gen hf1
  obtain rfl : cs1 = #[.int .i64 e1x, .int .i64 c1x] := by apply Array.toList_inj.1; simpa [Value.cells] using hcs1
  obtain ⟨n2, rfl, rfl, rfl, w2⟩ := _root_.Go.ChangeMaps.open_string Try.underlying9 (hval 2 9 v2 rfl rfl) h2
  obtain ⟨cs3, rfl, _⟩ := okWide_struct Try.underlying23 (hval 3 23 v3 rfl rfl)
  obtain ⟨fuel3, hf3⟩ := h3
  obtain ⟨d3x, a3x, j3x, hcs3, hd3x, ha3x, hj3x⟩ := open_place hf3
  obtain rfl : cs3 = #[.int .i64 d3x, .int .i64 a3x, .int .i64 j3x] := by apply Array.toList_inj.1; simpa [Value.cells] using hcs3
  obtain ⟨cs4, rfl, _⟩ := okWide_struct Try.underlying25 (hval 4 25 v4 rfl rfl)
  obtain ⟨fuel4, hf4⟩ := h4
  obtain ⟨e4x, c4x, hcs4, he4x, hc4x⟩ := open_gen hf4
  obtain rfl : cs4 = #[.int .i64 e4x, .int .i64 c4x] := by apply Array.toList_inj.1; simpa [Value.cells] using hcs4
  obtain ⟨n5, rfl, rfl, rfl, w5⟩ := _root_.Go.ChangeMaps.open_string Try.underlying9 (hval 5 9 v5 rfl rfl) h5
  refine (walk_SectorDistinct d0x a0x j0x e1x c1x n2 d3x a3x j3x e4x c4x n5 W w2 w5).mono fun e W' ⟨he, bel⟩ => ?_
  subst he
  exact ⟨_, rfl, _, _, _, [], _, [], hW', trodAll_mk1 (shut_bool Try.underlying4 _), (trodAll_cons_mk (Below.trod laidOut (by kernel_rfl) (of_decide_eq_true (by kernel_rfl)) k0 bel lt0) (trodAll_cons_mk (Below.trod laidOut (by kernel_rfl) (of_decide_eq_true (by kernel_rfl)) k1 bel lt1) (trodAll_cons_mk (Below.trod laidOut (by kernel_rfl) (of_decide_eq_true (by kernel_rfl)) k2 bel lt2) (trodAll_cons_mk (Below.trod laidOut (by kernel_rfl) (of_decide_eq_true (by kernel_rfl)) k3 bel lt3) (trodAll_cons_mk (Below.trod laidOut (by kernel_rfl) (of_decide_eq_true (by kernel_rfl)) k4 bel lt4) (trodAll_cons_mk (Below.trod laidOut (by kernel_rfl) (of_decide_eq_true (by kernel_rfl)) k5 bel lt5) trodAll_mk0)))))), rfl, bel.frame _, fun h => by cases h⟩

set_option maxRecDepth 100000 in
theorem lifted_SectorDistinct (os : Os) (started : os.Started) (H : Type) (enc : TypeId × Value → H) :
    ReturnsInHanded {} Try.checked os 6 .any (Rows.sectorDistinctSpec.pre6 enc Try.prog Try.f6 Rows.sectorDistinctRow.domain false) (Rows.sectorDistinctSpec.post enc Try.prog Try.f6 false true false false) := by
  refine returnsInHanded_of_change (C := Try.checked) own started (by kernel_rfl) Try.func6
    (ChangeSpec.witness6 (enc := enc) (C := Try.checked) false ⟨#[], #[.agg #[.int .i64 0, .int .i64 0, .int .i64 0], .agg #[.int .i64 0, .int .i64 0], .string .empty, .agg #[.int .i64 0, .int .i64 0, .int .i64 0], .agg #[.int .i64 0, .int .i64 0], .string .empty], []⟩ 8 (by kernel_rfl) (by kernel_rfl) (by kernel_rfl) (by kernel_rfl)) ?_
  intro W base args ds gs before hval hW _ _
  exact contract_SectorDistinct H enc W base args ds gs before hval hW

theorem proved_SectorDistinct : Rows.SectorDistinctSaid :=
  OpenClaim.holds_of_wide 6 Try.f6 rfl rfl rfl rfl rfl rfl rfl ⟨rfl, rfl, rfl, rfl, rfl⟩ rfl rfl rfl rfl rfl (by kernel_rfl) Try.func6 (by kernel_rfl)
    (of_decide_eq_true (by kernel_rfl)) (by unfold Func.isWrapper; first | (rw [if_pos (by decide +kernel)]; kernel_rfl) | (rw [if_neg (by decide +kernel)]; exact ⟨rfl, rfl⟩))
    (fun os started H enc _ => lifted_SectorDistinct os started H enc)
end Go.Proofs.Ytdkkoogcaininaa
