/- QuotaInParts: for every claim and all numbers the law returns true, and its arguments read as they did. No condition. -/
import Derived.Test.YtaoinpijicenhaaQ12
import Derived.Test.YtaoinpijicenhaaQ14
import Derived.Deep.RegionHeld3
import Derived.Deep.RegionHeld3
namespace Go.Proofs.Ytaoinpijicenhaa
set_option linter.unusedSimpArgs false
open Go.ChangeShapes Go.WideShapes Go.ChangeAt Go.RowKit
set_option linter.unusedVariables false

@[reducible] def inV (c : Cl) (x y a : Int) : Value := .agg #[.int .i64 c.g, .int .i64 c.s, .int .i64 c.b, .int .i64 c.r, .int .i64 c.v, .int .i64 c.n, .int .i64 x, .int .i64 y, .int .i64 a]
theorem row9 {w1 : World} {g : Nat} {x0 x1 x2 x3 x4 x5 x6 x7 x8 : Value} {t : TypeId} (hr : Row w1 g t #[x0, x1, x2, x3, x4, x5, x6, x7, x8]) :
    w1.cell? ⟨g, 0, none⟩ = some x0 ∧ w1.cell? ⟨g, 1, none⟩ = some x1 ∧ w1.cell? ⟨g, 2, none⟩ = some x2 ∧ w1.cell? ⟨g, 3, none⟩ = some x3 ∧ w1.cell? ⟨g, 4, none⟩ = some x4 ∧ w1.cell? ⟨g, 5, none⟩ = some x5 ∧
    w1.cell? ⟨g, 6, none⟩ = some x6 ∧ w1.cell? ⟨g, 7, none⟩ = some x7 ∧ w1.cell? ⟨g, 8, none⟩ = some x8 :=
  ⟨hr.cell 0, hr.cell 1, hr.cell 2, hr.cell 3, hr.cell 4, hr.cell 5, hr.cell 6, hr.cell 7, hr.cell 8⟩

set_option maxRecDepth 100000 in
theorem parts_out (c : Cl) (x y a v s : Int) (w : World) (h : (dec c x y a).2.2 ≠ 0 ∨ ((dec c x y a).2.2 = 0 ∧ v < 0) ∨ ((dec c x y a).2.2 = 0 ∧ 0 ≤ v ∧ s < 0) ∨ ((dec c x y a).2.2 = 0 ∧ 0 ≤ v ∧ 0 ≤ s ∧ x < v) ∨ ((dec c x y a).2.2 = 0 ∧ 0 ≤ v ∧ 0 ≤ s ∧ v ≤ x ∧ y < s)) :
    Calls Try.prog 9 #[inV c x y a, .int .i64 v, .int .i64 s] w fun e w' => e = .returned (.bool true) ∧ Below w.heap.size w w' := by
  obtain ⟨⟨p, q, e0⟩, hD⟩ : ∃ D, dec c x y a = D := ⟨_, rfl⟩
  rw [hD] at h
  simp only at h
  have HD := Lib.hid hD
  clear hD
  obtain ⟨g, u, b, r, m, n⟩ := c
  simp only [inV]
  rcases h with h | ⟨h, h1⟩ | ⟨h, h1, h2⟩ | ⟨h, h1, h2, h3⟩ | ⟨h, h1, h2, h3, h4⟩
  case' inl => have hd : decide (e0 = 0) = false := by simpa using h
  all_goals
    (try subst h)
    go_enter Try.func9, Try.ntmps9
    go_wp2_with fail
    refine (sanity_any _).mono ?_
    rintro e w1 ⟨rfl, hb⟩
    have HI := Lib.hid (show Row w1 w.heap.size 25 _ from ((Row.new w _ _).below hb (by simp)))
    have HB := Lib.hid (below_call ((Below.refl w.heap.size w).alloc (Nat.le_refl _) _) hb)
    clear hb
    obtain ⟨c0, c1, c2, c3, c4, c5, c6, c7, c8⟩ := row9 HI.out
    have hlt : w.heap.size < w1.heap.size := HI.out.lt
    go_wp2_with fail
    refine (qdecide_any ⟨g, u, b, r, m, n⟩ x y a _).mono ?_
    rintro e w2 ⟨rfl, hb⟩
    rw [HD.out]
    have HI := Lib.hid ((HI.out.alloc _).below hb (by have := HI.out.lt; simp; omega))
    have HB := Lib.hid (below_call (HB.out.alloc HB.out.size _) hb)
    clear hb c0 c1 c2 c3 c4 c5 c6 c7 c8 hlt
    obtain ⟨c0, c1, c2, c3, c4, c5, c6, c7, c8⟩ := row9 HI.out
    have hlt : w.heap.size < w2.heap.size := HI.out.lt
    go_wp2_with fail
    all_goals go_ret
    all_goals exact ⟨rfl, HB.out.alloc HB.out.size _⟩
set_option maxHeartbeats 1600000 in
set_option maxRecDepth 100000 in
theorem parts_in (c : Cl) (x y a v s : Int) (w : World) (h : (dec c x y a).2.2 = 0) (hv : 0 ≤ v ∧ v ≤ x) (hs : 0 ≤ s ∧ s ≤ y) :
    Calls Try.prog 9 #[inV c x y a, .int .i64 v, .int .i64 s] w fun e w' => e = .returned (.bool true) ∧ Below w.heap.size w w' := by
  obtain ⟨k1, k2⟩ := parts h hv hs
  have HK := Lib.hid (dec_ok h)
  have HA := Lib.hid (dec_ok k1)
  obtain ⟨⟨p, q, e0⟩, hD⟩ : ∃ D, dec c x y a = D := ⟨_, rfl⟩
  obtain ⟨⟨p1, q1, e1⟩, hE⟩ : ∃ D, dec c v s a = D := ⟨_, rfl⟩
  rw [hD] at h k2
  rw [hE] at k1 k2
  simp only at h k1 k2
  subst h k1
  have HD := Lib.hid hD
  have HE := Lib.hid hE
  have hcm := okB_iff.1 HK.out.1
  have hx := HK.out.2.1
  have hy := HK.out.2.2.1
  have ha := HK.out.2.2.2.1
  have hq : -4398046511104 ≤ q1 ∧ q1 ≤ 4398046511104 ∧ 0 ≤ p1 + q1 ∧ p1 + q1 = v + s := by
    have h6 := HA.out.2.2.2.2.2
    rw [hE] at h6
    injection h6 with h6 h7
    injection h7 with h7 h8
    have e1 : exc (c.more v s) = max 0 (c.v + v - c.g) + max 0 (c.n + s - c.s) := rfl
    have e2 : exc c = max 0 (c.v - c.g) + max 0 (c.n - c.s) := rfl
    rw [e1, e2] at h6 h7
    omega
  have hq0 : -4398046511104 ≤ q ∧ q ≤ 4398046511104 ∧ p + q = x + y ∧ -8796093022208 ≤ p ∧ p ≤ 8796093022208 := by
    have h6 := HK.out.2.2.2.2.2
    rw [hD] at h6
    injection h6 with h6 h7
    injection h7 with h7 h8
    have e1 : exc (c.more x y) = max 0 (c.v + x - c.g) + max 0 (c.n + y - c.s) := rfl
    have e2 : exc c = max 0 (c.v - c.g) + max 0 (c.n - c.s) := rfl
    rw [e1, e2] at h6 h7
    omega
  obtain ⟨V, hV⟩ : ∃ V, IntKind.i64.wrap (c.v + v) = V := ⟨_, rfl⟩
  obtain ⟨N, hN⟩ : ∃ N, IntKind.i64.wrap (c.n + s) = N := ⟨_, rfl⟩
  have HM := Lib.hid (show c.more v s = ⟨c.g, c.s, c.b, c.r, V, N⟩ by
    rw [← hV, ← hN, IntWalk.i64_in _ (by omega), IntWalk.i64_in _ (by omega)]; rfl)
  rw [HM.out] at k2
  have K2 := Lib.hid k2
  obtain ⟨hv1, hv2⟩ := hv
  obtain ⟨hs1, hs2⟩ := hs
  obtain ⟨X, hX⟩ : ∃ X, X = x - v := ⟨_, rfl⟩
  obtain ⟨Y, hY⟩ : ∃ Y, Y = y - s := ⟨_, rfl⟩
  obtain ⟨Z, hZ⟩ : ∃ Z, Z = a - q1 := ⟨_, rfl⟩
  have wX : IntKind.i64.wrap (x - v) = X := by rw [hX]; exact IntWalk.i64_in _ (by omega)
  have wY : IntKind.i64.wrap (y - s) = Y := by rw [hY]; exact IntWalk.i64_in _ (by omega)
  have wZ : IntKind.i64.wrap (a - q1) = Z := by rw [hZ]; exact IntWalk.i64_in _ (by omega)
  rw [← hX, ← hY, ← hZ] at K2
  clear hcm hx hy ha HK HA hD hE k2 hX hY hZ
  obtain ⟨g, u, b, r, m, n⟩ := c
  simp only at hV hN
  simp only [inV]
  have t1 : decide (v < 0) = false := by simp; omega
  have t2 : decide (s < 0) = false := by simp; omega
  have t3 : decide (x < v) = false := by simp; omega
  have t4 : decide (y < s) = false := by simp; omega
  go_enter Try.func9, Try.ntmps9
  go_wp2_with fail
  refine (sanity_any _).mono ?_
  rintro e w1 ⟨rfl, hb⟩
  have HI := Lib.hid (show Row w1 w.heap.size 25 _ from ((Row.new w _ _).below hb (by simp)))
  have HB := Lib.hid (below_call ((Below.refl w.heap.size w).alloc (Nat.le_refl _) _) hb)
  clear hb
  obtain ⟨c0, c1, c2, c3, c4, c5, c6, c7, c8⟩ := row9 HI.out
  have hlt : w.heap.size < w1.heap.size := HI.out.lt
  go_wp2_with fail
  refine (qdecide_any ⟨g, u, b, r, m, n⟩ x y a _).mono ?_
  rintro e w2 ⟨rfl, hb⟩
  rw [HD.out]
  have HI := Lib.hid ((HI.out.alloc _).below hb (by have := HI.out.lt; simp; omega))
  have HC := Lib.hid (show Row w2 w1.heap.size 23 _ from ((Row.new w1 _ _).below hb (by simp)))
  have HB := Lib.hid (below_call (HB.out.alloc HB.out.size _) hb)
  clear hb c0 c1 c2 c3 c4 c5 c6 c7 c8 hlt
  obtain ⟨c0, c1, c2, c3, c4, c5, c6, c7, c8⟩ := row9 HI.out
  obtain ⟨d0, d1, d2, d3, d4, d5⟩ := row6 HC.out
  have hlt : w.heap.size < w2.heap.size := HI.out.lt
  have hlt2 : w1.heap.size < w2.heap.size := HC.out.lt
  go_wp2_with fail
  refine (qdecide_any ⟨g, u, b, r, m, n⟩ v s a _).mono ?_
  rintro e w3 ⟨rfl, hb⟩
  rw [HE.out]
  have HI := Lib.hid ((HI.out.alloc _).below hb (by have := HI.out.lt; simp; omega))
  have HC := Lib.hid ((HC.out.alloc _).below hb (by have := HC.out.lt; simp; omega))
  have HG := Lib.hid (show Row w3 w2.heap.size 28 _ from ((Row.new w2 _ _).below hb (by simp)))
  have HB := Lib.hid (below_call (HB.out.alloc HB.out.size _) hb)
  clear hb c0 c1 c2 c3 c4 c5 c6 c7 c8 d0 d1 d2 d3 d4 d5 hlt hlt2
  obtain ⟨c0, c1, c2, c3, c4, c5, c6, c7, c8⟩ := row9 HI.out
  obtain ⟨d0, d1, d2, d3, d4, d5⟩ := row6 HC.out
  have hlt : w.heap.size < w3.heap.size := HI.out.lt
  have hlt2 : w1.heap.size < w3.heap.size := HC.out.lt
  go_wp2_with fail
  obtain ⟨W, hW⟩ : ∃ W, W = (w3.alloc (.cells #[.int .i64 p1, .int .i64 q1] 28)).alloc (.cells #[.int .i64 g, .int .i64 u, .int .i64 b, .int .i64 r, .int .i64 V, .int .i64 N] 23) := ⟨_, rfl⟩
  have HH := Lib.hid (show Row W (w3.heap.size + 1) 23 #[.int .i64 g, .int .i64 u, .int .i64 b, .int .i64 r, .int .i64 V, .int .i64 N] by rw [hW]; exact Row.made _ _ (size1 _ _).symm)
  have HG1 := Lib.hid (show Row W w3.heap.size 28 #[.int .i64 p1, .int .i64 q1] by rw [hW]; exact (Row.new w3 _ _).alloc _)
  have HG := Lib.hid (show Row W w2.heap.size 28 #[.int .i64 p, .int .i64 q] by rw [hW]; exact (HG.out.alloc _).alloc _)
  have HI := Lib.hid (show Row W w.heap.size 25 _ by rw [hW]; exact (HI.out.alloc _).alloc _)
  have HB := Lib.hid (show Below w.heap.size w W by rw [hW]; exact (HB.out.alloc HB.out.size _).alloc (by have := HB.out.size; simp; omega) _)
  rw [← hW]
  clear hW c0 c1 c2 c3 c4 c5 c6 c7 c8 d0 d1 d2 d3 d4 d5 hlt hlt2 hV hN
  refine (qvalid_any ⟨g, u, b, r, V, N⟩ _).mono ?_
  rintro e w4 ⟨rfl, hb⟩
  have HH := Lib.hid (HH.out.below hb HH.out.lt)
  have HG := Lib.hid (HG.out.below hb HG.out.lt)
  have HG1 := Lib.hid (HG1.out.below hb HG1.out.lt)
  have HI := Lib.hid (HI.out.below hb HI.out.lt)
  have HB := Lib.hid (below_call HB.out hb)
  clear hb
  cases hv : okB ⟨g, u, b, r, V, N⟩ with
  | false =>
    clear hv
    go_wp2_with fail
    go_ret
    exact ⟨rfl, HB.out⟩
  | true =>
    obtain ⟨j1, j2, j3⟩ := K2.out hv
    clear hv K2
    obtain ⟨⟨p2, q2, e2⟩, hF⟩ : ∃ D, dec ⟨g, u, b, r, V, N⟩ X Y Z = D := ⟨_, rfl⟩
    rw [hF] at j1 j2 j3
    simp only at j1 j2 j3
    subst j1
    have HF := Lib.hid hF
    clear hF
    have wq : IntKind.i64.wrap (q1 + q2) = q := by rw [j2]; exact IntWalk.i64_in _ (by omega)
    have wp : IntKind.i64.wrap (p1 + p2) = p := by rw [j3]; exact IntWalk.i64_in _ (by omega)
    obtain ⟨c0, c1, c2, c3, c4, c5, c6, c7, c8⟩ := row9 HI.out
    obtain ⟨d0, d1, d2, d3, d4, d5⟩ := row6 HH.out
    have g0 : w4.cell? ⟨w3.heap.size, 0, none⟩ = some (.int .i64 p1) := HG1.out.cell 0
    have g1 : w4.cell? ⟨w3.heap.size, 1, none⟩ = some (.int .i64 q1) := HG1.out.cell 1
    clear t1 t2 t3 t4 hq hq0 hv1 hv2 hs1 hs2 j2 j3
    go_wp2_with fail
    refine (qdecide_any ⟨g, u, b, r, V, N⟩ X Y Z _).mono ?_
    rintro e w5 ⟨rfl, hb⟩
    rw [HF.out]
    have HG := Lib.hid (HG.out.below hb HG.out.lt)
    have HG1 := Lib.hid (HG1.out.below hb HG1.out.lt)
    have HB := Lib.hid (below_call HB.out hb)
    clear hb c0 c1 c2 c3 c4 c5 c6 c7 c8 d0 d1 d2 d3 d4 d5 g0 g1 wX wY wZ
    have g0 : w5.cell? ⟨w3.heap.size, 0, none⟩ = some (.int .i64 p1) := HG1.out.cell 0
    have g1 : w5.cell? ⟨w3.heap.size, 1, none⟩ = some (.int .i64 q1) := HG1.out.cell 1
    have g2 : w5.cell? ⟨w2.heap.size, 0, none⟩ = some (.int .i64 p) := HG.out.cell 0
    have g3 : w5.cell? ⟨w2.heap.size, 1, none⟩ = some (.int .i64 q) := HG.out.cell 1
    have hlt1 : w3.heap.size < w5.heap.size := HG1.out.lt
    have hlt2 : w2.heap.size < w5.heap.size := HG.out.lt
    go_wp2_with fail
    go_ret
    exact ⟨by simp, HB.out.alloc HB.out.size _⟩
theorem walk_QuotaInParts (c : Cl) (x y a v s : Int) (w : World) (hin : in64 c.g ∧ in64 c.s ∧ in64 c.b ∧ in64 c.r ∧ in64 c.v ∧ in64 c.n) (hx : in64 x) (hy : in64 y) (ha : in64 a) (hv1 : -9223372036854775808 ≤ v) (hv2 : v ≤ 9223372036854775807) (hs1 : -9223372036854775808 ≤ s) (hs2 : s ≤ 9223372036854775807) :
    Calls Try.prog 9 #[.agg (cells6 c ++ ([.int .i64 x, .int .i64 y, .int .i64 a] : List Value)).toArray, .int .i64 v, .int .i64 s] w fun e w' => e = .returned (.bool true) ∧ Below w.heap.size w w' := by
  by_cases h : (dec c x y a).2.2 = 0
  · by_cases h1 : v < 0
    · exact parts_out c x y a v s w (.inr (.inl ⟨h, h1⟩))
    · by_cases h2 : s < 0
      · exact parts_out c x y a v s w (.inr (.inr (.inl ⟨h, by omega, h2⟩)))
      · by_cases h3 : x < v
        · exact parts_out c x y a v s w (.inr (.inr (.inr (.inl ⟨h, by omega, by omega, h3⟩))))
        · by_cases h4 : y < s
          · exact parts_out c x y a v s w (.inr (.inr (.inr (.inr ⟨h, by omega, by omega, by omega, h4⟩))))
          · exact parts_in c x y a v s w h ⟨by omega, by omega⟩ ⟨by omega, by omega⟩
  · exact parts_out c x y a v s w (.inl h)

/-! ### the frame: the arguments opened and shut -/
theorem contract_QuotaInParts (H : Type) (enc : TypeId × Value → H) (W : World) (base : Nat) (args : Array Value) (ds gs : List (DataW H)) (before : List MemPlace)
    (hval0 : ∀ (j : Nat) t v, Try.f9.params[j]? = some t → args[j]? = some v → Value.okWide Try.prog W .any base t v)
    (hW : DataW.Whole enc Try.prog Try.f9.params.toList Rows.quotaInPartsSpec.vars false W args.toList ds gs before) :
    Calls Try.prog 9 args W fun e W' => ∃ v, e = .returned v ∧ Rows.quotaInPartsSpec.post enc Try.prog Try.f9 false true false false W args v W' := by
  have hval : ∀ (j : Nat) t v, Try.f9.params[j]? = some t → args[j]? = some v → Value.okWide Try.prog W .any base t v := hval0
  have hW' := hW
  obtain ⟨p, q, hA0, hV, rfl, hfz, hnd⟩ := hW
  have hA : DataW.TrodAll enc Try.prog W 0 (fun _ => true) true Try.f9.params.toList args.toList ds p := hA0
  rw [Try.params9] at hA hval
  obtain ⟨v0, vs0, d0, ds0, p0, q0, hargs, rfl, rfl, h0, r0⟩ := trodAll_cons hA
  obtain ⟨v1, vs1, d1, ds1, p1, q1, rfl, rfl, rfl, h1, r1⟩ := trodAll_cons r0
  obtain ⟨v2, vs2, d2, ds2, p2, q2, rfl, rfl, rfl, h2, r2⟩ := trodAll_cons r1
  obtain ⟨rfl, rfl, rfl⟩ := trodAll_nil r2
  obtain rfl : args = #[v0, v1, v2] := by cases args; simp_all
  obtain ⟨rfl, rfl⟩ := trodVars_none hV
  have k0 := h0
  have lt0 : ∀ x ∈ p0, x.block < W.heap.size := by obtain ⟨m, hm⟩ := k0; exact DataW.trod_lt m _ _ _ hm
  have k1 := h1
  have lt1 : ∀ x ∈ p1, x.block < W.heap.size := by obtain ⟨m, hm⟩ := k1; exact DataW.trod_lt m _ _ _ hm
  have k2 := h2
  have lt2 : ∀ x ∈ p2, x.block < W.heap.size := by obtain ⟨m, hm⟩ := k2; exact DataW.trod_lt m _ _ _ hm
  obtain ⟨cs0, rfl, _⟩ := okWide_struct Try.underlying25 (hval 0 25 v0 rfl rfl)
  obtain ⟨fuel0, hf0⟩ := h0
  obtain ⟨c0, x0, y0, z0, hcs0, hin0, hx0, hy0, hz0⟩ := open_in hf0
  obtain rfl : cs0 = (cells6 c0 ++ ([.int .i64 x0, .int .i64 y0, .int .i64 z0] : List Value)).toArray := by apply Array.toList_inj.1; simpa [Value.cells] using hcs0
  obtain ⟨n1, rfl, rfl, rfl, w1⟩ := open_int Try.underlying3 (hval 1 3 v1 rfl rfl) h1
  obtain ⟨n2, rfl, rfl, rfl, w2⟩ := open_int Try.underlying3 (hval 2 3 v2 rfl rfl) h2
  refine (walk_QuotaInParts c0 x0 y0 z0 n1 n2 W hin0 hx0 hy0 hz0 (wf_i64 w1).1 (wf_i64 w1).2 (wf_i64 w2).1 (wf_i64 w2).2).mono fun e W' ⟨he, bel⟩ => ?_
  subst he
  exact ⟨_, rfl, _, _, _, [], _, [], hW', trodAll_mk1 (shut_bool Try.underlying4 _), (trodAll_cons_mk (Below.trod laidOut (by kernel_rfl) (of_decide_eq_true (by kernel_rfl)) k0 bel lt0) (trodAll_cons_mk (Below.trod laidOut (by kernel_rfl) (of_decide_eq_true (by kernel_rfl)) k1 bel lt1) (trodAll_cons_mk (Below.trod laidOut (by kernel_rfl) (of_decide_eq_true (by kernel_rfl)) k2 bel lt2) trodAll_mk0))), rfl, bel.frame _, fun h => by cases h⟩

set_option maxRecDepth 100000 in
theorem lifted_QuotaInParts (os : Os) (started : os.Started) (H : Type) (enc : TypeId × Value → H) :
    ReturnsInHanded {} Try.checked os 9 .any (Rows.quotaInPartsSpec.pre6 enc Try.prog Try.f9 Rows.quotaInPartsRow.domain false) (Rows.quotaInPartsSpec.post enc Try.prog Try.f9 false true false false) := by
  refine returnsInHanded_of_change (C := Try.checked) own started (by kernel_rfl) Try.func9
    (ChangeSpec.witness6 (enc := enc) (C := Try.checked) false ⟨#[], #[.agg #[.int .i64 0, .int .i64 0, .int .i64 0, .int .i64 0, .int .i64 0, .int .i64 0, .int .i64 0, .int .i64 0, .int .i64 0], .int .i64 0, .int .i64 0], []⟩ 8 (by kernel_rfl) (by kernel_rfl) (by kernel_rfl) (by kernel_rfl)) ?_
  intro W base args ds gs before hval hW _ _
  exact contract_QuotaInParts H enc W base args ds gs before hval hW

theorem proved_QuotaInParts : Rows.QuotaInPartsSaid :=
  OpenClaim.holds_of_wide 9 Try.f9 rfl rfl rfl rfl rfl rfl rfl ⟨rfl, rfl, rfl, rfl, rfl⟩ rfl rfl rfl rfl rfl (by kernel_rfl) Try.func9 (by kernel_rfl)
    (of_decide_eq_true (by kernel_rfl)) (by unfold Func.isWrapper; first | (rw [if_pos (by decide +kernel)]; kernel_rfl) | (rw [if_neg (by decide +kernel)]; exact ⟨rfl, rfl⟩))
    (fun os started H enc _ => lifted_QuotaInParts os started H enc)
end Go.Proofs.Ytaoinpijicenhaa
