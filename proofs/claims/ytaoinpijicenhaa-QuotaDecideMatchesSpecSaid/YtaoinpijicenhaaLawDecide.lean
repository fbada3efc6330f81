/- QuotaDecideMatchesSpec: for every claim and all numbers the law returns true, and its arguments read as they did. No condition. -/
import Derived.Test.YtaoinpijicenhaaQ12
import Derived.Test.YtaoinpijicenhaaQ14
import Derived.Deep.RegionHeld3
namespace Go.Proofs.Ytaoinpijicenhaa
set_option linter.unusedSimpArgs false
open Go.ChangeShapes Go.WideShapes Go.ChangeAt Go.RowKit
set_option linter.unusedVariables false

@[reducible] def inV (c : Cl) (x y a : Int) : Value := .agg #[.int .i64 c.g, .int .i64 c.s, .int .i64 c.b, .int .i64 c.r, .int .i64 c.v, .int .i64 c.n, .int .i64 x, .int .i64 y, .int .i64 a]
theorem row9 {w1 : World} {g : Nat} {x0 x1 x2 x3 x4 x5 x6 x7 x8 : Value} {t : TypeId} (hr : Row w1 g t #[x0, x1, x2, x3, x4, x5, x6, x7, x8]) :
    w1.cell? ⟨g, 0, none⟩ = some x0 ∧ w1.cell? ⟨g, 1, none⟩ = some x1 ∧ w1.cell? ⟨g, 2, none⟩ = some x2 ∧ w1.cell? ⟨g, 3, none⟩ = some x3 ∧ w1.cell? ⟨g, 4, none⟩ = some x4 ∧ w1.cell? ⟨g, 5, none⟩ = some x5 ∧
    w1.cell? ⟨g, 6, none⟩ = some x6 ∧ w1.cell? ⟨g, 7, none⟩ = some x7 ∧ w1.cell? ⟨g, 8, none⟩ = some x8 :=
  ⟨hr.cell 0, hr.cell 1, hr.cell 2, hr.cell 3, hr.cell 4, hr.cell 5, hr.cell 6, hr.cell 7, hr.cell 8⟩
theorem keepD {w4 wc wn : World} {b1 b2 b3 : Nat} {x0 x1 x2 x3 x4 x5 p q p2 q2 : Value} {t1 t2 t3 : TypeId} {C : Prop} (hc : Row w4 b1 t1 #[x0, x1, x2, x3, x4, x5]) (hg : Row w4 b2 t2 #[p, q]) (hh : Row w4 b3 t3 #[p2, q2])
    (h : C ∧ Below w4.heap.size w4 wc) (hb : Below wc.heap.size wc wn) :
    ((wn.cell? ⟨b1, 0, none⟩ = some x0 ∧ wn.cell? ⟨b1, 1, none⟩ = some x1 ∧ wn.cell? ⟨b1, 2, none⟩ = some x2 ∧ wn.cell? ⟨b1, 3, none⟩ = some x3 ∧ wn.cell? ⟨b1, 4, none⟩ = some x4 ∧ wn.cell? ⟨b1, 5, none⟩ = some x5 ∧
      wn.cell? ⟨b2, 0, none⟩ = some p ∧ wn.cell? ⟨b2, 1, none⟩ = some q ∧ wn.cell? ⟨b3, 0, none⟩ = some p2 ∧ wn.cell? ⟨b3, 1, none⟩ = some q2) ∧ Below w4.heap.size w4 wn) := by
  have hB := below_call h.2 hb
  have hc' := hc.below hB hc.lt
  have hg' := hg.below hB hg.lt
  have hh' := hh.below hB hh.lt
  exact ⟨⟨hc'.cell 0, hc'.cell 1, hc'.cell 2, hc'.cell 3, hc'.cell 4, hc'.cell 5, hg'.cell 0, hg'.cell 1, hh'.cell 0, hh'.cell 1⟩, hB⟩
set_option maxRecDepth 100000 in
theorem walk0_QuotaDecideMatchesSpec (c : Cl) (x y a : Int) (w : World) :
    Calls Try.prog 3 #[inV c x y a] w fun e w' => e = .returned (.bool true) ∧ Below w.heap.size w w' := by
  obtain ⟨g, s, b, r, v, n⟩ := c
  simp only [inV]
  go_enter Try.func3, Try.ntmps3
  go_wp2_with fail
  refine (sanity_any _).mono ?_
  rintro e w1 ⟨rfl, hb⟩
  have HI := Lib.hid (show Row w1 w.heap.size 25 _ from ((Row.new w _ _).below hb (by simp)))
  have HB := Lib.hid (below_call ((Below.refl w.heap.size w).alloc (Nat.le_refl _) _) hb)
  clear hb
  obtain ⟨c0, c1, c2, c3, c4, c5, c6, c7, c8⟩ := row9 HI.out
  have hlt : w.heap.size < w1.heap.size := HI.out.lt
  go_wp2_with fail
  obtain ⟨⟨p, q, e0⟩, hD⟩ : ∃ D, dec ⟨g, s, b, r, v, n⟩ x y a = D := ⟨_, rfl⟩
  have HD := Lib.hid hD
  clear hD
  refine (qdecide_any ⟨g, s, b, r, v, n⟩ x y a _).mono ?_
  rintro e w2 ⟨rfl, hb⟩
  rw [HD.out]
  have HI := Lib.hid ((HI.out.alloc _).below hb (by have := HI.out.lt; simp; omega))
  have HC := Lib.hid (show Row w2 w1.heap.size 23 _ from ((Row.new w1 _ _).below hb (by simp)))
  have HB := Lib.hid (below_call (HB.out.alloc HB.out.size _) hb)
  clear hb c0 c1 c2 c3 c4 c5 c6 c7 c8 hlt
  obtain ⟨c0, c1, c2, c3, c4, c5, c6, c7, c8⟩ := row9 HI.out
  obtain ⟨d0, d1, d2, d3, d4, d5⟩ := row6 HC.out
  have hlt : w.heap.size < w2.heap.size := HI.out.lt
  have hlt2 : w1.heap.size < w2.heap.size := HC.out.lt
  go_wp2_with fail
  refine (rdecide_any ⟨g, s, b, r, v, n⟩ x y a _).mono ?_
  rintro e w3 ⟨rfl, hb⟩
  rw [HD.out]
  have HG := Lib.hid (show Row w3 w2.heap.size 28 _ from ((Row.new w2 _ _).below hb (by simp)))
  have HC := Lib.hid ((HC.out.alloc _).below hb (by have := HC.out.lt; simp; omega))
  have HB := Lib.hid (below_call (HB.out.alloc HB.out.size _) hb)
  clear hb c0 c1 c2 c3 c4 c5 c6 c7 c8 d0 d1 d2 d3 d4 d5 hlt hlt2
  obtain ⟨d0, d1, d2, d3, d4, d5⟩ := row6 HC.out
  have g0 : w3.cell? ⟨w2.heap.size, 0, none⟩ = some (.int .i64 p) := HG.out.cell 0
  have g1 : w3.cell? ⟨w2.heap.size, 1, none⟩ = some (.int .i64 q) := HG.out.cell 1
  have hlt1 : w1.heap.size < w3.heap.size := HC.out.lt
  have hlt2 : w2.heap.size < w3.heap.size := HG.out.lt
  go_wp2_with fail
  obtain ⟨W, hW⟩ : ∃ W, W = w3.alloc (.cells #[.int .i64 p, .int .i64 q] 28) := ⟨_, rfl⟩
  have HH := Lib.hid (show Row W w3.heap.size 28 #[.int .i64 p, .int .i64 q] by rw [hW]; exact Row.new w3 _ _)
  have HG := Lib.hid (show Row W w2.heap.size 28 _ by rw [hW]; exact HG.out.alloc _)
  have HC := Lib.hid (show Row W w1.heap.size 23 _ by rw [hW]; exact HC.out.alloc _)
  have HB := Lib.hid (show Below w.heap.size w W by rw [hW]; exact HB.out.alloc HB.out.size _)
  rw [← hW]
  clear hW d0 d1 d2 d3 d4 d5 g0 g1 hlt1 hlt2
  have H0 := keepD HC.out HG.out HH.out (⟨trivial, Below.refl _ _⟩ : True ∧ Below W.heap.size W W) (Below.refl _ _)
  go_region_held3 (fun wn => (wn.cell? ⟨w1.heap.size, 0, none⟩ = some (.int .i64 g) ∧ wn.cell? ⟨w1.heap.size, 1, none⟩ = some (.int .i64 s) ∧ wn.cell? ⟨w1.heap.size, 2, none⟩ = some (.int .i64 b) ∧ wn.cell? ⟨w1.heap.size, 3, none⟩ = some (.int .i64 r) ∧ wn.cell? ⟨w1.heap.size, 4, none⟩ = some (.int .i64 v) ∧ wn.cell? ⟨w1.heap.size, 5, none⟩ = some (.int .i64 n) ∧
      wn.cell? ⟨w2.heap.size, 0, none⟩ = some (.int .i64 p) ∧ wn.cell? ⟨w2.heap.size, 1, none⟩ = some (.int .i64 q) ∧ wn.cell? ⟨w3.heap.size, 0, none⟩ = some (.int .i64 p) ∧ wn.cell? ⟨w3.heap.size, 1, none⟩ = some (.int .i64 q)) ∧ Below W.heap.size W wn) (first | exact HS | exact ⟨H0.1, below_drewN H0.2 1⟩) (first
    | (go_at_call 13; ((with_reducible refine (qvalid_any ⟨g, s, b, r, v, n⟩ _).mono ?_)); rintro e wn ⟨rfl, hb⟩; have HS := keepD HC.out HG.out HH.out (by assumption) hb)
    | (go_at_call 14; ((with_reducible refine (rvalid_any ⟨g, s, b, r, v, n⟩ _).mono ?_)); rintro e wn ⟨rfl, hb⟩; have HS := keepD HC.out HG.out HH.out (by assumption) hb)
    | (go_at_call 15; ((with_reducible refine (qover_any ⟨g, s, b, r, v, n⟩ _).mono ?_)); rintro e wn ⟨rfl, hb⟩; have HS := keepD HC.out HG.out HH.out (by assumption) hb)
    | (go_at_call 16; ((with_reducible refine (rover_any ⟨g, s, b, r, v, n⟩ _).mono ?_)); rintro e wn ⟨rfl, hb⟩; have HS := keepD HC.out HG.out HH.out (by assumption) hb)
    | (go_at_call 17; ((with_reducible refine (qneed_any ⟨g, s, b, r, v, n⟩ _).mono ?_)); rintro e wn ⟨rfl, hb⟩; have HS := keepD HC.out HG.out HH.out (by assumption) hb)
    | (go_at_call 18; ((with_reducible refine (rneed_any ⟨g, s, b, r, v, n⟩ _).mono ?_)); rintro e wn ⟨rfl, hb⟩; have HS := keepD HC.out HG.out HH.out (by assumption) hb))
  go_wp2_with fail
  go_ret
  exact ⟨by simp, below_call HB.out HS.2⟩
theorem walk_QuotaDecideMatchesSpec (c : Cl) (x y a : Int) (w : World) (hin : in64 c.g ∧ in64 c.s ∧ in64 c.b ∧ in64 c.r ∧ in64 c.v ∧ in64 c.n) (hx : in64 x) (hy : in64 y) (ha : in64 a) :
    Calls Try.prog 3 #[.agg (cells6 c ++ ([.int .i64 x, .int .i64 y, .int .i64 a] : List Value)).toArray] w fun e w' => e = .returned (.bool true) ∧ Below w.heap.size w w' := walk0_QuotaDecideMatchesSpec c x y a w

/-! ### the frame: the arguments opened and shut -/
theorem contract_QuotaDecideMatchesSpec (H : Type) (enc : TypeId × Value → H) (W : World) (base : Nat) (args : Array Value) (ds gs : List (DataW H)) (before : List MemPlace)
    (hval0 : ∀ (j : Nat) t v, Try.f3.params[j]? = some t → args[j]? = some v → Value.okWide Try.prog W .any base t v)
    (hW : DataW.Whole enc Try.prog Try.f3.params.toList Rows.quotaDecideMatchesSpecSpec.vars false W args.toList ds gs before) :
    Calls Try.prog 3 args W fun e W' => ∃ v, e = .returned v ∧ Rows.quotaDecideMatchesSpecSpec.post enc Try.prog Try.f3 false true false false W args v W' := by
  have hval : ∀ (j : Nat) t v, Try.f3.params[j]? = some t → args[j]? = some v → Value.okWide Try.prog W .any base t v := hval0
  have hW' := hW
  obtain ⟨p, q, hA0, hV, rfl, hfz, hnd⟩ := hW
  have hA : DataW.TrodAll enc Try.prog W 0 (fun _ => true) true Try.f3.params.toList args.toList ds p := hA0
  rw [Try.params3] at hA hval
  obtain ⟨v0, vs0, d0, ds0, p0, q0, hargs, rfl, rfl, h0, r0⟩ := trodAll_cons hA
  obtain ⟨rfl, rfl, rfl⟩ := trodAll_nil r0
  obtain rfl : args = #[v0] := by cases args; simp_all
  obtain ⟨rfl, rfl⟩ := trodVars_none hV
  have k0 := h0
  have lt0 : ∀ x ∈ p0, x.block < W.heap.size := by obtain ⟨m, hm⟩ := k0; exact DataW.trod_lt m _ _ _ hm
  obtain ⟨cs0, rfl, _⟩ := okWide_struct Try.underlying25 (hval 0 25 v0 rfl rfl)
  obtain ⟨fuel0, hf0⟩ := h0
  obtain ⟨c0, x0, y0, z0, hcs0, hin0, hx0, hy0, hz0⟩ := open_in hf0
  obtain rfl : cs0 = (cells6 c0 ++ ([.int .i64 x0, .int .i64 y0, .int .i64 z0] : List Value)).toArray := by apply Array.toList_inj.1; simpa [Value.cells] using hcs0
  refine (walk_QuotaDecideMatchesSpec c0 x0 y0 z0 W hin0 hx0 hy0 hz0).mono fun e W' ⟨he, bel⟩ => ?_
  subst he
  exact ⟨_, rfl, _, _, _, [], _, [], hW', trodAll_mk1 (shut_bool Try.underlying4 _), (trodAll_cons_mk (Below.trod laidOut (by kernel_rfl) (of_decide_eq_true (by kernel_rfl)) k0 bel lt0) trodAll_mk0), rfl, bel.frame _, fun h => by cases h⟩

set_option maxRecDepth 100000 in
theorem lifted_QuotaDecideMatchesSpec (os : Os) (started : os.Started) (H : Type) (enc : TypeId × Value → H) :
    ReturnsInHanded {} Try.checked os 3 .any (Rows.quotaDecideMatchesSpecSpec.pre6 enc Try.prog Try.f3 Rows.quotaDecideMatchesSpecRow.domain false) (Rows.quotaDecideMatchesSpecSpec.post enc Try.prog Try.f3 false true false false) := by
  refine returnsInHanded_of_change (C := Try.checked) own started (by kernel_rfl) Try.func3
    (ChangeSpec.witness6 (enc := enc) (C := Try.checked) false ⟨#[], #[.agg #[.int .i64 0, .int .i64 0, .int .i64 0, .int .i64 0, .int .i64 0, .int .i64 0, .int .i64 0, .int .i64 0, .int .i64 0]], []⟩ 8 (by kernel_rfl) (by kernel_rfl) (by kernel_rfl) (by kernel_rfl)) ?_
  intro W base args ds gs before hval hW _ _
  exact contract_QuotaDecideMatchesSpec H enc W base args ds gs before hval hW

theorem proved_QuotaDecideMatchesSpec : Rows.QuotaDecideMatchesSpecSaid :=
  OpenClaim.holds_of_wide 3 Try.f3 rfl rfl rfl rfl rfl rfl rfl ⟨rfl, rfl, rfl, rfl, rfl⟩ rfl rfl rfl rfl rfl (by kernel_rfl) Try.func3 (by kernel_rfl)
    (of_decide_eq_true (by kernel_rfl)) (by unfold Func.isWrapper; first | (rw [if_pos (by decide +kernel)]; kernel_rfl) | (rw [if_neg (by decide +kernel)]; exact ⟨rfl, rfl⟩))
    (fun os started H enc _ => lifted_QuotaDecideMatchesSpec os started H enc)
end Go.Proofs.Ytaoinpijicenhaa
