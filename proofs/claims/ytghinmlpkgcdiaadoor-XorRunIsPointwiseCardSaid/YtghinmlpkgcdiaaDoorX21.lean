/- Schedules: the sanity example. -/
import Derived.Test.YtghinmlpkgcdiaaDoorX20
import Derived.Deep.Cut
namespace Go.Proofs.YtghinmlpkgcdiaaDoor
set_option linter.unusedSimpArgs false
set_option linter.unusedVariables false
open Go.RowKit Go.Lib

abbrev sanO : List (Int × Int) := (Xp.fin 16 [] (Xp.csets 8 [[1, 1], [1, 2]])).1
abbrev sanX : List Int := (Xp.fin 16 [] (Xp.csets 8 [[1, 1], [1, 2]])).2
theorem san_ok : Xp.okC 8 2 (intsOf [[1, 1], [1, 2]]) = true := by kernel_rfl
theorem san_len : sanO.length = 19 := by kernel_rfl
theorem san_lenX : sanX.length = 16 := by kernel_rfl
theorem san_okS : Xp.okS 8 2 2 sanO sanX = true := by kernel_rfl
theorem san_run : Xp.runOut 8 1 2 (Xp.regs (Xp.runIn 8 [⟨#[1]⟩, ⟨#[128]⟩]) (natO sanO)) sanX = [[129], [28]] := by kernel_rfl
theorem san_sets : (Xp.sets 16 (Xp.regs (Xp.inputs 16) (natO sanO)) sanX)[10]?.map List.length = some 3 := by kernel_rfl
theorem san_grid (w : World) (g1 g2 g3 : Nat) (h1 : Row w g1 3 #[.int .i64 1, .int .i64 1]) (h2 : Row w g2 3 #[.int .i64 1, .int .i64 2]) (h3 : Row w g3 27 #[.slice (some ⟨g1, 0, none⟩) 2 2, .slice (some ⟨g2, 0, none⟩) 2 2]) : Grid w w.heap.size (some ⟨g3, 0, none⟩) 2 (intsOf [[1, 1], [1, 2]]) := by
  refine ⟨rfl, fun i zs hz => ?_⟩
  rcases i with _ | _ | i
  · simp [intsOf] at hz
    subst hz
    exact ⟨g3, 0, _, 2, rfl, h3.lt, h3.cell 0, by decide, Rd.row h1 h1.lt fun j v hv => by rw [← hv, ← Array.getElem?_toList]; rfl⟩
  · simp [intsOf] at hz
    subst hz
    exact ⟨g3, 0, _, 2, rfl, h3.lt, h3.cell 1, by decide, Rd.row h2 h2.lt fun j v hv => by rw [← hv, ← Array.getElem?_toList]; rfl⟩
  · simp [intsOf] at hz
theorem san_comp (g : Nat) (w : World) (ht : Tab w) (h : Grid w w.heap.size (some ⟨g, 0, none⟩) 2 (intsOf [[1, 1], [1, 2]])) :
    Calls Tryd.prog 11 #[.agg (codC (.string ⟨#[]⟩) 8 2 (some ⟨g, 0, none⟩) 2 2 0)] w fun e w' => (∃ q k qx kx, e = .returned (.tuple #[schV 8 2 2 q 19 k qx 16 kx, .int .i64 0]) ∧ OpsR w' w.heap.size q 19 k sanO ∧ Own w' w.heap.size 3 qx 16 kx (ints sanX)) ∧ Below w.heap.size w w' := by
  have h9 := compile_yes (m := 8) (D := 2) (.inl rfl) (.string ⟨#[]⟩) (some ⟨g, 0, none⟩) 2 2 0 [[1, 1], [1, 2]] w ht h rfl (by decide) (by decide) (by decide) san_ok
  rw [show ((2 * 8 : Nat) : Int) = 16 from rfl, show (Xp.fin 16 [] (Xp.csets 8 [[1, 1], [1, 2]])).1.length = 19 from san_len] at h9
  exact h9
theorem san_runs (q : Option Addr) (k : Nat) (qx : Option Addr) (kx g B : Nat) (w : World) (ht : Tab w) (ho : OpsR w B q 19 k sanO) (hx : Own w B 3 qx 16 kx (ints sanX)) (hg : Row w g 9 #[.string ⟨#[1]⟩, .string ⟨#[128]⟩]) :
    Calls Tryd.prog 15 #[schV 8 2 2 q 19 k qx 16 kx, .slice (some ⟨g, 0, none⟩) 2 2] w fun e w' => (∃ q k, e = .returned (.tuple #[.slice q 2 k, .int .i64 0]) ∧ Own w' w.heap.size 9 q 2 k [.string ⟨#[129]⟩, .string ⟨#[28]⟩]) ∧ Below w.heap.size w w' := by
  have h9 := run_yes (m := 8) (D := 2) (.inl rfl) 2 q 19 k qx 16 kx 1 1 sanO sanX (some ⟨g, 0, none⟩) 2 [⟨#[1]⟩, ⟨#[128]⟩] w ht (by decide) san_len ho.rd san_lenX hx.rd hx.cap hx.le san_okS (by decide) rfl (Rd.row hg hg.lt fun j v hv => by rw [← hv, ← Array.getElem?_toList]; rfl) (by decide) rfl (by decide)
  rw [san_run] at h9
  exact h9
theorem san_setsR (q : Option Addr) (k : Nat) (qx : Option Addr) (kx B : Nat) (w : World) (ht : Tab w) (ho : OpsR w B q 19 k sanO) (hx : Own w B 3 qx 16 kx (ints sanX)) :
    Calls Tryd.prog 18 #[schV 8 2 2 q 19 k qx 16 kx] w fun e w' => (∃ g k q2 k2, e = .returned (.tuple #[.slice (some ⟨g, 0, none⟩) 16 k, .int .i64 0]) ∧ g < w'.heap.size ∧ w'.cell? ⟨g, 10, none⟩ = some (.slice q2 3 k2)) ∧ Below w.heap.size w w' := by
  have h9 := xsets_yes (m := 8) (.inl rfl) 2 2 q 19 k qx 16 kx 16 sanO sanX w ht (by decide) san_len ho.rd san_lenX hx.rd san_okS rfl (by decide) (by decide)
  refine h9.mono ?_
  rintro e w' ⟨⟨q3, k3, vs, rfl, hv, hf⟩, hb⟩
  obtain ⟨g, rfl, hg1, hg2, hc, _⟩ := hv.at_ (k := 10) (by decide)
  have hs := san_sets
  obtain ⟨l, hl, hl3⟩ := Option.map_eq_some_iff.1 hs
  obtain ⟨q2, k2, e2, _⟩ := hf.own 10 l hl
  rw [hl3] at e2
  exact ⟨⟨g, k3, q2, k2, rfl, hg2, hc.trans e2⟩, hb⟩

set_option maxRecDepth 100000 in
set_option maxHeartbeats 3200000 in
theorem sanity11_any (w : World) (ht : Tab w) :
    Calls Tryd.prog 10 #[] w fun e w' => e = .returned (.bool true) ∧ Below w.heap.size w w' := by
  have HT := Lib.hid ht
  clear ht
  go_enter Tryd.func10, Tryd.ntmps10
  go_upto_region 2 with fail
  obtain ⟨w1, hw1⟩ : ∃ w1, w1 = (((w.alloc (.cells #[.int .i64 1, .int .i64 1] 3)).alloc (.cells #[.int .i64 1, .int .i64 2] 3)).alloc (.cells #[.slice (some ⟨w.heap.size, 0, none⟩) 2 2, .slice (some ⟨w.heap.size + 1, 0, none⟩) 2 2] 27)).alloc (.cells #[.string ⟨#[]⟩, .int .i64 8, .int .i64 2, .slice (some ⟨w.heap.size + 1 + 1, 0, none⟩) 2 2, .int .i64 0] 26) := ⟨_, rfl⟩
  rw [← hw1]
  have HB1 := Lib.hid (show Below w.heap.size w w1 by rw [hw1]; exact ((((Below.refl _ w).alloc (Nat.le_refl _) _).alloc (by simp) _).alloc (by simp; omega) _).alloc (by simp; omega) _)
  have HG := Lib.hid (show Grid w1 w1.heap.size (some ⟨w.heap.size + 1 + 1, 0, none⟩) 2 (intsOf [[1, 1], [1, 2]]) from san_grid w1 w.heap.size (w.heap.size + 1) (w.heap.size + 1 + 1) (by rw [hw1]; exact (((Row.new w _ _).alloc _).alloc _).alloc _) (by rw [hw1]; exact ((Row.made _ _ (by simp)).alloc _).alloc _) (by rw [hw1]; exact (Row.made _ _ (by simp)).alloc _))
  have HC := Lib.hid (show Row w1 (w.heap.size + 1 + 1 + 1) 26 (codC (.string ⟨#[]⟩) 8 2 (some ⟨w.heap.size + 1 + 1, 0, none⟩) 2 2 0) by rw [hw1]; exact Row.made _ _ (by simp))
  clear hw1
  obtain ⟨c0, c1, c2, c3, c4⟩ := cbox HC.out
  go_wp2_with fail
  refine (san_comp (w.heap.size + 1 + 1) w1 (HT.out.next HB1.out) HG.out).mono ?_
  rintro e w2 ⟨⟨q, k, qx, kx, rfl, ho, hx⟩, hb⟩
  have HB2 := Lib.hid (below_call HB1.out hb)
  have HO := Lib.hid ho
  have HX := Lib.hid hx
  clear c0 c1 c2 c3 c4 ho hx hb HG HC
  unfold schV
  go_upto_region 3 with fail
  obtain ⟨w3, hw3⟩ : ∃ w3, w3 = w2.alloc (.cells (schC 8 2 2 q 19 k qx 16 kx) 30) := ⟨_, rfl⟩
  rw [← hw3]
  have HB3 := Lib.hid (show Below w.heap.size w w3 by rw [hw3]; exact HB2.out.alloc HB2.out.size _)
  have HO3 := Lib.hid (show OpsR w3 w1.heap.size q 19 k sanO by rw [hw3]; exact HO.out.kept fun g hg => Below.heap_alloc _ _ _ (HO.out.lt hg).2.1)
  have HX3 := Lib.hid (show Own w3 w1.heap.size 3 qx 16 kx (ints sanX) by rw [hw3]; exact HX.out.alloc _)
  have HS3 := Lib.hid (show Row w3 w2.heap.size 30 (schC 8 2 2 q 19 k qx 16 kx) by rw [hw3]; exact Row.new _ _ _)
  have hz3 : w2.heap.size < w3.heap.size := HS3.out.lt
  clear hw3
  obtain ⟨c0, c1, c2, c3, c4⟩ := sbox HS3.out
  go_wp2_with fail
  have HB4 := Lib.hid (HB3.out.alloc HB3.out.size (.cells #[.string ⟨#[1]⟩, .string ⟨#[128]⟩] 9))
  refine (san_runs q k qx kx w3.heap.size w1.heap.size _ (HT.out.next HB4.out) (HO3.out.kept fun g hg => Below.heap_alloc _ _ _ (HO3.out.lt hg).2.1) (HX3.out.alloc _) (Row.new _ _ _)).mono ?_
  rintro e w5 ⟨⟨qu, ku, rfl, hu⟩, hb⟩
  have HB5 := Lib.hid (below_call HB4.out hb)
  have HO5 := Lib.hid (show OpsR w5 w1.heap.size q 19 k sanO from HO3.out.kept fun g hg => (hb.block g (by have := (HO3.out.lt hg).2.1; simp; omega)).trans (Below.heap_alloc _ _ _ (HO3.out.lt hg).2.1))
  have HX5 := Lib.hid ((HX3.out.alloc (.cells #[.string ⟨#[1]⟩, .string ⟨#[128]⟩] 9)).below hb)
  have HS5 := Lib.hid ((HS3.out.alloc (.cells #[.string ⟨#[1]⟩, .string ⟨#[128]⟩] 9)).below hb (by simp; omega))
  have HU5 := Lib.hid hu
  clear c0 c1 c2 c3 c4 hb hu
  obtain ⟨c0, c1, c2, c3, c4⟩ := sbox HS5.out
  go_wp2_with fail
  refine (san_setsR q k qx kx w1.heap.size _ (HT.out.next HB5.out) HO5.out HX5.out).mono ?_
  rintro e w6 ⟨⟨gl, kl, q2, k2, rfl, hgl, hcl⟩, hb⟩
  have HB6 := Lib.hid (below_call HB5.out hb)
  have HS6 := Lib.hid (HS5.out.below hb HS5.out.lt)
  obtain ⟨gu, rfl, hgu1, hgu2, hu0, _⟩ := HU5.out.at_ (k := 0) (by decide)
  have hu1 := HU5.out.at_ (k := 1) (by decide)
  obtain ⟨gu', eg, _, _, hu1, _⟩ := hu1
  injection eg with eg
  injection eg with eg
  subst eg
  have hv0 : w6.cell? ⟨gu, 0, none⟩ = some (.string ⟨#[129]⟩) := (hb.cell (p := ⟨gu, 0, none⟩) hgu2).trans hu0
  have hv1 : w6.cell? ⟨gu, 1, none⟩ = some (.string ⟨#[28]⟩) := (hb.cell (p := ⟨gu, 1, none⟩) hgu2).trans hu1
  clear c0 c1 c2 c3 c4 hb hu0 hu1
  obtain ⟨c0, c1, c2, c3, c4⟩ := sbox HS6.out
  go_wp2
  go_ret
  exact ⟨rfl, HB6.out⟩
end Go.Proofs.YtghinmlpkgcdiaaDoor
