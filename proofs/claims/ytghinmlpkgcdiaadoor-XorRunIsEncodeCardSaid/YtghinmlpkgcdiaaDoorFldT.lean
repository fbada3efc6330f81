/- Fields: what a row's list of package variables gives, and a world for the witness. -/
import Derived.Test.YtghinmlpkgcdiaaDoorCards
import Derived.Test.YtghinmlpkgcdiaaDoorTie
import Derived.Test.YtghinmlpkgcdiaaDoorOpen
import Derived.Test.YtghinmlpkgcdiaaDoorG1
import Derived.Deep.DeepHandedRow
import Derived.Lib.LaidTab
namespace Go.Proofs.YtghinmlpkgcdiaaDoor
set_option linter.unusedSimpArgs false
set_option linter.unusedVariables false
open Go.ChangeShapes Go.WideShapes Go.ChangeAt Go.RowKit

theorem gTab : Tryd.prog.globalNamed "solvent/field.fields" = some 0 := by kernel_rfl
theorem gTabType : (Tryd.prog.globals[0]?).map (·.type) = some 115 := by kernel_rfl
theorem cellsTab : Tryd.prog.cellsOf 115 = 4 := by kernel_rfl
theorem cellsPar : Tryd.prog.cellsOf 114 = 2 := by kernel_rfl
theorem cellsInt : Tryd.prog.cellsOf 3 = 1 := by kernel_rfl
theorem und_par : ∃ f0 f1 : Field, Tryd.prog.underlying 114 = some (.struct #[f0, f1]) ∧ f0.type = 3 ∧ f1.type = 3 ∧ f0.offset = 0 ∧ f1.offset = 1 :=
  ⟨_, _, Tryd.underlying114, rfl, rfl, rfl, rfl⟩
set_option maxRecDepth 100000 in
theorem par_cells {H : Type} {enc : TypeId × Value → H} {w : World} {base fuel : Nat} {sp : Nat → Bool} {held : Bool} {cs : List Value} {a b : Int} {p : List MemPlace}
    (h : DataW.trod enc Tryd.prog w base sp held fuel 114 cs = some (.agg [.lit (.int .i64 a), .lit (.int .i64 b)], p)) : cs = [.int .i64 a, .int .i64 b] := by
  obtain ⟨f0, f1, hu, t0, t1, o0, o1⟩ := und_par
  obtain ⟨y0, y1, n, hx, hl, h0, h1⟩ := trod_struct2 hu h
  rw [t0, o0, cellsInt] at h0
  rw [t1, o1, cellsInt] at h1
  rw [cellsPar] at hl
  injection hx with hx1 hx2
  injection hx1 with hx1
  injection hx1 with e0 hx1
  injection hx1 with e1 _
  obtain ⟨z0, g0, k0, _⟩ := DataW.trod_int Tryd.underlying3 h0
  obtain ⟨z1, g1, k1, _⟩ := DataW.trod_int Tryd.underlying3 h1
  rw [k0] at e0
  rw [k1] at e1
  injection e0 with e0; injection e0 with _ e0
  injection e1 with e1; injection e1 with _ e1
  subst e0; subst e1
  match cs, hl with
  | [u, v], _ =>
    simp at g0 g1
    rw [g0, g1]
set_option maxRecDepth 100000 in
theorem tab_of {W : World} (h : laidMetH Tryd.prog [("solvent/field.fields", Rows.laid_solvent_field_fields)] W) : Tab W := by
  obtain ⟨ps, ⟨g', t', cs, fuel, p, q, hg', ht', hvar, hd, _, _⟩, _⟩ := h
  obtain rfl := Option.some.inj (gTab.symm.trans hg')
  obtain rfl := Option.some.inj (gTabType.symm.trans ht')
  obtain ⟨xs, m, he, hx0, hl, hn, hx⟩ := DataW.trod_array Tryd.underlying115 hd
  rw [cellsTab] at hl
  have hcs : cs.toList = fldV.toList := by
    match xs, hn with
    | [x0, x1], _ =>
      injection hx0 with e1 e2
      have e1 : [DataW.agg [DataW.lit (.int .i64 8), .lit (.int .i64 285)], .agg [.lit (.int .i64 16), .lit (.int .i64 69643)]] = [x0.1, x1.1] := by
        injection e1
      injection e1 with a0 e1
      injection e1 with a1 _
      have h0 := hx 0 (by omega)
      have h1 := hx 1 (by omega)
      simp only [List.getElem_cons_zero, List.getElem_cons_succ, cellsPar] at h0 h1
      have g0 := par_cells (p := x0.2) (by rw [h0, a0]; rfl)
      have g1 := par_cells (p := x1.2) (by rw [h1, a1]; rfl)
      generalize cs.toList = l at *
      match l, hl with
      | [c0, c1, c2, c3], _ =>
        simp at g0 g1
        obtain ⟨rfl, rfl⟩ := g0
        obtain ⟨rfl, rfl⟩ := g1
        rfl
  have hce : cs = fldV := Array.toList_inj.1 hcs
  subst hce
  unfold World.var? at hvar
  rw [gTab] at hvar
  simp only [Option.bind_some] at hvar
  split at hvar
  · rename_i cs t fr hg
    injection hvar with hvar
    subst hvar
    exact ⟨t, fr, hg⟩
  · cases hvar
/-- a world for the witness: the settled one, the table holding what its initialiser lays -/
noncomputable def laidWorld (os : Os) : World :=
  { World.holding Tryd.prog os ⟨#[], #[], []⟩ with heap := (World.holding Tryd.prog os ⟨#[], #[], []⟩).heap.modify 0 fun
      | .cells _ t frozen => .cells fldV t frozen
      | o => o }
theorem wf_u16 {n : Int} (h : (Lit.int .u16 n).wf = true) : 0 ≤ n ∧ n ≤ 65535 := by
  simpa [Lit.wf, IntKind.min, IntKind.max, IntKind.signed, IntKind.bits] using h
theorem wf_i32 {n : Int} (h : (Lit.int .i32 n).wf = true) : -2147483648 ≤ n ∧ n ≤ 2147483647 := by
  simpa [Lit.wf, IntKind.min, IntKind.max, IntKind.signed, IntKind.bits] using h
end Go.Proofs.YtghinmlpkgcdiaaDoor
