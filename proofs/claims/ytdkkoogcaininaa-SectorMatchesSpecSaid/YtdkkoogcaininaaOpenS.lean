/- Opening places and generations. -/
import Derived.Test.YtdkkoogcaininaaOpen
namespace Go.Proofs.Ytdkkoogcaininaa
set_option linter.unusedSimpArgs false
set_option linter.unusedVariables false
open Go.ChangeShapes Go.WideShapes Go.ChangeAt Go.RowKit Go.Deep

section
variable {H : Type} {enc : TypeId × Value → H} {P : Program} {w : World}
@[reducible] def vi (n : Int) : Value := .int .i64 n
def in64 (z : Int) : Prop := -9223372036854775808 ≤ z ∧ z ≤ 9223372036854775807
theorem open_ints_struct {fuel : Nat} {t : TypeId} {fs : Array Field} {cs : List Value} {x : DataW H × List MemPlace} (ht : P.underlying t = some (.struct fs)) (hc : P.cellsOf t = fs.size)
    (hf : ∀ i (h : i < fs.size), P.underlying fs[i].type = some (.int .i64) ∧ P.cellsOf fs[i].type = 1 ∧ fs[i].offset = i)
    (h : DataW.trod enc P w 0 (fun _ => true) true fuel t cs = some x) : ∃ zs : List Int, cs = zs.map vi ∧ zs.length = fs.size ∧ ∀ z ∈ zs, in64 z := by
  obtain ⟨xs, n, _, _, hl, hlen, hx⟩ := DataW.trod_struct ht h
  rw [hc] at hl
  have hv : ∀ v ∈ cs, v = vi (intOf v) ∧ in64 (intOf v) := by
    intro v hv
    obtain ⟨i, hi, e⟩ := List.getElem_of_mem hv
    have hi2 : i < fs.size := by omega
    obtain ⟨h1, h2, h3⟩ := hf i hi2
    have h4 := hx i fs[i] (Array.getElem?_eq_getElem hi2)
    rw [h2, h3, List.drop_eq_getElem_cons hi, List.take_succ_cons, List.take_zero, e, List.getElem?_eq_getElem (by omega)] at h4
    obtain ⟨k, e1, _, w1⟩ := DataW.trod_int h1 h4
    injection e1 with e1
    subst e1
    exact ⟨rfl, wf_i64 w1⟩
  refine ⟨cs.map intOf, ?_, by rw [List.length_map]; exact hl, ?_⟩
  · rw [List.map_map]
    conv => lhs; rw [← List.map_id cs]
    exact List.map_congr_left fun v hm => (hv v hm).1
  · intro z hz
    obtain ⟨v, hm, rfl⟩ := List.mem_map.1 hz
    exact (hv v hm).2
end
theorem place_fields : ∃ fs : Array Field, Try.prog.underlying 23 = some (.struct fs) ∧ fs.size = 3 ∧
    ∀ i (h : i < fs.size), Try.prog.underlying fs[i].type = some (.int .i64) ∧ Try.prog.cellsOf fs[i].type = 1 ∧ fs[i].offset = i := by
  refine ⟨_, Try.underlying23, rfl, ?_⟩
  intro i h
  have h6 : i < 3 := h
  match i, h, h6 with
  | 0, _, _ => exact ⟨Try.underlying3, by kernel_rfl, rfl⟩
  | 1, _, _ => exact ⟨Try.underlying3, by kernel_rfl, rfl⟩
  | 2, _, _ => exact ⟨Try.underlying3, by kernel_rfl, rfl⟩
  | n + 3, _, h6 => omega
theorem gen_fields : ∃ fs : Array Field, Try.prog.underlying 25 = some (.struct fs) ∧ fs.size = 2 ∧
    ∀ i (h : i < fs.size), Try.prog.underlying fs[i].type = some (.int .i64) ∧ Try.prog.cellsOf fs[i].type = 1 ∧ fs[i].offset = i := by
  refine ⟨_, Try.underlying25, rfl, ?_⟩
  intro i h
  have h6 : i < 2 := h
  match i, h, h6 with
  | 0, _, _ => exact ⟨Try.underlying3, by kernel_rfl, rfl⟩
  | 1, _, _ => exact ⟨Try.underlying3, by kernel_rfl, rfl⟩
  | n + 2, _, h6 => omega
section
variable {H : Type} {enc : TypeId × Value → H} {w : World}
theorem open_place {fuel : Nat} {cs : List Value} {x : DataW H × List MemPlace} (h : DataW.trod enc Try.prog w 0 (fun _ => true) true fuel 23 cs = some x) :
    ∃ d a i : Int, cs = [.int .i64 d, .int .i64 a, .int .i64 i] ∧ in64 d ∧ in64 a ∧ in64 i := by
  obtain ⟨fs, h1, h2, h3⟩ := place_fields
  obtain ⟨zs, rfl, hl, hz⟩ := open_ints_struct h1 (by rw [h2]; kernel_rfl) h3 h
  rw [h2] at hl
  match zs, hl with
  | [d, a, i], _ => exact ⟨d, a, i, rfl, hz d (by simp), hz a (by simp), hz i (by simp)⟩
theorem open_gen {fuel : Nat} {cs : List Value} {x : DataW H × List MemPlace} (h : DataW.trod enc Try.prog w 0 (fun _ => true) true fuel 25 cs = some x) :
    ∃ e c : Int, cs = [.int .i64 e, .int .i64 c] ∧ in64 e ∧ in64 c := by
  obtain ⟨fs, h1, h2, h3⟩ := gen_fields
  obtain ⟨zs, rfl, hl, hz⟩ := open_ints_struct h1 (by rw [h2]; kernel_rfl) h3 h
  rw [h2] at hl
  match zs, hl with
  | [e, c], _ => exact ⟨e, c, rfl, hz e (by simp), hz c (by simp)⟩
end
end Go.Proofs.Ytdkkoogcaininaa
