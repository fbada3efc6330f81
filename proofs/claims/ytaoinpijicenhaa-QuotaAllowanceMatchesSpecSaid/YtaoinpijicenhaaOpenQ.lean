/- Opening claims and slices of claims. -/
import Derived.Test.YtaoinpijicenhaaOpen
import Derived.Test.YtaoinpijicenhaaQ4
namespace Go.Proofs.Ytaoinpijicenhaa
set_option linter.unusedSimpArgs false
set_option linter.unusedVariables false
open Go.ChangeShapes Go.WideShapes Go.ChangeAt Go.RowKit Go.Deep

section
variable {H : Type} {enc : TypeId × Value → H} {P : Program} {w : World}

def in64 (z : Int) : Prop := -9223372036854775808 ≤ z ∧ z ≤ 9223372036854775807
theorem open_ints_struct {fuel : Nat} {t : TypeId} {fs : Array Field} {cs : List Value} {x : DataW H × List MemPlace} (ht : P.underlying t = some (.struct fs)) (hc : P.cellsOf t = fs.size)
    (hf : ∀ i (h : i < fs.size), P.underlying fs[i].type = some (.int .i64) ∧ P.cellsOf fs[i].type = 1 ∧ fs[i].offset = i)
    (h : DataW.trod enc P w 0 (fun _ => true) true fuel t cs = some x) : ∃ zs : List Int, cs = zs.map vi ∧ zs.length = fs.size ∧ ∀ z ∈ zs, in64 z := by
  obtain ⟨xs, n, _, _, hl, hlen, hx⟩ := DataW.trod_struct ht h
  rw [hc] at hl
  have hv : ∀ v ∈ cs, v = vi (intOf v) ∧ in64 (intOf v) := by
    intro v hv
    obtain ⟨i, hi, e⟩ := List.getElem_of_mem hv
    have hi2 : i < fs.size := by omega
    obtain ⟨h1, h2, h3⟩ := hf i hi2
    have h4 := hx i fs[i] (Array.getElem?_eq_getElem hi2)
    rw [h2, h3, List.drop_eq_getElem_cons hi, List.take_succ_cons, List.take_zero, e, List.getElem?_eq_getElem (by omega)] at h4
    obtain ⟨k, e1, _, w1⟩ := DataW.trod_int h1 h4
    injection e1 with e1
    subst e1
    exact ⟨rfl, wf_i64 w1⟩
  refine ⟨cs.map intOf, ?_, by rw [List.length_map]; exact hl, ?_⟩
  · rw [List.map_map]
    conv => lhs; rw [← List.map_id cs]
    exact List.map_congr_left fun v hm => (hv v hm).1
  · intro z hz
    obtain ⟨v, hm, rfl⟩ := List.mem_map.1 hz
    exact (hv v hm).2
end

theorem claim_fields : ∃ fs : Array Field, Try.prog.underlying 23 = some (.struct fs) ∧ fs.size = 6 ∧
    ∀ i (h : i < fs.size), Try.prog.underlying fs[i].type = some (.int .i64) ∧ Try.prog.cellsOf fs[i].type = 1 ∧ fs[i].offset = i := by
  refine ⟨_, Try.underlying23, rfl, ?_⟩
  intro i h
  have h6 : i < 6 := h
  match i, h, h6 with
  | 0, _, _ => exact ⟨Try.underlying3, by kernel_rfl, rfl⟩
  | 1, _, _ => exact ⟨Try.underlying3, by kernel_rfl, rfl⟩
  | 2, _, _ => exact ⟨Try.underlying3, by kernel_rfl, rfl⟩
  | 3, _, _ => exact ⟨Try.underlying3, by kernel_rfl, rfl⟩
  | 4, _, _ => exact ⟨Try.underlying3, by kernel_rfl, rfl⟩
  | 5, _, _ => exact ⟨Try.underlying3, by kernel_rfl, rfl⟩
  | n + 6, _, h6 => omega
theorem claim_cells : Try.prog.cellsOf 23 = 6 := by kernel_rfl

def clOf : List Int → Cl
  | [g, s, b, r, v, n] => ⟨g, s, b, r, v, n⟩
  | _ => ⟨0, 0, 0, 0, 0, 0⟩
def cells6 (c : Cl) : List Value := [.int .i64 c.g, .int .i64 c.s, .int .i64 c.b, .int .i64 c.r, .int .i64 c.v, .int .i64 c.n]
section
variable {H : Type} {enc : TypeId × Value → H} {w : World}
theorem open_claim {fuel : Nat} {cs : List Value} {x : DataW H × List MemPlace} (h : DataW.trod enc Try.prog w 0 (fun _ => true) true fuel 23 cs = some x) :
    ∃ c : Cl, cs = cells6 c ∧ in64 c.g ∧ in64 c.s ∧ in64 c.b ∧ in64 c.r ∧ in64 c.v ∧ in64 c.n := by
  obtain ⟨fs, h1, h2, h3⟩ := claim_fields
  obtain ⟨zs, rfl, hl, hz⟩ := open_ints_struct h1 (by rw [claim_cells, h2]) h3 h
  rw [h2] at hl
  match zs, hl with
  | [g, s, b, r, v, n], _ => exact ⟨⟨g, s, b, r, v, n⟩, rfl, hz g (by simp), hz s (by simp), hz b (by simp), hz r (by simp), hz v (by simp), hz n (by simp)⟩
end

theorem flat_inv (cs : List Cl) : ∀ (n : Nat) (u : Value), (flat cs)[n]? = some u → ∃ c, cs[n / 6]? = some c ∧ (cells6 c)[n % 6]? = some u := by
  induction cs with
  | nil => intro n u h; simp [flat] at h
  | cons d ds ih =>
    intro n u h
    by_cases h6 : n < 6
    · refine ⟨d, by rw [Nat.div_eq_of_lt h6]; rfl, ?_⟩
      rw [Nat.mod_eq_of_lt h6]
      match n, h6, h with
      | 0, _, h => exact h
      | 1, _, h => exact h
      | 2, _, h => exact h
      | 3, _, h => exact h
      | 4, _, h => exact h
      | 5, _, h => exact h
      | k + 6, h6, _ => omega
    · obtain ⟨m, rfl⟩ : ∃ m, n = m + 6 := ⟨n - 6, by omega⟩
      have h' : (flat ds)[m]? = some u := h
      obtain ⟨c, h1, h2⟩ := ih m u h'
      refine ⟨c, ?_, ?_⟩
      · rw [Nat.add_div_right m (by decide : 0 < 6)]; exact h1
      · rw [Nat.add_mod_right]; exact h2
theorem add_add' (a : Addr) (m n : Nat) (v : Value) (w : World) (h : w.cell? ((a.add m).add n) = some v) : w.cell? (a.add (m + n)) = some v := by
  rw [← Addr.add_add]; exact h
section
variable {H : Type} {enc : TypeId × Value → H} {w : World}
theorem open_claims {fuel : Nat} {t : TypeId} {cs : List Value} {x : DataW H × List MemPlace} (ht : Try.prog.underlying t = some (.slice 23))
    (h : DataW.trod enc Try.prog w 0 (fun _ => true) true fuel t cs = some x) :
    ∃ (a : Option Addr) (len cap : Nat) (l : List Cl), cs = [.slice a len cap] ∧ l.length = len ∧ len ≤ cap ∧ cap ≤ maxLen ∧ Rd w w.heap.size a (flat l) := by
  rcases open_slice ht h with ⟨rfl, rfl⟩ | ⟨a, len, cap, m, n, D, Pl, rfl, _, hl, hm, hmm, rfl, hx⟩
  · exact ⟨none, 0, 0, [], rfl, rfl, Nat.le_refl _, by unfold maxLen; omega, Rd.nil _ _ _⟩
  · have hmc : m = cap := by simpa using hmm
    have hc : ∀ i, i < len → ∃ c : Cl, ∀ j u, (cells6 c)[j]? = some u → w.cell? (a.add (i * 6 + j)) = some u := by
      intro i hi
      obtain ⟨cs', h1, h2⟩ := hx i (by omega)
      rw [claim_cells] at h1
      obtain ⟨_, h3, h4⟩ := World.cells?_some h1
      obtain ⟨c, rfl, _⟩ := open_claim h2
      refine ⟨c, fun j u hu => ?_⟩
      have hj : j < 6 := by
        by_cases hj : j < 6
        · exact hj
        · rw [List.getElem?_eq_none (by simp [cells6]; omega)] at hu; cases hu
      exact add_add' a _ _ u w ((h4 j hj).trans hu)
    haveI : Inhabited Cl := ⟨⟨0, 0, 0, 0, 0, 0⟩⟩
    obtain ⟨C, hC⟩ := choose_lt (α := Cl) (p := fun i c => ∀ j u, (cells6 c)[j]? = some u → w.cell? (a.add (i * 6 + j)) = some u) hc
    refine ⟨some a, len, cap, (List.range len).map C, rfl, by simp, hl, hm, rd_of_cells fun i u hu => ?_⟩
    obtain ⟨c, h1, h2⟩ := flat_inv _ i u hu
    have hi : i / 6 < len := by
      by_cases hi : i / 6 < len
      · exact hi
      · rw [List.getElem?_eq_none (by simp; omega)] at h1; cases h1
    have e : c = C (i / 6) := by
      rw [List.getElem?_map, List.getElem?_range hi] at h1
      simpa using h1.symm
    subst e
    have := hC (i / 6) hi (i % 6) u h2
    have e2 : i / 6 * 6 + i % 6 = i := by omega
    rw [e2] at this
    exact this
end
end Go.Proofs.Ytaoinpijicenhaa
