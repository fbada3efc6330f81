/- Opening slices of slices and of strings. -/
import Derived.Test.YtghinmlpkgcdiaaDoorOpen
namespace Go.Proofs.YtghinmlpkgcdiaaDoor
set_option linter.unusedSimpArgs false
set_option linter.unusedVariables false
open Go.ChangeShapes Go.WideShapes Go.ChangeAt Go.RowKit Go.Deep

section
variable {H : Type} {enc : TypeId × Value → H} {P : Program} {w : World}

/-- two lists, place by place -/
def Each (R : Value → DataW H → Prop) : List Value → List (DataW H) → Prop
  | [], [] => True
  | v :: vs, d :: ds => R v d ∧ Each R vs ds
  | _, _ => False
theorem each_of {R : Value → DataW H → Prop} {V : Nat → Value} {D : Nat → DataW H} (len : Nat) : ∀ s, (∀ i, s ≤ i → i < s + len → R (V i) (D i)) → Each R ((List.range' s len).map V) ((List.range' s len).map D) := by
  induction len with
  | zero => intro s _; exact True.intro
  | succ n ih =>
    intro s h
    rw [List.range'_succ]
    exact ⟨h s (Nat.le_refl _) (by omega), ih (s + 1) fun i h1 h2 => h i (by omega) (by omega)⟩

theorem open_list {fuel : Nat} {t e : TypeId} {cs : List Value} {x : DataW H × List MemPlace} (ht : P.underlying t = some (.slice e)) (hc : P.cellsOf e = 1)
    (h : DataW.trod enc P w 0 (fun _ => true) true fuel t cs = some x) :
    ∃ (a : Option Addr) (len cap : Nat) (xs : List Value) (ds : List (DataW H)), cs = [.slice a len cap] ∧ xs.length = len ∧ len ≤ cap ∧ cap ≤ maxLen ∧ Rd w w.heap.size a xs ∧ SliceOf x.1 len ∧
      Rows.uptoBulkAll ds + 1 ≤ Rows.uptoBulk x.1 ∧ Each (fun v d => ∃ n p, DataW.trod enc P w 0 (fun _ => true) true n e [v] = some (d, p)) xs ds := by
  rcases open_slice1 ht hc h with ⟨rfl, rfl⟩ | ⟨a, len, cap, m, n, V, D, Pl, rfl, _, hl, hm, hmm, rfl, hx⟩
  · exact ⟨none, 0, 0, [], [], rfl, rfl, Nat.le_refl _, by unfold maxLen; omega, Rd.nil _ _ _, .inl ⟨rfl, rfl⟩, by simp [Rows.uptoBulkAll, Rows.uptoBulk], True.intro⟩
  · have hmc : m = cap := by simpa using hmm
    have hr : List.range len = List.range' 0 len := List.range_eq_range'
    refine ⟨some a, len, cap, (List.range' 0 len).map V, (List.range' 0 len).map D, rfl, by simp, hl, hm, ?_, .inr ⟨_, _, rfl, by simp⟩, ?_, ?_⟩
    · apply rd_of_cells
      intro i u hu
      have hi : i < len := by
        by_cases h : i < len
        · exact h
        · rw [List.getElem?_eq_none (by simp; omega)] at hu; cases hu
      rw [(hx i (by omega)).1, ← hu]
      simp [hi]
    · simp only [Rows.uptoBulk]
      rw [← hr]; omega
    · exact each_of len 0 fun i _ hi => ⟨n, Pl i, (hx i (by omega)).2⟩

/-- a part: where it lies, its capacity, its bytes -/
def partv (p : Option Addr × Nat × List UInt8) : Value := .slice p.1 p.2.2.length p.2.1
def total : List (Option Addr × Nat × List UInt8) → Nat
  | [] => 0
  | p :: r => p.2.2.length + total r
theorem each_u8s {t e : TypeId} (ht : P.underlying t = some (.slice e)) (he : P.underlying e = some (.int .u8)) (hc : P.cellsOf e = 1) (xs : List Value) : ∀ (ds : List (DataW H)),
    Each (fun v d => ∃ n p, DataW.trod enc P w 0 (fun _ => true) true n t [v] = some (d, p)) xs ds →
    ∃ ps : List (Option Addr × Nat × List UInt8), xs = ps.map partv ∧ (∀ p ∈ ps, Rd w w.heap.size p.1 (p.2.2.map v8)) ∧ total ps + ps.length ≤ Rows.uptoBulkAll ds := by
  induction xs with
  | nil =>
    intro ds h
    exact ⟨[], rfl, (by intro p hp; cases hp), by simp [total]⟩
  | cons v xs ih =>
    intro ds h
    match ds, h with
    | d :: ds, h =>
      obtain ⟨⟨n, pl, h0⟩, h1⟩ := h
      obtain ⟨ps, rfl, h2, h3⟩ := ih ds h1
      obtain ⟨a, len, cap, bs, hcs, hl, _, _, hrd, hso⟩ := open_u8s ht he hc h0
      simp only [List.cons.injEq, and_true] at hcs
      have hb : len + 1 ≤ Rows.uptoBulk d := hso.bulk
      refine ⟨(a, cap, bs) :: ps, by rw [hcs, List.map_cons, partv, hl], ?_, ?_⟩
      · intro p hp
        rcases List.mem_cons.1 hp with rfl | hp
        · exact hrd
        · exact h2 p hp
      · simp only [total, List.length_cons, Rows.uptoBulkAll]; omega
end
end Go.Proofs.YtghinmlpkgcdiaaDoor
