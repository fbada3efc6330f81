/- Schedules: the operations that compute each set, the plain words. -/
import Derived.Test.YtghinmlpkgcdiaaDoorXG
set_option linter.unusedVariables false
namespace Go.Proofs.YtghinmlpkgcdiaaDoor
namespace Xp

/-- one element more of a set: the first is taken as it is, each further one by an operation -/
def chStep (n : Int) (s : List (Int × Int) × Int) (x : Nat) : List (Int × Int) × Int := if 0 ≤ s.2 then (s.1 ++ [(s.2, (x : Int))], n + s.1.length) else (s.1, (x : Int))
def chain (n : Int) (ops : List (Int × Int)) (l : List Nat) : List (Int × Int) × Int := l.foldl (chStep n) (ops, -1)
theorem chain_snoc (n : Int) (ops : List (Int × Int)) (l : List Nat) (x : Nat) : chain n ops (l ++ [x]) = chStep n (chain n ops l) x := by
  unfold chain; rw [List.foldl_append]; rfl
theorem chain_take {n : Int} {ops : List (Int × Int)} {l : List Nat} {k x : Nat} (h : l[k]? = some x) : chain n ops (l.take (k + 1)) = chStep n (chain n ops (l.take k)) x := by
  rw [List.take_add_one, h]; exact chain_snoc _ _ _ _
theorem chStep_length (n : Int) (s : List (Int × Int) × Int) (x : Nat) : (chStep n s x).1.length ≤ s.1.length + 1 := by
  unfold chStep; split <;> simp
theorem chain_length (n : Int) (ops : List (Int × Int)) : ∀ (k : Nat) (l : List Nat), l.length = k → (chain n ops l).1.length ≤ ops.length + l.length := by
  intro k
  induction k with
  | zero => intro l hl; rw [List.length_eq_zero_iff.1 hl]; exact Nat.le_refl _
  | succ k ih =>
    intro l hl
    obtain ⟨x, hx⟩ : ∃ x, l[k]? = some x := ⟨_, List.getElem?_eq_getElem (by omega)⟩
    have e : l = l.take (k + 1) := (List.take_of_length_le (by omega)).symm
    rw [e, chain_take hx]
    have h1 := chStep_length n (chain n ops (l.take k)) x
    have h2 := ih (l.take k) (by rw [List.length_take]; omega)
    rw [List.length_take] at h2 ⊢
    omega
/-- all sets, one after the other -/
def fiStep (n : Int) (s : List (Int × Int) × List Int) (l : List Nat) : List (Int × Int) × List Int := ((chain n s.1 l).1, s.2 ++ [(chain n s.1 l).2])
def fin (n : Int) (ops : List (Int × Int)) (ls : List (List Nat)) : List (Int × Int) × List Int := ls.foldl (fiStep n) (ops, [])
theorem fin_take {n : Int} {ops : List (Int × Int)} {ls : List (List Nat)} {k : Nat} {l : List Nat} (h : ls[k]? = some l) : fin n ops (ls.take (k + 1)) = fiStep n (fin n ops (ls.take k)) l := by
  rw [List.take_add_one, h]
  unfold fin; rw [List.foldl_append]; rfl
def total : List (List Nat) → Nat
  | [] => 0
  | l :: ls => l.length + total ls
theorem total_take {ls : List (List Nat)} : ∀ {k : Nat} {l : List Nat}, ls[k]? = some l → total (ls.take (k + 1)) = total (ls.take k) + l.length := by
  induction ls with
  | nil => intro k l h; simp at h
  | cons a ls ih =>
    intro k l h
    cases k with
    | zero => simp at h; subst h; simp [total]
    | succ k =>
      rw [List.getElem?_cons_succ] at h
      have := ih h
      rw [List.take_succ_cons, List.take_succ_cons]
      show a.length + total _ = a.length + total _ + _
      omega
theorem total_take_le (ls : List (List Nat)) : ∀ k, total (ls.take k) ≤ total ls := by
  induction ls with
  | nil => intro k; simp [total]
  | cons a ls ih =>
    intro k
    cases k with
    | zero => simp [total]
    | succ k => rw [List.take_succ_cons]; show a.length + total _ ≤ a.length + total _; have := ih k; omega
theorem fin_length (n : Int) (ops : List (Int × Int)) (ls : List (List Nat)) : ∀ k, k ≤ ls.length → (fin n ops (ls.take k)).1.length ≤ ops.length + total (ls.take k) ∧ (fin n ops (ls.take k)).2.length = k
  | 0, _ => by simp [fin, total]
  | k + 1, hk => by
    obtain ⟨l, hl⟩ : ∃ l, ls[k]? = some l := ⟨_, List.getElem?_eq_getElem (by omega)⟩
    obtain ⟨h1, h2⟩ := fin_length n ops ls k (by omega)
    rw [fin_take hl, total_take hl]
    unfold fiStep
    have h3 := chain_length n (fin n ops (ls.take k)).1 _ l rfl
    exact ⟨by simp only; omega, by simp [h2]⟩
theorem fin_all (n : Int) (ops : List (Int × Int)) (ls : List (List Nat)) : fin n ops (ls.take ls.length) = fin n ops ls := by rw [List.take_of_length_le (Nat.le_refl _)]
end Xp
end Go.Proofs.YtghinmlpkgcdiaaDoor
