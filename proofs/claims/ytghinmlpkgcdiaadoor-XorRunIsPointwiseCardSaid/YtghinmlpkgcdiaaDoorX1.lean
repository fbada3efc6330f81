/- Schedules in memory; the number of inputs. -/
import Derived.Test.YtghinmlpkgcdiaaDoorXC
import Derived.Test.YtghinmlpkgcdiaaDoorXF
namespace Go.Proofs.YtghinmlpkgcdiaaDoor
set_option linter.unusedSimpArgs false
set_option linter.unusedVariables false
open Go.RowKit Go.Lib

/-- the cells of a schedule -/
abbrev schC (f d p : Int) (qo : Option Addr) (no ko : Nat) (qx : Option Addr) (nx kx : Nat) : Array Value := #[.int .i64 f, .int .i64 d, .int .i64 p, .slice qo no ko, .slice qx nx kx]
def schV (f d p : Int) (qo : Option Addr) (no ko : Nat) (qx : Option Addr) (nx kx : Nat) : Value := .agg (schC f d p qo no ko qx nx kx)
theorem sbox {w : World} {g : Nat} {t : TypeId} {f d p : Int} {qo : Option Addr} {no ko : Nat} {qx : Option Addr} {nx kx : Nat} (h : Row w g t (schC f d p qo no ko qx nx kx)) :
    w.cell? ⟨g, 0, none⟩ = some (.int .i64 f) ∧ w.cell? ⟨g, 1, none⟩ = some (.int .i64 d) ∧ w.cell? ⟨g, 2, none⟩ = some (.int .i64 p) ∧ w.cell? ⟨g, 3, none⟩ = some (.slice qo no ko) ∧ w.cell? ⟨g, 4, none⟩ = some (.slice qx nx kx) :=
  ⟨h.cell 0, h.cell 1, h.cell 2, h.cell 3, h.cell 4⟩
theorem schC_one (f d p : Int) (qo : Option Addr) (no ko : Nat) (qx : Option Addr) (nx kx : Nat) : (schC f d p qo no ko qx nx kx).all (·.oneCell') = true := by
  unfold schC; simp [Value.oneCell']
/-- the cells of a row of operations -/
def opsC (l : List (Int × Int)) : List Value := l.flatMap fun o => [.int .i64 o.1, .int .i64 o.2]
theorem opsC_length (l : List (Int × Int)) : (opsC l).length = l.length * 2 := by
  induction l with
  | nil => rfl
  | cons o l ih => unfold opsC at ih ⊢; rw [List.flatMap_cons, List.length_append, ih]; simp; omega
theorem opsC_get : ∀ (l : List (Int × Int)) (i : Nat) (o : Int × Int), l[i]? = some o → (opsC l)[i * 2]? = some (.int .i64 o.1) ∧ (opsC l)[i * 2 + 1]? = some (.int .i64 o.2)
  | [], i, o, h => by simp at h
  | x :: l, 0, o, h => by
    simp only [List.getElem?_cons_zero, Option.some.injEq] at h
    subst h
    exact ⟨rfl, rfl⟩
  | x :: l, i + 1, o, h => by
    rw [List.getElem?_cons_succ] at h
    obtain ⟨h1, h2⟩ := opsC_get l i o h
    have e : opsC (x :: l) = .int .i64 x.1 :: .int .i64 x.2 :: opsC l := rfl
    rw [e, show (i + 1) * 2 = i * 2 + 1 + 1 by omega, show i * 2 + 1 + 1 + 1 = (i * 2 + 1) + 1 + 1 from rfl, List.getElem?_cons_succ, List.getElem?_cons_succ, List.getElem?_cons_succ, List.getElem?_cons_succ]
    exact ⟨h1, h2⟩
theorem opsC_snoc (l : List (Int × Int)) (o : Int × Int) : opsC (l ++ [o]) = opsC l ++ [.int .i64 o.1, .int .i64 o.2] := by
  unfold opsC; rw [List.flatMap_append]; rfl
theorem Rd.op {w : World} {B : Nat} {a : Option Addr} {l : List (Int × Int)} (h : Rd w B a (opsC l)) {j : Nat} {o : Int × Int} (hj : l[j]? = some o) :
    ∃ b off, a = some ⟨b, off, none⟩ ∧ b < B ∧ w.cell? ⟨b, off + j * 2, none⟩ = some (.int .i64 o.1) ∧ w.cell? ⟨b, off + j * 2 + 1, none⟩ = some (.int .i64 o.2) := by
  obtain ⟨f0, f1⟩ := opsC_get l j o hj
  obtain ⟨b, off, e, hb, h0⟩ := h _ _ f0
  obtain ⟨b', off', e', _, h1⟩ := h _ _ f1
  rw [e] at e'
  injection e' with e'
  injection e' with e1 e2
  subst e1; subst e2
  exact ⟨b, off, e, hb, h0, by rw [Nat.add_assoc]; exact h1⟩

set_option maxRecDepth 100000 in
theorem inputs_any (f d p : Int) (o x : Value) (n : Int) (hn : IntKind.i64.wrap (d * f) = n) (w : World) :
    Calls Tryd.prog 33 #[.agg #[.int .i64 f, .int .i64 d, .int .i64 p, o, x]] w fun e w' => e = .returned (.int .i64 n) ∧ Below w.heap.size w w' := by
  go_enter Tryd.func33, Tryd.ntmps33
  go_wp2
  go_ret
  exact ⟨rfl, (Below.refl _ w).alloc (Nat.le_refl _) _⟩
end Go.Proofs.YtghinmlpkgcdiaaDoor
