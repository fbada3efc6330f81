/- Schedules: lists of bits of one's own, apart from one another. -/
import Derived.Test.YtghinmlpkgcdiaaDoorX13
import Derived.Test.YtghinmlpkgcdiaaDoorXJ
import Derived.BigRegion
namespace Go.Proofs.YtghinmlpkgcdiaaDoor
set_option linter.unusedSimpArgs false
set_option linter.unusedVariables false
open Go.RowKit Go.Lib

structure FamW (w : World) (B W : Nat) (vs : List Value) (ns : List Nat) : Prop where
  len : vs.length = ns.length
  own : ∀ (i n : Nat), ns[i]? = some n → ∃ q k, vs[i]? = some (.slice q W k) ∧ Own w B 85 q W k (wordsL W (Xp.word n))
  apart : ∀ (i j : Nat) (q q' : Option Addr) (k k' : Nat), i ≠ j → vs[i]? = some (.slice q W k) → vs[j]? = some (.slice q' W k') → Apart q q'
section
variable {w w' : World} {B W : Nat} {vs : List Value} {ns : List Nat}
theorem FamW.keeps (h : FamW w B W vs ns) (hk : Keeps 85 w w') : FamW w' B W vs ns :=
  ⟨h.len, fun i n hn => by obtain ⟨q, k, h1, h2⟩ := h.own i n hn; exact ⟨q, k, h1, h2.keeps hk⟩, h.apart⟩
theorem FamW.nil (w : World) (B W : Nat) : FamW w B W [] [] := ⟨rfl, fun i n h => by simp at h, fun i j q q' k k' _ h => by simp at h⟩
theorem FamW.drew (h : FamW w B W vs ns) : FamW w.drew B W vs ns := ⟨h.len, h.own, h.apart⟩
theorem FamW.regs (h : FamW w B W vs ns) : RegsOf w W vs ns :=
  ⟨h.len, fun i m hm => by
    obtain ⟨q, k, e, ho⟩ := h.own i m hm
    exact ⟨_, e, Bit.of_own ho (fun _ _ => rfl)⟩⟩
theorem FamW.mono (h : FamW w B W vs ns) {B' : Nat} (hB : B' ≤ B) : FamW w B' W vs ns :=
  ⟨h.len, fun i n hn => by obtain ⟨q, k, h1, h2⟩ := h.own i n hn; exact ⟨q, k, h1, h2.mono hB⟩, h.apart⟩
theorem FamW.snoc (h : FamW w B W vs ns) {q : Option Addr} {k n : Nat} (ho : Own w B 85 q W k (wordsL W (Xp.word n))) (hn : ∀ (j : Nat) (q2 : Option Addr) (k2 : Nat), vs[j]? = some (.slice q2 W k2) → Apart q2 q) : FamW w B W (vs ++ [.slice q W k]) (ns ++ [n]) := by
  refine ⟨by simp [h.len], fun j m hm => ?_, fun j1 j2 q1 q2 k1 k2 hij h1 h2 => ?_⟩
  · by_cases hj : j < ns.length
    · rw [List.getElem?_append_left hj] at hm
      obtain ⟨q2, k2, e2, ho2⟩ := h.own j m hm
      exact ⟨q2, k2, by rw [List.getElem?_append_left (by rw [h.len]; exact hj)]; exact e2, ho2⟩
    · rw [List.getElem?_append_right (by omega)] at hm
      by_cases e : j - ns.length = 0
      · rw [e] at hm
        simp only [List.getElem?_cons_zero, Option.some.injEq] at hm
        subst hm
        exact ⟨q, k, by rw [List.getElem?_append_right (by rw [h.len]; omega), h.len, e]; rfl, ho⟩
      · rw [List.getElem?_eq_none (by simp; omega)] at hm; cases hm
  · have hx : ∀ (j : Nat) (v : Value), (vs ++ [.slice q W k])[j]? = some v → vs[j]? = some v ∨ (j = vs.length ∧ v = .slice q W k) := fun j v hv => by
      by_cases hj : j < vs.length
      · rw [List.getElem?_append_left hj] at hv; exact .inl hv
      · rw [List.getElem?_append_right (by omega)] at hv
        by_cases e : j - vs.length = 0
        · rw [e] at hv
          simp only [List.getElem?_cons_zero, Option.some.injEq] at hv
          exact .inr ⟨by omega, hv.symm⟩
        · rw [List.getElem?_eq_none (by simp; omega)] at hv; cases hv
    rcases hx _ _ h1 with h3 | ⟨e1, h3⟩ <;> rcases hx _ _ h2 with h4 | ⟨e2, h4⟩
    · exact h.apart _ _ _ _ _ _ hij h3 h4
    · injection h4 with h4; subst h4; exact hn _ _ _ h3
    · injection h3 with h3; subst h3; exact (hn _ _ _ h4).symm
    · omega
theorem FamW.block (h : FamW w B W vs ns) {i : Nat} {q : Option Addr} {k : Nat} (hv : vs[i]? = some (.slice q W k)) {g : Nat} (hq : q = some ⟨g, 0, none⟩) : B ≤ g ∧ g < w.heap.size := by
  have hi : i < ns.length := by
    obtain ⟨h1, _⟩ := List.getElem?_eq_some_iff.1 hv
    rw [← h.len]; exact h1
  obtain ⟨q', k', e, ho⟩ := h.own i _ (List.getElem?_eq_getElem hi)
  rw [hv] at e
  injection e with e
  injection e with e1 _ _
  subst e1
  exact ho.lt hq
/-- one word of one list is written -/
theorem FamW.put (h : FamW w B W vs ns) {i n n' p v g k : Nat} (hn : ns[i]? = some n) (hv : vs[i]? = some (.slice (some ⟨g, 0, none⟩) W k)) (hp : p < W) (hw : ∀ p', Xp.word n' p' = if p' = p then v else Xp.word n p') :
    FamW (w.setCell ⟨g, p, none⟩ (.int .u64 (v : Int))) B W vs (ns.set i n') := by
  obtain ⟨hi, _⟩ := List.getElem?_eq_some_iff.1 hn
  refine ⟨by simp [h.len], fun j m hm => ?_, h.apart⟩
  rw [List.getElem?_set] at hm
  by_cases e : i = j
  · subst e
    rw [if_pos rfl, if_pos hi] at hm
    injection hm with hm
    subst hm
    obtain ⟨q0, k0, e0, ho0⟩ := h.own i n hn
    rw [hv] at e0
    injection e0 with e0
    injection e0 with e1 _ e2
    subst e1; subst e2
    refine ⟨_, _, hv, ?_⟩
    have := ho0.put hp (.int .u64 (v : Int))
    rw [wordsL_set] at this
    rwa [wordsL_congr (f' := Xp.word n')] at this
    intro p' _
    exact (hw p').symm
  · rw [if_neg e] at hm
    obtain ⟨q0, k0, e0, ho0⟩ := h.own j m hm
    exact ⟨q0, k0, e0, ho0.far (fun g2 hg2 eq => by
      have h9 := h.apart i j _ _ _ _ e hv e0 g rfl
      rw [hg2] at h9
      have eq2 : g2 = g := eq
      rw [eq2] at h9
      exact h9 rfl) _⟩
end
set_option maxRecDepth 100000 in
theorem make_lists (m : Nat) (hm : m ≤ 100000) (u : World) : (Instr.makeSlice 76 (.int .i64 (m : Int)) (.int .i64 (m : Int))).run Tryd.prog u =
    .ok (.slice (some ⟨u.heap.size, 0, none⟩) m m) (u.alloc (.cells (madeCells #[.slice none 0 0] m) 80)) := by
  obtain ⟨i0, hi, hz0, hz1, hz2⟩ := info_parts (show (Tryd.prog.info? 80).map (fun i => (i.zero, i.size, i.bytes)) = some (some (.slice none 0 0), 1, 24) by kernel_rfl)
  have h := run_make (P := Tryd.prog) u 76 80 i0 (.slice none 0 0) Tryd.underlying76 hi hz0 .i64 .i64 (m : Int) (m : Int) (by omega) (Int.le_refl _) (by rw [hz2]; omega) (by omega)
  have e : (m : Int).toNat = m := by omega
  rw [e] at h
  simpa [hz1, Value.cells] using h
end Go.Proofs.YtghinmlpkgcdiaaDoor
