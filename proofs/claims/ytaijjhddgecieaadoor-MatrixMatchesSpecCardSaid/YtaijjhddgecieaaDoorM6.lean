/- Matrices: a valid matrix in memory, and its rows. -/
import Derived.Test.YtaijjhddgecieaaDoorM5
namespace Go.Proofs.YtaijjhddgecieaaDoor
set_option linter.unusedSimpArgs false
set_option linter.unusedVariables false
open Go.RowKit Go.Lib

/-- the slice at q, of room k, holds r rows of c elements: A -/
structure MatR (w : World) (B m r c : Nat) (q : Option Addr) (k : Nat) (A : Nat → Nat → Nat) : Prop where
  hm : Fld.IsM m
  hr : r ≤ 32
  hc : c ≤ 64
  cap : r * c ≤ k
  kle : k ≤ maxLen
  nil : q = none → k = 0
  ok : Mat.Ok m r c A
  cell : ∀ i j, i < r → j < c → ∃ g o, q = some ⟨g, o, none⟩ ∧ g < B ∧ w.cell? ⟨g, o + (i * c + j), none⟩ = some (.int .i64 (A i j : Int))
section
variable {w w' : World} {B m r c k : Nat} {q : Option Addr} {A : Nat → Nat → Nat}
theorem MatR.keep (h : MatR w B m r c q k A) (hk : ∀ b o, b < B → w'.cell? ⟨b, o, none⟩ = w.cell? ⟨b, o, none⟩) : MatR w' B m r c q k A :=
  ⟨h.hm, h.hr, h.hc, h.cap, h.kle, h.nil, h.ok, fun i j hi hj => by
    obtain ⟨g, o, e, hb, hc⟩ := h.cell i j hi hj
    exact ⟨g, o, e, hb, (hk _ _ hb).trans hc⟩⟩
theorem MatR.below (h : MatR w B m r c q k A) (hb : Below B w w') : MatR w' B m r c q k A := h.keep fun b o hl => hb.cell (p := ⟨b, o, none⟩) hl
theorem MatR.more (h : MatR w B m r c q k A) {B' : Nat} (hB : B ≤ B') : MatR w B' m r c q k A :=
  ⟨h.hm, h.hr, h.hc, h.cap, h.kle, h.nil, h.ok, fun i j hi hj => by
    obtain ⟨g, o, e, hb, hc⟩ := h.cell i j hi hj
    exact ⟨g, o, e, by omega, hc⟩⟩
theorem MatR.congr (h : MatR w B m r c q k A) {A' : Nat → Nat → Nat} (e : Mat.Eq r c A A') : MatR w B m r c q k A' :=
  ⟨h.hm, h.hr, h.hc, h.cap, h.kle, h.nil, fun i j hi hj => by rw [← e i j hi hj]; exact h.ok i j hi hj, fun i j hi hj => by rw [← e i j hi hj]; exact h.cell i j hi hj⟩
theorem MatR.of_cells {g : Nat} (h : Cells w g (r * c) (Mat.flat c A)) (hg : g < B) (hm : Fld.IsM m) (hr : r ≤ 32) (hc : c ≤ 64) (ok : Mat.Ok m r c A) : MatR w B m r c (some ⟨g, 0, none⟩) (r * c) A :=
  ⟨hm, hr, hc, Nat.le_refl _, by have : r * c ≤ 32 * 64 := Nat.mul_le_mul hr hc; unfold maxLen; omega, (fun e => by cases e), ok, fun i j hi hj => ⟨g, 0, rfl, hg, by
    rw [Nat.zero_add, h.cell (Mat.at_lt hi hj), Mat.flat_at _ _ hj]⟩⟩
end
/-- the cells, row after row, as integers -/
def cellsL (r c : Nat) (A : Nat → Nat → Nat) : List Int := (List.range (r * c)).map fun p => (Mat.flat c A p : Int)
theorem cellsL_length (r c : Nat) (A : Nat → Nat → Nat) : (cellsL r c A).length = r * c := by simp [cellsL]
theorem cellsL_get (r c : Nat) (A : Nat → Nat → Nat) {p : Nat} (h : p < r * c) : (cellsL r c A)[p]? = some (Mat.flat c A p : Int) := by simp [cellsL, h]
theorem cellsL_inj {r c : Nat} {A A' : Nat → Nat → Nat} : cellsL r c A = cellsL r c A' ↔ Mat.Eq r c A A' := by
  constructor
  · intro h i j hi hj
    have h1 := cellsL_get r c A (Mat.at_lt hi hj)
    rw [h, cellsL_get r c A' (Mat.at_lt hi hj), Mat.flat_at _ _ hj, Mat.flat_at _ _ hj] at h1
    injection h1 with h1
    omega
  · intro h
    unfold cellsL
    apply List.map_congr_left
    intro p hp
    rw [Mat.flat_congr h p (List.mem_range.1 hp)]
theorem MatR.rd {w : World} {B m r c k : Nat} {q : Option Addr} {A : Nat → Nat → Nat} (h : MatR w B m r c q k A) : Rd w B q (ints (cellsL r c A)) := fun p u hu => by
  have hp : p < r * c := by
    by_cases hlt : p < r * c
    · exact hlt
    · rw [ints, List.getElem?_map, List.getElem?_eq_none (by rw [cellsL_length]; omega)] at hu; cases hu
  rw [ints, List.getElem?_map, cellsL_get r c A hp] at hu
  injection hu with hu
  subst hu
  obtain ⟨h1, h2, h3⟩ := Mat.flat_split hp
  obtain ⟨g, o, e, hb, hc⟩ := h.cell _ _ h1 h2
  rw [← h3] at hc
  exact ⟨g, o, e, hb, hc⟩
theorem okMat_of {m r c : Nat} {A : Nat → Nat → Nat} (hm : Fld.IsM m) (hr : r ≤ 32) (hc : c ≤ 32) (ok : Mat.Ok m r c A) : okMat m r c (cellsL r c A) = true := by
  unfold okMat
  rw [okM_iff.2 ⟨m, hm, rfl⟩, sizes_ok (by omega), cellsL_length]
  have : (cellsL r c A).any (badE ((m : Int).toNat)) = false := by
    rw [List.any_eq_false]
    intro x hx
    unfold cellsL at hx
    obtain ⟨p, hp, rfl⟩ := List.mem_map.1 hx
    rw [List.mem_range] at hp
    obtain ⟨h1, h2, h3⟩ := Mat.flat_split hp
    have h4 := ok _ _ h1 h2
    rw [show ((m : Int).toNat) = m from by omega]
    have : badE m ((Mat.flat c A p : Nat) : Int) = false := badE_false.2 ⟨by omega, by
      have h5 : Mat.flat c A p < 2 ^ m := h4
      exact_mod_cast h5⟩
    rw [this]; simp
  rw [this]
  simp
theorem okMat_get {m r c : Int} {xs : List Int} (h : okMat m r c xs = true) : ∃ (m' r' c' : Nat) (A : Nat → Nat → Nat), m = m' ∧ r = r' ∧ c = c' ∧ Fld.IsM m' ∧ r' ≤ 32 ∧ c' ≤ 32 ∧ Mat.Ok m' r' c' A ∧ xs = cellsL r' c' A := by
  unfold okMat sizesOk at h
  simp only [Bool.and_eq_true, decide_eq_true_eq, Bool.not_eq_true'] at h
  obtain ⟨⟨⟨h1, ⟨⟨h2, h3⟩, h4⟩, h5⟩, h6⟩, h7⟩ := h
  obtain ⟨m', hm, rfl⟩ := okM_iff.1 h1
  obtain ⟨r', rfl⟩ : ∃ r' : Nat, r = r' := ⟨r.toNat, by omega⟩
  obtain ⟨c', rfl⟩ : ∃ c' : Nat, c = c' := ⟨c.toNat, by omega⟩
  have hl : xs.length = r' * c' := by
    rw [← Int.natCast_mul] at h6
    exact Int.ofNat.inj h6
  rw [show ((m' : Int).toNat) = m' from by omega] at h7
  rw [List.any_eq_false] at h7
  have hx : ∀ p (hp : p < r' * c'), ∃ y : Nat, xs[p]? = some (y : Int) ∧ y < 2 ^ m' := by
    intro p hp
    have e := List.getElem?_eq_getElem (l := xs) (i := p) (by omega)
    have hb := h7 _ (List.getElem_mem (l := xs) (n := p) (by omega))
    rw [Bool.not_eq_true, badE_false] at hb
    refine ⟨(xs[p]).toNat, by rw [e]; congr 1; omega, ?_⟩
    have h9 : (((xs[p]).toNat : Nat) : Int) < ((2 ^ m' : Nat) : Int) := by
      rw [show (((xs[p]).toNat : Nat) : Int) = xs[p] by omega]
      exact_mod_cast hb.2
    exact_mod_cast h9
  refine ⟨m', r', c', fun i j => (xs[i * c' + j]?.getD 0).toNat, rfl, rfl, rfl, hm, by omega, by omega, ?_, ?_⟩
  · intro i j hi hj
    obtain ⟨y, hy, hlt⟩ := hx _ (Mat.at_lt hi hj)
    show (xs[i * c' + j]?.getD 0).toNat < 2 ^ m'
    rw [hy]; simpa using hlt
  · apply List.ext_getElem?
    intro p
    by_cases hp : p < r' * c'
    · obtain ⟨y, hy, _⟩ := hx p hp
      rw [cellsL_get _ _ _ hp, hy]
      unfold Mat.flat
      obtain ⟨_, _, h3⟩ := Mat.flat_split hp
      show some (y : Int) = some (((xs[p / c' * c' + p % c']?.getD 0).toNat : Nat) : Int)
      rw [← h3, hy]; simp
    · rw [List.getElem?_eq_none (by omega), List.getElem?_eq_none (by rw [cellsL_length]; omega)]
theorem MatR.of_rd {w : World} {B m r c k : Nat} {q : Option Addr} {A : Nat → Nat → Nat} (h : Rd w B q (ints (cellsL r c A))) (hm : Fld.IsM m) (hr : r ≤ 32) (hc : c ≤ 64) (ok : Mat.Ok m r c A) (cap : r * c ≤ k) (kle : k ≤ maxLen) (nil : q = none → k = 0) : MatR w B m r c q k A :=
  ⟨hm, hr, hc, cap, kle, nil, ok, fun i j hi hj => h (i * c + j) (.int .i64 (A i j : Int)) (by rw [ints, List.getElem?_map, cellsL_get _ _ _ (Mat.at_lt hi hj), Mat.flat_at _ _ hj]; rfl)⟩

/-- the slice at q holds x 0 .. x (n - 1) -/
def RowR (w : World) (B : Nat) (q : Option Addr) (n : Nat) (x : Nat → Nat) : Prop := ∀ j, j < n → ∃ g o, q = some ⟨g, o, none⟩ ∧ g < B ∧ w.cell? ⟨g, o + j, none⟩ = some (.int .i64 (x j : Int))
theorem mrow_any {w0 : World} {B m r c k : Nat} {q : Option Addr} {A : Nat → Nat → Nat} (h : MatR w0 B m r c q k A) (i : Nat) (hi : i < r) (w : World) :
    Calls Tryd.prog 36 #[matV m r c q (r * c) k, .int .i64 (i : Int)] w fun e w' => ∃ q' k', e = .returned (.slice q' c k') ∧ k' ≤ maxLen ∧ c ≤ k' ∧ (0 < c → ∃ g o, q = some ⟨g, o, none⟩ ∧ q' = some ⟨g, o + i * c, none⟩) ∧ Below w.heap.size w w' := by
  have hcm := h.kle
  unfold maxLen at hcm
  unfold matV
  rcases Nat.eq_zero_or_pos c with rfl | hpos
  · cases q with
    | none =>
      have hk := h.nil rfl
      subst hk
      refine (row6_nil (m : Int) r i (by have := h.hr; omega) hi w).mono ?_
      rintro e w' ⟨⟨q', k', rfl, hk⟩, hb⟩
      exact ⟨q', k', rfl, hk, Nat.zero_le _, fun h => absurd h (Nat.lt_irrefl _), hb⟩
    | some ad =>
      refine (row6_empty (m : Int) r i (by have := h.hr; omega) hi ad k hcm w).mono ?_
      rintro e w' ⟨⟨q', k', rfl, hk⟩, hb⟩
      exact ⟨q', k', rfl, hk, Nat.zero_le _, fun h => absurd h (Nat.lt_irrefl _), hb⟩
  · obtain ⟨g, o, rfl, _⟩ := h.cell i 0 hi hpos
    refine (row6_pos (m : Int) r c i (by have := h.hr; omega) h.hc hi hpos g o k h.cap h.kle w).mono ?_
    rintro e w' ⟨rfl, hb⟩
    have h1 : i * c + c ≤ r * c := by
      have := Nat.mul_le_mul_right c (show i + 1 ≤ r by omega)
      rwa [Nat.add_mul, Nat.one_mul] at this
    have := h.cap
    exact ⟨_, _, rfl, by have := h.kle; omega, by omega, fun _ => ⟨g, o, rfl, rfl⟩, hb⟩
end Go.Proofs.YtaijjhddgecieaaDoor
