/- Matrices: the product. -/
import Derived.Test.YtaijjhddgecieaaDoorM7
namespace Go.Proofs.YtaijjhddgecieaaDoor
set_option linter.unusedSimpArgs false
set_option linter.unusedVariables false
open Go.RowKit Go.Lib

def addRow (m : Nat) (A : Nat → Nat → Nat) (i F : Nat) (x : Nat → Nat) (p q : Nat) : Nat := if p = i then A p q ^^^ Fld.mul m F (x q) else A p q
theorem addTo_flat {m r c : Nat} (A : Nat → Nat → Nat) {i : Nat} (hi : i < r) (F : Nat) (x : Nat → Nat) : ∀ p, p < r * c → addTo m F (i * c) c (Mat.flat c A) x p = Mat.flat c (addRow m A i F x) p := fun p hp => by
  obtain ⟨h1, h2, h3⟩ := Mat.flat_split hp
  unfold addTo Mat.flat addRow
  by_cases e : p / c = i
  · rw [if_pos e, if_pos ⟨by rw [← e]; omega, by rw [← e]; omega⟩, show p - i * c = p % c by rw [← e]; omega]
  · rw [if_neg e, if_neg]
    rintro ⟨h4, h5⟩
    apply e
    have h6 : p / c * c < (i + 1) * c := by rw [Nat.add_mul, Nat.one_mul]; omega
    have h7 : i * c < (p / c + 1) * c := by rw [Nat.add_mul, Nat.one_mul]; omega
    have := Nat.lt_of_mul_lt_mul_right h6
    have := Nat.lt_of_mul_lt_mul_right h7
    omega
theorem addRow_ok {m r c : Nat} (hm : Fld.IsM m) {A : Nat → Nat → Nat} (h : Mat.Ok m r c A) (i : Nat) {F : Nat} (hF : F < 2 ^ m) (x : Nat → Nat) : Mat.Ok m r c (addRow m A i F x) := fun p q hp hq => by
  unfold addRow
  split
  · exact Nat.xor_lt_two_pow (h _ _ hp hq) (Fld.mul_lt hm _ hF)
  · exact h _ _ hp hq
theorem RowR.below {w w' : World} {B n : Nat} {q : Option Addr} {x : Nat → Nat} (h : RowR w B q n x) (hb : Below B w w') : RowR w' B q n x := fun j hj => by
  obtain ⟨g, o, e, hg, hc⟩ := h j hj
  exact ⟨g, o, e, hg, (hb.cell (p := ⟨g, o + j, none⟩) hg).trans hc⟩
/-- a row of a matrix -/
theorem MatR.row {w : World} {B m r c k : Nat} {q q' : Option Addr} {A : Nat → Nat → Nat} (h : MatR w B m r c q k A) {i : Nat} (hi : i < r) (hq : 0 < c → ∃ g o, q = some ⟨g, o, none⟩ ∧ q' = some ⟨g, o + i * c, none⟩) : RowR w B q' c (A i) := fun j hj => by
  obtain ⟨g, o, e1, e2⟩ := hq (by omega)
  obtain ⟨g', o', e3, hb, hc⟩ := h.cell i j hi hj
  rw [e1] at e3
  injection e3 with e3
  injection e3 with e3 e4
  subst e3; subst e4
  exact ⟨g, o + i * c, e2, hb, by rw [Nat.add_assoc]; exact hc⟩
/-- add, from another block -/
theorem madd_far {m r c : Nat} (hm : Fld.IsM m) (hr : r ≤ 32) (hc : c ≤ 64) {A : Nat → Nat → Nat} (ok : Mat.Ok m r c A) {i : Nat} (hi : i < r) {F : Nat} (hF : F < 2 ^ m) (x : Nat → Nat) (hxb : ∀ j, j < c → x j < 2 ^ m)
    (qa qb : Option Addr) (ka kb g B : Nat) (w : World) (ht : Tab w) (hg0 : 0 < g) (hcell : Cells w g (r * c) (Mat.flat c A)) (hqa : 0 < c → qa = some ⟨g, i * c, none⟩) (hx : RowR w B qb c x) (hB : B ≤ g) :
    Calls Tryd.prog 38 #[.int .i64 m, .slice qa c ka, .slice qb c kb, .int .i64 F] w fun e w' => (∃ v, e = .returned v) ∧ Cells w' g (r * c) (Mat.flat c (addRow m A i F x)) ∧ Only (fun k => k = g) w w' := by
  have hle : i * c + c ≤ r * c := by
    have := Nat.mul_le_mul_right c (show i + 1 ≤ r by omega)
    rwa [Nat.add_mul, Nat.one_mul] at this
  have hN : r * c ≤ 32 * 64 := Nat.mul_le_mul hr hc
  have hfb : ∀ p, p < r * c → Mat.flat c A p < 2 ^ m := fun p hp => by
    obtain ⟨h1, h2, _⟩ := Mat.flat_split hp
    exact ok _ _ h1 h2
  have fin : ∀ e w', ((∃ v, e = Ending.returned v) ∧ Cells w' g (r * c) (addTo m F (i * c) c (Mat.flat c A) x) ∧ Only (fun k => k = g) w w') →
      (∃ v, e = .returned v) ∧ Cells w' g (r * c) (Mat.flat c (addRow m A i F x)) ∧ Only (fun k => k = g) w w' := fun e w' h => ⟨h.1, h.2.1.congr (addTo_flat A hi F x), h.2.2⟩
  rcases Nat.eq_zero_or_pos c with h0 | hpos
  · refine (madd_any hm hF c qa qb ka kb g (r * c) (i * c) 0 0 _ x w ht hg0 (fun h => by omega) hcell hle (by omega) ht.lt (fun k hk => by omega) (.inl (by omega)) hxb hfb).mono fin
  · obtain ⟨h, o2, hq, hh, _⟩ := hx 0 hpos
    refine (madd_any hm hF c qa qb ka kb g (r * c) (i * c) h o2 _ x w ht hg0 (fun _ => ⟨hqa hpos, hq⟩) hcell hle (by omega) (by have := hcell.lt; omega) (fun k hk => ?_) (.inl (by omega)) hxb hfb).mono fin
    obtain ⟨h', o', hq', _, hcx⟩ := hx k hk
    rw [hq] at hq'
    injection hq' with e
    injection e with e1 e2
    subst e1; subst e2
    exact hcx
/-- add, from another row of the same matrix -/
theorem madd_same {m r c : Nat} (hm : Fld.IsM m) (hr : r ≤ 32) (hc : c ≤ 64) {A : Nat → Nat → Nat} (ok : Mat.Ok m r c A) {i s : Nat} (hi : i < r) (hs : s < r) (his : i ≠ s) {F : Nat} (hF : F < 2 ^ m)
    (qa qb : Option Addr) (ka kb g : Nat) (w : World) (ht : Tab w) (hg0 : 0 < g) (hcell : Cells w g (r * c) (Mat.flat c A)) (hqa : 0 < c → qa = some ⟨g, i * c, none⟩) (hqb : 0 < c → qb = some ⟨g, s * c, none⟩) :
    Calls Tryd.prog 38 #[.int .i64 m, .slice qa c ka, .slice qb c kb, .int .i64 F] w fun e w' => (∃ v, e = .returned v) ∧ Cells w' g (r * c) (Mat.flat c (addRow m A i F (A s))) ∧ Only (fun k => k = g) w w' := by
  have hle : i * c + c ≤ r * c := by
    have := Nat.mul_le_mul_right c (show i + 1 ≤ r by omega)
    rwa [Nat.add_mul, Nat.one_mul] at this
  have hne : s * c + c ≤ i * c ∨ i * c + c ≤ s * c := by
    rcases Nat.lt_or_gt_of_ne his with h | h
    · right
      have := Nat.mul_le_mul_right c (show i + 1 ≤ s by omega)
      rwa [Nat.add_mul, Nat.one_mul] at this
    · left
      have := Nat.mul_le_mul_right c (show s + 1 ≤ i by omega)
      rwa [Nat.add_mul, Nat.one_mul] at this
  have hN : r * c ≤ 32 * 64 := Nat.mul_le_mul hr hc
  have hfb : ∀ p, p < r * c → Mat.flat c A p < 2 ^ m := fun p hp => by
    obtain ⟨h1, h2, _⟩ := Mat.flat_split hp
    exact ok _ _ h1 h2
  refine (madd_any hm hF c qa qb ka kb g (r * c) (i * c) g (s * c) _ (A s) w ht hg0 (fun h => ⟨hqa h, hqb h⟩) hcell hle (by omega) hcell.lt (fun k hk => ?_) (.inr ⟨by
    have := Nat.mul_le_mul_right c (show s + 1 ≤ r by omega)
    rwa [Nat.add_mul, Nat.one_mul] at this, hne⟩) (fun k hk => ok s k hs hk) hfb).mono fun e w' h => ⟨h.1, h.2.1.congr (addTo_flat A hi F (A s)), h.2.2⟩
  rw [hcell.cell (Mat.at_lt hs hk), Mat.flat_at _ _ hk]

/-- the product after i rows, and t summands of the next -/
def mulTo (m k : Nat) (A B : Nat → Nat → Nat) (i t p q : Nat) : Nat := if p < i then Mat.prod m k A B p q else if p = i then Mat.sum (fun u => Fld.mul m (A p u) (B u q)) t else 0
theorem mulTo_zero (m k : Nat) (A B : Nat → Nat → Nat) (p q : Nat) : mulTo m k A B 0 0 p q = 0 := by
  unfold mulTo
  rw [if_neg (by omega)]
  split <;> rfl
theorem mulTo_add (m k : Nat) (A B : Nat → Nat → Nat) (i t p q : Nat) : addRow m (mulTo m k A B i t) i (A i t) (B t) p q = mulTo m k A B i (t + 1) p q := by
  unfold addRow mulTo
  by_cases e : p = i
  · subst e; rw [if_pos rfl, if_neg (by omega), if_pos rfl, if_neg (by omega), if_pos rfl]; rfl
  · rw [if_neg e]
    split
    · rfl
    · rfl
theorem mulTo_next (m k : Nat) (A B : Nat → Nat → Nat) (i p q : Nat) : mulTo m k A B i k p q = mulTo m k A B (i + 1) 0 p q := by
  unfold mulTo
  by_cases e : p < i
  · rw [if_pos e, if_pos (by omega)]
  · by_cases e2 : p = i
    · rw [if_neg e, if_pos e2, if_pos (by omega)]; rfl
    · rw [if_neg e, if_neg e2, if_neg (by omega)]
      split <;> rfl
theorem mulTo_ok {m r k c : Nat} (hm : Fld.IsM m) {A B : Nat → Nat → Nat} (hA : Mat.Ok m r k A) (i : Nat) {t : Nat} (ht : t ≤ k) : Mat.Ok m r c (mulTo m k A B i t) := fun p q hp hq => by
  unfold mulTo
  split
  · exact Mat.prod_ok hm hA p q hp hq
  · split
    · exact Mat.sum_lt _ _ fun u hu => Fld.mul_lt hm _ (hA p u hp (by omega))
    · exact Nat.two_pow_pos m
theorem mbox {w : World} {g : Nat} {t : TypeId} {a b c d : Value} (h : Row w g t #[a, b, c, d]) : w.cell? ⟨g, 0, none⟩ = some a ∧ w.cell? ⟨g, 1, none⟩ = some b ∧ w.cell? ⟨g, 2, none⟩ = some c ∧ w.cell? ⟨g, 3, none⟩ = some d := ⟨h.cell 0, h.cell 1, h.cell 2, h.cell 3⟩

set_option maxRecDepth 100000 in
set_option maxHeartbeats 1600000 in
theorem mul_no (ma ra ca : Int) (qa : Option Addr) (na ka : Nat) (xs : List Int) (mb rb cb : Int) (qb : Option Addr) (nb kb : Nat) (ys : List Int) (w : World) (hla : xs.length = na) (hna : na ≤ 9223372036854775807) (hra : Rd w w.heap.size qa (ints xs)) (hlb : ys.length = nb) (hnb : nb ≤ 9223372036854775807) (hrb : Rd w w.heap.size qb (ints ys))
    (h : (okMat ma ra ca xs && okMat mb rb cb ys && decide (ma = mb) && decide (ca = rb)) = false) :
    Calls Tryd.prog 16 #[matV ma ra ca qa na ka, matV mb rb cb qb nb kb] w fun e w' => e = .returned (outV nilM 1) ∧ Below w.heap.size w w' := by
  have HVA := Lib.hid (fun (W : World) (h : Below w.heap.size w W) => mvalid_any ma ra ca qa na ka xs W hla hna ((hra.below h).more h.size))
  have HVB := Lib.hid (fun (W : World) (h : Below w.heap.size w W) => mvalid_any mb rb cb qb nb kb ys W hlb hnb ((hrb.below h).more h.size))
  clear hla hna hra hlb hnb hrb
  obtain ⟨b1, e1⟩ : ∃ b, okMat ma ra ca xs = b := ⟨_, rfl⟩
  obtain ⟨b2, e2⟩ : ∃ b, okMat mb rb cb ys = b := ⟨_, rfl⟩
  obtain ⟨b3, e3⟩ : ∃ b, (ma != mb) = b := ⟨_, rfl⟩
  obtain ⟨b4, e4⟩ : ∃ b, (ca != rb) = b := ⟨_, rfl⟩
  have hs : b1 = false ∨ (b1 = true ∧ b2 = false) ∨ (b1 = true ∧ b2 = true ∧ b3 = true) ∨ (b1 = true ∧ b2 = true ∧ b3 = false ∧ b4 = true) := by
    rw [e1, e2] at h
    have h3 : decide (ma = mb) = !b3 := by rw [← e3, Bool.eq_iff_iff]; simp
    have h4 : decide (ca = rb) = !b4 := by rw [← e4, Bool.eq_iff_iff]; simp
    rw [h3, h4] at h
    cases b1 <;> cases b2 <;> cases b3 <;> cases b4 <;> simp_all
  rw [e1] at HVA
  rw [e2] at HVB
  clear h e1 e2
  unfold matV at HVA HVB ⊢
  have HW : Hid (Below w.heap.size w (((w.alloc (.cells (matC ma ra ca qa na ka) 24)).alloc (.cells (matC mb rb cb qb nb kb) 24)).alloc (.cells #[.int .i64 0, .int .i64 0, .int .i64 0, .slice none 0 0] 24))) := Lib.hid ((((Below.refl _ w).alloc (Nat.le_refl _) _).alloc (by simp) _).alloc (by simp; omega) _)
  have HRA : Hid (Row (((w.alloc (.cells (matC ma ra ca qa na ka) 24)).alloc (.cells (matC mb rb cb qb nb kb) 24)).alloc (.cells #[.int .i64 0, .int .i64 0, .int .i64 0, .slice none 0 0] 24)) w.heap.size 24 (matC ma ra ca qa na ka)) := Lib.hid (((Row.new w _ _).alloc _).alloc _)
  have HRB : Hid (Row (((w.alloc (.cells (matC ma ra ca qa na ka) 24)).alloc (.cells (matC mb rb cb qb nb kb) 24)).alloc (.cells #[.int .i64 0, .int .i64 0, .int .i64 0, .slice none 0 0] 24)) (w.heap.size + 1) 24 (matC mb rb cb qb nb kb)) := Lib.hid ((Row.made _ _ (by simp)).alloc _)
  have HRZ : Hid (Row (((w.alloc (.cells (matC ma ra ca qa na ka) 24)).alloc (.cells (matC mb rb cb qb nb kb) 24)).alloc (.cells #[.int .i64 0, .int .i64 0, .int .i64 0, .slice none 0 0] 24)) (w.heap.size + 2) 24 #[.int .i64 0, .int .i64 0, .int .i64 0, .slice none 0 0]) := Lib.hid (Row.made _ _ (by simp))
  rcases hs with rfl | ⟨rfl, rfl⟩ | ⟨rfl, rfl, rfl⟩ | ⟨rfl, rfl, rfl, rfl⟩
  all_goals
    go_enter Tryd.func16, Tryd.ntmps16
    go_wp2_with fail
    refine (HVA.out _ HW.out).mono ?_
    rintro e w1 ⟨rfl, hb⟩
    have hlt1 := hb.size
    simp only [size1] at hlt1
    have HW1 := Lib.hid (below_call HW.out hb)
    have HRA1 := Lib.hid (HRA.out.below hb HRA.out.lt)
    have HRB1 := Lib.hid (HRB.out.below hb HRB.out.lt)
    have HRZ1 := Lib.hid (HRZ.out.below hb HRZ.out.lt)
    obtain ⟨a0, a1, a2, a3⟩ := mbox HRA1.out
    obtain ⟨b0, b1, b2, b3⟩ := mbox HRB1.out
    clear hb
    go_wp2_with (first | (refine wpList_store_row rfl _ _ _ rfl (w.heap.size + 2) (matC 0 0 0 none 0 0) rfl rfl _ _ HRZ1.out (by kernel_rfl) rfl (matC_one _ _ _ _ _ _) ?_))
    try
      refine (HVB.out _ HW1.out).mono ?_
      rintro e w2 ⟨rfl, hb⟩
      have hlt2 := hb.size
      have HW1 := Lib.hid (below_call HW1.out hb)
      have HRA1 := Lib.hid (HRA1.out.below hb HRA1.out.lt)
      have HRB1 := Lib.hid (HRB1.out.below hb HRB1.out.lt)
      have HRZ1 := Lib.hid (HRZ1.out.below hb HRZ1.out.lt)
      clear a0 a1 a2 a3 b0 b1 b2 b3
      obtain ⟨a0, a1, a2, a3⟩ := mbox HRA1.out
      obtain ⟨b0, b1, b2, b3⟩ := mbox HRB1.out
      clear hb
      go_wp2_with (first | (refine wpList_store_row rfl _ _ _ rfl (w.heap.size + 2) (matC 0 0 0 none 0 0) rfl rfl _ _ HRZ1.out (by kernel_rfl) rfl (matC_one _ _ _ _ _ _) ?_))
    refine bodyPost_ret (v := outV nilM 1) ?_ rfl ⟨rfl, below_whole HW1.out (by omega) _⟩
    exact results_row_tmp rfl _ _ (w.heap.size + 2) _ _ _ _ rfl rfl (HRZ1.out.whole _) Tryd.underlying24 (by rfl) (by kernel_rfl)
end Go.Proofs.YtaijjhddgecieaaDoor
