/- Matrices: a block of field elements, and the small functions. -/
import Derived.Test.YtaijjhddgecieaaDoorG7
import Derived.Test.YtaijjhddgecieaaDoorRF
import Derived.Test.YtaijjhddgecieaaDoorOwnN
namespace Go.Proofs.YtaijjhddgecieaaDoor
set_option linter.unusedSimpArgs false
set_option linter.unusedVariables false
open Go.RowKit Go.Lib

/-- block g begins with the numbers f 0, f 1, .. f (N - 1) -/
def Cells (w : World) (g N : Nat) (f : Nat → Nat) : Prop := ∃ cs : Array Value, Row w g 3 cs ∧ N ≤ cs.size ∧ ∀ p, p < N → cs[p]? = some (Value.int .i64 (f p : Int))
section
variable {w w' : World} {g N : Nat} {f : Nat → Nat}
theorem Cells.lt (h : Cells w g N f) : g < w.heap.size := by obtain ⟨cs, h, _⟩ := h; exact Row.lt h
theorem Cells.cell (h : Cells w g N f) {k : Nat} (hk : k < N) : w.cell? ⟨g, k, none⟩ = some (.int .i64 (f k : Int)) := by
  obtain ⟨cs, h, _, hc⟩ := h
  rw [Row.cell h k, hc k hk]
theorem Cells.frozen (h : Cells w g N f) (k : Nat) : w.frozen? ⟨g, k, none⟩ = false := by obtain ⟨cs, h, _⟩ := h; exact Row.frozen h k
theorem Cells.same (h : Cells w g N f) (e : w'.heap[g]? = w.heap[g]?) : Cells w' g N f := by
  obtain ⟨cs, h, hc⟩ := h
  exact ⟨cs, e.trans h, hc⟩
theorem Cells.below {B : Nat} (h : Cells w g N f) (hb : Below B w w') (hg : g < B) : Cells w' g N f := h.same (hb.block g hg)
theorem Cells.alloc (h : Cells w g N f) (o : Obj) : Cells (w.alloc o) g N f := h.same (Below.heap_alloc w o g h.lt)
theorem Cells.drew (h : Cells w g N f) : Cells w.drew g N f := h
theorem Cells.congr (h : Cells w g N f) {f' : Nat → Nat} (e : ∀ p, p < N → f p = f' p) : Cells w g N f' := by
  obtain ⟨cs, h, hn, hc⟩ := h
  exact ⟨cs, h, hn, fun p hp => by rw [← e p hp]; exact hc p hp⟩
theorem Cells.put (h : Cells w g N f) {k : Nat} (hk : k < N) (v : Nat) : Cells (w.setCell ⟨g, k, none⟩ (.int .i64 (v : Int))) g N (fun p => if p = k then v else f p) := by
  obtain ⟨cs, h, hn, hc⟩ := h
  refine ⟨_, Row.put h k (.int .i64 (v : Int)), by simpa using hn, fun p hp => ?_⟩
  rw [Array.getElem?_setIfInBounds]
  by_cases e : k = p
  · subst e; simp; omega
  · rw [if_neg e, hc p hp]
    show _ = some (Value.int .i64 ((if p = k then v else f p : Nat) : Int))
    rw [if_neg (fun e2 : p = k => e e2.symm)]
theorem Cells.far (h : Cells w g N f) {p : Addr} (hp : g ≠ p.block) (u : Value) : Cells (w.setCell p u) g N f := h.same (heap_setCell_other w p g u hp)
theorem Cells.made {n : Nat} (h : n = w.heap.size) (N : Nat) : Cells (w.alloc (.cells (madeCells #[.int .i64 0] N) 3)) n N (fun _ => 0) := by
  refine ⟨_, Row.made _ _ h, ?_, fun p hp => ?_⟩
  · have : (madeCells #[Value.int .i64 0] N).toList.length = N := by rw [toList_madeCells_one]; simp
    have h2 : (madeCells #[Value.int .i64 0] N).size = N := this
    omega
  · rw [← Array.getElem?_toList, toList_madeCells_one]
    simp [hp]
end
theorem make_ints (m : Nat) (hm : m ≤ 100000) (u : World) : (Instr.makeSlice 22 (.int .i64 (m : Int)) (.int .i64 (m : Int))).run Tryd.prog u =
    .ok (.slice (some ⟨u.heap.size, 0, none⟩) m m) (u.alloc (.cells (madeCells #[.int .i64 0] m) 3)) := by
  obtain ⟨i0, hi, hz0, hz1, hz2⟩ := info_parts (show (Tryd.prog.info? 3).map (fun i => (i.zero, i.size, i.bytes)) = some (some (.int .i64 0), 1, 8) by kernel_rfl)
  have h := run_make (P := Tryd.prog) u 22 3 i0 (.int .i64 0) Tryd.underlying22 hi hz0 .i64 .i64 (m : Int) (m : Int) (by omega) (Int.le_refl _) (by rw [hz2]; omega) (by omega)
  have e : (m : Int).toNat = m := by omega
  rw [e] at h
  simpa [hz1, Value.cells] using h
set_option maxRecDepth 100000 in
theorem mtimes_any {m : Nat} (hm : Fld.IsM m) {a b : Nat} (ha : a < 2 ^ m) (hb : b < 2 ^ m) (w : World) (ht : Tab w) :
    Calls Tryd.prog 47 #[.int .i64 m, .int .i64 a, .int .i64 b] w fun e w' => e = .returned (.int .i64 (Fld.mul m a b : Nat)) ∧ Below w.heap.size w w' := by
  have HC := Lib.hid (fmul_yes m a b hm ha hb w ht)
  obtain ⟨x, hx⟩ : ∃ x, Fld.mul m a b = x := ⟨_, rfl⟩
  rw [hx] at HC ⊢
  unfold pairV at HC
  clear ht
  go_enter Tryd.func47, Tryd.ntmps47
  go_wp2_with fail
  refine HC.out.mono ?_
  rintro e w1 ⟨rfl, hb⟩
  have HB := Lib.hid hb
  clear hb
  go_wp2_with fail
  go_ret
  exact ⟨rfl, HB.out⟩
set_option maxRecDepth 100000 in
theorem rtimes6_any {m : Nat} (hm : Fld.IsM m) {a b : Nat} (ha : a < 2 ^ m) (hb : b < 2 ^ m) (w : World) :
    Calls Tryd.prog 45 #[.int .i64 m, .int .i64 a, .int .i64 b] w fun e w' => e = .returned (.int .i64 (Fld.mul m a b : Nat)) ∧ w' = w := by
  have HC := Lib.hid (rmul_yes m a b hm ha hb w)
  obtain ⟨x, hx⟩ : ∃ x, Fld.mul m a b = x := ⟨_, rfl⟩
  rw [hx] at HC ⊢
  unfold pairV at HC
  go_enter Tryd.func45, Tryd.ntmps45
  go_wp2_with fail
  refine HC.out.mono ?_
  rintro e w1 ⟨rfl, rfl⟩
  go_wp2_with fail
  go_ret
  exact ⟨rfl, rfl⟩
set_option maxRecDepth 100000 in
theorem zero_any (m : Int) (r c : Nat) (hr : r ≤ 64) (hc : c ≤ 64) (w : World) :
    Calls Tryd.prog 35 #[.int .i64 m, .int .i64 (r : Int), .int .i64 (c : Int)] w fun e w' => ∃ g, e = .returned (.agg #[.int .i64 m, .int .i64 r, .int .i64 c, .slice (some ⟨g, 0, none⟩) (r * c) (r * c)]) ∧ w.heap.size ≤ g ∧ Cells w' g (r * c) (fun _ => 0) ∧ Below w.heap.size w w' := by
  have hrc : r * c ≤ 4096 := Nat.mul_le_mul hr hc
  have hcast : (r : Int) * (c : Int) = ((r * c : Nat) : Int) := by simp
  have hw : IntKind.i64.wrap ((r : Int) * (c : Int)) = ((r * c : Nat) : Int) := by rw [hcast, IntKind.wrap_i64] <;> omega
  obtain ⟨n, hn⟩ : ∃ n, r * c = n := ⟨_, rfl⟩
  rw [hn] at hw hrc hcast ⊢
  have hmk := make_ints n (by omega)
  go_enter Tryd.func35, Tryd.ntmps35
  go_wp2_with fail
  refine bodyPost_ret (v := .agg #[.int .i64 m, .int .i64 (r : Int), .int .i64 (c : Int), .slice (some ⟨w.heap.size + 1, 0, none⟩) n n]) ?_ rfl ⟨w.heap.size + 1, rfl, Nat.le_succ _, Cells.made (by simp) n, ((Below.refl _ w).alloc (Nat.le_refl _) _).alloc (by simp) _⟩
  exact results_cell_row rfl _ _ w.heap.size _ _ (0, 0) _ rfl ((Row.new w _ _).alloc _) Tryd.underlying24 rfl (by kernel_rfl)
set_option maxRecDepth 100000 in
theorem rzero_any (m : Int) (r c : Nat) (hr : r ≤ 64) (hc : c ≤ 64) (w : World) :
    Calls Tryd.prog 37 #[.int .i64 m, .int .i64 (r : Int), .int .i64 (c : Int)] w fun e w' => ∃ g, e = .returned (.agg #[.int .i64 m, .int .i64 r, .int .i64 c, .slice (some ⟨g, 0, none⟩) (r * c) (r * c)]) ∧ w.heap.size ≤ g ∧ Cells w' g (r * c) (fun _ => 0) ∧ Below w.heap.size w w' := by
  have hrc : r * c ≤ 4096 := Nat.mul_le_mul hr hc
  have hcast : (r : Int) * (c : Int) = ((r * c : Nat) : Int) := by simp
  have hw : IntKind.i64.wrap ((r : Int) * (c : Int)) = ((r * c : Nat) : Int) := by rw [hcast, IntKind.wrap_i64] <;> omega
  obtain ⟨n, hn⟩ : ∃ n, r * c = n := ⟨_, rfl⟩
  rw [hn] at hw hrc hcast ⊢
  have hmk := make_ints n (by omega)
  go_enter Tryd.func37, Tryd.ntmps37
  go_wp2_with fail
  refine bodyPost_ret (v := .agg #[.int .i64 m, .int .i64 (r : Int), .int .i64 (c : Int), .slice (some ⟨w.heap.size + 1, 0, none⟩) n n]) ?_ rfl ⟨w.heap.size + 1, rfl, Nat.le_succ _, Cells.made (by simp) n, ((Below.refl _ w).alloc (Nat.le_refl _) _).alloc (by simp) _⟩
  exact results_cell_row rfl _ _ w.heap.size _ _ (0, 0) _ rfl ((Row.new w _ _).alloc _) Tryd.underlying24 rfl (by kernel_rfl)
set_option maxRecDepth 100000 in
theorem row6_pos (m : Int) (r c i : Nat) (hr : r ≤ 64) (hc : c ≤ 64) (hi : i < r) (hpos : 0 < c) (g o cap : Nat) (hcap : r * c ≤ cap) (hcm : cap ≤ maxLen) (w : World) :
    Calls Tryd.prog 36 #[.agg #[.int .i64 m, .int .i64 r, .int .i64 c, .slice (some ⟨g, o, none⟩) (r * c) cap], .int .i64 (i : Int)] w fun e w' => e = .returned (.slice (some ⟨g, o + i * c, none⟩) c (cap - i * c)) ∧ Below w.heap.size w w' := by
  have h0 : i * c ≤ 64 * 64 := Nat.mul_le_mul (show i ≤ 64 by omega) hc
  have h1 : (i + 1) * c ≤ r * c := Nat.mul_le_mul_right _ hi
  have h2 : (i + 1) * c = i * c + c := by rw [Nat.add_mul, Nat.one_mul]
  have hrc : r * c ≤ 4096 := Nat.mul_le_mul hr hc
  obtain ⟨p, hp⟩ : ∃ p, i * c = p := ⟨_, rfl⟩
  obtain ⟨n, hn⟩ : ∃ n, r * c = n := ⟨_, rfl⟩
  have e1 : IntKind.i64.wrap ((i : Int) * (c : Int)) = (p : Int) := by rw [← hp, show (i : Int) * (c : Int) = ((i * c : Nat) : Int) by simp, IntKind.wrap_i64] <;> omega
  have e2 : IntKind.i64.wrap (((i : Int) + 1) * (c : Int)) = ((p + c : Nat) : Int) := by rw [← hp, show ((i : Int) + 1) * (c : Int) = (((i + 1) * c : Nat) : Int) by simp, h2, IntKind.wrap_i64] <;> omega
  rw [hp] at h0 h2 ⊢
  rw [hn] at h1 hcap hrc ⊢
  unfold maxLen at hcm
  rw [h2] at h1
  clear h2 hp hn
  go_enter Tryd.func36, Tryd.ntmps36
  go_wp2_with fail
  go_ret
  refine ⟨?_, (Below.refl _ w).alloc (Nat.le_refl _) _⟩
  show Ending.returned (.slice (some ⟨g, o + p, none⟩) (p + c - p) (cap - p)) = _
  rw [show p + c - p = c by omega]
set_option maxRecDepth 100000 in
theorem row6_nil (m : Int) (r i : Nat) (hr : r ≤ 64) (hi : i < r) (w : World) :
    Calls Tryd.prog 36 #[.agg #[.int .i64 m, .int .i64 r, .int .i64 0, .slice none 0 0], .int .i64 (i : Int)] w fun e w' => (∃ q k, e = .returned (.slice q 0 k) ∧ k ≤ 9223372036854775807) ∧ Below w.heap.size w w' := by
  go_enter Tryd.func36, Tryd.ntmps36
  go_wp2_with fail
  go_ret
  exact ⟨⟨_, _, rfl, by omega⟩, (Below.refl _ w).alloc (Nat.le_refl _) _⟩
set_option maxRecDepth 100000 in
theorem row6_empty (m : Int) (r i : Nat) (hr : r ≤ 64) (hi : i < r) (ad : Addr) (cap : Nat) (hcm : cap ≤ 9223372036854775807) (w : World) :
    Calls Tryd.prog 36 #[.agg #[.int .i64 m, .int .i64 r, .int .i64 0, .slice (some ad) 0 cap], .int .i64 (i : Int)] w fun e w' => (∃ q k, e = .returned (.slice q 0 k) ∧ k ≤ 9223372036854775807) ∧ Below w.heap.size w w' := by
  go_enter Tryd.func36, Tryd.ntmps36
  go_wp2_with fail
  all_goals
    go_ret
    exact ⟨⟨_, _, rfl, by omega⟩, (Below.refl _ w).alloc (Nat.le_refl _) _⟩
end Go.Proofs.YtaijjhddgecieaaDoor
