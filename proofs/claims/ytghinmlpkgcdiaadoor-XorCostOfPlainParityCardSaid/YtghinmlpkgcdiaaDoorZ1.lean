/- Schedules: how often each pair comes, the specification's walk. -/
import Derived.Test.YtghinmlpkgcdiaaDoorY9
import Derived.BigQuiet
namespace Go.Proofs.YtghinmlpkgcdiaaDoor
set_option linter.unusedSimpArgs false
set_option linter.unusedVariables false
open Go.RowKit Go.Lib Xp

/-- block g begins with the numbers f 0, f 1, .. f (N - 1) -/
def Cells (w : World) (g N : Nat) (f : Nat → Nat) : Prop := ∃ cs : Array Value, Row w g 3 cs ∧ N ≤ cs.size ∧ ∀ p, p < N → cs[p]? = some (Value.int .i64 (f p : Int))
section
variable {w w' : World} {g N : Nat} {f : Nat → Nat}
theorem Cells.lt (h : Cells w g N f) : g < w.heap.size := by obtain ⟨cs, h, _⟩ := h; exact Row.lt h
theorem Cells.cell (h : Cells w g N f) {k : Nat} (hk : k < N) : w.cell? ⟨g, k, none⟩ = some (.int .i64 (f k : Int)) := by
  obtain ⟨cs, h, _, hc⟩ := h
  rw [Row.cell h k, hc k hk]
theorem Cells.frozen (h : Cells w g N f) (k : Nat) : w.frozen? ⟨g, k, none⟩ = false := by obtain ⟨cs, h, _⟩ := h; exact Row.frozen h k
theorem Cells.same (h : Cells w g N f) (e : w'.heap[g]? = w.heap[g]?) : Cells w' g N f := by
  obtain ⟨cs, h, hc⟩ := h
  exact ⟨cs, e.trans h, hc⟩
theorem Cells.below {B : Nat} (h : Cells w g N f) (hb : Below B w w') (hg : g < B) : Cells w' g N f := h.same (hb.block g hg)
theorem Cells.alloc (h : Cells w g N f) (o : Obj) : Cells (w.alloc o) g N f := h.same (Below.heap_alloc w o g h.lt)
theorem Cells.drew (h : Cells w g N f) : Cells w.drew g N f := h
theorem Cells.congr (h : Cells w g N f) {f' : Nat → Nat} (e : ∀ p, p < N → f p = f' p) : Cells w g N f' := by
  obtain ⟨cs, h, hn, hc⟩ := h
  exact ⟨cs, h, hn, fun p hp => by rw [← e p hp]; exact hc p hp⟩
theorem Cells.put (h : Cells w g N f) {k : Nat} (hk : k < N) (v : Nat) : Cells (w.setCell ⟨g, k, none⟩ (.int .i64 (v : Int))) g N (fun p => if p = k then v else f p) := by
  obtain ⟨cs, h, hn, hc⟩ := h
  refine ⟨_, Row.put h k (.int .i64 (v : Int)), by simpa using hn, fun p hp => ?_⟩
  rw [Array.getElem?_setIfInBounds]
  by_cases e : k = p
  · subst e; simp; omega
  · rw [if_neg e, hc p hp]
    show _ = some (Value.int .i64 ((if p = k then v else f p : Nat) : Int))
    rw [if_neg (fun e2 : p = k => e e2.symm)]
theorem Cells.far (h : Cells w g N f) {p : Addr} (hp : g ≠ p.block) (u : Value) : Cells (w.setCell p u) g N f := h.same (heap_setCell_other w p g u hp)
theorem Cells.made {n : Nat} (h : n = w.heap.size) (N : Nat) : Cells (w.alloc (.cells (madeCells #[.int .i64 0] N) 3)) n N (fun _ => 0) := by
  refine ⟨_, Row.made _ _ h, ?_, fun p hp => ?_⟩
  · have : (madeCells #[Value.int .i64 0] N).toList.length = N := by rw [toList_madeCells_one]; simp
    have h2 : (madeCells #[Value.int .i64 0] N).size = N := this
    omega
  · rw [← Array.getElem?_toList, toList_madeCells_one]
    simp [hp]
end
theorem make_ints (m : Nat) (hm : m ≤ 1000000) (u : World) : (Instr.makeSlice 27 (.int .i64 (m : Int)) (.int .i64 (m : Int))).run Tryd.prog u =
    .ok (.slice (some ⟨u.heap.size, 0, none⟩) m m) (u.alloc (.cells (madeCells #[.int .i64 0] m) 3)) := by
  obtain ⟨i0, hi, hz0, hz1, hz2⟩ := info_parts (show (Tryd.prog.info? 3).map (fun i => (i.zero, i.size, i.bytes)) = some (some (.int .i64 0), 1, 8) by kernel_rfl)
  have h := run_make (P := Tryd.prog) u 27 3 i0 (.int .i64 0) Tryd.underlying27 hi hz0 .i64 .i64 (m : Int) (m : Int) (by omega) (Int.le_refl _) (by rw [hz2]; omega) (by omega)
  have e : (m : Int).toNat = m := by omega
  rw [e] at h
  simpa [hz1, Value.cells] using h

/-- how often the pair with number p comes -/
def cntF (n : Nat) (PL : List (Nat × Nat)) (p : Nat) : Nat := PL.count (p / n, p % n)
theorem pair_no {n x y : Nat} (hy : y < n) : (x * n + y) / n = x ∧ (x * n + y) % n = y := by
  have hn : 0 < n := by omega
  constructor
  · rw [Nat.add_comm, Nat.add_mul_div_right _ _ hn, Nat.div_eq_of_lt hy, Nat.zero_add]
  · rw [Nat.add_comm, Nat.add_mul_mod_self_right, Nat.mod_eq_of_lt hy]
theorem cntF_snoc {n x y : Nat} (hy : y < n) (PL : List (Nat × Nat)) (p : Nat) : cntF n (PL ++ [(x, y)]) p = if p = x * n + y then PL.count (x, y) + 1 else cntF n PL p := by
  obtain ⟨e1, e2⟩ := pair_no (x := x) hy
  unfold cntF
  by_cases h : p = x * n + y
  · subst h
    rw [if_pos rfl, e1, e2, List.count_append]
    simp
  · rw [if_neg h, List.count_append]
    have hne : ((x, y) == (p / n, p % n)) = false := by
      rw [beq_eq_false_iff_ne]
      intro e
      injection e with h1 h2
      apply h
      rw [h1, h2, Nat.mul_comm]
      exact (Nat.div_add_mod p n).symm
    rw [List.count_cons, hne]
    simp
theorem cnt_at {n x y : Nat} (hx : x < n) (hy : y < n) : x * n + y < n * n := by
  have h := Nat.mul_le_mul_right n (show x + 1 ≤ n by omega)
  rw [Nat.add_mul, Nat.one_mul] at h
  omega
theorem allPairs_part {ls : List (List Nat)} {t : Nat} {l : List Nat} (h : ls[t]? = some l) (i j : Nat) (hi : i < l.length) : ∃ C, allPairs ls = (allPairs (ls.take t) ++ pairsTo l i ++ (headP l i).take j) ++ C := by
  have h8 : pairsOf l = pairsTo l i ++ ((headP l i).take j ++ ((headP l i).drop j ++ (pairsOf l).drop (pairsTo l (i + 1)).length)) := by
    have h7 : ∃ T, pairsOf l = pairsTo l (i + 1) ++ T := by
      unfold pairsOf pairsTo
      obtain ⟨r, hr⟩ : ∃ r, l.length = (i + 1) + r := ⟨l.length - (i + 1), by omega⟩
      rw [hr, List.range_add, List.flatMap_append]
      exact ⟨_, rfl⟩
    obtain ⟨T, hT⟩ := h7
    rw [hT, List.drop_left, pairsTo_succ, ← List.append_assoc ((headP l i).take j), List.take_append_drop, List.append_assoc]
  refine ⟨((headP l i).drop j ++ (pairsOf l).drop (pairsTo l (i + 1)).length) ++ allPairs (ls.drop (t + 1)), ?_⟩
  have h6 : ls = ls.take t ++ l :: ls.drop (t + 1) := by
    obtain ⟨hh, e⟩ := List.getElem?_eq_some_iff.1 h
    rw [← e, List.getElem_cons_drop, List.take_append_drop]
  have h5 : allPairs ls = allPairs (ls.take t) ++ (pairsOf l ++ allPairs (ls.drop (t + 1))) := by
    conv => lhs; rw [h6]
    unfold allPairs
    rw [List.flatMap_append, List.flatMap_cons]
  conv => lhs; rw [h5, h8]
  simp only [List.append_assoc]
set_option maxRecDepth 100000 in
set_option maxHeartbeats 12800000 in
theorem rcounts_any (qs : Option Addr) (ns ks : Nat) (ls : List (List Nat)) (n : Nat) (w : World) (hs : RowsR w qs ns ls) (hns : ns ≤ 1000000) (hn1 : n ≤ 1000) (hok : SetsOk n ls) (hlen : ∀ l ∈ ls, l.length ≤ 1000000) (hpl : (allPairs ls).length ≤ 1000000000000) :
    Calls Tryd.prog 58 #[.slice qs ns ks, .int .i64 (n : Int)] w fun e w' => e = .returned (.slice (some ⟨w.heap.size, 0, none⟩) (n * n) (n * n)) ∧ Cells w' w.heap.size (n * n) (cntF n (allPairs ls)) ∧ Below w.heap.size w w' := by
  have HS := Lib.hid hs
  have HLS := Lib.hid hs.len
  have HLEN := Lib.hid hlen
  have HOK := Lib.hid hok
  have HPL := Lib.hid hpl
  have hnn : n * n ≤ 1000 * 1000 := Nat.mul_le_mul hn1 hn1
  have HAT := Lib.hid (fun (x y : Nat) (hx : x < n) (hy : y < n) => cnt_at hx hy)
  obtain ⟨N, hN⟩ : ∃ N, n * n = N := ⟨_, rfl⟩
  have hwn : IntKind.i64.wrap ((n : Int) * (n : Int)) = (N : Int) := by rw [← Int.natCast_mul, hN, IntKind.wrap_i64] <;> omega
  rw [hN] at hnn HAT ⊢
  have hmk := make_ints N (by omega)
  have HC0 := Lib.hid ((Cells.made (w := w) rfl N).congr (f' := cntF n (allPairs (ls.take 0))) (fun p _ => by simp [cntF, allPairs]))
  clear hs hlen hpl hok hN
  go_enter Tryd.func58, Tryd.ntmps58
  go_wp2_with fail
  clear hmk hwn
  go_loopw [6] (fun i wr => ∃ t : Nat, t ≤ ns ∧ i = .int .i64 t ∧ Cells wr w.heap.size N (cntF n (allPairs (ls.take t))) ∧ Below w.heap.size w wr) (fun i _ => ns - (intOf i).toNat)
  case atStart => exact ⟨0, Nat.zero_le _, rfl, HC0.out, (Below.refl _ w).alloc (Nat.le_refl _) _⟩
  case round =>
    obtain ⟨t, ht, rfl, hc, hb⟩ := hrel
    have HC := Lib.hid hc
    have HB := Lib.hid hb
    clear hc hb HC0
    by_cases hlt : t < ns
    · have hd : decide ((t : Int) < ns) = true := decide_eq_true (by omega)
      obtain ⟨l, hl⟩ : ∃ l, ls[t]? = some l := ⟨_, List.getElem?_eq_getElem (by rw [HLS.out]; exact hlt)⟩
      obtain ⟨gs, cs, ql, kc, rfl, hrs, hcs, hxl⟩ := HS.out.row t l hl
      have hgs := hrs.lt
      have HCL := Lib.hid (fun (W : World) (h : Below w.heap.size w W) => show W.cell? ⟨gs, t, none⟩ = some (.slice ql l.length kc) from (h.cell (p := ⟨gs, t, none⟩) hgs).trans ((hrs.cell t).trans hcs))
      have HL := Lib.hid hl
      have HX := Lib.hid hxl
      have hll := HLEN.out l (List.mem_of_getElem? hl)
      have HRI := Lib.hid (HOK.out l (List.mem_of_getElem? hl))
      obtain ⟨L, hL⟩ : ∃ L, l.length = L := ⟨_, rfl⟩
      have HLL := Lib.hid hL
      rw [hL] at HCL hll
      clear hl hrs hcs hxl hL
      go_wp2_with fail
      go_loopw [7] (fun i wr => ∃ i2 : Nat, i2 ≤ L ∧ i = .int .i64 i2 ∧ Cells wr w.heap.size N (cntF n (allPairs (ls.take t) ++ pairsTo l i2)) ∧ Below w.heap.size w wr) (fun i _ => L - (intOf i).toNat)
      case atStart => exact ⟨0, Nat.zero_le _, rfl, by unfold pairsTo; simpa using HC.out, HB.out⟩
      case round =>
        obtain ⟨i2, hi2, rfl, hc, hb⟩ := hrel
        have HC2 := Lib.hid hc
        have HB2 := Lib.hid hb
        have hcl := HCL.out _ hb
        clear hc hb
        by_cases hil : i2 < L
        · have hdi : decide ((i2 : Int) < L) = true := decide_eq_true (by omega)
          obtain ⟨x, hx⟩ : ∃ x, l[i2]? = some x := ⟨_, List.getElem?_eq_getElem (by rw [HLL.out]; exact hil)⟩
          have HXX := Lib.hid hx
          have HXN := Lib.hid (HRI.out.2 x (List.mem_of_getElem? hx))
          have HHL := Lib.hid (show (headP l i2).length = L - (i2 + 1) by rw [headP_length, HLL.out])
          clear hx
          go_wp2_with fail
          clear hcl
          go_loopw [8] (fun i wr => ∃ j : Nat, i2 + 1 ≤ j ∧ j ≤ L ∧ i = .int .i64 j ∧ Cells wr w.heap.size N (cntF n (allPairs (ls.take t) ++ pairsTo l i2 ++ (headP l i2).take (j - (i2 + 1)))) ∧ Below w.heap.size w wr) (fun i _ => L - (intOf i).toNat)
          case atStart => exact ⟨i2 + 1, Nat.le_refl _, by omega, by go_num, by rw [Nat.sub_self, List.take_zero, List.append_nil]; exact HC2.out, HB2.out⟩
          case round =>
            obtain ⟨j, hj1, hj, rfl, hc, hb⟩ := hrel
            have HC3 := Lib.hid hc
            have HB3 := Lib.hid hb
            have hcl := HCL.out _ hb
            clear hc hb
            by_cases hjl : j < L
            · have hdj : decide ((j : Int) < L) = true := decide_eq_true (by omega)
              obtain ⟨y, hy⟩ : ∃ y, l[j]? = some y := ⟨_, List.getElem?_eq_getElem (by rw [HLL.out]; omega)⟩
              obtain ⟨g2, cs2, rfl, hr2, hc2⟩ := HX.out i2 x HXX.out
              obtain ⟨g3, cs3, e3, hr3, hc3⟩ := HX.out j y hy
              injection e3 with e3
              injection e3 with e3
              subst e3
              have hg2 := hr2.lt
              have hcx : wr.cell? ⟨g2, i2, none⟩ = some (.int .i64 (x : Int)) := (HB3.out.cell (p := ⟨g2, i2, none⟩) hg2).trans ((hr2.cell i2).trans hc2)
              have hcy : wr.cell? ⟨g2, j, none⟩ = some (.int .i64 (y : Int)) := (HB3.out.cell (p := ⟨g2, j, none⟩) hg2).trans ((hr3.cell j).trans hc3)
              have hxn := HXN.out
              have hyn := HRI.out.2 y (List.mem_of_getElem? hy)
              have HTK := Lib.hid (show (headP l i2).take (j + 1 - (i2 + 1)) = (headP l i2).take (j - (i2 + 1)) ++ [(x, y)] by
                rw [show j + 1 - (i2 + 1) = j - (i2 + 1) + 1 by omega, List.take_add_one, headP_get HXX.out (j := j - (i2 + 1)) (by rw [show i2 + 1 + (j - (i2 + 1)) = j by omega]; exact hy)]; rfl)
              have hplen : (allPairs (ls.take t) ++ pairsTo l i2 ++ (headP l i2).take (j - (i2 + 1))).length ≤ 1000000000000 := by
                obtain ⟨C, e⟩ := allPairs_part HL.out i2 (j - (i2 + 1)) (by rw [HLL.out]; exact hil)
                have := HPL.out
                rw [e, List.length_append] at this
                omega
              obtain ⟨PL, hPL⟩ : ∃ PL, allPairs (ls.take t) ++ pairsTo l i2 ++ (headP l i2).take (j - (i2 + 1)) = PL := ⟨_, rfl⟩
              have HPE := Lib.hid (show allPairs (ls.take t) ++ pairsTo l i2 ++ (headP l i2).take (j + 1 - (i2 + 1)) = PL ++ [(x, y)] by rw [HTK.out, ← List.append_assoc, hPL])
              rw [hPL] at HC3 hplen
              have hcnt : PL.count (x, y) ≤ 1000000000000 := Nat.le_trans List.count_le_length hplen
              obtain ⟨C, hC⟩ : ∃ C, PL.count (x, y) = C := ⟨_, rfl⟩
              have HCC := Lib.hid hC
              rw [hC] at hcnt
              obtain ⟨o, ho⟩ : ∃ o, x * n = o := ⟨_, rfl⟩
              have hoN : o + y < N := by rw [← ho]; exact HAT.out x y hxn hyn
              have hcell : wr.cell? ⟨w.heap.size, o + y, none⟩ = some (.int .i64 (C : Int)) := by
                have h9 := HC3.out.cell hoN
                unfold cntF at h9
                rw [← ho, (pair_no hyn).1, (pair_no hyn).2, hC, ho] at h9
                exact h9
              have hfr := HC3.out.frozen (o + y)
              have hw1 : IntKind.i64.wrap ((x : Int) * (n : Int)) = (o : Int) := by rw [← Int.natCast_mul, ho, IntKind.wrap_i64] <;> omega
              have hw2 : IntKind.i64.wrap ((o : Int) + (y : Int)) = ((o + y : Nat) : Int) := by rw [← Int.natCast_add, IntKind.wrap_i64] <;> omega
              have hw3 : IntKind.i64.wrap ((C : Int) + 1) = ((C + 1 : Nat) : Int) := by rw [IntKind.wrap_i64] <;> omega
              have HC5 := Lib.hid ((HC3.out.put hoN (C + 1)).congr (f' := cntF n (PL ++ [(x, y)])) (fun p _ => by rw [cntF_snoc hyn, HCC.out, ho]))
              have HB5 := Lib.hid (HB3.out.setCell (p := ⟨w.heap.size, o + y, none⟩) (Nat.le_refl _) (.int .i64 ((C + 1 : Nat) : Int)))
              have hsz := HC3.out.lt
              clear hy hr2 hc2 hr3 hc3 hPL hC ho hxn hyn hplen
              go_wp2_with fail
              go_region
              go_wp2_with fail
              go_roundw
              case rel => exact ⟨j + 1, by omega, by omega, by go_num, by rw [HPE.out]; exact HC5.out.drew, HB5.out.drew⟩
              case measure => simp [intOf]; omega
            · have hdj : decide ((j : Int) < L) = false := decide_eq_false (by omega)
              have h9 := HC3.out
              rw [List.take_of_length_le (l := headP l i2) (by rw [HHL.out]; omega), List.append_assoc, ← pairsTo_succ] at h9
              have HC5 := Lib.hid h9
              clear h9
              go_wp2_with fail
              go_roundw
              case rel => exact ⟨i2 + 1, by omega, by go_num, HC5.out, HB3.out⟩
              case measure => simp [intOf]; omega
        · have hdi : decide ((i2 : Int) < L) = false := decide_eq_false (by omega)
          have HIL := Lib.hid (show allPairs (ls.take t) ++ pairsTo l i2 = allPairs (ls.take (t + 1)) by
            rw [allPairs_take HL.out]; unfold pairsOf; rw [HLL.out, show i2 = L by omega])
          rw [HIL.out] at HC2
          go_wp2_with fail
          go_roundw
          case rel => exact ⟨t + 1, by omega, by go_num, HC2.out, HB2.out⟩
          case measure => simp [intOf]; omega
    · have hd : decide ((t : Int) < ns) = false := decide_eq_false (by omega)
      have h9 := HC.out
      rw [List.take_of_length_le (by rw [HLS.out]; omega)] at h9
      have HC5 := Lib.hid h9
      clear h9
      go_wp2
      go_ret
      exact ⟨rfl, HC5.out, HB.out⟩
end Go.Proofs.YtghinmlpkgcdiaaDoor
