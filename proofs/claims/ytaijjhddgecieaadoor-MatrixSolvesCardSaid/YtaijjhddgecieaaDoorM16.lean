/- Matrices: solving, the parts of it. -/
import Derived.Test.YtaijjhddgecieaaDoorM15
import Derived.Laws.CopyOwn
namespace Go.Proofs.YtaijjhddgecieaaDoor
set_option linter.unusedSimpArgs false
set_option linter.unusedVariables false
open Go.RowKit Go.Lib

set_option maxRecDepth 100000 in
theorem solvef_any (a : Int) (w : World) :
    Calls Tryd.prog 41 #[.int .i64 a] w fun e w' => e = .returned (.bool (a != 0)) ∧ w' = w := by
  go_enter Tryd.func41, Tryd.ntmps41
  go_wp2
  go_ret
  exact ⟨rfl, rfl⟩
set_option maxRecDepth 100000 in
theorem solvei_any (a : Option Addr) (n k0 : Nat) (xs : List Int) (w : World) (hl : xs.length = n) (hn : n ≤ 9223372036854775807) (hr : Rd w w.heap.size a (ints xs)) :
    Calls Tryd.prog 50 #[.slice a n k0, .func (.func 41) #[] #[]] w fun e w' => Found (xs.any (· != 0)) e ∧ w' = w := by
  have HR := Lib.hid hr
  have HL := Lib.hid hl
  clear hr hl
  go_enter Tryd.func50, Tryd.ntmps50
  go_wp2
  go_loopw [8] (fun i wr => wr = w ∧ ∃ k : Nat, k ≤ n ∧ i = .int .i64 k ∧ (xs.take k).any (· != 0) = false) (fun i _ => n - (intOf i).toNat)
  case atStart => exact ⟨rfl, 0, by omega, rfl, rfl⟩
  case round =>
    obtain ⟨rfl, k, hk, rfl, ha⟩ := hrel
    have HA := Lib.hid ha
    clear ha
    by_cases hlt : k < n
    · obtain ⟨x, hx⟩ : ∃ x, xs[k]? = some x := ⟨_, List.getElem?_eq_getElem (by rw [HL.out]; exact hlt)⟩
      obtain ⟨b, off, rfl, hb, hc⟩ := HR.out k (.int .i64 x) (by rw [ints, List.getElem?_map, hx]; rfl)
      have HX := Lib.hid hx
      clear hx
      obtain ⟨bx, hbx⟩ : ∃ bx, (x != 0) = bx := ⟨_, rfl⟩
      have HBX := Lib.hid hbx
      clear hbx
      go_wp2_with fail
      refine (solvef_any x _).mono ?_
      rw [HBX.out]
      rintro e w1 ⟨rfl, rfl⟩
      cases bx
      · go_wp2
        go_roundw
        case rel => exact ⟨trivial, k + 1, by omega, by go_num, by rw [any_take HA.out HX.out]; exact HBX.out⟩
        case measure => simp [intOf]; omega
      · go_wp2
        go_ret
        refine ⟨.inr ⟨?_, k, rfl⟩, rfl⟩
        rw [List.any_eq_true]
        exact ⟨x, List.mem_of_getElem? HX.out, HBX.out⟩
    · have h1 : k = n := by omega
      have HA2 := Lib.hid (show xs.any (· != 0) = false by
        have := HA.out
        rwa [List.take_of_length_le (by rw [HL.out]; omega)] at this)
      clear h1
      go_wp2
      go_ret
      exact ⟨.inl ⟨HA2.out, rfl⟩, rfl⟩
set_option maxRecDepth 100000 in
theorem solvec_any (a : Option Addr) (n k0 : Nat) (xs : List Int) (w : World) (hl : xs.length = n) (hn : n ≤ 9223372036854775807) (hr : Rd w w.heap.size a (ints xs)) :
    Calls Tryd.prog 40 #[.slice a n k0, .func (.func 41) #[] #[]] w fun e w' => e = .returned (.bool (xs.any (· != 0))) ∧ w' = w := by
  have h := solvei_any a n k0 xs w hl hn hr
  generalize xs.any (· != 0) = b at h
  have H := Lib.hid h
  clear h hl hr
  go_enter Tryd.func40, Tryd.ntmps40
  go_wp2_with fail
  refine H.out.mono ?_
  rintro e w1 ⟨hf, rfl⟩
  rcases hf with ⟨rfl, rfl⟩ | ⟨rfl, k, rfl⟩
  · go_wp2
    go_ret
    exact ⟨rfl, rfl⟩
  · have hd : decide (0 ≤ (k : Int)) = true := by simp
    go_wp2
    go_ret
    exact ⟨rfl, rfl⟩
set_option maxRecDepth 100000 in
set_option maxHeartbeats 1600000 in
theorem solve_no (ma ra ca : Int) (qa : Option Addr) (na ka : Nat) (xs : List Int) (mb rb cb : Int) (qb : Option Addr) (nb kb : Nat) (ys : List Int) (w : World) (hla : xs.length = na) (hna : na ≤ 9223372036854775807) (hra : Rd w w.heap.size qa (ints xs)) (hlb : ys.length = nb) (hnb : nb ≤ 9223372036854775807) (hrb : Rd w w.heap.size qb (ints ys))
    (h : (okMat ma ra ca xs && okMat mb rb cb ys && decide (ma = mb) && decide (ra = rb)) = false) :
    Calls Tryd.prog 17 #[matV ma ra ca qa na ka, matV mb rb cb qb nb kb] w fun e w' => e = .returned (outV nilM 1) ∧ Below w.heap.size w w' := by
  have HVA := Lib.hid (fun (W : World) (h : Below w.heap.size w W) => mvalid_any ma ra ca qa na ka xs W hla hna ((hra.below h).more h.size))
  have HVB := Lib.hid (fun (W : World) (h : Below w.heap.size w W) => mvalid_any mb rb cb qb nb kb ys W hlb hnb ((hrb.below h).more h.size))
  clear hla hna hra hlb hnb hrb
  obtain ⟨b1, e1⟩ : ∃ b, okMat ma ra ca xs = b := ⟨_, rfl⟩
  obtain ⟨b2, e2⟩ : ∃ b, okMat mb rb cb ys = b := ⟨_, rfl⟩
  obtain ⟨b3, e3⟩ : ∃ b, (ma != mb) = b := ⟨_, rfl⟩
  obtain ⟨b4, e4⟩ : ∃ b, (ra != rb) = b := ⟨_, rfl⟩
  have hs : b1 = false ∨ (b1 = true ∧ b2 = false) ∨ (b1 = true ∧ b2 = true ∧ b3 = true) ∨ (b1 = true ∧ b2 = true ∧ b3 = false ∧ b4 = true) := by
    rw [e1, e2] at h
    have h3 : decide (ma = mb) = !b3 := by rw [← e3, Bool.eq_iff_iff]; simp
    have h4 : decide (ra = rb) = !b4 := by rw [← e4, Bool.eq_iff_iff]; simp
    rw [h3, h4] at h
    cases b1 <;> cases b2 <;> cases b3 <;> cases b4 <;> simp_all
  rw [e1] at HVA
  rw [e2] at HVB
  clear h e1 e2
  unfold matV at HVA HVB ⊢
  have HW : Hid (Below w.heap.size w (((w.alloc (.cells (matC ma ra ca qa na ka) 24)).alloc (.cells (matC mb rb cb qb nb kb) 24)).alloc (.cells #[.int .i64 0, .int .i64 0, .int .i64 0, .slice none 0 0] 24))) := Lib.hid ((((Below.refl _ w).alloc (Nat.le_refl _) _).alloc (by simp) _).alloc (by simp; omega) _)
  have HRA : Hid (Row (((w.alloc (.cells (matC ma ra ca qa na ka) 24)).alloc (.cells (matC mb rb cb qb nb kb) 24)).alloc (.cells #[.int .i64 0, .int .i64 0, .int .i64 0, .slice none 0 0] 24)) w.heap.size 24 (matC ma ra ca qa na ka)) := Lib.hid (((Row.new w _ _).alloc _).alloc _)
  have HRB : Hid (Row (((w.alloc (.cells (matC ma ra ca qa na ka) 24)).alloc (.cells (matC mb rb cb qb nb kb) 24)).alloc (.cells #[.int .i64 0, .int .i64 0, .int .i64 0, .slice none 0 0] 24)) (w.heap.size + 1) 24 (matC mb rb cb qb nb kb)) := Lib.hid ((Row.made _ _ (by simp)).alloc _)
  have HRZ : Hid (Row (((w.alloc (.cells (matC ma ra ca qa na ka) 24)).alloc (.cells (matC mb rb cb qb nb kb) 24)).alloc (.cells #[.int .i64 0, .int .i64 0, .int .i64 0, .slice none 0 0] 24)) (w.heap.size + 2) 24 #[.int .i64 0, .int .i64 0, .int .i64 0, .slice none 0 0]) := Lib.hid (Row.made _ _ (by simp))
  rcases hs with rfl | ⟨rfl, rfl⟩ | ⟨rfl, rfl, rfl⟩ | ⟨rfl, rfl, rfl, rfl⟩
  all_goals
    go_enter Tryd.func17, Tryd.ntmps17
    go_wp2_with fail
    refine (HVA.out _ HW.out).mono ?_
    rintro e w1 ⟨rfl, hb⟩
    have hlt1 := hb.size
    simp only [size1] at hlt1
    have HW1 := Lib.hid (below_call HW.out hb)
    have HRA1 := Lib.hid (HRA.out.below hb HRA.out.lt)
    have HRB1 := Lib.hid (HRB.out.below hb HRB.out.lt)
    have HRZ1 := Lib.hid (HRZ.out.below hb HRZ.out.lt)
    obtain ⟨a0, a1, a2, a3⟩ := mbox HRA1.out
    obtain ⟨b0, b1, b2, b3⟩ := mbox HRB1.out
    clear hb
    go_wp2_with (first | (refine wpList_store_row rfl _ _ _ rfl (w.heap.size + 2) (matC 0 0 0 none 0 0) rfl rfl _ _ HRZ1.out (by kernel_rfl) rfl (matC_one _ _ _ _ _ _) ?_))
    try
      refine (HVB.out _ HW1.out).mono ?_
      rintro e w2 ⟨rfl, hb⟩
      have hlt2 := hb.size
      have HW1 := Lib.hid (below_call HW1.out hb)
      have HRA1 := Lib.hid (HRA1.out.below hb HRA1.out.lt)
      have HRB1 := Lib.hid (HRB1.out.below hb HRB1.out.lt)
      have HRZ1 := Lib.hid (HRZ1.out.below hb HRZ1.out.lt)
      clear a0 a1 a2 a3 b0 b1 b2 b3
      obtain ⟨a0, a1, a2, a3⟩ := mbox HRA1.out
      obtain ⟨b0, b1, b2, b3⟩ := mbox HRB1.out
      clear hb
      go_wp2_with (first | (refine wpList_store_row rfl _ _ _ rfl (w.heap.size + 2) (matC 0 0 0 none 0 0) rfl rfl _ _ HRZ1.out (by kernel_rfl) rfl (matC_one _ _ _ _ _ _) ?_))
    refine bodyPost_ret (v := outV nilM 1) ?_ rfl ⟨rfl, below_whole HW1.out (by omega) _⟩
    exact results_row_tmp rfl _ _ (w.heap.size + 2) _ _ _ _ rfl rfl (HRZ1.out.whole _) Tryd.underlying24 (by rfl) (by kernel_rfl)
/-- n cells from off on replaced -/
def copyTo (off n : Nat) (f x : Nat → Nat) (p : Nat) : Nat := if off ≤ p ∧ p < off + n then x (p - off) else f p
theorem only_setRow (w : World) (g : Nat) (new : Array Value) : Only (fun k => k = g) w (w.setRow g new) := ⟨rfl, rfl, rfl, by rw [size_setRow]; exact Nat.le_refl _, fun k _ hx => setRow_other w g k new hx⟩
theorem int_size : (Tryd.prog.info? 3).map (·.size) = some 1 := by kernel_rfl
theorem run_copyC {w : World} {g N : Nat} {f : Nat → Nat} (hc : Cells w g N f) (n off dLen dCap sLen sCap : Nat) (qd qs : Option Addr) (x : Nat → Nat) (hn : Nat.min sLen dLen = n) (hqd : 0 < n → qd = some ⟨g, off, none⟩) (hoff : off + n ≤ N)
    (hx : ∀ j, j < n → ∃ b o, qs = some ⟨b, o, none⟩ ∧ w.cell? ⟨b, o + j, none⟩ = some (.int .i64 (x j : Int))) (ty : TypeId) :
    ∃ w', (Builtin.copy_ #[22, 22] ty #[.slice qd dLen dCap, .slice qs sLen sCap]).run Tryd.prog w = .ok (goInt n) w' ∧ Cells w' g N (copyTo off n f x) ∧ Only (fun k => k = g) w w' := by
  rcases Nat.eq_zero_or_pos n with rfl | hpos
  · refine ⟨w, run_copy_none w 22 22 ty 3 qd qs dLen dCap sLen sCap Tryd.underlying22 int_size hn, hc.congr (fun p _ => ?_), Only.refl _ _⟩
    unfold copyTo; rw [if_neg (by omega)]
  · obtain ⟨b, o, rfl, _⟩ := hx 0 hpos
    obtain rfl := hqd hpos
    obtain ⟨cur, hrow, hle, hget⟩ := hc
    have hlen : ((List.range n).map fun j => Value.int .i64 (x j : Int)).length = n := by simp
    have hrun := run_copy_row (P := Tryd.prog) w 22 22 ty 3 g off dLen dCap ⟨b, o, none⟩ sLen sCap cur 3 ((List.range n).map fun j => Value.int .i64 (x j : Int)) Tryd.underlying22 int_size hrow (by rw [hlen, hn])
      (fun j v hv => by
        have hj : j < n := by
          by_cases h : j < n
          · exact h
          · rw [List.getElem?_eq_none (by rw [hlen]; omega)] at hv; cases hv
        obtain ⟨b', o', e, hcx⟩ := hx j hj
        injection e with e
        injection e with e1 e2
        subst e1; subst e2
        simp [hj] at hv
        subst hv
        have hadd : (⟨b, o, none⟩ : Addr).add j = ⟨b, o + j, none⟩ := by unfold Addr.add; split <;> simp_all
        rw [hadd]
        exact hcx) (by rw [hlen]; omega) (by
        intro v hv
        obtain ⟨j, _, rfl⟩ := List.mem_map.1 hv
        rfl)
    rw [hlen] at hrun
    refine ⟨_, hrun, ⟨_, hrow.whole _, ?_, fun p hp => ?_⟩, only_setRow _ _ _⟩
    · simp; omega
    · rw [← Array.getElem?_toList]
      show (cur.toList.take off ++ (List.range n).map (fun j => Value.int .i64 (x j : Int)) ++ cur.toList.drop (off + n))[p]? = _
      unfold copyTo
      by_cases h1 : p < off
      · rw [if_neg (by omega), List.append_assoc, List.getElem?_append_left (by simp; omega), List.getElem?_take_of_lt h1, Array.getElem?_toList]
        exact hget p hp
      · by_cases h2 : p < off + n
        · rw [if_pos ⟨by omega, h2⟩, List.append_assoc, List.getElem?_append_right (by simp; omega), List.getElem?_append_left (by simp; omega)]
          have : (List.take off cur.toList).length = off := by simp; omega
          rw [this]
          simp [show p - off < n by omega]
        · rw [if_neg (by omega), List.getElem?_append_right (by simp; omega)]
          have : (cur.toList.take off ++ (List.range n).map (fun j => Value.int .i64 (x j : Int))).length = off + n := by simp; omega
          rw [this, List.getElem?_drop, show off + n + (p - (off + n)) = p by omega, Array.getElem?_toList]
          exact hget p hp
theorem step_copyC {ops : Array Oper} {o : Oper} {act : Act} {w : World} {K : Act → World → Prop} {Q : Exit → Act → World → Prop} {E : Prop} (hgd : o.guard = none) (d s : Operand)
    (ho : o.op = .call { callee := .builtin .copy, args := #[d, s], argTypes := #[22, 22] }) (qd qs : Option Addr) (dLen dCap sLen sCap : Nat) (hd : act.eval d = .slice qd dLen dCap) (hs : act.eval s = .slice qs sLen sCap)
    {g N : Nat} {f : Nat → Nat} (hc : Cells w g N f) (n off : Nat) (x : Nat → Nat) (hn : Nat.min sLen dLen = n) (hqd : 0 < n → qd = some ⟨g, off, none⟩) (hoff : off + n ≤ N)
    (hx : ∀ j, j < n → ∃ b o, qs = some ⟨b, o, none⟩ ∧ w.cell? ⟨b, o + j, none⟩ = some (.int .i64 (x j : Int)))
    (h : ∀ w', Cells w' g N (copyTo off n f x) → Only (fun k => k = g) w w' → K (act.put o.dst (goInt n)) w') :
    if Region.wanted o (yielded ops act.tmps) = true then Oper.wp Tryd.prog o act w K Q else E := by
  have hw : Region.wanted o (yielded ops act.tmps) = true := by simp [Region.wanted, hgd]
  rw [if_pos hw]
  obtain ⟨w', hrun, h1, h2⟩ := run_copyC hc n off dLen dCap sLen sCap qd qs x hn hqd hoff hx o.type
  unfold Oper.wp execOp
  simp only [ho, resolve, invoke, builtin, Sem.run_bind, Sem.run_pure, Result.andThen_ok, List.map_toArray, List.map_cons, List.map_nil, hd, hs, hrun]
  exact h w' h1 h2
end Go.Proofs.YtaijjhddgecieaaDoor
