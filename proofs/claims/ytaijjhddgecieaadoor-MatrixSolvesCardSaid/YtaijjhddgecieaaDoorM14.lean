/- Matrices: a copy, the rank, the independent rows. -/
import Derived.Test.YtaijjhddgecieaaDoorM13
namespace Go.Proofs.YtaijjhddgecieaaDoor
set_option linter.unusedSimpArgs false
set_option linter.unusedVariables false
open Go.RowKit Go.Lib

theorem Own.toCells {w : World} {B N k : Nat} {a : Option Addr} {xs : List Int} {f : Nat → Nat} (h : Own w B 3 a N k (ints xs)) (hN : 0 < N) (hx : ∀ p, p < N → xs[p]? = some (f p : Int)) : ∃ g, a = some ⟨g, 0, none⟩ ∧ B ≤ g ∧ Cells w g N f := by
  rcases h.2 with ⟨hv, h0⟩ | ⟨g, cap, cur, hv, h1, hg, h2, h3, h4, h5⟩
  · omega
  · injection hv with e1
    refine ⟨g, e1, h1, cur, hg, by omega, fun p hp => ?_⟩
    have e2 : (List.take (N * 1) cur.toList)[p]? = (ints xs)[p]? := by rw [h5]
    rw [List.getElem?_take_of_lt (by omega), ints, List.getElem?_map, hx p hp] at e2
    rw [← Array.getElem?_toList, e2]; rfl
theorem eql_nil (q : Option Addr) (n k : Nat) (W : World) : (binOp BinOp.eql 22 (.slice q n k) (.slice none 0 0)).run Tryd.prog W = .ok (.bool q.isNone) W := by
  cases q with
  | none => kernel_rfl
  | some ad => kernel_rfl
set_option maxRecDepth 100000 in
theorem clone_any (q : Option Addr) (n k : Nat) (xs : List Int) (w : World) (hl : xs.length = n) (hn : n ≤ 5000) (hr : Rd w w.heap.size q (ints xs)) :
    Calls Tryd.prog 52 #[.slice q n k] w fun e w' => ∃ q' k', e = .returned (.slice q' n k') ∧ Own w' w.heap.size 3 q' n k' (ints xs) ∧ Below w.heap.size w w' := by
  cases q with
  | none =>
    have hx : xs = [] := by
      cases xs with
      | nil => rfl
      | cons x xs =>
        obtain ⟨b, off, e, _⟩ := hr 0 (.int .i64 x) rfl
        cases e
    subst hx
    obtain rfl : n = 0 := hl.symm
    have hnil : ∀ W, (binOp BinOp.eql 22 (.slice none 0 k) (.slice none 0 0)).run Tryd.prog W = .ok (.bool true) W := fun W => eql_nil none 0 k W
    go_enter Tryd.func52, Tryd.ntmps52
    go_wp2
    go_ret
    exact ⟨none, 0, rfl, Own.nil _ _ _, Below.refl _ _⟩
  | some ad =>
    have HR := Lib.hid hr
    have HL := Lib.hid (show (ints xs).length = n by simpa [ints] using hl)
    have H1 := Lib.hid (show ∀ u ∈ ints xs, u.oneCell' = true by
      intro u hu
      unfold ints at hu
      obtain ⟨x, _, rfl⟩ := List.mem_map.1 hu
      rfl)
    obtain ⟨ys, hys⟩ : ∃ ys, ints xs = ys := ⟨_, rfl⟩
    rw [hys] at HR HL H1 ⊢
    clear hr hl hys
    have hnil : ∀ W, (binOp BinOp.eql 22 (.slice (some ad) n k) (.slice none 0 0)).run Tryd.prog W = .ok (.bool false) W := fun W => eql_nil (some ad) n k W
    go_enter Tryd.func52, Tryd.ntmps52
    go_wp2_with (refine wpList_app _ rfl (.tmp 5) (.tmp 6) 22 rfl w.heap.size 3 (.int .i64 0) 8 Tryd.underlying22 elem_int6 rfl (some ⟨w.heap.size, 0, none⟩) 0 0 [] rfl (Own.new w w.heap.size 3 #[] 0 (Nat.le_refl _) rfl (by unfold maxLen; omega)) w.heap.size (some ad) n k ys rfl (HR.out.alloc (Nat.le_refl _) _) HL.out H1.out (by unfold maxLen; omega) (by omega) (by simp) ?_; intro a' c' w' ho hgr; have HO := Lib.hid ho; have HB := Lib.hid (below_grown2 ((Below.refl w.heap.size w).alloc (Nat.le_refl _) _) hgr (Own.new w w.heap.size 3 #[] 0 (Nat.le_refl _) rfl (by unfold maxLen; omega)) (by simp) (Nat.le_refl _)); clear ho hgr)
    go_ret
    rw [List.nil_append, Nat.zero_add] at HO
    exact ⟨a', c', rfl, HO.out, HB.out⟩
set_option maxRecDepth 100000 in
theorem copied_any {m r c k : Nat} {A : Nat → Nat → Nat} (q : Option Addr) (w : World) (hA : MatR w w.heap.size m r c q k A) :
    Calls Tryd.prog 44 #[matV m r c q (r * c) k] w fun e w' => ∃ q' k', e = .returned (matV m r c q' (r * c) k') ∧ r * c ≤ k' ∧ k' ≤ maxLen ∧ (q' = none → k' = 0) ∧ (∀ b, q' = some ⟨b, 0, none⟩ → w.heap.size ≤ b) ∧ (0 < r * c → ∃ g, q' = some ⟨g, 0, none⟩ ∧ w.heap.size ≤ g ∧ Cells w' g (r * c) (Mat.flat c A)) ∧ Below w.heap.size w w' := by
  have hrd := hA.rd
  have hle : r * c ≤ 32 * 64 := Nat.mul_le_mul hA.hr hA.hc
  have HX := Lib.hid (fun p (hp : p < r * c) => cellsL_get r c A hp)
  have hlen := cellsL_length r c A
  obtain ⟨xs, hxs⟩ : ∃ xs, cellsL r c A = xs := ⟨_, rfl⟩
  rw [hxs] at hrd hlen HX
  obtain ⟨N, hN⟩ : ∃ N, r * c = N := ⟨_, rfl⟩
  rw [hN] at hle hlen HX ⊢
  have HCL := Lib.hid (fun (W : World) (h : Below w.heap.size w W) => clone_any q N k xs W hlen (by omega) ((hrd.below h).more h.size))
  clear hrd hlen hxs hA hN
  unfold matV
  have HB0 := Lib.hid (show Below w.heap.size w ((w.alloc (.cells (matC m r c q N k) 24)).alloc (.cells #[.int .i64 0, .int .i64 0, .int .i64 0, .slice none 0 0] 24)) from ((Below.refl _ w).alloc (Nat.le_refl _) _).alloc (by simp) _)
  have HR0 := Lib.hid (show Row ((w.alloc (.cells (matC m r c q N k) 24)).alloc (.cells #[.int .i64 0, .int .i64 0, .int .i64 0, .slice none 0 0] 24)) w.heap.size 24 (matC m r c q N k) from (Row.new w _ _).alloc _)
  have HZ0 := Lib.hid (show Row ((w.alloc (.cells (matC m r c q N k) 24)).alloc (.cells #[.int .i64 0, .int .i64 0, .int .i64 0, .slice none 0 0] 24)) (w.heap.size + 1) 24 (matC 0 0 0 none 0 0) from Row.made _ _ (by simp))
  go_enter Tryd.func44, Tryd.ntmps44
  go_wp2_with fail
  refine (HCL.out _ HB0.out).mono ?_
  rintro e w1 ⟨q', k', rfl, ho, hb⟩
  have HO := Lib.hid ho
  have HB1 := Lib.hid (below_call HB0.out hb)
  have HR1 := Lib.hid (HR0.out.below hb HR0.out.lt)
  have HZ1 := Lib.hid (HZ0.out.below hb HZ0.out.lt)
  obtain ⟨a0, a1, a2, a3⟩ := mbox HR1.out
  have f3 := HR1.out.frozen 3
  clear ho hb HR0 HZ0 HB0
  have HR2 := Lib.hid (show Row (w1.setCell ⟨w.heap.size, 3, none⟩ (.slice q' N k')) w.heap.size 24 (matC m r c q' N k') from HR1.out.put 3 _)
  have HZ2 := Lib.hid (show Row (w1.setCell ⟨w.heap.size, 3, none⟩ (.slice q' N k')) (w.heap.size + 1) 24 (matC 0 0 0 none 0 0) from HZ1.out.far (by simp) _)
  have hs1 := HZ1.out.lt
  obtain ⟨d0, d1, d2, d3⟩ := mbox HR2.out
  go_wp2_with (refine wpList_store_row rfl _ _ _ rfl (w.heap.size + 1) (matC m r c q' N k') rfl rfl _ _ HZ2.out (by kernel_rfl) rfl (matC_one _ _ _ _ _ _) ?_)
  refine bodyPost_ret (v := matV m r c q' N k') ?_ rfl ⟨q', k', rfl, HO.out.cap, HO.out.le, own_nil HO.out, fun b hb => by have := (HO.out.lt hb).1; simp only [size1] at this; omega, fun hN0 => ?_, below_whole (HB1.out.setCell (Nat.le_refl _) _) (by omega) _⟩
  · exact results_cell_row rfl _ _ (w.heap.size + 1) _ _ (0, 0) _ rfl (HZ2.out.whole _) Tryd.underlying24 rfl (by kernel_rfl)
  · obtain ⟨g, e1, h1, hc⟩ := HO.out.toCells hN0 HX.out
    simp only [size1] at h1
    exact ⟨g, e1, by omega, (hc.far (by simp; omega) _).apart (by omega) _⟩
theorem red_empty {m R : Nat} {A : Nat → Nat → Nat} : ∀ n, R = 0 → Mat.red m R A n = (A, [])
  | 0, _ => rfl
  | n + 1, h => by
    show Mat.col m R (Mat.red m R A n) n = _
    rw [red_empty n h]
    exact Mat.col_none (by subst h; rfl)
set_option maxRecDepth 100000 in
theorem mred_none (m C cols : Nat) (hcb : cols ≤ 64) (q : Option Addr) (k : Nat) (w : World) :
    Calls Tryd.prog 39 #[matV m 0 C q 0 k, .int .i64 cols] w fun e w' => e = .returned (.slice none 0 0) ∧ Below w.heap.size w w' := by
  unfold matV
  have HS0 := Lib.hid (And.intro (Row.new w 24 (matC m 0 C q 0 k)) ((Below.refl w.heap.size w).alloc (Nat.le_refl _) (.cells (matC m 0 C q 0 k) 24)))
  go_enter Tryd.func39, Tryd.ntmps39
  go_wp2
  go_step3
  go_wp2
  go_step3
  go_wp2
  go_loopg [16, 4] cols (fun gh i s wr => ∃ (j : Nat), j + gh = cols ∧ i = .int .i64 j ∧ s = .slice none 0 0 ∧ Row wr w.heap.size 24 (matC m 0 C q 0 k) ∧ Below w.heap.size w wr)
  case atStart => exact ⟨0, by omega, rfl, rfl, HS0.out⟩
  case round =>
    obtain ⟨j, hj, rfl, rfl, hs⟩ := hrel
    have HS := Lib.hid hs
    obtain ⟨b0, b1, b2, b3⟩ := mbox hs.1
    clear hs HS0
    by_cases hjc : j < cols
    · have hd : decide ((j : Int) < cols) = true := decide_eq_true (by omega)
      go_wp2
      go_loopg [8] 1 (fun gh i wr2 => i = .int .i64 0 ∧ wr2 = wr)
      case atStart => exact ⟨rfl, rfl⟩
      case round =>
        obtain ⟨rfl, rfl⟩ := hrel
        go_wp2
        go_roundg (cols - (j + 1))
        case measure => omega
        case rel => exact ⟨j + 1, by omega, by go_num, rfl, HS.out⟩
    · have hd : decide ((j : Int) < cols) = false := decide_eq_false (by omega)
      go_wp2
      try rw [Exit.noGoto_ret]
      go_ret
      exact ⟨rfl, HS.out.2⟩
set_option maxRecDepth 100000 in
theorem mred_nocols (m R C : Nat) (q : Option Addr) (n k : Nat) (w : World) :
    Calls Tryd.prog 39 #[matV m R C q n k, .int .i64 0] w fun e w' => e = .returned (.slice none 0 0) ∧ Below w.heap.size w w' := by
  unfold matV
  have HS0 := Lib.hid ((Below.refl w.heap.size w).alloc (Nat.le_refl _) (.cells (matC m R C q n k) 24))
  go_enter Tryd.func39, Tryd.ntmps39
  go_wp2
  go_step3
  go_wp2
  go_step3
  go_wp2
  go_loopg [16, 4] 0 (fun gh i s wr => i = .int .i64 0 ∧ s = .slice none 0 0 ∧ Below w.heap.size w wr)
  case atStart => exact ⟨rfl, rfl, HS0.out⟩
  case round =>
    obtain ⟨rfl, rfl, hs⟩ := hrel
    have HS := Lib.hid hs
    clear hs
    go_wp2
    try rw [Exit.noGoto_ret]
    go_ret
    exact ⟨rfl, HS.out⟩
/-- reduce, of a matrix in its own block or without cells -/
theorem mred_gen {m R C kap cols : Nat} {A : Nat → Nat → Nat} (hm : Fld.IsM m) (hR : R ≤ 32) (hC : C ≤ 64) (hcols : cols ≤ C) (hk1 : R * C ≤ kap) (hk2 : kap ≤ maxLen) (ok : Mat.Ok m R C A) (q : Option Addr) (w : World) (ht : Tab w) (hq : 0 < R * C → ∃ g, q = some ⟨g, 0, none⟩ ∧ 0 < g ∧ Cells w g (R * C) (Mat.flat C A)) :
    Calls Tryd.prog 39 #[matV m R C q (R * C) kap, .int .i64 cols] w fun e w' => (∃ q k, e = .returned (.slice q (Mat.red m R A cols).2.length k) ∧ k ≤ maxLen ∧ (Mat.red m R A cols).2.length ≤ k ∧ (q = none → k = 0) ∧ Rd w' w'.heap.size q (ints (natsL (Mat.red m R A cols).2))) ∧ (∀ g, q = some ⟨g, 0, none⟩ → Cells w g (R * C) (Mat.flat C A) → Cells w' g (R * C) (Mat.flat C (Mat.red m R A cols).1)) ∧ Only (fun b => q = some ⟨b, 0, none⟩) w w' := by
  rcases Nat.eq_zero_or_pos R with rfl | hR0
  · rw [red_empty cols rfl, Nat.zero_mul]
    refine (mred_none m C cols (by omega) q kap w).mono ?_
    rintro e w' ⟨rfl, hb⟩
    exact ⟨⟨none, 0, rfl, Nat.zero_le _, Nat.le_refl _, fun _ => rfl, Rd.nil _ _ _⟩, fun g _ h => h.below hb h.lt, Only.of_below hb (fun k hk _ => hk)⟩
  · rcases Nat.eq_zero_or_pos C with rfl | hC0
    · obtain rfl : cols = 0 := by omega
      refine (mred_nocols m R 0 q (R * 0) kap w).mono ?_
      rintro e w' ⟨rfl, hb⟩
      exact ⟨⟨none, 0, rfl, Nat.zero_le _, Nat.le_refl _, fun _ => rfl, Rd.nil _ _ _⟩, fun g _ h => h.below hb h.lt, Only.of_below hb (fun k hk _ => hk)⟩
    · obtain ⟨g, rfl, hg0, hcell⟩ := hq (Nat.mul_pos hR0 hC0)
      refine (mred_any hm hR hC hC0 hcols hk1 hk2 ok g hg0 w ht hcell).mono ?_
      rintro e w' ⟨h1, h2, h3⟩
      refine ⟨h1, fun g' e _ => ?_, h3.mono (fun k _ hk => by subst hk; rfl)⟩
      injection e with e
      injection e with e
      subst e
      exact h2
end Go.Proofs.YtaijjhddgecieaaDoor
