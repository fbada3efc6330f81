/- Matrices: Identity, the program's and the reference's. -/
import Derived.Test.YtaijjhddgecieaaDoorM6
namespace Go.Proofs.YtaijjhddgecieaaDoor
set_option linter.unusedSimpArgs false
set_option linter.unusedVariables false
open Go.RowKit Go.Lib

theorem Cells.apart {w : World} {g N : Nat} {f : Nat → Nat} (h : Cells w g N f) {g' : Nat} (hg : g ≠ g') (new : Array Value) : Cells (w.setRow g' new) g N f := h.same (setRow_other w g' g new hg)
/-- a matrix and an error -/
@[reducible] def outV (v : Value) (e : Int) : Value := .tuple #[v, .int .i64 e]
@[reducible] def nilM : Value := .agg #[.int .i64 0, .int .i64 0, .int .i64 0, .slice none 0 0]
/-- the identity after k rows -/
def oneTo (k : Nat) (i j : Nat) : Nat := if i = j ∧ i < k then 1 else 0
theorem flat_put {c : Nat} {A A' : Nat → Nat → Nat} {r i j v : Nat} (hi : i < r) (hj : j < c) (h : ∀ p q, p < r → q < c → A' p q = if p = i ∧ q = j then v else A p q) :
    ∀ p, p < r * c → (if p = i * c + j then v else Mat.flat c A p) = Mat.flat c A' p := fun p hp => by
  obtain ⟨h1, h2, h3⟩ := Mat.flat_split hp
  unfold Mat.flat
  rw [h _ _ h1 h2]
  by_cases e : p / c = i ∧ p % c = j
  · rw [if_pos e, if_pos (by rw [h3, e.1, e.2])]
  · rw [if_neg e, if_neg (fun e2 => e ⟨by rw [e2]; exact (by rw [Nat.mul_comm, Nat.mul_add_div (by omega), Nat.div_eq_of_lt hj, Nat.add_zero]), by rw [e2, Nat.mul_comm, Nat.mul_add_mod, Nat.mod_eq_of_lt hj]⟩)]
theorem matC_one (m r c : Int) (q : Option Addr) (n k : Nat) : (matC m r c q n k).all (·.oneCell') = true := by
  simp [matC, Value.oneCell']
set_option maxRecDepth 100000 in
theorem ident_no (m n : Int) (w : World) (h : okM m = false ∨ n < 0 ∨ 32 < n) :
    Calls Tryd.prog 10 #[.int .i64 m, .int .i64 n] w fun e w' => e = .returned (outV nilM 1) ∧ Below w.heap.size w w' := by
  obtain ⟨b1, e1⟩ : ∃ b, (m != 8) = b := ⟨_, rfl⟩
  obtain ⟨b2, e2⟩ : ∃ b, (m != 16) = b := ⟨_, rfl⟩
  obtain ⟨b3, e3⟩ : ∃ b, decide (n < 0) = b := ⟨_, rfl⟩
  obtain ⟨b4, e4⟩ : ∃ b, decide (32 < n) = b := ⟨_, rfl⟩
  have hs : (b1 = true ∧ b2 = true) ∨ (b1 = true ∧ b2 = false ∧ (b3 = true ∨ (b3 = false ∧ b4 = true))) ∨ (b1 = false ∧ (b3 = true ∨ (b3 = false ∧ b4 = true))) := by
    rw [← e1, ← e2, ← e3, ← e4]
    unfold okM at h
    simp only [bne_iff_ne, bne_eq_false_iff_eq, decide_eq_true_eq, decide_eq_false_iff_not, Bool.or_eq_false_iff, ne_eq] at h ⊢
    omega
  clear h
  have HF : Hid (Row (w.alloc (.cells #[.int .i64 0, .int .i64 0, .int .i64 0, .slice none 0 0] 24)) w.heap.size 24 #[.int .i64 0, .int .i64 0, .int .i64 0, .slice none 0 0]) := Lib.hid (Row.new w _ _)
  have HB : Hid (Below w.heap.size w (w.alloc (.cells #[.int .i64 0, .int .i64 0, .int .i64 0, .slice none 0 0] 24))) := Lib.hid ((Below.refl _ w).alloc (Nat.le_refl _) _)
  rcases hs with ⟨rfl, rfl⟩ | ⟨rfl, rfl, rfl | ⟨rfl, rfl⟩⟩ | ⟨rfl, rfl | ⟨rfl, rfl⟩⟩
  all_goals
    go_enter Tryd.func10, Tryd.ntmps10
    go_wp2
    refine bodyPost_ret (v := outV nilM 1) ?_ rfl ⟨rfl, ?_⟩
    · exact results_row_tmp rfl _ _ w.heap.size _ _ _ _ rfl rfl HF.out Tryd.underlying24 (by rfl) (by kernel_rfl)
    · exact HB.out
set_option maxRecDepth 100000 in
theorem ident_yes (m n : Nat) (hm : Fld.IsM m) (hn : n ≤ 32) (w : World) :
    Calls Tryd.prog 10 #[.int .i64 m, .int .i64 n] w fun e w' => ∃ g, e = .returned (outV (matV m n n (some ⟨g, 0, none⟩) (n * n) (n * n)) 0) ∧ w.heap.size ≤ g ∧ Cells w' g (n * n) (Mat.flat n Mat.one) ∧ Below w.heap.size w w' := by
  have HM := Lib.hid hm
  obtain ⟨b1, e1⟩ : ∃ b, ((m : Int) != 8) = b := ⟨_, rfl⟩
  obtain ⟨b2, e2⟩ : ∃ b, ((m : Int) != 16) = b := ⟨_, rfl⟩
  have hs : b1 = false ∨ (b1 = true ∧ b2 = false) := by
    rw [← e1, ← e2]
    rcases hm with rfl | rfl <;> decide
  have d3 : decide ((n : Int) < 0) = false := decide_eq_false (by omega)
  have d4 : decide ((32 : Int) < n) = false := decide_eq_false (by omega)
  have hnn : n * n ≤ 4096 := Nat.mul_le_mul (show n ≤ 64 by omega) (show n ≤ 64 by omega)
  have HN := Lib.hid hn
  have HRW := Lib.hid (fun (w0 : World) (g : Nat) (h : Cells w0 g (n * n) (Mat.flat n (fun _ _ => 0))) => mrow_any (MatR.of_cells (B := g + 1) h (Nat.lt_succ_self _) hm hn (by omega) (fun _ _ _ _ => Nat.two_pow_pos m)))
  obtain ⟨N, hN⟩ : ∃ N, n * n = N := ⟨_, rfl⟩
  have HNN := Lib.hid hN
  have HZ := Lib.hid (fun W => zero_any (m : Int) n n (by omega) (by omega) W)
  rw [hN] at hnn HZ HRW ⊢
  clear hN hm
  rcases hs with rfl | ⟨rfl, rfl⟩
  all_goals
    go_enter Tryd.func10, Tryd.ntmps10
    go_wp2_with fail
    refine (HZ.out _).mono ?_
    rintro e w1 ⟨g, rfl, hg, hc, hb⟩
    have HROW := Lib.hid (HRW.out w1 g hc)
    have HC := Lib.hid hc
    have hlt := hc.lt
    have hs1 := hb.size
    rw [size1] at hg hs1
    have HB := Lib.hid (below_call ((Below.refl _ w).alloc (Nat.le_refl _) _) hb)
    have HR := Lib.hid ((Row.new w 24 #[.int .i64 0, .int .i64 0, .int .i64 0, .slice none 0 0]).below hb (by simp))
    clear hc hb
    go_wp2
    go_loopw [28] (fun i wr => ∃ k : Nat, k ≤ n ∧ i = .int .i64 k ∧ Cells wr g N (Mat.flat n (oneTo k)) ∧ Row wr w.heap.size 24 #[.int .i64 0, .int .i64 0, .int .i64 0, .slice none 0 0] ∧ Row wr w1.heap.size 24 (matC m n n (some ⟨g, 0, none⟩) N N) ∧ Below w.heap.size w wr) (fun i _ => n - (intOf i).toNat)
    case atStart =>
      exact ⟨0, Nat.zero_le _, rfl, (HC.out.alloc _).congr (fun p _ => by unfold Mat.flat oneTo; rw [if_neg (by omega)]), HR.out.alloc _, Row.made _ _ rfl, HB.out.alloc (by omega) _⟩
    case round =>
      obtain ⟨k, hk, rfl, hc, hr0, hr1, hb⟩ := hrel
      have HC := Lib.hid hc
      have HR0 := Lib.hid hr0
      have HR1 := Lib.hid hr1
      have HB := Lib.hid hb
      have z0 := hr0.cell 0
      have z1 := hr0.cell 1
      have z2 := hr0.cell 2
      have z3 := hr0.cell 3
      have y0 := hr1.cell 0
      have y1 := hr1.cell 1
      have y2 := hr1.cell 2
      have y3 := hr1.cell 3
      simp only [matC, List.getElem?_toArray, List.getElem?_cons_zero, List.getElem?_cons_succ] at z0 z1 z2 z3 y0 y1 y2 y3
      by_cases hkn : k < n
      · have hd : decide ((k : Int) < n) = true := decide_eq_true (by omega)
        clear hc hr0 hr1 hb
        go_wp2_with fail
        refine (HROW.out k hkn _).mono ?_
        rintro e w2 ⟨q', k', rfl, hk1, hk2, hq, hb2⟩
        obtain ⟨g', o', e1, rfl⟩ := hq (by omega)
        injection e1 with e1
        injection e1 with e1 e2
        subst e1; subst e2
        obtain ⟨oo, hoo⟩ : ∃ oo, 0 + k * n = oo := ⟨_, rfl⟩
        rw [hoo]
        have HOO := Lib.hid hoo
        have HC2 := Lib.hid (HC.out.below hb2 HC.out.lt)
        have hlt2 : oo + k < N := by
          have := Mat.at_lt hkn hkn
          rw [HNN.out] at this
          omega
        have hcell := HC2.out.cell hlt2
        have hfr := HC2.out.frozen (oo + k)
        have HB2 := Lib.hid hb2
        clear hoo hb2 hq
        go_wp2
        go_roundw
        case rel =>
          refine ⟨k + 1, by omega, by go_num, ?_, (HR0.out.below HB2.out HR0.out.lt).far (by simp; omega) _, (HR1.out.below HB2.out HR1.out.lt).far (by simp; omega) _, ?_⟩
          · refine (HC2.out.put hlt2 1).congr fun p hp => ?_
            rw [← HNN.out] at hp
            rw [← HOO.out, Nat.zero_add]
            exact flat_put hkn hkn (fun i j _ _ => by
              unfold oneTo
              by_cases e : i = k ∧ j = k
              · rw [if_pos e, if_pos (by omega)]
              · rw [if_neg e]
                by_cases e2 : i = j ∧ i < k
                · rw [if_pos e2, if_pos (by omega)]
                · rw [if_neg e2, if_neg (by omega)]) p hp
          · exact (below_call HB.out HB2.out).setCell (by simp; omega) _
        case measure => simp [intOf]; omega
      · have hd : decide ((k : Int) < n) = false := decide_eq_false (by omega)
        have hke : k = n := by omega
        subst hke
        clear hc hr0 hr1 hb
        go_wp2_with (refine wpList_store_row rfl _ _ _ rfl w.heap.size (matC m k k (some ⟨g, 0, none⟩) N N) rfl rfl _ _ HR0.out (by kernel_rfl) rfl (matC_one _ _ _ _ _ _) ?_)
        refine bodyPost_ret (v := outV (matV m k k (some ⟨g, 0, none⟩) N N) 0) ?_ rfl ⟨g, rfl, ?_⟩
        · exact results_row_tmp rfl _ _ w.heap.size _ _ _ _ rfl rfl (HR0.out.whole _) Tryd.underlying24 (by rfl) (by kernel_rfl)
        · refine ⟨by omega, ?_, below_whole HB.out (Nat.le_refl _) _⟩
          exact (HC.out.apart (by omega) _).congr (fun p hp => by rw [← HNN.out] at hp; exact Mat.flat_congr (fun i j hi hj => by unfold oneTo Mat.one; simp [hi]) p hp)
set_option maxRecDepth 100000 in
theorem rident_no (m n : Int) (w : World) (h : okM m = false ∨ n < 0 ∨ 32 < n) :
    Calls Tryd.prog 11 #[.int .i64 m, .int .i64 n] w fun e w' => e = .returned (outV nilM 1) ∧ Below w.heap.size w w' := by
  obtain ⟨b1, e1⟩ : ∃ b, (m != 8) = b := ⟨_, rfl⟩
  obtain ⟨b2, e2⟩ : ∃ b, (m != 16) = b := ⟨_, rfl⟩
  obtain ⟨b3, e3⟩ : ∃ b, decide (n < 0) = b := ⟨_, rfl⟩
  obtain ⟨b4, e4⟩ : ∃ b, decide (32 < n) = b := ⟨_, rfl⟩
  have hs : (b1 = true ∧ b2 = true) ∨ (b1 = true ∧ b2 = false ∧ (b3 = true ∨ (b3 = false ∧ b4 = true))) ∨ (b1 = false ∧ (b3 = true ∨ (b3 = false ∧ b4 = true))) := by
    rw [← e1, ← e2, ← e3, ← e4]
    unfold okM at h
    simp only [bne_iff_ne, bne_eq_false_iff_eq, decide_eq_true_eq, decide_eq_false_iff_not, Bool.or_eq_false_iff, ne_eq] at h ⊢
    omega
  clear h
  have HF : Hid (Row (w.alloc (.cells #[.int .i64 0, .int .i64 0, .int .i64 0, .slice none 0 0] 24)) w.heap.size 24 #[.int .i64 0, .int .i64 0, .int .i64 0, .slice none 0 0]) := Lib.hid (Row.new w _ _)
  have HB : Hid (Below w.heap.size w (w.alloc (.cells #[.int .i64 0, .int .i64 0, .int .i64 0, .slice none 0 0] 24))) := Lib.hid ((Below.refl _ w).alloc (Nat.le_refl _) _)
  rcases hs with ⟨rfl, rfl⟩ | ⟨rfl, rfl, rfl | ⟨rfl, rfl⟩⟩ | ⟨rfl, rfl | ⟨rfl, rfl⟩⟩
  all_goals
    go_enter Tryd.func11, Tryd.ntmps11
    go_wp2
    refine bodyPost_ret (v := outV nilM 1) ?_ rfl ⟨rfl, ?_⟩
    · exact results_row_tmp rfl _ _ w.heap.size _ _ _ _ rfl rfl HF.out Tryd.underlying24 (by rfl) (by kernel_rfl)
    · exact HB.out
set_option maxRecDepth 100000 in
theorem rident_yes (m n : Nat) (hm : Fld.IsM m) (hn : n ≤ 32) (w : World) :
    Calls Tryd.prog 11 #[.int .i64 m, .int .i64 n] w fun e w' => ∃ g, e = .returned (outV (matV m n n (some ⟨g, 0, none⟩) (n * n) (n * n)) 0) ∧ w.heap.size ≤ g ∧ Cells w' g (n * n) (Mat.flat n Mat.one) ∧ Below w.heap.size w w' := by
  have HM := Lib.hid hm
  obtain ⟨b1, e1⟩ : ∃ b, ((m : Int) != 8) = b := ⟨_, rfl⟩
  obtain ⟨b2, e2⟩ : ∃ b, ((m : Int) != 16) = b := ⟨_, rfl⟩
  have hs : b1 = false ∨ (b1 = true ∧ b2 = false) := by
    rw [← e1, ← e2]
    rcases hm with rfl | rfl <;> decide
  have d3 : decide ((n : Int) < 0) = false := decide_eq_false (by omega)
  have d4 : decide ((32 : Int) < n) = false := decide_eq_false (by omega)
  have hnn : n * n ≤ 4096 := Nat.mul_le_mul (show n ≤ 64 by omega) (show n ≤ 64 by omega)
  have HN := Lib.hid hn
  obtain ⟨N, hN⟩ : ∃ N, n * n = N := ⟨_, rfl⟩
  have HNN := Lib.hid hN
  have HZ := Lib.hid (fun W => rzero_any (m : Int) n n (by omega) (by omega) W)
  rw [hN] at hnn HZ ⊢
  clear hN hm
  rcases hs with rfl | ⟨rfl, rfl⟩
  all_goals
    go_enter Tryd.func11, Tryd.ntmps11
    go_wp2_with fail
    refine (HZ.out _).mono ?_
    rintro e w1 ⟨g, rfl, hg, hc, hb⟩
    have HC := Lib.hid hc
    have hlt := hc.lt
    have hs1 := hb.size
    rw [size1] at hg hs1
    have HB := Lib.hid (below_call ((Below.refl _ w).alloc (Nat.le_refl _) _) hb)
    have HR := Lib.hid ((Row.new w 24 #[.int .i64 0, .int .i64 0, .int .i64 0, .slice none 0 0]).below hb (by simp))
    clear hc hb
    go_wp2
    go_loopw [7] (fun i wr => ∃ k : Nat, k ≤ n ∧ i = .int .i64 k ∧ Cells wr g N (Mat.flat n (oneTo k)) ∧ Row wr w.heap.size 24 #[.int .i64 0, .int .i64 0, .int .i64 0, .slice none 0 0] ∧ Row wr w1.heap.size 24 (matC m n n (some ⟨g, 0, none⟩) N N) ∧ Below w.heap.size w wr) (fun i _ => n - (intOf i).toNat)
    case atStart =>
      exact ⟨0, Nat.zero_le _, rfl, (HC.out.alloc _).congr (fun p _ => by unfold Mat.flat oneTo; rw [if_neg (by omega)]), HR.out.alloc _, Row.made _ _ rfl, HB.out.alloc (by omega) _⟩
    case round =>
      obtain ⟨k, hk, rfl, hc, hr0, hr1, hb⟩ := hrel
      have HC := Lib.hid hc
      have HR0 := Lib.hid hr0
      have HR1 := Lib.hid hr1
      have HB := Lib.hid hb
      have z0 := hr0.cell 0
      have z1 := hr0.cell 1
      have z2 := hr0.cell 2
      have z3 := hr0.cell 3
      have y0 := hr1.cell 0
      have y1 := hr1.cell 1
      have y2 := hr1.cell 2
      have y3 := hr1.cell 3
      simp only [matC, List.getElem?_toArray, List.getElem?_cons_zero, List.getElem?_cons_succ] at z0 z1 z2 z3 y0 y1 y2 y3
      by_cases hkn : k < n
      · have hd : decide ((k : Int) < n) = true := decide_eq_true (by omega)
        clear hc hr0 hr1 hb
        obtain ⟨oo, hoo⟩ : ∃ oo, k * n = oo := ⟨_, rfl⟩
        have HOO := Lib.hid hoo
        have HC2 := Lib.hid HC.out
        have hlt2 : oo + k < N := by
          have := Mat.at_lt hkn hkn
          rw [HNN.out] at this
          omega
        have hcell := HC2.out.cell hlt2
        have hfr := HC2.out.frozen (oo + k)
        have hw1 : IntKind.i64.wrap ((k : Int) * (n : Int)) = (oo : Int) := by rw [← Int.natCast_mul, hoo, IntKind.wrap_i64] <;> omega
        have hw2 : IntKind.i64.wrap ((oo : Int) + (k : Int)) = ((oo + k : Nat) : Int) := by rw [← Int.natCast_add, IntKind.wrap_i64] <;> omega
        clear hoo
        go_wp2
        go_roundw
        case rel =>
          refine ⟨k + 1, by omega, by go_num, ?_, HR0.out.far (by simp; omega) _, HR1.out.far (by simp; omega) _, ?_⟩
          · refine (HC2.out.put hlt2 1).congr fun p hp => ?_
            rw [← HNN.out] at hp
            rw [← HOO.out]
            exact flat_put hkn hkn (fun i j _ _ => by
              unfold oneTo
              by_cases e : i = k ∧ j = k
              · rw [if_pos e, if_pos (by omega)]
              · rw [if_neg e]
                by_cases e2 : i = j ∧ i < k
                · rw [if_pos e2, if_pos (by omega)]
                · rw [if_neg e2, if_neg (by omega)]) p hp
          · exact HB.out.setCell (by simp; omega) _
        case measure => simp [intOf]; omega
      · have hd : decide ((k : Int) < n) = false := decide_eq_false (by omega)
        have hke : k = n := by omega
        subst hke
        clear hc hr0 hr1 hb
        go_wp2_with (refine wpList_store_row rfl _ _ _ rfl w.heap.size (matC m k k (some ⟨g, 0, none⟩) N N) rfl rfl _ _ HR0.out (by kernel_rfl) rfl (matC_one _ _ _ _ _ _) ?_)
        refine bodyPost_ret (v := outV (matV m k k (some ⟨g, 0, none⟩) N N) 0) ?_ rfl ⟨g, rfl, ?_⟩
        · exact results_row_tmp rfl _ _ w.heap.size _ _ _ _ rfl rfl (HR0.out.whole _) Tryd.underlying24 (by rfl) (by kernel_rfl)
        · refine ⟨by omega, ?_, below_whole HB.out (Nat.le_refl _) _⟩
          exact (HC.out.apart (by omega) _).congr (fun p hp => by rw [← HNN.out] at hp; exact Mat.flat_congr (fun i j hi hj => by unfold oneTo Mat.one; simp [hi]) p hp)
end Go.Proofs.YtaijjhddgecieaaDoor
