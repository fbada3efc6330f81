/- The walk of the sanity examples of chapter 32. -/
import Derived.Test.YtaoinpijicenhaaQ9
import Derived.Test.YtaoinpijicenhaaQ11
namespace Go.Proofs.Ytaoinpijicenhaa
set_option linter.unusedSimpArgs false
set_option linter.unusedVariables false
open Go.RowKit

theorem give_no (p : Int) (l : List Cl) : ∀ (o : List Int) (L r : Int), o.length = l.length → (∀ c ∈ l, c.r ≠ p) → giveR p l o L r = o := by
  induction l with
  | nil => intro o L r h _; cases o <;> simp_all [giveR]
  | cons c cs ih =>
    intro o L r h hn
    cases o with
    | nil => simp at h
    | cons x xs =>
      have h1 := hn c (List.mem_cons_self ..)
      simp only [giveR, h1, if_false, false_and]
      rw [ih xs L r (by simpa using h) fun d hd => hn d (List.mem_cons_of_mem _ hd)]
def exS : List Cl := [⟨0, 0, 1, 0, 0, 0⟩, ⟨0, 0, 5, 0, 0, 0⟩, ⟨0, 0, 5, 0, 0, 0⟩]
theorem exS_st (k : Nat) : (st exS 8 (k + 1)).1 = [1, 4, 3] := by
  induction k with
  | zero =>
    show sh 0 exS [0, 0, 0] 8 = [1, 4, 3]
    rw [sh_lv 0 exS _ (F := 8) (L := 3) (by decide) (by decide) ⟨by decide, .inl (by decide)⟩]
    decide
  | succ k ih =>
    rw [st, ih]
    exact give_no _ _ _ _ _ rfl (by intro c hc; simp [exS] at hc; rcases hc with rfl | rfl <;> (simp; omega))
theorem exS_allow : allowV exS 8 = [1, 4, 3] := by
  rw [allowV, if_pos ⟨by decide, by decide +kernel⟩]
  exact exS_st 9

def rowS : Array Value := #[.int .i64 0, .int .i64 0, .int .i64 1, .int .i64 0, .int .i64 0, .int .i64 0, .int .i64 0, .int .i64 0, .int .i64 5, .int .i64 0, .int .i64 0, .int .i64 0, .int .i64 0, .int .i64 0, .int .i64 5, .int .i64 0, .int .i64 0, .int .i64 0]
set_option maxRecDepth 100000 in
theorem sanity_any (w : World) :
    Calls Try.prog 10 #[] w fun e w' => e = .returned (.bool true) ∧ Below w.heap.size w w' := by
  go_enter Try.func10, Try.ntmps10
  go_wp2_with fail
  refine (qdecide_any ⟨100, 50, 20, 1, 95, 60⟩ 8 0 5 _).mono ?_
  rintro e w1 ⟨rfl, hb⟩
  rw [show dec ⟨100, 50, 20, 1, 95, 60⟩ 8 0 5 = (5, 3, 0) by decide +kernel]
  have HC := Lib.hid (show Row w1 w.heap.size 23 _ from ((Row.new w _ _).below hb (by simp)))
  have HB := Lib.hid (below_call ((Below.refl w.heap.size w).alloc (Nat.le_refl _) _) hb)
  clear hb
  obtain ⟨c0, c1, c2, c3, c4, c5⟩ := row6 HC.out
  have hlt1 : w.heap.size < w1.heap.size := HC.out.lt
  go_wp2_with fail
  refine (qdecide_any ⟨100, 50, 20, 1, 95, 60⟩ 8 0 2 _).mono ?_
  rintro e w2 ⟨rfl, hb⟩
  rw [show dec ⟨100, 50, 20, 1, 95, 60⟩ 8 0 2 = (0, 0, 16) by decide +kernel]
  have HG := Lib.hid (show Row w2 w1.heap.size 28 #[.int .i64 5, .int .i64 3] from ((Row.new w1 _ _).below hb (by simp)))
  have HC := Lib.hid ((HC.out.alloc _).below hb (by have := HC.out.lt; simp; omega))
  have HB := Lib.hid (below_call (HB.out.alloc HB.out.size _) hb)
  clear hb c0 c1 c2 c3 c4 c5
  obtain ⟨c0, c1, c2, c3, c4, c5⟩ := row6 HC.out
  go_wp2_with fail
  obtain ⟨W, hW⟩ : ∃ W, W = (w2.alloc (.cells #[.int .i64 0, .int .i64 0] 28)).alloc (.cells rowS 23) := ⟨_, rfl⟩
  have HS := Lib.hid (show Rd W (w2.heap.size + 2) (some ⟨w2.heap.size + 1, 0, none⟩) (flat exS) by
    rw [hW]; exact Rd.row (Row.made _ _ (size1 _ _).symm) (by omega) fun j u hu => by rw [← hu, ← Array.getElem?_toList]; rfl)
  have HZ := Lib.hid (show W.heap.size = w2.heap.size + 2 by rw [hW]; simp)
  have HG := Lib.hid (show Row W w1.heap.size 28 _ by rw [hW]; exact (HG.out.alloc _).alloc _)
  have HC := Lib.hid (show Row W w.heap.size 23 _ by rw [hW]; exact (HC.out.alloc _).alloc _)
  have HB := Lib.hid (show Below w.heap.size w W by rw [hW]; exact (HB.out.alloc HB.out.size _).alloc (by have := HB.out.size; simp; omega) _)
  unfold rowS at hW
  rw [← hW]
  clear hW c0 c1 c2 c3 c4 c5
  refine (qallow_any (some ⟨w2.heap.size + 1, 0, none⟩) 3 3 (w2.heap.size + 2) exS 8 W rfl (by decide) (by rw [HZ.out]; exact Nat.le_refl _) HS.out (by decide)).mono ?_
  rintro e w3 ⟨a3, n3, k3, rfl, ho, hb⟩
  rw [exS_allow] at ho
  obtain rfl : n3 = 3 := by have := ho.len; simpa using this.symm
  have HO := Lib.hid ho
  have HG := Lib.hid (HG.out.below hb HG.out.lt)
  have HC := Lib.hid (HC.out.below hb HC.out.lt)
  have HB := Lib.hid (below_call HB.out hb)
  clear ho hb
  obtain ⟨c0, c1, c2, c3, c4, c5⟩ := row6 HC.out
  have g0 : w3.cell? ⟨w1.heap.size, 0, none⟩ = some (.int .i64 5) := by rw [HG.out.cell]; rfl
  have g1 : w3.cell? ⟨w1.heap.size, 1, none⟩ = some (.int .i64 3) := by rw [HG.out.cell]; rfl
  go_wp2_with fail
  refine (qover_any ⟨100, 50, 20, 1, 95, 60⟩ _).mono ?_
  rintro e w4 ⟨rfl, hb⟩
  rw [show overV ⟨100, 50, 20, 1, 95, 60⟩ = 10 by decide +kernel]
  have HO := Lib.hid (HO.out.below hb)
  have HC := Lib.hid (HC.out.below hb HC.out.lt)
  have HB := Lib.hid (below_call HB.out hb)
  clear hb c0 c1 c2 c3 c4 c5 g0 g1
  obtain ⟨c0, c1, c2, c3, c4, c5⟩ := row6 HC.out
  go_wp2_with fail
  refine (qneed_any ⟨100, 50, 20, 1, 95, 60⟩ _).mono ?_
  rintro e w5 ⟨rfl, hb⟩
  rw [show needV ⟨100, 50, 20, 1, 95, 60⟩ = 160 by decide +kernel]
  have HO := Lib.hid (HO.out.below hb)
  have HB := Lib.hid (below_call HB.out hb)
  clear hb c0 c1 c2 c3 c4 c5
  go_wp2_with fail
  have HS2 := Lib.hid (rd3 w5 1 4 3)
  refine (same_any a3 (some ⟨w5.heap.size, 0, none⟩) 3 k3 3 (w5.heap.size + 1) (w5.heap.size + 1) [1, 4, 3] _ rfl (by decide) ((HO.out.alloc _).rd.more (by simp)) HS2.out).mono ?_
  rintro e w6 ⟨rfl, n6, rfl⟩
  go_wp2_with fail
  go_ret
  exact ⟨rfl, below_drewN (HB.out.alloc HB.out.size _) _⟩
end Go.Proofs.Ytaoinpijicenhaa
