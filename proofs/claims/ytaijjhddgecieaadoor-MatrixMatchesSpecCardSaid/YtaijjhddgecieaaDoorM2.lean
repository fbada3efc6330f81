/- Matrices: a multiple of a row added to another. -/
import Derived.Test.YtaijjhddgecieaaDoorM1
import Derived.Deep.RegionHeld3
namespace Go.Proofs.YtaijjhddgecieaaDoor
set_option linter.unusedSimpArgs false
set_option linter.unusedVariables false
open Go.RowKit Go.Lib

theorem tab_only {X : Nat → Prop} {w w' : World} (h : Only X w w') (ht : Tab w) (hx : ¬ X 0) : Tab w' := by
  obtain ⟨t, fr, h0⟩ := ht
  exact ⟨t, fr, (h.block 0 (Array.getElem?_eq_some_iff.1 h0).1 hx).trans h0⟩
theorem add_keep {w w' : World} {g k : Nat} {v : Value} (h : w.cell? ⟨g, k, none⟩ = some v) (hf : w.frozen? ⟨g, k, none⟩ = false) (hb : Below w.drew.heap.size w.drew w') :
    w'.cell? ⟨g, k, none⟩ = some v ∧ w'.frozen? ⟨g, k, none⟩ = false ∧ Below w.heap.size w w' := by
  have hb := undrew hb
  have hl : g < w.heap.size := block_lt_of_cell h
  refine ⟨(hb.cell hl).trans h, ?_, hb⟩
  have := hb.block g hl
  unfold World.frozen? at hf ⊢
  simp only at hf ⊢
  rw [this]; exact hf
/-- the block after the first k elements of the row at o have been added to -/
def addTo (m F o k : Nat) (f x : Nat → Nat) : Nat → Nat := fun p => if o ≤ p ∧ p < o + k then f p ^^^ Fld.mul m F (x (p - o)) else f p
theorem addTo_succ (m F o k : Nat) (f x : Nat → Nat) : (fun p => if p = o + k then f (o + k) ^^^ Fld.mul m F (x k) else addTo m F o k f x p) = addTo m F o (k + 1) f x := by
  funext p
  unfold addTo
  by_cases e : p = o + k
  · subst e
    rw [if_pos rfl, if_pos (by omega), show o + k - o = k by omega]
  · rw [if_neg e]
    by_cases h : o ≤ p ∧ p < o + k
    · rw [if_pos h, if_pos (by omega)]
    · rw [if_neg h, if_neg (by omega)]
set_option maxRecDepth 100000 in
set_option maxHeartbeats 1600000 in
theorem madd_any {m : Nat} (hm : Fld.IsM m) {F : Nat} (hF : F < 2 ^ m) (n : Nat) (qa qb : Option Addr) (ka kb : Nat) (g N o h o2 : Nat) (f x : Nat → Nat) (w : World) (ht : Tab w) (hg0 : 0 < g)
    (hq : 0 < n → qa = some ⟨g, o, none⟩ ∧ qb = some ⟨h, o2, none⟩) (hc : Cells w g N f) (hN : o + n ≤ N) (hN2 : N ≤ 5000) (hh : h < w.heap.size)
    (hx : ∀ k, k < n → w.cell? ⟨h, o2 + k, none⟩ = some (.int .i64 (x k : Int))) (hne : h ≠ g ∨ (o2 + n ≤ N ∧ (o2 + n ≤ o ∨ o + n ≤ o2))) (hxb : ∀ k, k < n → x k < 2 ^ m) (hfb : ∀ p, p < N → f p < 2 ^ m) :
    Calls Tryd.prog 38 #[.int .i64 m, .slice qa n ka, .slice qb n kb, .int .i64 F] w fun e w' => (∃ v, e = .returned v) ∧ Cells w' g N (addTo m F o n f x) ∧ Only (fun k => k = g) w w' := by
  have HX := Lib.hid hx
  have HC := Lib.hid hc
  have HT := Lib.hid ht
  have HXB := Lib.hid hxb
  have HFB := Lib.hid hfb
  have HQ := Lib.hid hq
  have HM := Lib.hid hm
  have HFF := Lib.hid hF
  clear hx hc ht hxb hfb hq hm hF
  go_enter Tryd.func38, Tryd.ntmps38
  go_wp2_with fail
  go_loopw [12] (fun i wr => ∃ k : Nat, k ≤ n ∧ i = .int .i64 k ∧ Cells wr g N (addTo m F o k f x) ∧ Only (fun k => k = g) w wr) (fun i _ => n - (intOf i).toNat)
  case atStart => exact ⟨0, Nat.zero_le _, rfl, HC.out.congr (fun p _ => by unfold addTo; rw [if_neg (by omega)]), Only.refl _ _⟩
  case round =>
    obtain ⟨k, hk, rfl, hc, hon⟩ := hrel
    have HCK := Lib.hid hc
    have HON := Lib.hid hon
    clear hc hon
    by_cases hlt : k < n
    · obtain ⟨rfl, rfl⟩ := HQ.out (by omega)
      have hx0 : wr.cell? ⟨h, o2 + k, none⟩ = some (.int .i64 (x k : Int)) := by
        by_cases hgh : h = g
        · subst hgh
          rcases hne with hne | hne
          · exact absurd rfl hne
          have e1 := HX.out k hlt
          rw [HC.out.cell (k := o2 + k) (by omega)] at e1
          have e2 := HCK.out.cell (k := o2 + k) (by omega)
          rw [e2, ← e1]
          unfold addTo
          rw [if_neg (by omega)]
        · exact (World.cell?_of_block (w := w) (HON.out.block h hh hgh)).trans (HX.out k hlt)
      have hy0 := HCK.out.cell (k := o + k) (by omega)
      have hyv : addTo m F o k f x (o + k) = f (o + k) := by unfold addTo; rw [if_neg (by omega)]
      rw [hyv] at hy0
      have hfr := HCK.out.frozen (o + k)
      obtain ⟨y, hy⟩ : ∃ y, f (o + k) = y := ⟨_, rfl⟩
      obtain ⟨z, hz⟩ : ∃ z, x k = z := ⟨_, rfl⟩
      have HYB := Lib.hid (show y < 65536 by rw [← hy]; have := HFB.out (o + k) (by omega); rcases HM.out with h | h <;> (rw [h] at this; omega))
      have HZB := Lib.hid (show z < 2 ^ m by rw [← hz]; exact HXB.out k hlt)
      rw [hy] at hy0
      rw [hz] at hx0
      have HY := Lib.hid hy
      have HZ := Lib.hid hz
      have HTW := Lib.hid (tab_only HON.out HT.out (by omega))
      have HTD := Lib.hid (show Tab wr.drew from HTW.out)
      have HS0 := Lib.hid (show wr.drew.cell? ⟨g, o + k, none⟩ = some (.int .i64 (y : Int)) ∧ wr.drew.frozen? ⟨g, o + k, none⟩ = false ∧ Below wr.heap.size wr wr.drew from ⟨hy0, hfr, (Below.refl _ wr).drew⟩)
      clear hyv hy hz
      go_wp2_with fail
      have HV := Lib.hid (show bits .xor .i64 (y : Int) ((Fld.mul m F z : Nat) : Int) = ((y ^^^ Fld.mul m F z : Nat) : Int) from i64_xor _ _ (by have := HYB.out; omega) (by have := Fld.mul_lt HM.out z HFF.out; rcases HM.out with h | h <;> (rw [h] at this ⊢; omega)))
      obtain ⟨t, ht⟩ : ∃ t, Fld.mul m F z = t := ⟨_, rfl⟩
      rw [ht] at HV
      go_region_with (go_at_call 47; refine (mtimes_any HM.out HFF.out HZB.out _ HTD.out).mono ?_; rw [ht]; rintro e5 w5 ⟨rfl, hb5⟩; have hy1 := (add_keep hy0 hfr hb5).1; have hf1 := (add_keep hy0 hfr hb5).2.1; have HB5 := Lib.hid (add_keep hy0 hfr hb5).2.2; clear hb5)
      all_goals
        rw [HV.out]
        have HC6 := Lib.hid (show Cells (w5.setCell ⟨g, o + k, none⟩ (.int .i64 ((y ^^^ t : Nat) : Int))) g N (addTo m F o (k + 1) f x) by
          have := (HCK.out.below HB5.out HCK.out.lt).put (k := o + k) (by omega) (y ^^^ t)
          rw [← HY.out, ← ht, ← HZ.out, addTo_succ] at this
          rw [← HY.out, ← ht, ← HZ.out]; exact this)
        have HO6 := Lib.hid (show Only (fun k => k = g) w (w5.setCell ⟨g, o + k, none⟩ (.int .i64 ((y ^^^ t : Nat) : Int))) from (HON.out.trans (Only.of_below HB5.out (fun k hk _ => hk))).setCell (p := ⟨g, o + k, none⟩) rfl _)
        clear ht hy1 hf1
        go_wp2
        go_roundw
        case rel => exact ⟨k + 1, by omega, by go_num, HC6.out, HO6.out⟩
        case measure => simp [intOf]; omega
    · have hkn : k = n := by omega
      subst hkn
      go_wp2_with fail
      exact ⟨by simp, _, results_none rfl _ _ _, ⟨_, rfl⟩, HCK.out, HON.out⟩
end Go.Proofs.YtaijjhddgecieaaDoor
