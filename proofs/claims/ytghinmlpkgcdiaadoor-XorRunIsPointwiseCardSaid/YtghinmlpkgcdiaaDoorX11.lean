/- Codes: the program's validity, the walk. -/
import Derived.Test.YtghinmlpkgcdiaaDoorX10
namespace Go.Proofs.YtghinmlpkgcdiaaDoor
set_option linter.unusedSimpArgs false
set_option linter.unusedVariables false
open Go.RowKit Go.Lib

namespace Xp
/-- a row of coefficients is valid -/
def okRow (f d : Int) (zs : List Int) : Bool := ((zs.length : Int) == d) && zs.all (fun x => allB f [x]) && !(zs.all fun x => x == 0)
/-- the code is valid -/
def okC (f d : Int) (zss : List (List Int)) : Bool := (decide (f = 8) || decide (f = 16)) && decide (1 ≤ d) && decide ((zss.length : Int) ≤ 32) && decide (d ≤ 32 - zss.length) && zss.all (okRow f d)
end Xp
set_option maxRecDepth 100000 in
set_option maxHeartbeats 800000 in
theorem erow_any (nm : Value) (f d : Int) (qp : Option Addr) (np kp : Nat) (dom : Int) (gc : Nat) (a : Option Addr) (m k0 : Nat) (zs : List Int) (w : World) (ht : Tab w) (hg : Row w gc 26 (codC nm f d qp np kp dom)) (hl : zs.length = m) (hm : m ≤ 9223372036854775807) (hr : Rd w w.heap.size a (ints zs)) :
    Calls Tryd.prog 61 #[.slice a m k0, .pointer (some ⟨gc, 0, none⟩)] w fun e w' => e = .returned (.bool (Xp.okRow f d zs)) ∧ Below w.heap.size w w' := by
  have HE1 := Lib.hid (every_any (.func 63) #[.pointer (some ⟨gc, 0, none⟩)] (fun x => allB f [x]) a m k0 zs w hl hm hr (fun x W hb hw => ewrap1_any nm f d qp np kp dom gc _ x W (ht.next hb) (hg.below hb hg.lt) hw))
  have HE2 := Lib.hid (fun (W : World) (hb : Below w.heap.size w W) => every_any (.func 64) #[] (fun x => x == 0) a m k0 zs W hl hm ((hr.below hb).more hb.size) (fun x W hb hw => ewrap2_any _ x W hw))
  obtain ⟨c0, c1, c2, c3, c4⟩ := cbox hg
  unfold Xp.okRow
  rw [hl]
  obtain ⟨b1, e1⟩ : ∃ b, ((m : Int) == d) = b := ⟨_, rfl⟩
  generalize (zs.all fun x => allB f [x]) = b2 at HE1 ⊢
  generalize (zs.all fun x => x == 0) = b3 at HE2 ⊢
  rw [e1]
  clear ht hg hl hm hr
  cases b1
  · go_enter Tryd.func61, Tryd.ntmps61
    go_wp2
    go_ret
    exact ⟨rfl, Below.refl _ _⟩
  · go_enter Tryd.func61, Tryd.ntmps61
    go_wp2_with fail
    refine HE1.out.mono ?_
    rintro e w1 ⟨rfl, hb⟩
    have HB := Lib.hid hb
    clear hb
    cases b2
    · go_wp2
      go_ret
      exact ⟨rfl, HB.out⟩
    · go_wp2_with fail
      refine (HE2.out _ HB.out).mono ?_
      rintro e w2 ⟨rfl, hb⟩
      have HB2 := Lib.hid (below_call HB.out hb)
      clear hb
      go_wp2
      go_ret
      exact ⟨ret_bool (by simp), HB2.out⟩
set_option maxRecDepth 100000 in
theorem erwrap_any (nm : Value) (f d : Int) (qp : Option Addr) (np kp : Nat) (dom : Int) (gc g : Nat) (a : Option Addr) (m k0 : Nat) (zs : List Int) (w : World) (ht : Tab w) (hg : Row w gc 26 (codC nm f d qp np kp dom)) (hr0 : Row w g 96 #[.func (.func 61) #[] #[.pointer (some ⟨gc, 0, none⟩)]]) (hl : zs.length = m) (hm : m ≤ 9223372036854775807) (hr : Rd w w.heap.size a (ints zs)) :
    Calls Tryd.prog 83 #[.slice a m k0, .pointer (some ⟨g, 0, none⟩)] w fun e w' => e = .returned (.bool (!Xp.okRow f d zs)) ∧ Below w.heap.size w w' := by
  have HV := Lib.hid (erow_any nm f d qp np kp dom gc a m k0 zs w ht hg hl hm hr)
  have hc := hr0.cell 0
  simp only [List.getElem?_toArray, List.getElem?_cons_zero] at hc
  generalize Xp.okRow f d zs = b at HV ⊢
  clear ht hg hr0 hl hm hr
  go_enter Tryd.func83, Tryd.ntmps83
  go_wp2_with fail
  refine HV.out.mono ?_
  rintro e w1 ⟨rfl, hb⟩
  have HB := Lib.hid hb
  clear hb
  go_wp2
  go_ret
  exact ⟨rfl, HB.out⟩
theorem any_take2 {α : Type} {p : α → Bool} {xs : List α} {k : Nat} {x : α} (h : (xs.take k).any p = false) (hx : xs[k]? = some x) : (xs.take (k + 1)).any p = p x := by
  rw [List.take_add_one, hx, List.any_append, h]; simp
set_option maxRecDepth 100000 in
theorem erindex_any (nm : Value) (f d : Int) (qp : Option Addr) (np kp : Nat) (dom : Int) (gc g : Nat) (a : Option Addr) (m k0 : Nat) (zss : List (List Int)) (w : World) (ht : Tab w) (hg : Row w gc 26 (codC nm f d qp np kp dom)) (hr0 : Row w g 96 #[.func (.func 61) #[] #[.pointer (some ⟨gc, 0, none⟩)]]) (hm : m ≤ 32) (hr : Grid w w.heap.size a m zss) :
    Calls Tryd.prog 93 #[.slice a m k0, .func (.func 83) #[] #[.pointer (some ⟨g, 0, none⟩)]] w fun e w' => Found (zss.any fun zs => !Xp.okRow f d zs) e ∧ Below w.heap.size w w' := by
  have HR := Lib.hid hr
  have HL := Lib.hid hr.len
  have HF := Lib.hid (fun (q : Option Addr) (k0 : Nat) (zs : List Int) (W : World) (hb : Below w.heap.size w W) (hm : zs.length ≤ maxLen) (hr : Rd W W.heap.size q (ints zs)) => erwrap_any nm f d qp np kp dom gc g q zs.length k0 zs W (ht.next hb) (hg.below hb hg.lt) (hr0.below hb hr0.lt) rfl (by unfold maxLen at hm; omega) hr)
  clear hr ht hg hr0
  go_enter Tryd.func93, Tryd.ntmps93
  go_wp2
  go_loopw [8] (fun i wr => ∃ k : Nat, k ≤ m ∧ i = .int .i64 k ∧ (zss.take k).any (fun zs => !Xp.okRow f d zs) = false ∧ Below w.heap.size w wr) (fun i _ => m - (intOf i).toNat)
  case atStart => exact ⟨0, by omega, rfl, rfl, Below.refl _ _⟩
  case round =>
    obtain ⟨k, hk, rfl, ha, hbw⟩ := hrel
    have HA := Lib.hid ha
    have HBW := Lib.hid hbw
    clear ha hbw
    by_cases hlt : k < m
    · obtain ⟨zs, hx⟩ : ∃ x, zss[k]? = some x := ⟨_, List.getElem?_eq_getElem (by rw [HL.out]; exact hlt)⟩
      obtain ⟨b, off, q, kq, rfl, hb, hc, hml, hrq⟩ := (HR.out.below HBW.out).row k zs hx
      have HX := Lib.hid hx
      have HC := Lib.hid (HF.out q kq zs wr HBW.out hml (hrq.more HBW.out.size))
      obtain ⟨bx, hbx⟩ : ∃ bx, (!Xp.okRow f d zs) = bx := ⟨_, rfl⟩
      rw [hbx] at HC
      have HBX := Lib.hid hbx
      obtain ⟨L, hL⟩ : ∃ L, zs.length = L := ⟨_, rfl⟩
      rw [hL] at HC hc
      clear hx hbx hml hrq hL
      go_wp2_with fail
      refine HC.out.mono ?_
      rintro e w1 ⟨rfl, hb1⟩
      have HB1 := Lib.hid (below_call HBW.out hb1)
      clear hb1 hc
      cases bx
      · go_wp2
        go_roundw
        case rel => exact ⟨k + 1, by omega, by go_num, by rw [any_take2 HA.out HX.out]; exact HBX.out, HB1.out⟩
        case measure => simp [intOf]; omega
      · go_wp2
        go_ret
        refine ⟨.inr ⟨?_, k, rfl⟩, HB1.out⟩
        rw [List.any_eq_true]
        exact ⟨zs, List.mem_of_getElem? HX.out, HBX.out⟩
    · have h1 : k = m := by omega
      have HA2 := Lib.hid (show zss.any (fun zs => !Xp.okRow f d zs) = false by
        have := HA.out
        rwa [List.take_of_length_le (by rw [HL.out]; omega)] at this)
      clear h1
      go_wp2
      go_ret
      exact ⟨.inl ⟨HA2.out, rfl⟩, HBW.out⟩
set_option maxRecDepth 100000 in
theorem ercont_any (nm : Value) (f d : Int) (qp : Option Addr) (np kp : Nat) (dom : Int) (gc g : Nat) (a : Option Addr) (m k0 : Nat) (zss : List (List Int)) (w : World) (ht : Tab w) (hg : Row w gc 26 (codC nm f d qp np kp dom)) (hr0 : Row w g 96 #[.func (.func 61) #[] #[.pointer (some ⟨gc, 0, none⟩)]]) (hm : m ≤ 32) (hr : Grid w w.heap.size a m zss) :
    Calls Tryd.prog 82 #[.slice a m k0, .func (.func 83) #[] #[.pointer (some ⟨g, 0, none⟩)]] w fun e w' => e = .returned (.bool (zss.any fun zs => !Xp.okRow f d zs)) ∧ Below w.heap.size w w' := by
  have h := erindex_any nm f d qp np kp dom gc g a m k0 zss w ht hg hr0 hm hr
  generalize (zss.any fun zs => !Xp.okRow f d zs) = b at h ⊢
  have H := Lib.hid h
  clear h ht hg hr0 hr
  go_enter Tryd.func82, Tryd.ntmps82
  go_wp2_with fail
  refine H.out.mono ?_
  rintro e w1 ⟨hf, hb⟩
  have HB := Lib.hid hb
  clear hb
  rcases hf with ⟨rfl, rfl⟩ | ⟨rfl, k, rfl⟩
  · go_wp2
    go_ret
    exact ⟨rfl, HB.out⟩
  · have hd : decide (0 ≤ (k : Int)) = true := by simp
    go_wp2
    go_ret
    exact ⟨rfl, HB.out⟩
set_option maxRecDepth 100000 in
theorem ereach_any (nm : Value) (f d : Int) (qp : Option Addr) (np kp : Nat) (dom : Int) (gc : Nat) (a : Option Addr) (m k0 : Nat) (zss : List (List Int)) (w : World) (ht : Tab w) (hg : Row w gc 26 (codC nm f d qp np kp dom)) (hm : m ≤ 32) (hr : Grid w w.heap.size a m zss) :
    Calls Tryd.prog 60 #[.slice a m k0, .func (.func 61) #[] #[.pointer (some ⟨gc, 0, none⟩)]] w fun e w' => e = .returned (.bool (zss.all (Xp.okRow f d))) ∧ Below w.heap.size w w' := by
  have hW : Below w.heap.size w (w.alloc (.cells #[.func (.func 61) #[] #[.pointer (some ⟨gc, 0, none⟩)]] 96)) := (Below.refl _ w).alloc (Nat.le_refl _) _
  have HC := Lib.hid (ercont_any nm f d qp np kp dom gc w.heap.size a m k0 zss (w.alloc (.cells #[.func (.func 61) #[] #[.pointer (some ⟨gc, 0, none⟩)]] 96)) (ht.next hW) (hg.alloc _) (Row.new w _ _) hm ((hr.below hW).more (by simp)))
  have HQ := Lib.hid (show zss.all (Xp.okRow f d) = !(zss.any fun zs => !Xp.okRow f d zs) by rw [List.all_eq_not_any_not])
  rw [HQ.out]
  generalize (zss.any fun zs => !Xp.okRow f d zs) = b at HC ⊢
  have HW := Lib.hid hW
  clear hW hr ht hg
  go_enter Tryd.func60, Tryd.ntmps60
  go_wp2_with fail
  refine HC.out.mono ?_
  rintro e w1 ⟨rfl, hb⟩
  have HB := Lib.hid (below_call HW.out hb)
  clear hb
  go_wp2
  go_ret
  exact ⟨rfl, HB.out⟩
set_option maxRecDepth 100000 in
set_option maxHeartbeats 1600000 in
theorem evalid_any (nm : Value) (f d : Int) (qp : Option Addr) (np kp : Nat) (dom : Int) (zss : List (List Int)) (w : World) (ht : Tab w) (hr : Grid w w.heap.size qp np zss) (hnp : np ≤ 9223372036854775807) (hnm : nm.oneCell' = true) :
    Calls Tryd.prog 28 #[.agg (codC nm f d qp np kp dom)] w fun e w' => e = .returned (.bool (Xp.okC f d zss)) ∧ Below w.heap.size w w' := by
  have HV := Lib.hid (fun (W : World) (hb : Below w.heap.size w W) => valid_any f 0 W (ht.next hb))
  rw [allB_zero] at HV
  have HE := Lib.hid (fun (W : World) (hb : Below w.heap.size w W) (hg : Row W w.heap.size 26 (codC nm f d qp np kp dom)) (hm : np ≤ 32) => ereach_any nm f d qp np kp dom w.heap.size qp np kp zss W (ht.next hb) hg hm ((hr.below hb).more hb.size))
  have HL := Lib.hid hr.len
  have HOK := Lib.hid (show Xp.okC f d zss = ((decide (f = 8) || decide (f = 16)) && !decide (d < 1) && !decide (32 < (np : Int)) && !decide (32 - (np : Int) < d) && zss.all (Xp.okRow f d)) by
    unfold Xp.okC
    rw [HL.out]
    have e1 : decide (1 ≤ d) = !decide (d < 1) := by rw [Bool.eq_iff_iff]; simp
    have e2 : decide ((np : Int) ≤ 32) = !decide (32 < (np : Int)) := by rw [Bool.eq_iff_iff]; simp
    have e3 : decide (d ≤ 32 - (np : Int)) = !decide (32 - (np : Int) < d) := by rw [Bool.eq_iff_iff]; simp
    rw [e1, e2, e3])
  rw [HOK.out]
  generalize (decide (f = 8) || decide (f = 16)) = b1 at HV ⊢
  generalize zss.all (Xp.okRow f d) = b5 at HE ⊢
  have HW : Hid (Below w.heap.size w (w.alloc (.cells (codC nm f d qp np kp dom) 26))) := Lib.hid ((Below.refl _ w).alloc (Nat.le_refl _) _)
  have HR : Hid (Row (w.alloc (.cells (codC nm f d qp np kp dom) 26)) w.heap.size 26 (codC nm f d qp np kp dom)) := Lib.hid (Row.new w _ _)
  have hw3 : np ≤ 32 → IntKind.i64.wrap (32 - (np : Int)) = 32 - (np : Int) := fun h => by rw [IntKind.wrap_i64] <;> omega
  clear ht hr
  obtain ⟨b2, e2⟩ : ∃ b, decide (d < 1) = b := ⟨_, rfl⟩
  obtain ⟨b3, e3⟩ : ∃ b, decide (32 < (np : Int)) = b := ⟨_, rfl⟩
  rw [e2, e3]
  by_cases hb : b1 = true ∧ b2 = false ∧ b3 = false
  · obtain ⟨rfl, rfl, rfl⟩ := hb
    have hnp2 : np ≤ 32 := by have := of_decide_eq_false e3; omega
    have hw4 := hw3 hnp2
    clear hw3
    obtain ⟨b4, e4⟩ : ∃ b, decide (32 - (np : Int) < d) = b := ⟨_, rfl⟩
    rw [e4]
    cases b4
    · go_enter Tryd.func28, Tryd.ntmps28
      go_wp2_with fail
      refine (HV.out _ HW.out).mono ?_
      rintro e w1 ⟨rfl, hb⟩
      have HB := Lib.hid (below_call HW.out hb)
      have HR1 := Lib.hid (HR.out.below hb HR.out.lt)
      obtain ⟨c0, c1, c2, c3, c4⟩ := cbox HR1.out
      clear hb
      go_wp2_with fail
      refine (HE.out _ HB.out HR1.out hnp2).mono ?_
      rintro e w2 ⟨rfl, hb⟩
      have HB2 := Lib.hid (below_call HB.out hb)
      clear hb
      go_wp2
      go_ret
      exact ⟨ret_bool (by simp), HB2.out⟩
    · go_enter Tryd.func28, Tryd.ntmps28
      go_wp2_with fail
      refine (HV.out _ HW.out).mono ?_
      rintro e w1 ⟨rfl, hb⟩
      have HB := Lib.hid (below_call HW.out hb)
      obtain ⟨c0, c1, c2, c3, c4⟩ := cbox (HR.out.below hb HR.out.lt)
      clear hb
      go_wp2
      go_ret
      exact ⟨ret_bool (by simp), HB.out⟩
  · have hs : b1 = false ∨ (b1 = true ∧ b2 = true) ∨ (b1 = true ∧ b2 = false ∧ b3 = true) := by
      cases b1 <;> cases b2 <;> cases b3 <;> simp at hb ⊢
    clear hb hw3
    rcases hs with rfl | ⟨rfl, rfl⟩ | ⟨rfl, rfl, rfl⟩
    all_goals
      go_enter Tryd.func28, Tryd.ntmps28
      go_wp2_with fail
      refine (HV.out _ HW.out).mono ?_
      rintro e w1 ⟨rfl, hb⟩
      have HB := Lib.hid (below_call HW.out hb)
      obtain ⟨c0, c1, c2, c3, c4⟩ := cbox (HR.out.below hb HR.out.lt)
      clear hb
      go_wp2
      go_ret
      exact ⟨ret_bool (by simp), HB.out⟩
end Go.Proofs.YtghinmlpkgcdiaaDoor
