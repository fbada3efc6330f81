/- Codes: the program's validity. -/
import Derived.Test.YtghinmlpkgcdiaaDoorX9
namespace Go.Proofs.YtghinmlpkgcdiaaDoor
set_option linter.unusedSimpArgs false
set_option linter.unusedVariables false
open Go.RowKit Go.Lib

/-- the cells of a code -/
abbrev codC (nm : Value) (f d : Int) (qp : Option Addr) (np kp : Nat) (dom : Int) : Array Value := #[nm, .int .i64 f, .int .i64 d, .slice qp np kp, .int .i64 dom]
theorem cbox {w : World} {g : Nat} {t : TypeId} {nm : Value} {f d : Int} {qp : Option Addr} {np kp : Nat} {dom : Int} (h : Row w g t (codC nm f d qp np kp dom)) :
    w.cell? ⟨g, 0, none⟩ = some nm ∧ w.cell? ⟨g, 1, none⟩ = some (.int .i64 f) ∧ w.cell? ⟨g, 2, none⟩ = some (.int .i64 d) ∧ w.cell? ⟨g, 3, none⟩ = some (.slice qp np kp) ∧ w.cell? ⟨g, 4, none⟩ = some (.int .i64 dom) :=
  ⟨h.cell 0, h.cell 1, h.cell 2, h.cell 3, h.cell 4⟩
/-- rows of numbers that came in -/
structure Grid (w : World) (B : Nat) (a : Option Addr) (n : Nat) (zss : List (List Int)) : Prop where
  len : zss.length = n
  row : ∀ (i : Nat) (zs : List Int), zss[i]? = some zs → ∃ (b off : Nat) (q : Option Addr) (k : Nat), a = some ⟨b, off, none⟩ ∧ b < B ∧ w.cell? ⟨b, off + i, none⟩ = some (.slice q zs.length k) ∧ zs.length ≤ maxLen ∧ Rd w B q (ints zs)
theorem Grid.below {w w' : World} {B : Nat} {a : Option Addr} {n : Nat} {zss : List (List Int)} (h : Grid w B a n zss) (hb : Below B w w') : Grid w' B a n zss :=
  ⟨h.len, fun i zs hz => by
    obtain ⟨b, off, q, k, e, hB, hc, hl, hr⟩ := h.row i zs hz
    exact ⟨b, off, q, k, e, hB, (hb.cell (p := ⟨b, off + i, none⟩) hB).trans hc, hl, hr.below hb⟩⟩
theorem Grid.more {w : World} {B B' : Nat} {a : Option Addr} {n : Nat} {zss : List (List Int)} (h : Grid w B a n zss) (hB : B ≤ B') : Grid w B' a n zss :=
  ⟨h.len, fun i zs hz => by
    obtain ⟨b, off, q, k, e, hB2, hc, hl, hr⟩ := h.row i zs hz
    exact ⟨b, off, q, k, e, by omega, hc, hl, hr.more hB⟩⟩

/-! ### every, over numbers -/
set_option maxRecDepth 100000 in
theorem eindex_any (g : Nat) (P : Int → Bool) (a : Option Addr) (m k0 : Nat) (xs : List Int) (w : World) (hl : xs.length = m) (hm : m ≤ 9223372036854775807) (hr : Rd w w.heap.size a (ints xs))
    (hf : ∀ x W, Below w.heap.size w W → Calls Tryd.prog 84 #[.int .i64 x, .pointer (some ⟨g, 0, none⟩)] W fun e w' => e = .returned (.bool (P x)) ∧ Below W.heap.size W w') :
    Calls Tryd.prog 69 #[.slice a m k0, .func (.func 84) #[] #[.pointer (some ⟨g, 0, none⟩)]] w fun e w' => Found (xs.any P) e ∧ Below w.heap.size w w' := by
  have HR := Lib.hid hr
  have HL := Lib.hid hl
  have HF := Lib.hid hf
  clear hr hl hf
  go_enter Tryd.func69, Tryd.ntmps69
  go_wp2
  go_loopw [8] (fun i wr => ∃ k : Nat, k ≤ m ∧ i = .int .i64 k ∧ (xs.take k).any P = false ∧ Below w.heap.size w wr) (fun i _ => m - (intOf i).toNat)
  case atStart => exact ⟨0, by omega, rfl, rfl, Below.refl _ _⟩
  case round =>
    obtain ⟨k, hk, rfl, ha, hbw⟩ := hrel
    have HA := Lib.hid ha
    have HBW := Lib.hid hbw
    clear ha hbw
    by_cases hlt : k < m
    · obtain ⟨x, hx⟩ : ∃ x, xs[k]? = some x := ⟨_, List.getElem?_eq_getElem (by rw [HL.out]; exact hlt)⟩
      obtain ⟨b, off, rfl, hb, hc⟩ := (HR.out.below HBW.out) k (.int .i64 x) (by rw [ints, List.getElem?_map, hx]; rfl)
      have HX := Lib.hid hx
      clear hx
      obtain ⟨bx, hbx⟩ : ∃ bx, P x = bx := ⟨_, rfl⟩
      have HBX := Lib.hid hbx
      clear hbx
      go_wp2_with fail
      refine (HF.out x _ HBW.out).mono ?_
      rw [HBX.out]
      rintro e w1 ⟨rfl, hb1⟩
      have HB1 := Lib.hid (below_call HBW.out hb1)
      clear hb1
      cases bx
      · go_wp2
        go_roundw
        case rel => exact ⟨k + 1, by omega, by go_num, by rw [any_take HA.out HX.out]; exact HBX.out, HB1.out⟩
        case measure => simp [intOf]; omega
      · go_wp2
        go_ret
        refine ⟨.inr ⟨?_, k, rfl⟩, HB1.out⟩
        rw [List.any_eq_true]
        exact ⟨x, List.mem_of_getElem? HX.out, HBX.out⟩
    · have h1 : k = m := by omega
      have HA2 := Lib.hid (show xs.any P = false by
        have := HA.out
        rwa [List.take_of_length_le (by rw [HL.out]; omega)] at this)
      clear h1
      go_wp2
      go_ret
      exact ⟨.inl ⟨HA2.out, rfl⟩, HBW.out⟩
set_option maxRecDepth 100000 in
theorem econt_any (g : Nat) (P : Int → Bool) (a : Option Addr) (m k0 : Nat) (xs : List Int) (w : World) (hl : xs.length = m) (hm : m ≤ 9223372036854775807) (hr : Rd w w.heap.size a (ints xs))
    (hf : ∀ x W, Below w.heap.size w W → Calls Tryd.prog 84 #[.int .i64 x, .pointer (some ⟨g, 0, none⟩)] W fun e w' => e = .returned (.bool (P x)) ∧ Below W.heap.size W w') :
    Calls Tryd.prog 54 #[.slice a m k0, .func (.func 84) #[] #[.pointer (some ⟨g, 0, none⟩)]] w fun e w' => e = .returned (.bool (xs.any P)) ∧ Below w.heap.size w w' := by
  have h := eindex_any g P a m k0 xs w hl hm hr hf
  generalize xs.any P = b at h ⊢
  have H := Lib.hid h
  clear h hl hr hf
  go_enter Tryd.func54, Tryd.ntmps54
  go_wp2_with fail
  refine H.out.mono ?_
  rintro e w1 ⟨hf, hb⟩
  have HB := Lib.hid hb
  clear hb
  rcases hf with ⟨rfl, rfl⟩ | ⟨rfl, k, rfl⟩
  · go_wp2
    go_ret
    exact ⟨rfl, HB.out⟩
  · have hd : decide (0 ≤ (k : Int)) = true := by simp
    go_wp2
    go_ret
    exact ⟨rfl, HB.out⟩
set_option maxRecDepth 100000 in
theorem every_any (F : Fn) (caps : Array Value) (Q : Int → Bool) (a : Option Addr) (m k0 : Nat) (xs : List Int) (w : World) (hl : xs.length = m) (hm : m ≤ 9223372036854775807) (hr : Rd w w.heap.size a (ints xs))
    (hf : ∀ x W, Below w.heap.size w W → Row W w.heap.size 69 #[.func F #[] caps] → Calls Tryd.prog 84 #[.int .i64 x, .pointer (some ⟨w.heap.size, 0, none⟩)] W fun e w' => e = .returned (.bool (!Q x)) ∧ Below W.heap.size W w') :
    Calls Tryd.prog 62 #[.slice a m k0, .func F #[] caps] w fun e w' => e = .returned (.bool (xs.all Q)) ∧ Below w.heap.size w w' := by
  have hW : Below w.heap.size w (w.alloc (.cells #[.func F #[] caps] 69)) := (Below.refl _ w).alloc (Nat.le_refl _) _
  have HC := Lib.hid (econt_any w.heap.size (fun x => !Q x) a m k0 xs (w.alloc (.cells #[.func F #[] caps] 69)) hl hm ((hr.below hW).more (by simp)) (fun x W hb => hf x W (below_call hW hb) ((Row.new w _ _).below hb (by simp))))
  have HQ := Lib.hid (show xs.all Q = !(xs.any fun x => !Q x) by rw [List.all_eq_not_any_not])
  rw [HQ.out]
  generalize (xs.any fun x => !Q x) = b at HC ⊢
  have HW := Lib.hid hW
  clear hW hl hr hf
  go_enter Tryd.func62, Tryd.ntmps62
  go_wp2_with fail
  refine HC.out.mono ?_
  rintro e w1 ⟨rfl, hb⟩
  have HB := Lib.hid (below_call HW.out hb)
  clear hb
  go_wp2
  go_ret
  exact ⟨rfl, HB.out⟩
/-! ### the conditions -/
set_option maxRecDepth 100000 in
theorem ecell1_any (nm : Value) (f d : Int) (qp : Option Addr) (np kp : Nat) (dom : Int) (gc : Nat) (x : Int) (w : World) (ht : Tab w) (hg : Row w gc 26 (codC nm f d qp np kp dom)) :
    Calls Tryd.prog 63 #[.int .i64 x, .pointer (some ⟨gc, 0, none⟩)] w fun e w' => e = .returned (.bool (allB f [x])) ∧ Below w.heap.size w w' := by
  have HV := Lib.hid (valid_any f x w ht)
  obtain ⟨c0, c1, c2, c3, c4⟩ := cbox hg
  clear ht hg
  go_enter Tryd.func63, Tryd.ntmps63
  go_wp2_with fail
  refine HV.out.mono ?_
  rintro e w1 ⟨rfl, hb⟩
  have HB := Lib.hid hb
  clear hb
  go_wp2
  go_ret
  exact ⟨rfl, HB.out⟩
set_option maxRecDepth 100000 in
theorem ecell2_any (x : Int) (w : World) :
    Calls Tryd.prog 64 #[.int .i64 x] w fun e w' => e = .returned (.bool (x == 0)) ∧ w' = w := by
  go_enter Tryd.func64, Tryd.ntmps64
  go_wp2
  go_ret
  exact ⟨rfl, rfl⟩
set_option maxRecDepth 100000 in
theorem ewrap1_any (nm : Value) (f d : Int) (qp : Option Addr) (np kp : Nat) (dom : Int) (gc g : Nat) (x : Int) (w : World) (ht : Tab w) (hg : Row w gc 26 (codC nm f d qp np kp dom)) (hr : Row w g 69 #[.func (.func 63) #[] #[.pointer (some ⟨gc, 0, none⟩)]]) :
    Calls Tryd.prog 84 #[.int .i64 x, .pointer (some ⟨g, 0, none⟩)] w fun e w' => e = .returned (.bool (!allB f [x])) ∧ Below w.heap.size w w' := by
  have HV := Lib.hid (ecell1_any nm f d qp np kp dom gc x w ht hg)
  have hc := hr.cell 0
  simp only [List.getElem?_toArray, List.getElem?_cons_zero] at hc
  generalize allB f [x] = b at HV ⊢
  clear ht hg hr
  go_enter Tryd.func84, Tryd.ntmps84
  go_wp2_with fail
  refine HV.out.mono ?_
  rintro e w1 ⟨rfl, hb⟩
  have HB := Lib.hid hb
  clear hb
  go_wp2
  go_ret
  exact ⟨rfl, HB.out⟩
set_option maxRecDepth 100000 in
theorem ewrap2_any (g : Nat) (x : Int) (w : World) (hr : Row w g 69 #[.func (.func 64) #[] #[]]) :
    Calls Tryd.prog 84 #[.int .i64 x, .pointer (some ⟨g, 0, none⟩)] w fun e w' => e = .returned (.bool (!(x == 0))) ∧ Below w.heap.size w w' := by
  have HV := Lib.hid (ecell2_any x w)
  have hc := hr.cell 0
  simp only [List.getElem?_toArray, List.getElem?_cons_zero] at hc
  generalize (x == 0) = b at HV ⊢
  clear hr
  go_enter Tryd.func84, Tryd.ntmps84
  go_wp2_with fail
  refine HV.out.mono ?_
  rintro e w1 ⟨rfl, rfl⟩
  go_wp2
  go_ret
  exact ⟨rfl, Below.refl _ _⟩
end Go.Proofs.YtghinmlpkgcdiaaDoor
