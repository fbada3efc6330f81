/- Schedules: slices.Clone at rows of elements of one cell. Printed by mkclone11.py. -/
import Derived.Test.YtghinmlpkgcdiaaDoorOwnN
namespace Go.Proofs.YtghinmlpkgcdiaaDoor
set_option linter.unusedSimpArgs false
set_option linter.unusedVariables false
open Go.RowKit Go.Lib

theorem elem_lst : Elem Tryd.prog 85 (.int .u64 0) 8 := by unfold Elem; kernel_rfl
theorem nil_lst (q : Option Addr) (n k : Nat) (W : World) : (binOp BinOp.eql 80 (.slice q n k) (.slice none 0 0)).run Tryd.prog W = .ok (.bool q.isNone) W := by
  cases q with
  | none => kernel_rfl
  | some ad => kernel_rfl
set_option maxRecDepth 100000 in
theorem clone_lst (q : Option Addr) (n k : Nat) (ys : List Value) (w : World) (hl : ys.length = n) (hn : n ≤ 1000000) (hr : Rd w w.heap.size q ys) (h1 : ∀ u ∈ ys, u.oneCell' = true) :
    Calls Tryd.prog 91 #[.slice q n k] w fun e w' => ∃ q' k', e = .returned (.slice q' n k') ∧ Own w' w.heap.size 85 q' n k' ys ∧ Below w.heap.size w w' := by
  cases q with
  | none =>
    have hx : ys = [] := by
      cases ys with
      | nil => rfl
      | cons x xs =>
        obtain ⟨b, off, e, _⟩ := hr 0 x rfl
        cases e
    subst hx
    obtain rfl : n = 0 := hl.symm
    have hnil : ∀ W, (binOp BinOp.eql 80 (.slice none 0 k) (.slice none 0 0)).run Tryd.prog W = .ok (.bool true) W := fun W => nil_lst none 0 k W
    go_enter Tryd.func91, Tryd.ntmps91
    go_wp2
    go_ret
    exact ⟨none, 0, rfl, Own.nil _ _ _, Below.refl _ _⟩
  | some ad =>
    have HR := Lib.hid hr
    have HL := Lib.hid hl
    have H1 := Lib.hid h1
    clear hr hl h1
    have hnil : ∀ W, (binOp BinOp.eql 80 (.slice (some ad) n k) (.slice none 0 0)).run Tryd.prog W = .ok (.bool false) W := fun W => nil_lst (some ad) n k W
    go_enter Tryd.func91, Tryd.ntmps91
    go_wp2_with (refine wpList_app _ rfl (.tmp 5) (.tmp 6) 80 rfl w.heap.size 85 (.int .u64 0) 8 Tryd.underlying80 elem_lst rfl (some ⟨w.heap.size, 0, none⟩) 0 0 [] rfl (Own.new w w.heap.size 85 #[] 0 (Nat.le_refl _) rfl (by unfold maxLen; omega)) w.heap.size (some ad) n k ys rfl (HR.out.alloc (Nat.le_refl _) _) HL.out H1.out (by unfold maxLen; omega) (by omega) (by simp) ?_; intro a' c' w' ho hgr; have HO := Lib.hid ho; have HB := Lib.hid (below_grown2 ((Below.refl w.heap.size w).alloc (Nat.le_refl _) _) hgr (Own.new w w.heap.size 85 #[] 0 (Nat.le_refl _) rfl (by unfold maxLen; omega)) (by simp) (Nat.le_refl _)); clear ho hgr)
    go_ret
    rw [List.nil_append, Nat.zero_add] at HO
    exact ⟨a', c', rfl, HO.out, HB.out⟩

theorem elem_lists : Elem Tryd.prog 80 (.slice none 0 0) 24 := by unfold Elem; kernel_rfl
theorem nil_lists (q : Option Addr) (n k : Nat) (W : World) : (binOp BinOp.eql 76 (.slice q n k) (.slice none 0 0)).run Tryd.prog W = .ok (.bool q.isNone) W := by
  cases q with
  | none => kernel_rfl
  | some ad => kernel_rfl
set_option maxRecDepth 100000 in
theorem clone_lists (q : Option Addr) (n k : Nat) (ys : List Value) (w : World) (hl : ys.length = n) (hn : n ≤ 1000000) (hr : Rd w w.heap.size q ys) (h1 : ∀ u ∈ ys, u.oneCell' = true) :
    Calls Tryd.prog 76 #[.slice q n k] w fun e w' => ∃ q' k', e = .returned (.slice q' n k') ∧ Own w' w.heap.size 80 q' n k' ys ∧ Below w.heap.size w w' := by
  cases q with
  | none =>
    have hx : ys = [] := by
      cases ys with
      | nil => rfl
      | cons x xs =>
        obtain ⟨b, off, e, _⟩ := hr 0 x rfl
        cases e
    subst hx
    obtain rfl : n = 0 := hl.symm
    have hnil : ∀ W, (binOp BinOp.eql 76 (.slice none 0 k) (.slice none 0 0)).run Tryd.prog W = .ok (.bool true) W := fun W => nil_lists none 0 k W
    go_enter Tryd.func76, Tryd.ntmps76
    go_wp2
    go_ret
    exact ⟨none, 0, rfl, Own.nil _ _ _, Below.refl _ _⟩
  | some ad =>
    have HR := Lib.hid hr
    have HL := Lib.hid hl
    have H1 := Lib.hid h1
    clear hr hl h1
    have hnil : ∀ W, (binOp BinOp.eql 76 (.slice (some ad) n k) (.slice none 0 0)).run Tryd.prog W = .ok (.bool false) W := fun W => nil_lists (some ad) n k W
    go_enter Tryd.func76, Tryd.ntmps76
    go_wp2_with (refine wpList_app _ rfl (.tmp 5) (.tmp 6) 76 rfl w.heap.size 80 (.slice none 0 0) 24 Tryd.underlying76 elem_lists rfl (some ⟨w.heap.size, 0, none⟩) 0 0 [] rfl (Own.new w w.heap.size 80 #[] 0 (Nat.le_refl _) rfl (by unfold maxLen; omega)) w.heap.size (some ad) n k ys rfl (HR.out.alloc (Nat.le_refl _) _) HL.out H1.out (by unfold maxLen; omega) (by omega) (by simp) ?_; intro a' c' w' ho hgr; have HO := Lib.hid ho; have HB := Lib.hid (below_grown2 ((Below.refl w.heap.size w).alloc (Nat.le_refl _) _) hgr (Own.new w w.heap.size 80 #[] 0 (Nat.le_refl _) rfl (by unfold maxLen; omega)) (by simp) (Nat.le_refl _)); clear ho hgr)
    go_ret
    rw [List.nil_append, Nat.zero_add] at HO
    exact ⟨a', c', rfl, HO.out, HB.out⟩

theorem elem_ints : Elem Tryd.prog 3 (.int .i64 0) 8 := by unfold Elem; kernel_rfl
theorem nil_ints (q : Option Addr) (n k : Nat) (W : World) : (binOp BinOp.eql 27 (.slice q n k) (.slice none 0 0)).run Tryd.prog W = .ok (.bool q.isNone) W := by
  cases q with
  | none => kernel_rfl
  | some ad => kernel_rfl
set_option maxRecDepth 100000 in
theorem clone_ints (q : Option Addr) (n k : Nat) (ys : List Value) (w : World) (hl : ys.length = n) (hn : n ≤ 1000000) (hr : Rd w w.heap.size q ys) (h1 : ∀ u ∈ ys, u.oneCell' = true) :
    Calls Tryd.prog 38 #[.slice q n k] w fun e w' => ∃ q' k', e = .returned (.slice q' n k') ∧ Own w' w.heap.size 3 q' n k' ys ∧ Below w.heap.size w w' := by
  cases q with
  | none =>
    have hx : ys = [] := by
      cases ys with
      | nil => rfl
      | cons x xs =>
        obtain ⟨b, off, e, _⟩ := hr 0 x rfl
        cases e
    subst hx
    obtain rfl : n = 0 := hl.symm
    have hnil : ∀ W, (binOp BinOp.eql 27 (.slice none 0 k) (.slice none 0 0)).run Tryd.prog W = .ok (.bool true) W := fun W => nil_ints none 0 k W
    go_enter Tryd.func38, Tryd.ntmps38
    go_wp2
    go_ret
    exact ⟨none, 0, rfl, Own.nil _ _ _, Below.refl _ _⟩
  | some ad =>
    have HR := Lib.hid hr
    have HL := Lib.hid hl
    have H1 := Lib.hid h1
    clear hr hl h1
    have hnil : ∀ W, (binOp BinOp.eql 27 (.slice (some ad) n k) (.slice none 0 0)).run Tryd.prog W = .ok (.bool false) W := fun W => nil_ints (some ad) n k W
    go_enter Tryd.func38, Tryd.ntmps38
    go_wp2_with (refine wpList_app _ rfl (.tmp 5) (.tmp 6) 27 rfl w.heap.size 3 (.int .i64 0) 8 Tryd.underlying27 elem_ints rfl (some ⟨w.heap.size, 0, none⟩) 0 0 [] rfl (Own.new w w.heap.size 3 #[] 0 (Nat.le_refl _) rfl (by unfold maxLen; omega)) w.heap.size (some ad) n k ys rfl (HR.out.alloc (Nat.le_refl _) _) HL.out H1.out (by unfold maxLen; omega) (by omega) (by simp) ?_; intro a' c' w' ho hgr; have HO := Lib.hid ho; have HB := Lib.hid (below_grown2 ((Below.refl w.heap.size w).alloc (Nat.le_refl _) _) hgr (Own.new w w.heap.size 3 #[] 0 (Nat.le_refl _) rfl (by unfold maxLen; omega)) (by simp) (Nat.le_refl _)); clear ho hgr)
    go_ret
    rw [List.nil_append, Nat.zero_add] at HO
    exact ⟨a', c', rfl, HO.out, HB.out⟩

theorem elem_strs : Elem Tryd.prog 9 (.string ⟨#[]⟩) 16 := by unfold Elem; kernel_rfl
theorem nil_strs (q : Option Addr) (n k : Nat) (W : World) : (binOp BinOp.eql 36 (.slice q n k) (.slice none 0 0)).run Tryd.prog W = .ok (.bool q.isNone) W := by
  cases q with
  | none => kernel_rfl
  | some ad => kernel_rfl
set_option maxRecDepth 100000 in
theorem clone_strs (q : Option Addr) (n k : Nat) (ys : List Value) (w : World) (hl : ys.length = n) (hn : n ≤ 1000000) (hr : Rd w w.heap.size q ys) (h1 : ∀ u ∈ ys, u.oneCell' = true) :
    Calls Tryd.prog 40 #[.slice q n k] w fun e w' => ∃ q' k', e = .returned (.slice q' n k') ∧ Own w' w.heap.size 9 q' n k' ys ∧ Below w.heap.size w w' := by
  cases q with
  | none =>
    have hx : ys = [] := by
      cases ys with
      | nil => rfl
      | cons x xs =>
        obtain ⟨b, off, e, _⟩ := hr 0 x rfl
        cases e
    subst hx
    obtain rfl : n = 0 := hl.symm
    have hnil : ∀ W, (binOp BinOp.eql 36 (.slice none 0 k) (.slice none 0 0)).run Tryd.prog W = .ok (.bool true) W := fun W => nil_strs none 0 k W
    go_enter Tryd.func40, Tryd.ntmps40
    go_wp2
    go_ret
    exact ⟨none, 0, rfl, Own.nil _ _ _, Below.refl _ _⟩
  | some ad =>
    have HR := Lib.hid hr
    have HL := Lib.hid hl
    have H1 := Lib.hid h1
    clear hr hl h1
    have hnil : ∀ W, (binOp BinOp.eql 36 (.slice (some ad) n k) (.slice none 0 0)).run Tryd.prog W = .ok (.bool false) W := fun W => nil_strs (some ad) n k W
    go_enter Tryd.func40, Tryd.ntmps40
    go_wp2_with (refine wpList_app _ rfl (.tmp 5) (.tmp 6) 36 rfl w.heap.size 9 (.string ⟨#[]⟩) 16 Tryd.underlying36 elem_strs rfl (some ⟨w.heap.size, 0, none⟩) 0 0 [] rfl (Own.new w w.heap.size 9 #[] 0 (Nat.le_refl _) rfl (by unfold maxLen; omega)) w.heap.size (some ad) n k ys rfl (HR.out.alloc (Nat.le_refl _) _) HL.out H1.out (by unfold maxLen; omega) (by omega) (by simp) ?_; intro a' c' w' ho hgr; have HO := Lib.hid ho; have HB := Lib.hid (below_grown2 ((Below.refl w.heap.size w).alloc (Nat.le_refl _) _) hgr (Own.new w w.heap.size 9 #[] 0 (Nat.le_refl _) rfl (by unfold maxLen; omega)) (by simp) (Nat.le_refl _)); clear ho hgr)
    go_ret
    rw [List.nil_append, Nat.zero_add] at HO
    exact ⟨a', c', rfl, HO.out, HB.out⟩

end Go.Proofs.YtghinmlpkgcdiaaDoor
