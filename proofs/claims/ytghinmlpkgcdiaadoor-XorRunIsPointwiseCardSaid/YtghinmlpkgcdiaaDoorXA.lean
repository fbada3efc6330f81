/- Schedules: slices.Clone at rows of elements of one cell. Printed by mkclone11.py. Schedules of exclusive ors: the plain words. Schedules in memory; the number of inputs. Schedules: the program's Valid. Schedules: the program's Valid, the walk. -/
import Derived.Test.YtghinmlpkgcdiaaDoorOwnN
import Derived.Test.YtghinmlpkgcdiaaDoorG4
import Derived.Deep.QuietTactic
import Derived.BigQuiet
import Derived.Deep.RegionHeld3
import Derived.IntWalk
/-! Schedules: slices.Clone at rows of elements of one cell. Printed by mkclone11.py. -/
namespace Go.Proofs.YtghinmlpkgcdiaaDoor
set_option linter.unusedSimpArgs false
set_option linter.unusedVariables false
open Go.RowKit Go.Lib

theorem elem_lst : Elem Tryd.prog 85 (.int .u64 0) 8 := by unfold Elem; kernel_rfl
theorem nil_lst (q : Option Addr) (n k : Nat) (W : World) : (binOp BinOp.eql 80 (.slice q n k) (.slice none 0 0)).run Tryd.prog W = .ok (.bool q.isNone) W := by
  cases q with
  | none => kernel_rfl
  | some ad => kernel_rfl
set_option maxRecDepth 100000 in
theorem clone_lst (q : Option Addr) (n k : Nat) (ys : List Value) (w : World) (hl : ys.length = n) (hn : n ≤ 1000000) (hr : Rd w w.heap.size q ys) (h1 : ∀ u ∈ ys, u.oneCell' = true) :
    Calls Tryd.prog 91 #[.slice q n k] w fun e w' => ∃ q' k', e = .returned (.slice q' n k') ∧ Own w' w.heap.size 85 q' n k' ys ∧ Below w.heap.size w w' := by
  cases q with
  | none =>
    have hx : ys = [] := by
      cases ys with
      | nil => rfl
      | cons x xs =>
        obtain ⟨b, off, e, _⟩ := hr 0 x rfl
        cases e
    subst hx
    obtain rfl : n = 0 := hl.symm
    have hnil : ∀ W, (binOp BinOp.eql 80 (.slice none 0 k) (.slice none 0 0)).run Tryd.prog W = .ok (.bool true) W := fun W => nil_lst none 0 k W
    go_enter Tryd.func91, Tryd.ntmps91
    go_wp2
    go_ret
    exact ⟨none, 0, rfl, Own.nil _ _ _, Below.refl _ _⟩
  | some ad =>
    have HR := Lib.hid hr
    have HL := Lib.hid hl
    have H1 := Lib.hid h1
    clear hr hl h1
    have hnil : ∀ W, (binOp BinOp.eql 80 (.slice (some ad) n k) (.slice none 0 0)).run Tryd.prog W = .ok (.bool false) W := fun W => nil_lst (some ad) n k W
    go_enter Tryd.func91, Tryd.ntmps91
    go_wp2_with (refine wpList_app _ rfl (.tmp 5) (.tmp 6) 80 rfl w.heap.size 85 (.int .u64 0) 8 Tryd.underlying80 elem_lst rfl (some ⟨w.heap.size, 0, none⟩) 0 0 [] rfl (Own.new w w.heap.size 85 #[] 0 (Nat.le_refl _) rfl (by unfold maxLen; omega)) w.heap.size (some ad) n k ys rfl (HR.out.alloc (Nat.le_refl _) _) HL.out H1.out (by unfold maxLen; omega) (by omega) (by simp) ?_; intro a' c' w' ho hgr; have HO := Lib.hid ho; have HB := Lib.hid (below_grown2 ((Below.refl w.heap.size w).alloc (Nat.le_refl _) _) hgr (Own.new w w.heap.size 85 #[] 0 (Nat.le_refl _) rfl (by unfold maxLen; omega)) (by simp) (Nat.le_refl _)); clear ho hgr)
    go_ret
    rw [List.nil_append, Nat.zero_add] at HO
    exact ⟨a', c', rfl, HO.out, HB.out⟩

theorem elem_lists : Elem Tryd.prog 80 (.slice none 0 0) 24 := by unfold Elem; kernel_rfl
theorem nil_lists (q : Option Addr) (n k : Nat) (W : World) : (binOp BinOp.eql 76 (.slice q n k) (.slice none 0 0)).run Tryd.prog W = .ok (.bool q.isNone) W := by
  cases q with
  | none => kernel_rfl
  | some ad => kernel_rfl
set_option maxRecDepth 100000 in
theorem clone_lists (q : Option Addr) (n k : Nat) (ys : List Value) (w : World) (hl : ys.length = n) (hn : n ≤ 1000000) (hr : Rd w w.heap.size q ys) (h1 : ∀ u ∈ ys, u.oneCell' = true) :
    Calls Tryd.prog 76 #[.slice q n k] w fun e w' => ∃ q' k', e = .returned (.slice q' n k') ∧ Own w' w.heap.size 80 q' n k' ys ∧ Below w.heap.size w w' := by
  cases q with
  | none =>
    have hx : ys = [] := by
      cases ys with
      | nil => rfl
      | cons x xs =>
        obtain ⟨b, off, e, _⟩ := hr 0 x rfl
        cases e
    subst hx
    obtain rfl : n = 0 := hl.symm
    have hnil : ∀ W, (binOp BinOp.eql 76 (.slice none 0 k) (.slice none 0 0)).run Tryd.prog W = .ok (.bool true) W := fun W => nil_lists none 0 k W
    go_enter Tryd.func76, Tryd.ntmps76
    go_wp2
    go_ret
    exact ⟨none, 0, rfl, Own.nil _ _ _, Below.refl _ _⟩
  | some ad =>
    have HR := Lib.hid hr
    have HL := Lib.hid hl
    have H1 := Lib.hid h1
    clear hr hl h1
    have hnil : ∀ W, (binOp BinOp.eql 76 (.slice (some ad) n k) (.slice none 0 0)).run Tryd.prog W = .ok (.bool false) W := fun W => nil_lists (some ad) n k W
    go_enter Tryd.func76, Tryd.ntmps76
    go_wp2_with (refine wpList_app _ rfl (.tmp 5) (.tmp 6) 76 rfl w.heap.size 80 (.slice none 0 0) 24 Tryd.underlying76 elem_lists rfl (some ⟨w.heap.size, 0, none⟩) 0 0 [] rfl (Own.new w w.heap.size 80 #[] 0 (Nat.le_refl _) rfl (by unfold maxLen; omega)) w.heap.size (some ad) n k ys rfl (HR.out.alloc (Nat.le_refl _) _) HL.out H1.out (by unfold maxLen; omega) (by omega) (by simp) ?_; intro a' c' w' ho hgr; have HO := Lib.hid ho; have HB := Lib.hid (below_grown2 ((Below.refl w.heap.size w).alloc (Nat.le_refl _) _) hgr (Own.new w w.heap.size 80 #[] 0 (Nat.le_refl _) rfl (by unfold maxLen; omega)) (by simp) (Nat.le_refl _)); clear ho hgr)
    go_ret
    rw [List.nil_append, Nat.zero_add] at HO
    exact ⟨a', c', rfl, HO.out, HB.out⟩

theorem elem_ints : Elem Tryd.prog 3 (.int .i64 0) 8 := by unfold Elem; kernel_rfl
theorem nil_ints (q : Option Addr) (n k : Nat) (W : World) : (binOp BinOp.eql 27 (.slice q n k) (.slice none 0 0)).run Tryd.prog W = .ok (.bool q.isNone) W := by
  cases q with
  | none => kernel_rfl
  | some ad => kernel_rfl
set_option maxRecDepth 100000 in
theorem clone_ints (q : Option Addr) (n k : Nat) (ys : List Value) (w : World) (hl : ys.length = n) (hn : n ≤ 1000000) (hr : Rd w w.heap.size q ys) (h1 : ∀ u ∈ ys, u.oneCell' = true) :
    Calls Tryd.prog 38 #[.slice q n k] w fun e w' => ∃ q' k', e = .returned (.slice q' n k') ∧ Own w' w.heap.size 3 q' n k' ys ∧ Below w.heap.size w w' := by
  cases q with
  | none =>
    have hx : ys = [] := by
      cases ys with
      | nil => rfl
      | cons x xs =>
        obtain ⟨b, off, e, _⟩ := hr 0 x rfl
        cases e
    subst hx
    obtain rfl : n = 0 := hl.symm
    have hnil : ∀ W, (binOp BinOp.eql 27 (.slice none 0 k) (.slice none 0 0)).run Tryd.prog W = .ok (.bool true) W := fun W => nil_ints none 0 k W
    go_enter Tryd.func38, Tryd.ntmps38
    go_wp2
    go_ret
    exact ⟨none, 0, rfl, Own.nil _ _ _, Below.refl _ _⟩
  | some ad =>
    have HR := Lib.hid hr
    have HL := Lib.hid hl
    have H1 := Lib.hid h1
    clear hr hl h1
    have hnil : ∀ W, (binOp BinOp.eql 27 (.slice (some ad) n k) (.slice none 0 0)).run Tryd.prog W = .ok (.bool false) W := fun W => nil_ints (some ad) n k W
    go_enter Tryd.func38, Tryd.ntmps38
    go_wp2_with (refine wpList_app _ rfl (.tmp 5) (.tmp 6) 27 rfl w.heap.size 3 (.int .i64 0) 8 Tryd.underlying27 elem_ints rfl (some ⟨w.heap.size, 0, none⟩) 0 0 [] rfl (Own.new w w.heap.size 3 #[] 0 (Nat.le_refl _) rfl (by unfold maxLen; omega)) w.heap.size (some ad) n k ys rfl (HR.out.alloc (Nat.le_refl _) _) HL.out H1.out (by unfold maxLen; omega) (by omega) (by simp) ?_; intro a' c' w' ho hgr; have HO := Lib.hid ho; have HB := Lib.hid (below_grown2 ((Below.refl w.heap.size w).alloc (Nat.le_refl _) _) hgr (Own.new w w.heap.size 3 #[] 0 (Nat.le_refl _) rfl (by unfold maxLen; omega)) (by simp) (Nat.le_refl _)); clear ho hgr)
    go_ret
    rw [List.nil_append, Nat.zero_add] at HO
    exact ⟨a', c', rfl, HO.out, HB.out⟩

theorem elem_strs : Elem Tryd.prog 9 (.string ⟨#[]⟩) 16 := by unfold Elem; kernel_rfl
theorem nil_strs (q : Option Addr) (n k : Nat) (W : World) : (binOp BinOp.eql 36 (.slice q n k) (.slice none 0 0)).run Tryd.prog W = .ok (.bool q.isNone) W := by
  cases q with
  | none => kernel_rfl
  | some ad => kernel_rfl
set_option maxRecDepth 100000 in
theorem clone_strs (q : Option Addr) (n k : Nat) (ys : List Value) (w : World) (hl : ys.length = n) (hn : n ≤ 1000000) (hr : Rd w w.heap.size q ys) (h1 : ∀ u ∈ ys, u.oneCell' = true) :
    Calls Tryd.prog 40 #[.slice q n k] w fun e w' => ∃ q' k', e = .returned (.slice q' n k') ∧ Own w' w.heap.size 9 q' n k' ys ∧ Below w.heap.size w w' := by
  cases q with
  | none =>
    have hx : ys = [] := by
      cases ys with
      | nil => rfl
      | cons x xs =>
        obtain ⟨b, off, e, _⟩ := hr 0 x rfl
        cases e
    subst hx
    obtain rfl : n = 0 := hl.symm
    have hnil : ∀ W, (binOp BinOp.eql 36 (.slice none 0 k) (.slice none 0 0)).run Tryd.prog W = .ok (.bool true) W := fun W => nil_strs none 0 k W
    go_enter Tryd.func40, Tryd.ntmps40
    go_wp2
    go_ret
    exact ⟨none, 0, rfl, Own.nil _ _ _, Below.refl _ _⟩
  | some ad =>
    have HR := Lib.hid hr
    have HL := Lib.hid hl
    have H1 := Lib.hid h1
    clear hr hl h1
    have hnil : ∀ W, (binOp BinOp.eql 36 (.slice (some ad) n k) (.slice none 0 0)).run Tryd.prog W = .ok (.bool false) W := fun W => nil_strs (some ad) n k W
    go_enter Tryd.func40, Tryd.ntmps40
    go_wp2_with (refine wpList_app _ rfl (.tmp 5) (.tmp 6) 36 rfl w.heap.size 9 (.string ⟨#[]⟩) 16 Tryd.underlying36 elem_strs rfl (some ⟨w.heap.size, 0, none⟩) 0 0 [] rfl (Own.new w w.heap.size 9 #[] 0 (Nat.le_refl _) rfl (by unfold maxLen; omega)) w.heap.size (some ad) n k ys rfl (HR.out.alloc (Nat.le_refl _) _) HL.out H1.out (by unfold maxLen; omega) (by omega) (by simp) ?_; intro a' c' w' ho hgr; have HO := Lib.hid ho; have HB := Lib.hid (below_grown2 ((Below.refl w.heap.size w).alloc (Nat.le_refl _) _) hgr (Own.new w w.heap.size 9 #[] 0 (Nat.le_refl _) rfl (by unfold maxLen; omega)) (by simp) (Nat.le_refl _)); clear ho hgr)
    go_ret
    rw [List.nil_append, Nat.zero_add] at HO
    exact ⟨a', c', rfl, HO.out, HB.out⟩

end Go.Proofs.YtghinmlpkgcdiaaDoor
/-! Schedules of exclusive ors: the plain words. -/
namespace Go.Proofs.YtghinmlpkgcdiaaDoor
namespace Xp

/-- an operation's registers are smaller than its own, and different -/
def opOk (r : Int) (o : Int × Int) : Bool := decide (0 ≤ o.1) && decide (0 ≤ o.2) && decide (o.1 < r) && decide (o.2 < r) && decide (o.1 ≠ o.2)
/-- all operations fit, the first of them making register r -/
def opsOk : Int → List (Int × Int) → Bool
  | _, [] => true
  | r, o :: os => opOk r o && opsOk (r + 1) os
def outOk (r : Int) (x : Int) : Bool := decide (-1 ≤ x) && decide (x < r)
/-- is the schedule's head valid? -/
def headOk (f d p : Int) (no nx : Nat) : Bool := (decide (f = 8) || decide (f = 16)) && decide (1 ≤ d) && decide (0 ≤ p) && decide (d ≤ 32) && decide (p ≤ 32 - d) && decide (no ≤ 131072) && decide ((nx : Int) = p * f)
def okS (f d p : Int) (ops : List (Int × Int)) (out : List Int) : Bool := headOk f d p ops.length out.length && opsOk (d * f) ops && out.all (outOk (d * f + ops.length))

theorem opsOk_snoc (o : Int × Int) : ∀ (os : List (Int × Int)) (r : Int), opsOk r (os ++ [o]) = (opsOk r os && opOk (r + os.length) o)
  | [], r => by simp [opsOk]
  | x :: os, r => by
    show (opOk r x && opsOk (r + 1) (os ++ [o])) = (opOk r x && opsOk (r + 1) os && _)
    rw [opsOk_snoc o os (r + 1), Bool.and_assoc]
    congr 3
    simp only [List.length_cons]
    omega
theorem opsOk_take {os : List (Int × Int)} {r : Int} {k : Nat} {o : Int × Int} (h : os[k]? = some o) : opsOk r (os.take (k + 1)) = (opsOk r (os.take k) && opOk (r + k) o) := by
  obtain ⟨hk, e⟩ := List.getElem?_eq_some_iff.1 h
  rw [List.take_succ_eq_append_getElem hk, e, opsOk_snoc]
  have : (os.take k).length = k := by rw [List.length_take]; omega
  rw [this]
theorem opsOk_bad {o : Int × Int} : ∀ {os : List (Int × Int)} {r : Int} {k : Nat}, os[k]? = some o → opOk (r + k) o = false → opsOk r os = false
  | [], _, _, h, _ => by simp at h
  | x :: os, r, 0, h, hb => by
    simp only [List.getElem?_cons_zero, Option.some.injEq] at h
    subst h
    show (opOk r x && _) = false
    rw [show r + ((0 : Nat) : Int) = r by omega] at hb
    rw [hb, Bool.false_and]
  | x :: os, r, k + 1, h, hb => by
    show (opOk r x && opsOk (r + 1) os) = false
    rw [List.getElem?_cons_succ] at h
    rw [opsOk_bad (r := r + 1) h (by rw [show r + 1 + (k : Int) = r + ((k + 1 : Nat) : Int) by omega]; exact hb), Bool.and_false]
theorem opsOk_get {os : List (Int × Int)} {r : Int} (h : opsOk r os = true) {k : Nat} {o : Int × Int} (hk : os[k]? = some o) : opOk (r + k) o = true := by
  cases e : opOk (r + k) o with
  | true => rfl
  | false => rw [opsOk_bad hk e] at h; cases h
theorem opOk_iff {r : Int} {o : Int × Int} : opOk r o = true ↔ 0 ≤ o.1 ∧ 0 ≤ o.2 ∧ o.1 < r ∧ o.2 < r ∧ o.1 ≠ o.2 := by
  unfold opOk
  simp only [Bool.and_eq_true, decide_eq_true_eq]
  constructor
  · rintro ⟨⟨⟨⟨a, b⟩, c⟩, d⟩, e⟩; exact ⟨a, b, c, d, e⟩
  · rintro ⟨a, b, c, d, e⟩; exact ⟨⟨⟨⟨a, b⟩, c⟩, d⟩, e⟩

/-- the registers' contents, behind the operations -/
def regs : List Nat → List (Nat × Nat) → List Nat
  | l, [] => l
  | l, o :: os => regs (l ++ [(l[o.1]?.getD 0) ^^^ (l[o.2]?.getD 0)]) os
theorem regs_snoc (o : Nat × Nat) : ∀ (os : List (Nat × Nat)) (l : List Nat), regs l (os ++ [o]) = regs l os ++ [((regs l os)[o.1]?.getD 0) ^^^ ((regs l os)[o.2]?.getD 0)]
  | [], l => rfl
  | x :: os, l => by
    show regs _ (os ++ [o]) = regs _ os ++ _
    exact regs_snoc o os _
theorem regs_length : ∀ (os : List (Nat × Nat)) (l : List Nat), (regs l os).length = l.length + os.length
  | [], l => rfl
  | x :: os, l => by
    show (regs _ os).length = _
    rw [regs_length os, List.length_append]
    simp only [List.length_cons, List.length_nil]
    omega
/-- word i of a list of bits -/
def word (N i : Nat) : Nat := (N >>> (64 * i)) % 2 ^ 64
theorem word_xor (a b i : Nat) : word (a ^^^ b) i = word a i ^^^ word b i := by
  unfold word
  apply Nat.eq_of_testBit_eq
  intro j
  rw [Nat.testBit_xor, Nat.testBit_mod_two_pow, Nat.testBit_mod_two_pow, Nat.testBit_mod_two_pow, Nat.testBit_shiftRight, Nat.testBit_shiftRight, Nat.testBit_shiftRight, Nat.testBit_xor]
  by_cases h : j < 64 <;> simp [h]
theorem word_bit (N i : Nat) : (word N (i / 64)).testBit (i % 64) = N.testBit i := by
  unfold word
  rw [Nat.testBit_mod_two_pow, Nat.testBit_shiftRight, Nat.div_add_mod]
  have : i % 64 < 64 := Nat.mod_lt _ (by decide)
  simp [this]
theorem word_lt (N i : Nat) : word N i < 2 ^ 64 := Nat.mod_lt _ (Nat.two_pow_pos _)
theorem word_or (N i b k : Nat) (hb : b < 2) : word (N ||| b <<< i) k = if k = i / 64 then word N k ||| b <<< (i % 64) else word N k := by
  unfold word
  have hm := Nat.div_add_mod i 64
  have hl : i % 64 < 64 := Nat.mod_lt _ (by decide)
  have hb2 : ∀ j, b.testBit j = (decide (j = 0) && decide (b = 1)) := fun j => by
    rcases (show b = 0 ∨ b = 1 by omega) with rfl | rfl
    · simp
    · cases j with
      | zero => rfl
      | succ j => rw [show (1 : Nat) = 2 ^ 0 from rfl, Nat.testBit_two_pow]; simp
  apply Nat.eq_of_testBit_eq
  intro j
  by_cases hk : k = i / 64
  · rw [if_pos hk, Nat.testBit_or, Nat.testBit_mod_two_pow, Nat.testBit_mod_two_pow, Nat.testBit_shiftRight, Nat.testBit_shiftRight, Nat.testBit_or, Nat.testBit_shiftLeft, Nat.testBit_shiftLeft, hb2, hb2]
    by_cases h : j < 64
    · have e1 : decide (64 * k + j ≥ i) = decide (j ≥ i % 64) := by rw [Bool.eq_iff_iff]; simp; omega
      have e2 : decide (64 * k + j - i = 0) = decide (j ≤ i % 64) := by rw [Bool.eq_iff_iff]; simp; omega
      have e3 : decide (j - i % 64 = 0) = decide (j ≤ i % 64) := by rw [Bool.eq_iff_iff]; simp; omega
      rw [e1, e2, e3]; simp [h]
    · have e3 : (decide (j ≥ i % 64) && (decide (j - i % 64 = 0) && decide (b = 1))) = false := by
        rw [show decide (j - i % 64 = 0) = false from decide_eq_false (by omega)]; simp
      rw [e3]; simp [h]
  · rw [if_neg hk, Nat.testBit_mod_two_pow, Nat.testBit_mod_two_pow, Nat.testBit_shiftRight, Nat.testBit_shiftRight, Nat.testBit_or, Nat.testBit_shiftLeft, hb2]
    by_cases h : j < 64
    · have : (decide (64 * k + j ≥ i) && (decide (64 * k + j - i = 0) && decide (b = 1))) = false := by
        by_cases h2 : 64 * k + j ≥ i
        · rw [show decide (64 * k + j - i = 0) = false from decide_eq_false (by
            intro h3
            apply hk
            omega)]
          simp
        · rw [show decide (64 * k + j ≥ i) = false from decide_eq_false h2]; rfl
      rw [this]; simp
    · simp [h]
end Xp
end Go.Proofs.YtghinmlpkgcdiaaDoor
/-! Schedules in memory; the number of inputs. -/
namespace Go.Proofs.YtghinmlpkgcdiaaDoor
set_option linter.unusedSimpArgs false
set_option linter.unusedVariables false
open Go.RowKit Go.Lib

/-- the cells of a schedule -/
abbrev schC (f d p : Int) (qo : Option Addr) (no ko : Nat) (qx : Option Addr) (nx kx : Nat) : Array Value := #[.int .i64 f, .int .i64 d, .int .i64 p, .slice qo no ko, .slice qx nx kx]
def schV (f d p : Int) (qo : Option Addr) (no ko : Nat) (qx : Option Addr) (nx kx : Nat) : Value := .agg (schC f d p qo no ko qx nx kx)
theorem sbox {w : World} {g : Nat} {t : TypeId} {f d p : Int} {qo : Option Addr} {no ko : Nat} {qx : Option Addr} {nx kx : Nat} (h : Row w g t (schC f d p qo no ko qx nx kx)) :
    w.cell? ⟨g, 0, none⟩ = some (.int .i64 f) ∧ w.cell? ⟨g, 1, none⟩ = some (.int .i64 d) ∧ w.cell? ⟨g, 2, none⟩ = some (.int .i64 p) ∧ w.cell? ⟨g, 3, none⟩ = some (.slice qo no ko) ∧ w.cell? ⟨g, 4, none⟩ = some (.slice qx nx kx) :=
  ⟨h.cell 0, h.cell 1, h.cell 2, h.cell 3, h.cell 4⟩
theorem schC_one (f d p : Int) (qo : Option Addr) (no ko : Nat) (qx : Option Addr) (nx kx : Nat) : (schC f d p qo no ko qx nx kx).all (·.oneCell') = true := by
  unfold schC; simp [Value.oneCell']
/-- the cells of a row of operations -/
def opsC (l : List (Int × Int)) : List Value := l.flatMap fun o => [.int .i64 o.1, .int .i64 o.2]
theorem opsC_length (l : List (Int × Int)) : (opsC l).length = l.length * 2 := by
  induction l with
  | nil => rfl
  | cons o l ih => unfold opsC at ih ⊢; rw [List.flatMap_cons, List.length_append, ih]; simp; omega
theorem opsC_get : ∀ (l : List (Int × Int)) (i : Nat) (o : Int × Int), l[i]? = some o → (opsC l)[i * 2]? = some (.int .i64 o.1) ∧ (opsC l)[i * 2 + 1]? = some (.int .i64 o.2)
  | [], i, o, h => by simp at h
  | x :: l, 0, o, h => by
    simp only [List.getElem?_cons_zero, Option.some.injEq] at h
    subst h
    exact ⟨rfl, rfl⟩
  | x :: l, i + 1, o, h => by
    rw [List.getElem?_cons_succ] at h
    obtain ⟨h1, h2⟩ := opsC_get l i o h
    have e : opsC (x :: l) = .int .i64 x.1 :: .int .i64 x.2 :: opsC l := rfl
    rw [e, show (i + 1) * 2 = i * 2 + 1 + 1 by omega, show i * 2 + 1 + 1 + 1 = (i * 2 + 1) + 1 + 1 from rfl, List.getElem?_cons_succ, List.getElem?_cons_succ, List.getElem?_cons_succ, List.getElem?_cons_succ]
    exact ⟨h1, h2⟩
theorem opsC_snoc (l : List (Int × Int)) (o : Int × Int) : opsC (l ++ [o]) = opsC l ++ [.int .i64 o.1, .int .i64 o.2] := by
  unfold opsC; rw [List.flatMap_append]; rfl
theorem Rd.op {w : World} {B : Nat} {a : Option Addr} {l : List (Int × Int)} (h : Rd w B a (opsC l)) {j : Nat} {o : Int × Int} (hj : l[j]? = some o) :
    ∃ b off, a = some ⟨b, off, none⟩ ∧ b < B ∧ w.cell? ⟨b, off + j * 2, none⟩ = some (.int .i64 o.1) ∧ w.cell? ⟨b, off + j * 2 + 1, none⟩ = some (.int .i64 o.2) := by
  obtain ⟨f0, f1⟩ := opsC_get l j o hj
  obtain ⟨b, off, e, hb, h0⟩ := h _ _ f0
  obtain ⟨b', off', e', _, h1⟩ := h _ _ f1
  rw [e] at e'
  injection e' with e'
  injection e' with e1 e2
  subst e1; subst e2
  exact ⟨b, off, e, hb, h0, by rw [Nat.add_assoc]; exact h1⟩

set_option maxRecDepth 100000 in
theorem inputs_any (f d p : Int) (o x : Value) (n : Int) (hn : IntKind.i64.wrap (d * f) = n) (w : World) :
    Calls Tryd.prog 33 #[.agg #[.int .i64 f, .int .i64 d, .int .i64 p, o, x]] w fun e w' => e = .returned (.int .i64 n) ∧ Below w.heap.size w w' := by
  go_enter Tryd.func33, Tryd.ntmps33
  go_wp2
  go_ret
  exact ⟨rfl, (Below.refl _ w).alloc (Nat.le_refl _) _⟩
end Go.Proofs.YtghinmlpkgcdiaaDoor
/-! Schedules: the program's Valid. -/
namespace Go.Proofs.YtghinmlpkgcdiaaDoor
set_option linter.unusedSimpArgs false
set_option linter.unusedVariables false
open Go.RowKit Go.Lib

theorem outOk_low {T x : Int} (h : x < -1) : Xp.outOk T x = false := by
  unfold Xp.outOk; rw [decide_eq_false (by omega), Bool.false_and]
theorem outOk_high {T x : Int} (h : ¬ x < -1) : Xp.outOk T x = !decide (T ≤ x) := by
  unfold Xp.outOk
  rw [decide_eq_true (show -1 ≤ x by omega), Bool.true_and]
  by_cases h2 : T ≤ x
  · rw [decide_eq_true h2, decide_eq_false (by omega)]; rfl
  · rw [decide_eq_false h2, decide_eq_true (by omega)]; rfl
set_option maxRecDepth 100000 in
theorem xvalidf_any (f d p : Int) (qo : Option Addr) (no ko : Nat) (qx : Option Addr) (nx kx : Nat) (x n T : Int) (g : Nat) (w : World) (hg : Row w g 30 (schC f d p qo no ko qx nx kx))
    (hn : IntKind.i64.wrap (d * f) = n) (hT : IntKind.i64.wrap (n + no) = T) :
    Calls Tryd.prog 55 #[.int .i64 x, .pointer (some ⟨g, 0, none⟩)] w fun e w' => e = .returned (.bool (!Xp.outOk T x)) ∧ Below w.heap.size w w' := by
  have HG := Lib.hid hg
  obtain ⟨c0, c1, c2, c3, c4⟩ := sbox hg
  have HIN := Lib.hid (fun (W : World) => inputs_any f d p (.slice qo no ko) (.slice qx nx kx) n hn W)
  have HT := Lib.hid hT
  clear hg hn
  by_cases h0 : x < -1
  · have hd : decide (x < -1) = true := decide_eq_true h0
    have HO := Lib.hid (outOk_low (T := T) h0)
    clear h0 hT
    rw [HO.out]
    go_enter Tryd.func55, Tryd.ntmps55
    go_wp2
    go_quiet (fail)
    go_wp2
    go_ret
    exact ⟨rfl, below_drewN (Below.refl _ w) _⟩
  · have hd : decide (x < -1) = false := decide_eq_false h0
    have HO := Lib.hid (outOk_high (T := T) h0)
    clear h0
    rw [HO.out, Bool.not_not]
    have HW := Lib.hid ((Below.refl w.heap.size w).drew)
    go_enter Tryd.func55, Tryd.ntmps55
    go_wp2_with fail
    go_region_held3 (fun wn => wn.cell? ⟨g, 0, none⟩ = some (.int .i64 f) ∧ wn.cell? ⟨g, 1, none⟩ = some (.int .i64 d) ∧ wn.cell? ⟨g, 2, none⟩ = some (.int .i64 p) ∧ wn.cell? ⟨g, 3, none⟩ = some (.slice qo no ko) ∧ wn.cell? ⟨g, 4, none⟩ = some (.slice qx nx kx)) (first | exact sbox HR2.out | exact ⟨c0, c1, c2, c3, c4⟩) (first
      | (go_at_call 33; (with_reducible refine (HIN.out _).mono ?_); rintro e2 w2 ⟨rfl, hb2⟩; have HB2 := Lib.hid (show Below w.heap.size w w2 from undrew hb2); have HR2 := Lib.hid (HG.out.below HB2.out HG.out.lt); clear hb2))
    go_wp2
    go_ret
    exact ⟨rfl, HB2.out⟩
set_option maxRecDepth 100000 in
theorem xvalidi_any (f d p : Int) (qo : Option Addr) (no ko : Nat) (qx : Option Addr) (nx kx : Nat) (n T : Int) (a : Option Addr) (m k0 : Nat) (xs : List Int) (g : Nat) (w : World) (hl : xs.length = m) (hm : m ≤ 9223372036854775807) (hr : Rd w w.heap.size a (ints xs)) (hg : Row w g 30 (schC f d p qo no ko qx nx kx))
    (hn : IntKind.i64.wrap (d * f) = n) (hT : IntKind.i64.wrap (n + no) = T) :
    Calls Tryd.prog 69 #[.slice a m k0, .func (.func 55) #[] #[.pointer (some ⟨g, 0, none⟩)]] w fun e w' => Found (xs.any fun x => !Xp.outOk T x) e ∧ Below w.heap.size w w' := by
  have HR := Lib.hid hr
  have HG := Lib.hid hg
  have HL := Lib.hid hl
  have HF := Lib.hid (fun (x : Int) (W : World) (h : Row W g 30 (schC f d p qo no ko qx nx kx)) => xvalidf_any f d p qo no ko qx nx kx x n T g W h hn hT)
  clear hr hg hl hn hT
  go_enter Tryd.func69, Tryd.ntmps69
  go_wp2
  go_loopw [8] (fun i wr => ∃ k : Nat, k ≤ m ∧ i = .int .i64 k ∧ (xs.take k).any (fun x => !Xp.outOk T x) = false ∧ Below w.heap.size w wr) (fun i _ => m - (intOf i).toNat)
  case atStart => exact ⟨0, by omega, rfl, rfl, Below.refl _ _⟩
  case round =>
    obtain ⟨k, hk, rfl, ha, hbw⟩ := hrel
    have HA := Lib.hid ha
    have HBW := Lib.hid hbw
    clear ha hbw
    by_cases hlt : k < m
    · obtain ⟨x, hx⟩ : ∃ x, xs[k]? = some x := ⟨_, List.getElem?_eq_getElem (by rw [HL.out]; exact hlt)⟩
      obtain ⟨b, off, rfl, hb, hc⟩ := (HR.out.below HBW.out) k (.int .i64 x) (by rw [ints, List.getElem?_map, hx]; rfl)
      have HX := Lib.hid hx
      clear hx
      obtain ⟨bx, hbx⟩ : ∃ bx, (!Xp.outOk T x) = bx := ⟨_, rfl⟩
      have HBX := Lib.hid hbx
      clear hbx
      go_wp2_with fail
      refine (HF.out x _ (HG.out.below HBW.out HG.out.lt)).mono ?_
      rw [HBX.out]
      rintro e w1 ⟨rfl, hb1⟩
      have HB1 := Lib.hid (below_call HBW.out hb1)
      clear hb1
      cases bx
      · go_wp2
        go_roundw
        case rel => exact ⟨k + 1, by omega, by go_num, by rw [any_take HA.out HX.out]; exact HBX.out, HB1.out⟩
        case measure => simp [intOf]; omega
      · go_wp2
        go_ret
        refine ⟨.inr ⟨?_, k, rfl⟩, HB1.out⟩
        rw [List.any_eq_true]
        exact ⟨x, List.mem_of_getElem? HX.out, HBX.out⟩
    · have h1 : k = m := by omega
      have HA2 := Lib.hid (show xs.any (fun x => !Xp.outOk T x) = false by
        have := HA.out
        rwa [List.take_of_length_le (by rw [HL.out]; omega)] at this)
      clear h1
      go_wp2
      go_ret
      exact ⟨.inl ⟨HA2.out, rfl⟩, HBW.out⟩
set_option maxRecDepth 100000 in
theorem xvalidc_any (f d p : Int) (qo : Option Addr) (no ko : Nat) (qx : Option Addr) (nx kx : Nat) (n T : Int) (a : Option Addr) (m k0 : Nat) (xs : List Int) (g : Nat) (w : World) (hl : xs.length = m) (hm : m ≤ 9223372036854775807) (hr : Rd w w.heap.size a (ints xs)) (hg : Row w g 30 (schC f d p qo no ko qx nx kx))
    (hn : IntKind.i64.wrap (d * f) = n) (hT : IntKind.i64.wrap (n + no) = T) :
    Calls Tryd.prog 54 #[.slice a m k0, .func (.func 55) #[] #[.pointer (some ⟨g, 0, none⟩)]] w fun e w' => e = .returned (.bool (!xs.all (Xp.outOk T))) ∧ Below w.heap.size w w' := by
  have h := xvalidi_any f d p qo no ko qx nx kx n T a m k0 xs g w hl hm hr hg hn hT
  rw [List.not_all_eq_any_not]
  generalize (xs.any fun x => !Xp.outOk T x) = b at h
  have H := Lib.hid h
  clear h hl hr hg hn hT
  go_enter Tryd.func54, Tryd.ntmps54
  go_wp2_with fail
  refine H.out.mono ?_
  rintro e w1 ⟨hf, hb⟩
  have HB := Lib.hid hb
  clear hb
  rcases hf with ⟨rfl, rfl⟩ | ⟨rfl, k, rfl⟩
  · go_wp2
    go_ret
    exact ⟨rfl, HB.out⟩
  · have hd : decide (0 ≤ (k : Int)) = true := by simp
    go_wp2
    go_ret
    exact ⟨rfl, HB.out⟩
theorem min_two (a b : Int) (ts : Array TypeId) (t : TypeId) (W : World) : (Builtin.min_ ts t #[.int .i64 a, .int .i64 b]).run Tryd.prog W = .ok (.int .i64 (if b < a then b else a)) W := by
  simp [Builtin.min_, Builtin.min2]
theorem max_two (a b : Int) (ts : Array TypeId) (t : TypeId) (W : World) : (Builtin.max_ ts t #[.int .i64 a, .int .i64 b]).run Tryd.prog W = .ok (.int .i64 (if a < b then b else a)) W := by
  simp [Builtin.max_, Builtin.max2]
theorem allB_zero (f : Int) : allB f [0] = (decide (f = 8) || decide (f = 16)) := by
  by_cases h : okM f = true
  · obtain ⟨m, hm, rfl⟩ := okM_iff.1 h
    have := allB_one hm (Nat.two_pow_pos m)
    rw [show ((0 : Nat) : Int) = 0 from rfl] at this
    rw [this]
    rcases hm with rfl | rfl <;> rfl
  · have e : allB f [0] = false := by
      unfold allB
      rw [Bool.not_eq_true] at h
      rw [h]; rfl
    rw [e]
    by_cases h8 : f = 8
    · subst h8; exact absurd rfl h
    · by_cases h16 : f = 16
      · subst h16; exact absurd rfl h
      · rw [decide_eq_false h8, decide_eq_false h16]; rfl
theorem headOk_no {f d p : Int} {no nx : Nat} (h : (decide (f = 8) || decide (f = 16)) = false ∨ d < 1 ∨ p < 0 ∨ 32 < d) : Xp.headOk f d p no nx = false := by
  unfold Xp.headOk
  rcases h with h | h | h | h
  · rw [h]; simp
  · rw [decide_eq_false (show ¬ 1 ≤ d by omega)]; simp
  · rw [decide_eq_false (show ¬ 0 ≤ p by omega)]; simp
  · rw [decide_eq_false (show ¬ d ≤ 32 by omega)]; simp
end Go.Proofs.YtghinmlpkgcdiaaDoor
/-! Schedules: the program's Valid, the walk. -/
namespace Go.Proofs.YtghinmlpkgcdiaaDoor
set_option linter.unusedSimpArgs false
set_option linter.unusedVariables false
open Go.RowKit Go.Lib

set_option maxRecDepth 100000 in
set_option maxHeartbeats 1600000 in
theorem xvalid_low (f d p : Int) (qo : Option Addr) (no ko : Nat) (qx : Option Addr) (nx kx : Nat) (w : World) (ht : Tab w) (h : (decide (f = 8) || decide (f = 16)) = false ∨ d < 1 ∨ p < 0 ∨ 32 < d) :
    Calls Tryd.prog 22 #[schV f d p qo no ko qx nx kx] w fun e w' => e = .returned (.bool false) ∧ Below w.heap.size w w' := by
  unfold schV
  obtain ⟨b1, e1⟩ : ∃ b, allB f [0] = b := ⟨_, rfl⟩
  obtain ⟨b2, e2⟩ : ∃ b, decide (d < 1) = b := ⟨_, rfl⟩
  obtain ⟨b3, e3⟩ : ∃ b, decide (p < 0) = b := ⟨_, rfl⟩
  obtain ⟨b4, e4⟩ : ∃ b, decide (32 < d) = b := ⟨_, rfl⟩
  have hs : b1 = false ∨ (b1 = true ∧ b2 = true) ∨ (b1 = true ∧ b2 = false ∧ b3 = true) ∨ (b1 = true ∧ b2 = false ∧ b3 = false ∧ b4 = true) := by
    rw [← allB_zero, e1, ← decide_eq_true_iff (p := d < 1), e2, ← decide_eq_true_iff (p := p < 0), e3, ← decide_eq_true_iff (p := 32 < d), e4] at h
    cases b1 <;> cases b2 <;> cases b3 <;> cases b4 <;> simp_all
  have HV := Lib.hid (fun (W : World) (hb : Below w.heap.size w W) => valid_any f 0 W (ht.next hb))
  have HW : Hid (Below w.heap.size w (w.alloc (.cells (schC f d p qo no ko qx nx kx) 30))) := Lib.hid ((Below.refl _ w).alloc (Nat.le_refl _) _)
  have HR : Hid (Row (w.alloc (.cells (schC f d p qo no ko qx nx kx) 30)) w.heap.size 30 (schC f d p qo no ko qx nx kx)) := Lib.hid (Row.new w _ _)
  rw [e1] at HV
  clear h ht e1
  rcases hs with rfl | ⟨rfl, rfl⟩ | ⟨rfl, rfl, rfl⟩ | ⟨rfl, rfl, rfl, rfl⟩
  all_goals
    go_enter Tryd.func22, Tryd.ntmps22
    go_wp2_with fail
    refine (HV.out _ HW.out).mono ?_
    rintro e w1 ⟨rfl, hb⟩
    have HB1 := Lib.hid (below_call HW.out hb)
    obtain ⟨c0, c1, c2, c3, c4⟩ := sbox (HR.out.below hb HR.out.lt)
    clear hb
    go_wp2
    go_ret
    exact ⟨rfl, HB1.out⟩
set_option maxRecDepth 100000 in
set_option maxHeartbeats 1600000 in
theorem xvalid_high {m : Nat} (hm : Fld.IsM m) (d p : Int) (qo : Option Addr) (no ko : Nat) (qx : Option Addr) (nx kx : Nat) (w : World) (ht : Tab w) (hd1 : 1 ≤ d) (hd2 : d ≤ 32) (hp : 0 ≤ p) (hno : no ≤ 9223372036854775807) (h : 32 - d < p ∨ 131072 < no ∨ (nx : Int) ≠ p * m) :
    Calls Tryd.prog 22 #[schV m d p qo no ko qx nx kx] w fun e w' => e = .returned (.bool false) ∧ Below w.heap.size w w' := by
  unfold schV
  have hwd : IntKind.i64.wrap (32 - d) = 32 - d := by rw [IntKind.wrap_i64] <;> omega
  obtain ⟨pf, hpf⟩ : ∃ pf, p * (m : Int) = pf := ⟨_, rfl⟩
  have hwp : ¬ 32 - d < p → IntKind.i64.wrap (p * (m : Int)) = pf := fun hp2 => by
    rcases hm with rfl | rfl <;> (rw [IntKind.wrap_i64] <;> omega)
  rw [hpf] at h
  obtain ⟨b2, e2⟩ : ∃ b, decide (d < 1) = b := ⟨_, rfl⟩
  obtain ⟨b3, e3⟩ : ∃ b, decide (p < 0) = b := ⟨_, rfl⟩
  obtain ⟨b4, e4⟩ : ∃ b, decide (32 < d) = b := ⟨_, rfl⟩
  obtain rfl : b2 = false := by rw [← e2]; exact decide_eq_false (by omega)
  obtain rfl : b3 = false := by rw [← e3]; exact decide_eq_false (by omega)
  obtain rfl : b4 = false := by rw [← e4]; exact decide_eq_false (by omega)
  have hv1 : allB (m : Int) [0] = true := by
    have := allB_one hm (Nat.two_pow_pos m)
    rwa [show ((0 : Nat) : Int) = 0 from rfl] at this
  have HV := Lib.hid (fun (W : World) (hb : Below w.heap.size w W) => valid_any m 0 W (ht.next hb))
  have HW : Hid (Below w.heap.size w (w.alloc (.cells (schC m d p qo no ko qx nx kx) 30))) := Lib.hid ((Below.refl _ w).alloc (Nat.le_refl _) _)
  have HR : Hid (Row (w.alloc (.cells (schC m d p qo no ko qx nx kx) 30)) w.heap.size 30 (schC m d p qo no ko qx nx kx)) := Lib.hid (Row.new w _ _)
  rw [hv1] at HV
  clear ht hv1 hpf
  by_cases h5 : 32 - d < p
  · have hd5 : decide (32 - d < p) = true := decide_eq_true h5
    clear hwp h h5
    go_enter Tryd.func22, Tryd.ntmps22
    go_wp2_with fail
    refine (HV.out _ HW.out).mono ?_
    rintro e w1 ⟨rfl, hb⟩
    have HB1 := Lib.hid (below_call HW.out hb)
    obtain ⟨c0, c1, c2, c3, c4⟩ := sbox (HR.out.below hb HR.out.lt)
    clear hb
    go_wp2
    go_ret
    exact ⟨rfl, HB1.out⟩
  · have hd5 : decide (32 - d < p) = false := decide_eq_false h5
    have hwp2 := hwp h5
    clear hwp
    by_cases h6 : 131072 < no
    · have hd6 : decide (131072 < (no : Int)) = true := decide_eq_true (by omega)
      clear h h5 h6
      go_enter Tryd.func22, Tryd.ntmps22
      go_wp2_with fail
      refine (HV.out _ HW.out).mono ?_
      rintro e w1 ⟨rfl, hb⟩
      have HB1 := Lib.hid (below_call HW.out hb)
      obtain ⟨c0, c1, c2, c3, c4⟩ := sbox (HR.out.below hb HR.out.lt)
      clear hb
      go_wp2
      go_ret
      exact ⟨rfl, HB1.out⟩
    · have hd6 : decide (131072 < (no : Int)) = false := decide_eq_false (by omega)
      have hd7 : ((nx : Int) != pf) = true := by simp; omega
      clear h h5 h6
      go_enter Tryd.func22, Tryd.ntmps22
      go_wp2_with fail
      refine (HV.out _ HW.out).mono ?_
      rintro e w1 ⟨rfl, hb⟩
      have HB1 := Lib.hid (below_call HW.out hb)
      obtain ⟨c0, c1, c2, c3, c4⟩ := sbox (HR.out.below hb HR.out.lt)
      clear hb
      go_wp2
      go_ret
      exact ⟨rfl, HB1.out⟩
set_option maxRecDepth 100000 in
set_option maxHeartbeats 3200000 in
theorem xvalid_go {m : Nat} (hm : Fld.IsM m) (d p : Int) (qo : Option Addr) (no ko : Nat) (qx : Option Addr) (nx kx : Nat) (ops : List (Int × Int)) (out : List Int) (w : World) (ht : Tab w) (hd1 : 1 ≤ d) (hd2 : d ≤ 32) (hp : 0 ≤ p) (hp2 : p ≤ 32 - d) (hno : no ≤ 131072) (hnx : (nx : Int) = p * m)
    (hlo : ops.length = no) (hro : Rd w w.heap.size qo (opsC ops)) (hlx : out.length = nx) (hrx : Rd w w.heap.size qx (ints out)) :
    Calls Tryd.prog 22 #[schV m d p qo no ko qx nx kx] w fun e w' => e = .returned (.bool (Xp.opsOk (d * m) ops && out.all (Xp.outOk (d * m + no)))) ∧ Below w.heap.size w w' := by
  unfold schV
  have hwd : IntKind.i64.wrap (32 - d) = 32 - d := by rw [IntKind.wrap_i64] <;> omega
  obtain ⟨n, hn⟩ : ∃ n, d * (m : Int) = n := ⟨_, rfl⟩
  have hn1 : 0 ≤ n ∧ n ≤ 512 := by rcases hm with rfl | rfl <;> omega
  have hwn : IntKind.i64.wrap (d * (m : Int)) = n := by rw [hn, IntKind.wrap_i64] <;> omega
  obtain ⟨T, hT⟩ : ∃ T, n + (no : Int) = T := ⟨_, rfl⟩
  have hwT : IntKind.i64.wrap (n + (no : Int)) = T := by rw [hT, IntKind.wrap_i64] <;> omega
  rw [hn, hT]
  have hpn : p * (m : Int) = nx := hnx.symm
  have hnx2 : nx ≤ 512 := by rcases hm with rfl | rfl <;> omega
  have hwp : IntKind.i64.wrap (p * (m : Int)) = nx := by rw [hpn, IntKind.wrap_i64] <;> omega
  have h1 : decide (d < 1) = false := decide_eq_false (by omega)
  have h2 : decide (p < 0) = false := decide_eq_false (by omega)
  have h3 : decide (32 < d) = false := decide_eq_false (by omega)
  have h4 : decide (32 - d < p) = false := decide_eq_false (by omega)
  have h5 : decide (131072 < (no : Int)) = false := decide_eq_false (by omega)
  have hv1 : allB (m : Int) [0] = true := by
    have := allB_one hm (Nat.two_pow_pos m)
    rwa [show ((0 : Nat) : Int) = 0 from rfl] at this
  have HV := Lib.hid (fun (W : World) (hb : Below w.heap.size w W) => valid_any m 0 W (ht.next hb))
  rw [hv1] at HV
  have HIN := Lib.hid (fun (W : World) => inputs_any m d p (.slice qo no ko) (.slice qx nx kx) n hwn W)
  have HC := Lib.hid (fun (W : World) (hb : Below w.heap.size w W) (hg : Row W w.heap.size 30 (schC m d p qo no ko qx nx kx)) => xvalidc_any m d p qo no ko qx nx kx n T qx nx kx out w.heap.size W hlx (by omega) ((hrx.below hb).more hb.size) hg hwn hwT)
  have HLO := Lib.hid hlo
  have HRO := Lib.hid hro
  have HW : Hid (Below w.heap.size w (w.alloc (.cells (schC m d p qo no ko qx nx kx) 30))) := Lib.hid ((Below.refl _ w).alloc (Nat.le_refl _) _)
  have HR : Hid (Row (w.alloc (.cells (schC m d p qo no ko qx nx kx) 30)) w.heap.size 30 (schC m d p qo no ko qx nx kx)) := Lib.hid (Row.new w _ _)
  clear ht hv1 hn hT hpn hnx hlo hro hlx hrx hwT hwn
  go_enter Tryd.func22, Tryd.ntmps22
  go_wp2_with fail
  refine (HV.out _ HW.out).mono ?_
  rintro e w1 ⟨rfl, hb⟩
  have hs1 := hb.size
  simp only [size1] at hs1
  have HB1 := Lib.hid (below_call HW.out hb)
  have HR1 := Lib.hid (HR.out.below hb HR.out.lt)
  obtain ⟨c0, c1, c2, c3, c4⟩ := sbox HR1.out
  clear hb HW HR
  go_wp2_with fail
  clear c0 c1 c2 c3 c4
  go_loopw [53] (fun i wr => ∃ k : Nat, k ≤ no ∧ i = .int .i64 k ∧ Xp.opsOk n (ops.take k) = true ∧ Below w1.heap.size w1 wr) (fun i _ => no - (intOf i).toNat)
  case atStart => exact ⟨0, Nat.zero_le _, rfl, rfl, Below.refl _ _⟩
  case round =>
    obtain ⟨k, hk, rfl, hok, hbw⟩ := hrel
    have HOK := Lib.hid hok
    have HBW := Lib.hid hbw
    have hsw := hbw.size
    clear hok hbw
    by_cases hlt : k < no
    · have hdk : decide ((k : Int) < no) = true := decide_eq_true (by omega)
      obtain ⟨⟨x, y⟩, ho⟩ : ∃ o, ops[k]? = some o := ⟨_, List.getElem?_eq_getElem (by rw [HLO.out]; exact hlt)⟩
      obtain ⟨b, off, rfl, hb, hx, hy⟩ := ((HRO.out.below HB1.out).more HB1.out.size).below HBW.out |>.op ho
      have HOO := Lib.hid ho
      obtain ⟨r, hr⟩ : ∃ r, n + (k : Int) = r := ⟨_, rfl⟩
      have hwr : IntKind.i64.wrap (n + (k : Int)) = r := by rw [hr, IntKind.wrap_i64] <;> omega
      obtain ⟨v, hv⟩ : ∃ v, (if y < x then y else x) = v := ⟨_, rfl⟩
      obtain ⟨u, hu⟩ : ∃ u, (if x < y then y else x) = u := ⟨_, rfl⟩
      have hmin : ∀ (ts : Array TypeId) (t : TypeId) (W : World), (Builtin.min_ ts t #[.int .i64 x, .int .i64 y]).run Tryd.prog W = .ok (.int .i64 v) W := fun ts t W => by rw [min_two, hv]
      have hmax : ∀ (ts : Array TypeId) (t : TypeId) (W : World), (Builtin.max_ ts t #[.int .i64 x, .int .i64 y]).run Tryd.prog W = .ok (.int .i64 u) W := fun ts t W => by rw [max_two, hu]
      have HOP := Lib.hid (show Xp.opOk (n + (k : Int)) (x, y) = (!decide (v < 0) && !decide (r ≤ u) && !(x == y)) by
        rw [hr, Bool.eq_iff_iff, Xp.opOk_iff]
        simp only [Bool.and_eq_true, Bool.not_eq_true', decide_eq_false_iff_not, beq_eq_false_iff_ne]
        split at hv <;> split at hu <;> omega)
      obtain ⟨b1, e1⟩ : ∃ b, decide (v < 0) = b := ⟨_, rfl⟩
      obtain ⟨b2, e2⟩ : ∃ b, decide (r ≤ u) = b := ⟨_, rfl⟩
      obtain ⟨b3, e3⟩ : ∃ b, (x == y) = b := ⟨_, rfl⟩
      rw [e1, e2, e3] at HOP
      have hs : (b1 = true ∨ (b1 = false ∧ b2 = true) ∨ (b1 = false ∧ b2 = false ∧ b3 = true)) ∨ (b1 = false ∧ b2 = false ∧ b3 = false) := by
        cases b1 <;> cases b2 <;> cases b3 <;> simp
      clear ho hr hv hu
      obtain ⟨c0, c1, c2, c3, c4⟩ := sbox (HR1.out.below HBW.out (by omega))
      have hb0 : w.heap.size < wr.heap.size := by omega
      have HBX := Lib.hid (HBW.out.alloc HBW.out.size (.cells #[.int .i64 x, .int .i64 y] 66))
      have HRX := Lib.hid (Row.new wr 66 #[.int .i64 x, .int .i64 y])
      go_wp2_with fail
      refine (HIN.out _).mono ?_
      rintro e w2 ⟨rfl, hb2⟩
      have HB2 := Lib.hid (below_call HBX.out hb2)
      have HRX2 := HRX.out.below hb2 HRX.out.lt
      have x0 := HRX2.cell 0
      have x1 := HRX2.cell 1
      clear HRX2 hb2 c0 c1 c2 c3 c4
      simp only [List.getElem?_toArray, List.getElem?_cons_zero, List.getElem?_cons_succ] at x0 x1
      rcases hs with hs | ⟨rfl, rfl, rfl⟩
      · have HBAD := Lib.hid (show Xp.opsOk n ops = false from Xp.opsOk_bad HOO.out (by
          rw [HOP.out]
          rcases hs with rfl | ⟨rfl, rfl⟩ | ⟨rfl, rfl, rfl⟩ <;> simp))
        rcases hs with rfl | ⟨rfl, rfl⟩ | ⟨rfl, rfl, rfl⟩
        all_goals
          go_wp2
          go_ret
          exact ⟨ret_bool (by rw [HBAD.out, Bool.false_and]), HB1.out.trans (HB2.out.mono HB1.out.size)⟩
      · have HGO := Lib.hid (show Xp.opsOk n (ops.take (k + 1)) = true by
          rw [Xp.opsOk_take HOO.out, HOK.out, HOP.out]; rfl)
        go_wp2_with fail
        go_roundw
        case rel => exact ⟨k + 1, by omega, by go_num, HGO.out, HB2.out⟩
        case measure => simp [intOf]; omega
    · have hdk : decide ((k : Int) < no) = false := decide_eq_false (by omega)
      have hkn : k = no := by omega
      have HGO := Lib.hid (show Xp.opsOk n ops = true by
        have := HOK.out
        rwa [List.take_of_length_le (by rw [HLO.out]; omega)] at this)
      have HRW := Lib.hid (HR1.out.below HBW.out (by omega))
      obtain ⟨c0, c1, c2, c3, c4⟩ := sbox HRW.out
      have HBW2 := Lib.hid (HB1.out.trans (HBW.out.mono HB1.out.size))
      clear hkn
      go_wp2_with fail
      refine (HC.out _ HBW2.out HRW.out).mono ?_
      rintro e w2 ⟨rfl, hb2⟩
      have HB2 := Lib.hid (below_call HBW2.out hb2)
      clear hb2 c0 c1 c2 c3 c4
      go_wp2
      go_ret
      exact ⟨ret_bool (by rw [HGO.out, Bool.true_and]), HB2.out⟩
theorem xvalid_any (f d p : Int) (qo : Option Addr) (no ko : Nat) (qx : Option Addr) (nx kx : Nat) (ops : List (Int × Int)) (out : List Int) (w : World) (ht : Tab w) (hno : no ≤ 9223372036854775807)
    (hlo : ops.length = no) (hro : Rd w w.heap.size qo (opsC ops)) (hlx : out.length = nx) (hrx : Rd w w.heap.size qx (ints out)) :
    Calls Tryd.prog 22 #[schV f d p qo no ko qx nx kx] w fun e w' => e = .returned (.bool (Xp.okS f d p ops out)) ∧ Below w.heap.size w w' := by
  by_cases h : (decide (f = 8) || decide (f = 16)) = false ∨ d < 1 ∨ p < 0 ∨ 32 < d
  · have e : Xp.okS f d p ops out = false := by unfold Xp.okS; rw [headOk_no h]; rfl
    rw [e]
    exact xvalid_low f d p qo no ko qx nx kx w ht h
  · have hf : (decide (f = 8) || decide (f = 16)) = true := by
      cases e : (decide (f = 8) || decide (f = 16)) with
      | true => rfl
      | false => exact absurd (.inl e) h
    obtain ⟨m, hm, rfl⟩ : ∃ m : Nat, Fld.IsM m ∧ f = m := by
      rw [Bool.or_eq_true, decide_eq_true_eq, decide_eq_true_eq] at hf
      rcases hf with rfl | rfl
      · exact ⟨8, .inl rfl, rfl⟩
      · exact ⟨16, .inr rfl, rfl⟩
    have h1 : 1 ≤ d := by omega
    have h2 : d ≤ 32 := by omega
    have h3 : 0 ≤ p := by omega
    have ehead : Xp.headOk (m : Int) d p ops.length out.length = (decide (p ≤ 32 - d) && decide (no ≤ 131072) && decide ((nx : Int) = p * m)) := by
      unfold Xp.headOk
      rw [hf, decide_eq_true h1, decide_eq_true h2, decide_eq_true h3, hlo, hlx]; simp
    by_cases h4 : 32 - d < p ∨ 131072 < no ∨ (nx : Int) ≠ p * m
    · have e : Xp.okS (m : Int) d p ops out = false := by
        unfold Xp.okS
        rw [ehead]
        rcases h4 with h4 | h4 | h4
        · rw [decide_eq_false (show ¬ p ≤ 32 - d by omega)]; simp
        · rw [decide_eq_false (show ¬ no ≤ 131072 by omega)]; simp
        · rw [decide_eq_false h4]; simp
      rw [e]
      exact xvalid_high hm d p qo no ko qx nx kx w ht h1 h2 h3 hno h4
    · have h5 : p ≤ 32 - d := by omega
      have h6 : no ≤ 131072 := by omega
      have h7 : (nx : Int) = p * m := by
        by_cases e : (nx : Int) = p * m
        · exact e
        · exact absurd (.inr (.inr e)) h4
      have e : Xp.okS (m : Int) d p ops out = (Xp.opsOk (d * m) ops && out.all (Xp.outOk (d * m + no))) := by
        unfold Xp.okS
        rw [ehead, decide_eq_true h5, decide_eq_true h6, decide_eq_true h7, hlo]; simp
      rw [e]
      exact xvalid_go hm d p qo no ko qx nx kx ops out w ht h1 h2 h3 h5 h6 h7 hlo hro hlx hrx
end Go.Proofs.YtghinmlpkgcdiaaDoor
