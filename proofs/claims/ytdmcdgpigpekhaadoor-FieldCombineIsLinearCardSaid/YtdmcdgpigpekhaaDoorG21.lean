/- Five rows of one's own beside one another (one of numbers, four of strings). Printed by mkfive.py. -/
import Derived.Test.YtdmcdgpigpekhaaDoorG20
namespace Go.Proofs.YtdmcdgpigpekhaaDoor
set_option linter.unusedSimpArgs false
set_option linter.unusedVariables false
open Go.RowKit Go.Lib

structure Five (B : Nat) (w0 wr : World) (q0 : Option Addr) (n0 c0 : Nat) (l0 : List Value) (q1 : Option Addr) (n1 c1 : Nat) (l1 : List Value) (q2 : Option Addr) (n2 c2 : Nat) (l2 : List Value) (q3 : Option Addr) (n3 c3 : Nat) (l3 : List Value) (q4 : Option Addr) (n4 c4 : Nat) (l4 : List Value) : Prop where
  o0 : Own wr B 3 q0 n0 c0 l0
  o1 : Own wr B 9 q1 n1 c1 l1
  o2 : Own wr B 9 q2 n2 c2 l2
  o3 : Own wr B 9 q3 n3 c3 l3
  o4 : Own wr B 9 q4 n4 c4 l4
  p01 : Apart q0 q1
  p02 : Apart q0 q2
  p03 : Apart q0 q3
  p04 : Apart q0 q4
  p12 : Apart q1 q2
  p13 : Apart q1 q3
  p14 : Apart q1 q4
  p23 : Apart q2 q3
  p24 : Apart q2 q4
  p34 : Apart q3 q4
  below : Below B w0 wr
  size : B ≤ wr.heap.size
section
variable {B : Nat} {w0 wr w' : World} {q0 : Option Addr} {n0 c0 : Nat} {l0 : List Value} {q1 : Option Addr} {n1 c1 : Nat} {l1 : List Value} {q2 : Option Addr} {n2 c2 : Nat} {l2 : List Value} {q3 : Option Addr} {n3 c3 : Nat} {l3 : List Value} {q4 : Option Addr} {n4 c4 : Nat} {l4 : List Value}
theorem Five.start (w0 : World) (h : B ≤ w0.heap.size) : Five B w0 w0 none 0 0 [] none 0 0 [] none 0 0 [] none 0 0 [] none 0 0 [] :=
  ⟨Own.nil _ _ _, Own.nil _ _ _, Own.nil _ _ _, Own.nil _ _ _, Own.nil _ _ _, Apart.none_left _, Apart.none_left _, Apart.none_left _, Apart.none_left _, Apart.none_left _, Apart.none_left _, Apart.none_left _, Apart.none_left _, Apart.none_left _, Apart.none_left _, Below.refl _ _, h⟩
theorem Five.next (h : Five B w0 wr q0 n0 c0 l0 q1 n1 c1 l1 q2 n2 c2 l2 q3 n3 c3 l3 q4 n4 c4 l4) (hb : Below wr.heap.size wr w') : Five B w0 w' q0 n0 c0 l0 q1 n1 c1 l1 q2 n2 c2 l2 q3 n3 c3 l3 q4 n4 c4 l4 :=
  ⟨h.o0.below hb, h.o1.below hb, h.o2.below hb, h.o3.below hb, h.o4.below hb, h.p01, h.p02, h.p03, h.p04, h.p12, h.p13, h.p14, h.p23, h.p24, h.p34, h.below.trans (hb.mono h.size), Nat.le_trans h.size hb.size⟩
theorem Five.alloc (h : Five B w0 wr q0 n0 c0 l0 q1 n1 c1 l1 q2 n2 c2 l2 q3 n3 c3 l3 q4 n4 c4 l4) (x : Obj) : Five B w0 (wr.alloc x) q0 n0 c0 l0 q1 n1 c1 l1 q2 n2 c2 l2 q3 n3 c3 l3 q4 n4 c4 l4 := h.next ((Below.refl _ wr).alloc (Nat.le_refl _) _)
theorem Five.drew (h : Five B w0 wr q0 n0 c0 l0 q1 n1 c1 l1 q2 n2 c2 l2 q3 n3 c3 l3 q4 n4 c4 l4) : Five B w0 wr.drew q0 n0 c0 l0 q1 n1 c1 l1 q2 n2 c2 l2 q3 n3 c3 l3 q4 n4 c4 l4 := h.next (Below.refl _ wr).drew
theorem Five.app0 {q' : Option Addr} {n' c' : Nat} {l' : List Value} (h : Five B w0 wr q0 n0 c0 l0 q1 n1 c1 l1 q2 n2 c2 l2 q3 n3 c3 l3 q4 n4 c4 l4) (ho : Own w' B 3 q' n' c' l') (hg : wr.grownBy w' (Value.slice q0 n0 c0).ownBlock) (hn : q' = q0 ∨ ∃ g, q' = some ⟨g, 0, none⟩ ∧ wr.heap.size ≤ g) : Five B w0 w' q' n' c' l' q1 n1 c1 l1 q2 n2 c2 l2 q3 n3 c3 l3 q4 n4 c4 l4 := by
  exact ⟨ho, h.o1.apart hg h.p01.symm h.o0, h.o2.apart hg h.p02.symm h.o0, h.o3.apart hg h.p03.symm h.o0, h.o4.apart hg h.p04.symm h.o0, h.p01.grown h.o1 hn, h.p02.grown h.o2 hn, h.p03.grown h.o3 hn, h.p04.grown h.o4 hn, h.p12, h.p13, h.p14, h.p23, h.p24, h.p34, below_grown h.below hg h.o0 h.size, Nat.le_trans h.size hg.size⟩
theorem Five.app1 {q' : Option Addr} {n' c' : Nat} {l' : List Value} (h : Five B w0 wr q0 n0 c0 l0 q1 n1 c1 l1 q2 n2 c2 l2 q3 n3 c3 l3 q4 n4 c4 l4) (ho : Own w' B 9 q' n' c' l') (hg : wr.grownBy w' (Value.slice q1 n1 c1).ownBlock) (hn : q' = q1 ∨ ∃ g, q' = some ⟨g, 0, none⟩ ∧ wr.heap.size ≤ g) : Five B w0 w' q0 n0 c0 l0 q' n' c' l' q2 n2 c2 l2 q3 n3 c3 l3 q4 n4 c4 l4 := by
  exact ⟨h.o0.apart hg h.p01 h.o1, ho, h.o2.apart hg h.p12.symm h.o1, h.o3.apart hg h.p13.symm h.o1, h.o4.apart hg h.p14.symm h.o1, (h.p01.symm.grown h.o0 hn).symm, h.p02, h.p03, h.p04, h.p12.grown h.o2 hn, h.p13.grown h.o3 hn, h.p14.grown h.o4 hn, h.p23, h.p24, h.p34, below_grown h.below hg h.o1 h.size, Nat.le_trans h.size hg.size⟩
theorem Five.app2 {q' : Option Addr} {n' c' : Nat} {l' : List Value} (h : Five B w0 wr q0 n0 c0 l0 q1 n1 c1 l1 q2 n2 c2 l2 q3 n3 c3 l3 q4 n4 c4 l4) (ho : Own w' B 9 q' n' c' l') (hg : wr.grownBy w' (Value.slice q2 n2 c2).ownBlock) (hn : q' = q2 ∨ ∃ g, q' = some ⟨g, 0, none⟩ ∧ wr.heap.size ≤ g) : Five B w0 w' q0 n0 c0 l0 q1 n1 c1 l1 q' n' c' l' q3 n3 c3 l3 q4 n4 c4 l4 := by
  exact ⟨h.o0.apart hg h.p02 h.o2, h.o1.apart hg h.p12 h.o2, ho, h.o3.apart hg h.p23.symm h.o2, h.o4.apart hg h.p24.symm h.o2, h.p01, (h.p02.symm.grown h.o0 hn).symm, h.p03, h.p04, (h.p12.symm.grown h.o1 hn).symm, h.p13, h.p14, h.p23.grown h.o3 hn, h.p24.grown h.o4 hn, h.p34, below_grown h.below hg h.o2 h.size, Nat.le_trans h.size hg.size⟩
theorem Five.app3 {q' : Option Addr} {n' c' : Nat} {l' : List Value} (h : Five B w0 wr q0 n0 c0 l0 q1 n1 c1 l1 q2 n2 c2 l2 q3 n3 c3 l3 q4 n4 c4 l4) (ho : Own w' B 9 q' n' c' l') (hg : wr.grownBy w' (Value.slice q3 n3 c3).ownBlock) (hn : q' = q3 ∨ ∃ g, q' = some ⟨g, 0, none⟩ ∧ wr.heap.size ≤ g) : Five B w0 w' q0 n0 c0 l0 q1 n1 c1 l1 q2 n2 c2 l2 q' n' c' l' q4 n4 c4 l4 := by
  exact ⟨h.o0.apart hg h.p03 h.o3, h.o1.apart hg h.p13 h.o3, h.o2.apart hg h.p23 h.o3, ho, h.o4.apart hg h.p34.symm h.o3, h.p01, h.p02, (h.p03.symm.grown h.o0 hn).symm, h.p04, h.p12, (h.p13.symm.grown h.o1 hn).symm, h.p14, (h.p23.symm.grown h.o2 hn).symm, h.p24, h.p34.grown h.o4 hn, below_grown h.below hg h.o3 h.size, Nat.le_trans h.size hg.size⟩
theorem Five.app4 {q' : Option Addr} {n' c' : Nat} {l' : List Value} (h : Five B w0 wr q0 n0 c0 l0 q1 n1 c1 l1 q2 n2 c2 l2 q3 n3 c3 l3 q4 n4 c4 l4) (ho : Own w' B 9 q' n' c' l') (hg : wr.grownBy w' (Value.slice q4 n4 c4).ownBlock) (hn : q' = q4 ∨ ∃ g, q' = some ⟨g, 0, none⟩ ∧ wr.heap.size ≤ g) : Five B w0 w' q0 n0 c0 l0 q1 n1 c1 l1 q2 n2 c2 l2 q3 n3 c3 l3 q' n' c' l' := by
  exact ⟨h.o0.apart hg h.p04 h.o4, h.o1.apart hg h.p14 h.o4, h.o2.apart hg h.p24 h.o4, h.o3.apart hg h.p34 h.o4, ho, h.p01, h.p02, h.p03, (h.p04.symm.grown h.o0 hn).symm, h.p12, h.p13, (h.p14.symm.grown h.o1 hn).symm, h.p23, (h.p24.symm.grown h.o2 hn).symm, (h.p34.symm.grown h.o3 hn).symm, below_grown h.below hg h.o4 h.size, Nat.le_trans h.size hg.size⟩
end
theorem ints_snoc (f : Nat → Int) (k : Nat) : ints ((List.range (k + 1)).map f) = ints ((List.range k).map f) ++ [.int .i64 (f k)] := by
  unfold ints; rw [List.range_succ, List.map_append, List.map_append]; rfl
theorem strs_snoc (f : Nat → ByteArray) (k : Nat) : strs ((List.range (k + 1)).map f) = strs ((List.range k).map f) ++ [.string (f k)] := by
  unfold strs; rw [List.range_succ, List.map_append, List.map_append]; rfl
theorem elem_string : Elem Tryd.prog 9 (.string .empty) 16 := by unfold Elem; kernel_rfl
theorem elem_int' : Elem Tryd.prog 3 (.int .i64 0) 8 := by unfold Elem; kernel_rfl
end Go.Proofs.YtdmcdgpigpekhaaDoor
