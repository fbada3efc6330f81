/- Fields: the table of the fields, validity. -/
import Derived.Test.YtghinmlpkgcdiaaDoorOwn
import Derived.Test.YtghinmlpkgcdiaaDoorFld
import Derived.Laws.Rows
namespace Go.Proofs.YtghinmlpkgcdiaaDoor
set_option linter.unusedSimpArgs false
set_option linter.unusedVariables false
open Go.RowKit Go.Lib

def fldV : Array Value := #[.int .i64 8, .int .i64 285, .int .i64 16, .int .i64 69643]
/-- the package variable's row (block 0) -/
def Tab (w : World) : Prop := ∃ t fr, w.heap[0]? = some (.cells fldV t fr)
theorem Tab.below {w w' : World} {B : Nat} (h : Tab w) (hb : Below B w w') (hB : 0 < B) : Tab w' := by
  obtain ⟨t, fr, h⟩ := h
  exact ⟨t, fr, (hb.block 0 hB).trans h⟩
theorem Tab.lt {w : World} (h : Tab w) : 0 < w.heap.size := by
  obtain ⟨t, fr, h⟩ := h
  exact (Array.getElem?_eq_some_iff.1 h).1
theorem Tab.next {w w' : World} (h : Tab w) (hb : Below w.heap.size w w') : Tab w' := h.below hb h.lt
theorem info_fld : (Tryd.prog.info? 115).map (·.size) = some fldV.size := by kernel_rfl
theorem index_fld0 (w : World) : (Instr.index 115 (.agg fldV) (.int .i64 0)).run Tryd.prog w = .ok (.agg #[.int .i64 8, .int .i64 285]) w := by kernel_rfl
theorem index_fld1 (w : World) : (Instr.index 115 (.agg fldV) (.int .i64 1)).run Tryd.prog w = .ok (.agg #[.int .i64 16, .int .i64 69643]) w := by kernel_rfl

/-- the modulus, or 0 -/
def modv (m : Int) : Int := if m = 8 then 285 else if m = 16 then 69643 else 0

set_option maxRecDepth 100000 in
theorem modulus_any (m : Int) (w : World) (ht : Tab w) :
    Calls Tryd.prog 85 #[.int .i64 m] w fun e w' => e = .returned (.int .i64 (modv m)) ∧ Below w.heap.size w w' := by
  obtain ⟨t0, fr0, hT⟩ := ht
  have HT := Lib.hid hT
  have hz := (Array.getElem?_eq_some_iff.1 hT).1
  clear hT
  have i0 := index_fld0
  have i1 := index_fld1
  go_enter Tryd.func85, Tryd.ntmps85
  go_wp2_with (refine wpList_load_row rfl _ _ rfl 0 rfl _ fldV _ _ HT.out Tryd.underlying115 rfl info_fld ?_)
  go_loopw [6] (fun i wr => (i = .int .i64 0 ∨ (i = .int .i64 1 ∧ m ≠ 8) ∨ (i = .int .i64 2 ∧ m ≠ 8 ∧ m ≠ 16)) ∧ Below w.heap.size w wr) (fun i _ => 2 - (intOf i).toNat)
  case atStart => exact ⟨.inl rfl, Below.refl _ _⟩
  case round =>
    obtain ⟨hi, hb⟩ := hrel
    have HB := Lib.hid hb
    have hsz := hb.size
    clear hb
    rcases hi with rfl | ⟨rfl, h8⟩ | ⟨rfl, h8, h16⟩
    · by_cases e8 : m = 8
      · have HM := Lib.hid (show modv m = 285 by rw [modv, if_pos e8])
        have hb8 : ((8 : Int) == m) = true := by rw [e8]; rfl
        clear e8
        go_wp2
        go_ret
        exact ⟨ret_int HM.out.symm, HB.out.alloc hsz _⟩
      · have hb8 : ((8 : Int) == m) = false := by rw [beq_eq_false_iff_ne]; omega
        have hne := Lib.hid e8
        clear e8
        go_wp2
        go_roundw
        case rel =>
          exact ⟨.inr (.inl ⟨rfl, hne.out⟩), HB.out.alloc hsz _⟩
        case measure => simp [intOf]
    · have hne8 := Lib.hid h8
      by_cases e8 : m = 16
      · have HM := Lib.hid (show modv m = 69643 by rw [modv, if_neg h8, if_pos e8])
        have hb8 : ((16 : Int) == m) = true := by rw [e8]; rfl
        clear e8 h8
        go_wp2
        go_ret
        exact ⟨ret_int HM.out.symm, HB.out.alloc hsz _⟩
      · have hb8 : ((16 : Int) == m) = false := by rw [beq_eq_false_iff_ne]; omega
        have hne := Lib.hid e8
        clear e8 h8
        go_wp2
        go_roundw
        case rel =>
          exact ⟨.inr (.inr ⟨rfl, hne8.out, hne.out⟩), HB.out.alloc hsz _⟩
        case measure => simp [intOf]
    · have HM := Lib.hid (show modv m = 0 by rw [modv, if_neg h8, if_neg h16])
      clear h8 h16
      go_wp2
      go_ret
      exact ⟨ret_int HM.out.symm, HB.out⟩
end Go.Proofs.YtghinmlpkgcdiaaDoor
