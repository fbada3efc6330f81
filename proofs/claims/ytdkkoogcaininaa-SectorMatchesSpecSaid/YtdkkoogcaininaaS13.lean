/- Sector: padded. -/
import Derived.Test.YtdkkoogcaininaaS10
namespace Go.Proofs.Ytdkkoogcaininaa
set_option linter.unusedSimpArgs false
set_option linter.unusedVariables false
open Go.RowKit Go.Lib

def padL (l : List UInt8) : List UInt8 := l ++ List.replicate (40 - l.length) 0
set_option maxRecDepth 100000 in
theorem padded_any (p : ByteArray) (w : World) (h2 : p.size ≤ 40) :
    Calls Try.prog 20 #[.string p] w fun x w' => x = .returned (.string (strB (padL p.data.toList))) ∧ Below w.heap.size w w' := by
  have H1 := Lib.hid (show Try.prog.underlying 9 = some .string from Try.underlying9)
  have hpl : (p.size : Int) ≤ 40 := by omega
  go_enter Try.func20, Try.ntmps20
  go_wp2_with (refine wpList_apps rfl _ _ 40 9 rfl w.heap.size 5 Try.underlying40 H1.out elem_u8 none 0 0 [] rfl (Own.nil _ _ _) p rfl (by omega) (Nat.le_refl _) ?_; intro a1 c1 w1 ho hg; have HO := Lib.hid (show Own w1 w.heap.size 5 a1 (0 + p.size) c1 (p.data.toList.map v8) from ho); have HB := Lib.hid (below_grown (Below.refl w.heap.size w) hg (Own.nil w w.heap.size 5) (Nat.le_refl _)); clear ho hg)
  have HOz := Lib.hid (show Own w1 w.heap.size 5 a1 p.size c1 (p.data.toList.map v8) by have := HO.out; rwa [Nat.zero_add] at this)
  clear HO
  go_loopw [3] (fun sv wr => ∃ (k c' : Nat) (a' : Option Addr), p.size + k ≤ 40 ∧ sv = .slice a' (p.size + k) c' ∧ Own wr w.heap.size 5 a' (p.size + k) c' ((p.data.toList ++ List.replicate k 0).map v8) ∧ Below w.heap.size w wr) (fun sv _ => 40 - lenV sv)
  case atStart => exact ⟨0, c1, a1, by omega, rfl, by simpa using HOz.out, HB.out⟩
  case round =>
    obtain ⟨k, c', a', hk, rfl, ho, hb⟩ := hrel
    have HX := Lib.hid ho
    have HY := Lib.hid hb
    clear ho hb
    by_cases hlt : p.size + k < 40
    · have hd : decide (((p.size + k : Nat) : Int) < 40) = true := by simp; omega
      go_wp2_with (refine wpList_app _ rfl (.tmp 10) (.tmp 11) 40 rfl w.heap.size 5 (.int .u8 0) 1 Try.underlying40 elem_u8 rfl a' (p.size + k) c' _ rfl (HX.out.alloc _) _ (some ⟨wr.heap.size, 0, none⟩) 1 1 [.int .u8 0] rfl (Rd.one wr _ _) rfl (by intro u hu; simp only [List.mem_singleton] at hu; subst hu; rfl) (by unfold maxLen; omega) (by omega) (by have := HY.out.size; simp; omega) ?_; intro a2 c2 wn ho hg; have HO2 := Lib.hid ho; have HB2 := Lib.hid (below_grown2 (HY.out.alloc HY.out.size _) hg (HX.out.alloc _) (by have := HY.out.size; simp; omega) (Nat.le_refl _)); clear ho hg)
      go_roundw
      case rel => exact ⟨k + 1, c2, a2, by omega, rfl, by have := HO2.out; rw [rep_app]; exact this, HB2.out⟩
      case measure => simp only [lenV]; omega
    · have hd : decide (((p.size + k : Nat) : Int) < 40) = false := by simp; omega
      have h40 : p.size + k = 40 := by omega
      have hk2 : k = 40 - p.size := by omega
      rw [h40] at HX hd ⊢
      have hl : (p.data.toList ++ List.replicate k 0).length = 40 := by rw [List.length_append, List.length_replicate, len_data]; exact h40
      have hcv := conv_str wr 40 9 5 a' 40 c' _ Try.underlying40 Try.underlying5 H1.out HX.out.rd hl (by omega)
      have HPL := Lib.hid (show padL p.data.toList = p.data.toList ++ List.replicate k 0 by rw [padL, len_data, hk2])
      clear hl hk2 h40 hlt hk
      go_wp2_with fail
      go_ret
      exact ⟨by rw [HPL.out]; rfl, HY.out⟩
end Go.Proofs.Ytdkkoogcaininaa
