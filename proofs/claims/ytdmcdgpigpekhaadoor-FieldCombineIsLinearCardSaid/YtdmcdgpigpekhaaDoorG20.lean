/- Fields: the rows of the law of linearity. -/
import Derived.Test.YtdmcdgpigpekhaaDoorG17
import Derived.Test.YtdmcdgpigpekhaaDoorFldL
import Derived.Test.YtdmcdgpigpekhaaDoorOwnN
namespace Go.Proofs.YtdmcdgpigpekhaaDoor
set_option linter.unusedSimpArgs false
set_option linter.unusedVariables false
open Go.RowKit Go.Lib

/-- n bytes that begin like s -/
def rowL (s : ByteArray) (n : Nat) : List UInt8 := (List.range n).map fun i => s.data.toList[i]?.getD 0
theorem rowL_length (s : ByteArray) (n : Nat) : (rowL s n).length = n := by simp [rowL]
theorem rowL_take (s : ByteArray) {n k : Nat} (h : k < n) : (rowL s n).take (k + 1) = (rowL s n).take k ++ [s.data.toList[k]?.getD 0] := by
  rw [List.take_add_one]
  simp [rowL, h]
set_option maxRecDepth 100000 in
set_option maxHeartbeats 1600000 in
theorem row_any (s : ByteArray) (n : Nat) (w : World) (hs : s.size ≤ maxLen) (hn : n ≤ 100000000) :
    Calls Tryd.prog 16 #[.string s, .int .i64 (n : Int)] w fun e w' => e = .returned (.string (strB (rowL s n))) ∧ Below w.heap.size w w' := by
  unfold maxLen at hs
  go_enter Tryd.func16, Tryd.ntmps16
  go_wp2_with fail
  go_loopw [5, 6] (fun o i wr => ∃ (k c : Nat) (q : Option Addr), k ≤ n ∧ i = .int .i64 k ∧ o = .slice q k c ∧ Own wr w.heap.size 5 q k c (((rowL s n).take k).map v8) ∧ Below w.heap.size w wr) (fun _ i _ => n - (intOf i).toNat)
  case atStart => exact ⟨0, 0, none, by omega, rfl, rfl, Own.nil _ _ _, Below.refl _ _⟩
  case round =>
    obtain ⟨k, c, q, hk, rfl, rfl, ho, hbel⟩ := hrel
    have HO := Lib.hid ho
    have HB := Lib.hid hbel
    clear ho hbel
    by_cases hlt : k < n
    · by_cases hks : k < s.size
      · have HT := Lib.hid (show (rowL s n).take (k + 1) = (rowL s n).take k ++ [s[k]] by
          rw [rowL_take s hlt, data_get s k hks])
        go_wp2_with (refine wpList_app _ rfl (.tmp 20) (.tmp 22) 50 rfl w.heap.size 5 (.int .u8 0) 1 Tryd.underlying50 elem_u8 rfl q k c _ rfl (HO.out.alloc _) _ (some ⟨wr.heap.size, 0, none⟩) 1 1 [.int .u8 (s[k].toNat : Int)] rfl (Rd.one wr _ _) rfl (by intro u hu; simp only [List.mem_singleton] at hu; subst hu; rfl) (by unfold maxLen; omega) (by omega) (by have := HB.out.size; simp; omega) ?_; intro a2 c2 w2 ho hg; have HO2 := Lib.hid ho; have HB2 := Lib.hid (below_grown (HB.out.alloc HB.out.size _) hg (HO.out.alloc _) (by have := HB.out.size; simp; omega)); clear ho hg)
        go_roundw
        case rel => exact ⟨k + 1, c2, a2, by omega, by go_num, rfl, by rw [HT.out, List.map_append]; exact HO2.out, HB2.out⟩
        case measure => simp [intOf]; omega
      · have HT := Lib.hid (show (rowL s n).take (k + 1) = (rowL s n).take k ++ [0] by
          rw [rowL_take s hlt, List.getElem?_eq_none (by rw [len_data]; omega)]; rfl)
        go_wp2_with (refine wpList_app _ rfl (.tmp 20) (.tmp 22) 50 rfl w.heap.size 5 (.int .u8 0) 1 Tryd.underlying50 elem_u8 rfl q k c _ rfl (HO.out.alloc _) _ (some ⟨wr.heap.size, 0, none⟩) 1 1 [.int .u8 0] rfl (Rd.one wr _ _) rfl (by intro u hu; simp only [List.mem_singleton] at hu; subst hu; rfl) (by unfold maxLen; omega) (by omega) (by have := HB.out.size; simp; omega) ?_; intro a2 c2 w2 ho hg; have HO2 := Lib.hid ho; have HB2 := Lib.hid (below_grown (HB.out.alloc HB.out.size _) hg (HO.out.alloc _) (by have := HB.out.size; simp; omega)); clear ho hg)
        go_roundw
        case rel => exact ⟨k + 1, c2, a2, by omega, by go_num, rfl, by rw [HT.out, List.map_append]; exact HO2.out, HB2.out⟩
        case measure => simp [intOf]; omega
    · have h1 : k = n := by omega
      subst h1
      have hcv2 : (convert 50 9 (.slice q k c)).run Tryd.prog wr = .ok (.string (strB (rowL s k))) wr := by
        have := conv_all wr q k c _ HO.out.rd (by rw [List.length_take, rowL_length]; omega)
        rwa [List.take_of_length_le (by rw [rowL_length]; omega)] at this
      have hd : decide (k < k) = false := by simp
      go_wp2_with fail
      go_ret
      exact ⟨rfl, HB.out⟩
end Go.Proofs.YtdmcdgpigpekhaaDoor
