/- Fields: the exclusive or of two strings, the program's and the reference's. -/
import Derived.Test.YtghinmlpkgcdiaaDoorG4
import Derived.Test.YtghinmlpkgcdiaaDoorFldS
import Derived.Test.YtghinmlpkgcdiaaDoorStr
namespace Go.Proofs.YtghinmlpkgcdiaaDoor
set_option linter.unusedSimpArgs false
set_option linter.unusedVariables false
open Go.RowKit Go.Lib

/-- a string and an error -/
def pairS (x : List UInt8) (e : Int) : Value := .tuple #[.string (strB x), .int .i64 e]
def xorS (a b : ByteArray) : List UInt8 := if a.size = b.size then Fld.xorL a.data.toList b.data.toList else []
def xorE (a b : ByteArray) : Int := if a.size = b.size then 0 else 1
set_option maxRecDepth 100000 in
theorem fxor_any (a b : ByteArray) (w : World) (ha : a.size ≤ 100000000) (hb : b.size ≤ 100000000) :
    Calls Tryd.prog 26 #[.string a, .string b] w fun e w' => e = .returned (pairS (xorS a b) (xorE a b)) ∧ Below w.heap.size w w' := by
  by_cases h : a.size = b.size
  · obtain ⟨cB, wB, hcv, hbB, hB⟩ := conv_bytes w a
    have HB := Lib.hid hbB
    have HR := Lib.hid hB
    have HV := Lib.hid (show pairS (xorS a b) (xorE a b) = .tuple #[.string (strB (Fld.xorL a.data.toList b.data.toList)), .int .i64 0] by rw [xorS, xorE, if_pos h, if_pos h]; rfl)
    rw [HV.out]
    have hne : ((a.size : Int) != (b.size : Int)) = false := by rw [h]; simp
    have hne2 : (a.size != b.size) = false := by rw [h]; simp
    obtain ⟨n, hn⟩ : ∃ n, a.size = n := ⟨_, rfl⟩
    have hbn : b.size = n := by omega
    have HLA := Lib.hid (show a.data.toList.length = n by rw [len_data, hn])
    have HLB := Lib.hid (show b.data.toList.length = n by rw [len_data, hbn])
    have HN := Lib.hid hn
    have HBN := Lib.hid hbn
    clear hbB hB h hne hne2
    go_enter Tryd.func26, Tryd.ntmps26
    go_wp2_with fail
    go_loopw [17] (fun i wr => ∃ k : Nat, k ≤ n ∧ i = .int .i64 k ∧ Byt wr w.heap.size (Fld.mixL (fun p => decide (p < k)) a.data.toList (Fld.xorL a.data.toList b.data.toList)) ∧ Below w.heap.size w wr) (fun i _ => n - (intOf i).toNat)
    case atStart => exact ⟨0, by omega, rfl, by rw [Fld.mixL_none (fun p _ => by simp)]; exact HR.out, HB.out⟩
    case round =>
      obtain ⟨k, hk, rfl, hby, hbel⟩ := hrel
      have HBy := Lib.hid hby
      have HBl := Lib.hid hbel
      clear hby hbel
      have hn9 : n ≤ 100000000 := by omega
      by_cases hlt : k < n
      · obtain ⟨hc, hf⟩ := HBy.out.cell (k := k) (by rw [Fld.mixL_length, HLA.out]; exact hlt)
        obtain ⟨u, hu⟩ : ∃ u, (Fld.mixL (fun p => decide (p < k)) a.data.toList (Fld.xorL a.data.toList b.data.toList))[k]?.getD 0 = u := ⟨_, rfl⟩
        rw [hu] at hc
        have hkb : k < b.size := by omega
        have HU := Lib.hid hu
        clear hu hn hbn
        go_wp2_with fail
        go_region
        obtain ⟨W1, hW⟩ : ∃ W, W = (wr.setCell ⟨w.heap.size, k, none⟩ (Value.int IntKind.u8 (bits BinOp.xor IntKind.u8 (u.toNat : Int) (b[k].toNat : Int)))).drew := ⟨_, rfl⟩
        rw [← hW]
        have HB1 := Lib.hid (show Byt W1 w.heap.size (Fld.mixL (fun p => decide (p < k + 1)) a.data.toList (Fld.xorL a.data.toList b.data.toList)) by
          have hka : k < a.data.toList.length := by rw [HLA.out]; exact hlt
          have e1 : u = a.data.toList[k]?.getD 0 := by
            have := HU.out
            rw [Fld.mixL_get _ _ _ hka] at this
            simpa using this.symm
          have e2 : u ^^^ b[k] = (Fld.xorL a.data.toList b.data.toList)[k]?.getD 0 := by
            rw [Fld.xorL_get (by rw [HLA.out, HLB.out]) hka, e1, ← data_get b k hkb]; rfl
          have h3 := (HBy.out.put k (u ^^^ b[k])).drew
          rw [Fld.mixL_set _ _ _ hka _ e2, Fld.mixL_cong (g := fun p => decide (p < k + 1)) (fun p _ => by rw [Bool.eq_iff_iff]; simp; omega)] at h3
          rw [hW, b8_xor]
          exact h3)
        have HBl1 := Lib.hid (show Below w.heap.size w W1 by rw [hW]; exact (HBl.out.setCell (Nat.le_refl _) _).drew)
        clear hW hc hf
        go_wp2_with fail
        go_roundw
        case rel => exact ⟨k + 1, by omega, by go_num, HB1.out, HBl1.out⟩
        case measure => simp [intOf]; omega
      · have h1 : k = n := by omega
        subst h1
        have HF := Lib.hid (show Fld.mixL (fun p => decide (p < k)) a.data.toList (Fld.xorL a.data.toList b.data.toList) = Fld.xorL a.data.toList b.data.toList from
          Fld.mixL_all (by rw [Fld.xorL_length (by rw [HLA.out, HLB.out])]) (fun p hp => by rw [HLA.out] at hp; simpa using hp))
        have hfl : (Fld.mixL (fun p => decide (p < k)) a.data.toList (Fld.xorL a.data.toList b.data.toList)).length = k := by rw [Fld.mixL_length, HLA.out]
        have hcv2 : (convert 91 9 (.slice (some ⟨w.heap.size, 0, none⟩) k cB)).run Tryd.prog wr = .ok (.string (strB (Fld.xorL a.data.toList b.data.toList))) wr := by
          have := conv_all wr _ k cB _ HBy.out.rd hfl
          rwa [HF.out] at this
        clear hfl hn hbn
        go_wp2_with fail
        refine bodyPost_ret (v := .tuple #[.string (strB (Fld.xorL a.data.toList b.data.toList)), .int .i64 0]) ?_ rfl ⟨rfl, HBl.out⟩
        rw [results_tmp2 rfl]; rfl
  · have HV := Lib.hid (show pairS (xorS a b) (xorE a b) = .tuple #[.string ⟨#[]⟩, .int .i64 1] by rw [xorS, xorE, if_neg h, if_neg h]; rfl)
    rw [HV.out]
    go_enter Tryd.func26, Tryd.ntmps26
    go_wp2_with fail
    refine bodyPost_ret (v := .tuple #[.string ⟨#[]⟩, .int .i64 1]) ?_ rfl ⟨rfl, Below.refl _ _⟩
    rw [results_tmp2 rfl]; rfl
set_option maxRecDepth 100000 in
theorem rxor_any (a b : ByteArray) (w : World) (ha : a.size ≤ 100000000) (hb : b.size ≤ 100000000) :
    Calls Tryd.prog 57 #[.string a, .string b] w fun e w' => e = .returned (pairS (xorS a b) (xorE a b)) ∧ Below w.heap.size w w' := by
  by_cases h : a.size = b.size
  · have HV := Lib.hid (show pairS (xorS a b) (xorE a b) = .tuple #[.string (strB (Fld.xorL a.data.toList b.data.toList)), .int .i64 0] by rw [xorS, xorE, if_pos h, if_pos h]; rfl)
    rw [HV.out]
    obtain ⟨n, hn⟩ : ∃ n, a.size = n := ⟨_, rfl⟩
    have hbn : b.size = n := by omega
    have HLA := Lib.hid (show a.data.toList.length = n by rw [len_data, hn])
    have HLB := Lib.hid (show b.data.toList.length = n by rw [len_data, hbn])
    have HXL := Lib.hid (show (Fld.xorL a.data.toList b.data.toList).length = n by rw [Fld.xorL_length (by rw [HLA.out, HLB.out]), HLA.out])
    have HN := Lib.hid hn
    have HBN := Lib.hid hbn
    clear h
    go_enter Tryd.func57, Tryd.ntmps57
    go_wp2_with fail
    go_loopw [6, 7] (fun o i wr => ∃ (k c : Nat) (q : Option Addr), k ≤ n ∧ i = .int .i64 k ∧ o = .slice q k c ∧ Own wr w.heap.size 5 q k c (((Fld.xorL a.data.toList b.data.toList).take k).map v8) ∧ Below w.heap.size w wr) (fun _ i _ => n - (intOf i).toNat)
    case atStart => exact ⟨0, 0, none, by omega, rfl, rfl, Own.nil _ _ _, Below.refl _ _⟩
    case round =>
      obtain ⟨k, c, q, hk, rfl, rfl, ho, hbel⟩ := hrel
      have HO := Lib.hid ho
      have HB := Lib.hid hbel
      clear ho hbel
      have hn9 : n ≤ 100000000 := by omega
      by_cases hlt : k < n
      · have hka : k < a.size := by omega
        have hkb : k < b.size := by omega
        have HT := Lib.hid (show (Fld.xorL a.data.toList b.data.toList).take (k + 1) = (Fld.xorL a.data.toList b.data.toList).take k ++ [a[k] ^^^ b[k]] by
          rw [List.take_add_one, Fld.xorL_get (by rw [HLA.out, HLB.out]) (by rw [HLA.out]; exact hlt), data_get a k hka, data_get b k hkb]; rfl)
        clear hn hbn
        go_wp2_with fail
        go_region_law (refine step_app rfl (.tmp 19) (.tmp 27) 91 rfl w.heap.size 5 (.int .u8 0) 1 Tryd.underlying91 elem_u8 rfl q k c _ rfl ((HO.out.alloc _).drewN 1) _ (some ⟨wr.heap.size, 0, none⟩) 1 1 [.int .u8 (bits .xor .u8 (a[k].toNat : Int) (b[k].toNat : Int))] rfl ((Rd.one wr _ _).drewN 1) rfl (by intro u hu; simp only [List.mem_singleton] at hu; subst hu; rfl) (by unfold maxLen; omega) (by omega) (by have := HB.out.size; simp; omega) ?_; intro a2 c2 w2 ho hg; rw [b8_xor] at ho; have HO2 := Lib.hid ho; have HB2 := Lib.hid (below_grown ((HB.out.alloc HB.out.size _).drew) hg ((HO.out.alloc _).drewN 1) (by have := HB.out.size; simp; omega)); clear ho hg)
        all_goals go_wp2_with fail
        all_goals
          go_roundw
          case rel => exact ⟨k + 1, c2, a2, by omega, by go_num, rfl, by rw [HT.out, List.map_append]; exact HO2.out, HB2.out⟩
          case measure => simp [intOf]; omega
      · have h1 : k = n := by omega
        subst h1
        have hcv2 : (convert 91 9 (.slice q k c)).run Tryd.prog wr = .ok (.string (strB (Fld.xorL a.data.toList b.data.toList))) wr := by
          have := conv_all wr q k c _ HO.out.rd (by rw [List.length_take, HXL.out]; omega)
          rwa [List.take_of_length_le (by rw [HXL.out]; omega)] at this
        clear hbn
        have hd : decide (k < k) = false := by simp
        go_wp2_with fail
        refine bodyPost_ret (v := .tuple #[.string (strB (Fld.xorL a.data.toList b.data.toList)), .int .i64 0]) ?_ rfl ⟨rfl, HB.out⟩
        rw [results_tmp2 rfl]; rfl
  · have HV := Lib.hid (show pairS (xorS a b) (xorE a b) = .tuple #[.string ⟨#[]⟩, .int .i64 1] by rw [xorS, xorE, if_neg h, if_neg h]; rfl)
    rw [HV.out]
    go_enter Tryd.func57, Tryd.ntmps57
    go_wp2_with fail
    refine bodyPost_ret (v := .tuple #[.string ⟨#[]⟩, .int .i64 1]) ?_ rfl ⟨rfl, Below.refl _ _⟩
    rw [results_tmp2 rfl]; rfl
end Go.Proofs.YtghinmlpkgcdiaaDoor
