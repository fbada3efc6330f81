/- FieldCombineIsLinear: the law returns true, and its arguments read as they did. Printed by mklin.py. -/
import Derived.Test.YtdmcdgpigpekhaaDoorG22
import Derived.Test.YtdmcdgpigpekhaaDoorOpenF
import Derived.Test.YtdmcdgpigpekhaaDoorFldT
import Derived.Deep.RegionHeld3
namespace Go.Proofs.YtdmcdgpigpekhaaDoor
set_option linter.unusedSimpArgs false
set_option linter.unusedVariables false
open Go.ChangeShapes Go.WideShapes Go.ChangeAt Go.RowKit Go.Lib

/-- what is kept while a unit is read -/
abbrev KL (g i : Nat) (v : Value) (y : Int) (s : ByteArray) (b x : Nat) (wr wn : World) : Prop :=
  wn.cell? ⟨g, i, none⟩ = some v ∧ wn.cell? ⟨g, 5, none⟩ = some (.int .i64 y) ∧ wn.cell? ⟨b, x, none⟩ = some (.string s) ∧ Below wr.heap.size wr wn
theorem KL.drew {g i : Nat} {v : Value} {y : Int} {s : ByteArray} {b x : Nat} {wr wn : World} (h : KL g i v y s b x wr wn) : KL g i v y s b x wr wn.drew := ⟨h.1, h.2.1, h.2.2.1, h.2.2.2.drew⟩
theorem KL.next {g i : Nat} {v : Value} {y : Int} {s : ByteArray} {b x : Nat} {wr wn w' : World} (h : KL g i v y s b x wr wn) (hb : Below wn.heap.size wn w') : KL g i v y s b x wr w' := by
  obtain ⟨h0, h1, h2, h3⟩ := h
  exact ⟨(hb.cell (block_lt_of_cell h0)).trans h0, (hb.cell (block_lt_of_cell h1)).trans h1, (hb.cell (block_lt_of_cell h2)).trans h2, below_call h3 hb⟩

set_option maxRecDepth 100000 in
set_option maxHeartbeats 6400000 in
theorem lin_8 (C : Int) (a1 : Option Addr) (n1 c1 : Nat) (zs : List Int) (a2 : Option Addr) (n2 c2 : Nat) (us : List ByteArray) (a3 : Option Addr) (n3 c3 : Nat) (vs : List ByteArray) (b : Nat) (nn : Nat) (w : World)
    (hC : 0 ≤ C ∧ C ≤ 65535) (hl1 : zs.length = n1) (hn1 : n1 ≤ 9223372036854775807) (hr1 : Rd w w.heap.size a1 (zs.map (Value.int .u16))) (hz : ∀ z ∈ zs, 0 ≤ z ∧ z ≤ 65535) (hl2 : us.length = n2) (hn2 : n2 ≤ 9223372036854775807) (hr2 : Rd w w.heap.size a2 (strs us)) (hs2 : ∀ u ∈ us, u.size ≤ maxLen)
    (hl3 : vs.length = n3) (hn3 : n3 ≤ 9223372036854775807) (hr3 : Rd w w.heap.size a3 (strs vs)) (hs3 : ∀ u ∈ vs, u.size ≤ maxLen) (ht : Tab w) (hnn : nn = min n1 (min n2 n3)) (h1 : 1 ≤ nn) (h8 : nn ≤ 8) (hb : b ≤ 32) :
    Calls Tryd.prog 4 #[.agg #[.bool false, .int .u16 C, .slice a1 n1 c1, .slice a2 n2 c2, .slice a3 n3 c3, .int .i64 (b : Int)]] w fun e w' => e = .returned (.bool true) ∧ Below w.heap.size w w' := by
  obtain ⟨hC1, hC2⟩ := hC
  have HT := Lib.hid (ht.next ((Below.refl _ w).alloc (Nat.le_refl _) (.cells #[.bool false, .int .u16 C, .slice a1 n1 c1, .slice a2 n2 c2, .slice a3 n3 c3, .int .i64 (b : Int)] 36)))
  have HT0 := Lib.hid ht
  have HR1 := Lib.hid hr1
  have HR2 := Lib.hid hr2
  have HR3 := Lib.hid hr3
  have HL1 := Lib.hid hl1
  have HL2 := Lib.hid hl2
  have HL3 := Lib.hid hl3
  have HZ := Lib.hid hz
  have HS2 := Lib.hid hs2
  have HS3 := Lib.hid hs3
  have HNN := Lib.hid hnn
  have hmin : ∀ (ts : Array TypeId) (t : TypeId) (W : World), (Builtin.min_ ts t #[.int .i64 (n1 : Int), .int .i64 (n2 : Int), .int .i64 (n3 : Int)]).run Tryd.prog W = .ok (.int .i64 (nn : Int)) W := fun ts t W => by
    have : (if (n3 : Int) < (if (n2 : Int) < (n1 : Int) then (n2 : Int) else (n1 : Int)) then (n3 : Int) else (if (n2 : Int) < (n1 : Int) then (n2 : Int) else (n1 : Int))) = (nn : Int) := by
      split <;> split at * <;> omega
    rw [← this]
    simp [Builtin.min_, Builtin.min2]
  obtain ⟨cc, hcc⟩ : ∃ cc : Nat, C % 256 = (cc : Int) := ⟨(C % 256).toNat, by omega⟩
  have HCC := Lib.hid (show cc < 2 ^ 8 by rw [show 2 ^ 8 = 256 by rfl]; omega)
  clear ht hr1 hr2 hr3 hl1 hl2 hl3 hz hs2 hs3 hnn
  go_enter Tryd.func4, Tryd.ntmps4
  go_wp2_with fail
  refine (sanity_any _ HT.out).mono ?_
  rintro e w1 ⟨rfl, hb1⟩
  have HB := Lib.hid (show Below (w.heap.size + 1) (w.alloc (.cells #[.bool false, .int .u16 C, .slice a1 n1 c1, .slice a2 n2 c2, .slice a3 n3 c3, .int .i64 (b : Int)] 36)) w1 from hb1.mono (by simp))
  have hrow : Row w1 w.heap.size 36 #[.bool false, .int .u16 C, .slice a1 n1 c1, .slice a2 n2 c2, .slice a3 n3 c3, .int .i64 (b : Int)] := (Row.new w _ _).below hb1 (by simp)
  have HRW := Lib.hid hrow
  have HB1 := Lib.hid (show Below w.heap.size w w1 from below_call ((Below.refl _ w).alloc (Nat.le_refl _) _) hb1)
  have HBS := Lib.hid (show w.heap.size + 1 ≤ w1.heap.size by have := hb1.size; simpa using this)
  have q0 := hrow.cell 0
  have q1 := hrow.cell 1
  have q2 := hrow.cell 2
  have q3 := hrow.cell 3
  have q4 := hrow.cell 4
  have q5 := hrow.cell 5
  clear hb1 hrow
  go_wp2_with fail
  have HBX : Hid (∀ (i : Nat) (v : Value), (#[.bool false, .int .u16 C, .slice a1 n1 c1, .slice a2 n2 c2, .slice a3 n3 c3, .int .i64 (b : Int)] : Array Value)[i]? = some v → w1.cell? ⟨w.heap.size, i, none⟩ = some v) := Lib.hid fun i v h => (HRW.out.cell i).trans h
  go_region
  rw [hcc]
  clear q0 q1 q2 q3 q4 q5
  obtain ⟨CF, hCF⟩ : ∃ CF : Nat → Int, CF = fun i => (zs[i]?.getD 0) % 256 := ⟨_, rfl⟩
  obtain ⟨X, hX⟩ : ∃ X : Nat → List UInt8, X = fun i => rowL (us[i]?.getD .empty) (2 * b) := ⟨_, rfl⟩
  obtain ⟨Y, hY⟩ : ∃ Y : Nat → List UInt8, Y = fun i => rowL (vs[i]?.getD .empty) (2 * b) := ⟨_, rfl⟩
  have HCF := Lib.hid hCF
  have HX := Lib.hid hX
  have HY := Lib.hid hY
  have HXL := Lib.hid (show ∀ i, (X i).length = 2 * b from fun i => by rw [hX]; exact rowL_length _ _)
  have HYL := Lib.hid (show ∀ i, (Y i).length = 2 * b from fun i => by rw [hY]; exact rowL_length _ _)
  have HF0 := Lib.hid (Five.start (B := w.heap.size + 1) w1 HBS.out).drew
  clear hCF hX hY hcc
  go_wp2_with fail
  go_loopw [7, 8, 9, 10, 11, 12] (fun q7 q8 q9 q10 q11 i wr => ∃ (k : Nat) (A0 A1 A2 A3 A4 : Option Addr) (C0 C1 C2 C3 C4 : Nat), k ≤ nn ∧ i = .int .i64 k ∧ q7 = .slice A0 k C0 ∧ q8 = .slice A1 k C1 ∧ q9 = .slice A2 k C2 ∧ q10 = .slice A3 k C3 ∧ q11 = .slice A4 k C4 ∧
    Five (w.heap.size + 1) w1 wr A0 k C0 (ints ((List.range k).map CF)) A1 k C1 (strs ((List.range k).map fun i => strB (X i))) A2 k C2 (strs ((List.range k).map fun i => strB (Y i))) A3 k C3 (strs ((List.range k).map fun i => strB (Fld.xorL (X i) (Y i)))) A4 k C4 (strs ((List.range k).map fun i => strB (Fld.scl 8 cc (X i))))) (fun _ _ _ _ _ i _ => nn - (intOf i).toNat)
  case atStart => exact ⟨0, none, none, none, none, none, 0, 0, 0, 0, 0, Nat.zero_le _, rfl, rfl, rfl, rfl, rfl, rfl, HF0.out⟩
  case round =>
    obtain ⟨k, A0, A1, A2, A3, A4, C0, C1, C2, C3, C4, hk, rfl, rfl, rfl, rfl, rfl, rfl, hF⟩ := hrel
    have HF := Lib.hid hF
    have HBW := Lib.hid (HB1.out.trans (hF.below.mono (Nat.le_succ _)))
    have hq : ∀ (i : Nat) (v : Value), (#[.bool false, .int .u16 C, .slice a1 n1 c1, .slice a2 n2 c2, .slice a3 n3 c3, .int .i64 (b : Int)] : Array Value)[i]? = some v → wr.cell? ⟨w.heap.size, i, none⟩ = some v := fun i v h => (hF.below.cell (p := ⟨w.heap.size, i, none⟩) (Nat.lt_succ_self _)).trans (HBX.out i v h)
    have HQ := Lib.hid hq
    clear hF
    by_cases hlt : k < nn
    · have hk1 : k < n1 := by have := HNN.out; omega
      have hk2 : k < n2 := by have := HNN.out; omega
      have hk3 : k < n3 := by have := HNN.out; omega
      obtain ⟨z, hzk⟩ : ∃ z, zs[k]? = some z := ⟨_, List.getElem?_eq_getElem (by rw [HL1.out]; exact hk1)⟩
      obtain ⟨u, huk⟩ : ∃ u, us[k]? = some u := ⟨_, List.getElem?_eq_getElem (by rw [HL2.out]; exact hk2)⟩
      obtain ⟨v, hvk⟩ : ∃ v, vs[k]? = some v := ⟨_, List.getElem?_eq_getElem (by rw [HL3.out]; exact hk3)⟩
      obtain ⟨b1, o1, rfl, hb1, hc1⟩ := (HR1.out.below HBW.out) k (.int .u16 z) (by rw [List.getElem?_map, hzk]; rfl)
      obtain ⟨b2, o2, rfl, hb2, hc2⟩ := (HR2.out.below HBW.out) k (.string u) (by rw [strs, List.getElem?_map, huk]; rfl)
      obtain ⟨b3, o3, rfl, hb3, hc3⟩ := (HR3.out.below HBW.out) k (.string v) (by rw [strs, List.getElem?_map, hvk]; rfl)
      have HC2 := Lib.hid hc2
      have HC3 := Lib.hid hc3
      have HB2 := Lib.hid hb2
      have HB3 := Lib.hid hb3
      have hzb := HZ.out z (List.mem_of_getElem? hzk)
      have HUS := Lib.hid (HS2.out u (List.mem_of_getElem? huk))
      have HVS := Lib.hid (HS3.out v (List.mem_of_getElem? hvk))
      have HCFk := Lib.hid (show z % 256 = CF k by rw [HCF.out]; dsimp only; rw [hzk]; rfl)
      have HXk := Lib.hid (show rowL u (2 * b) = X k by rw [HX.out]; dsimp only; rw [huk]; rfl)
      have HYk := Lib.hid (show rowL v (2 * b) = Y k by rw [HY.out]; dsimp only; rw [hvk]; rfl)
      obtain ⟨hz1, hz2⟩ := hzb
      have hwz : IntKind.i64.wrap z = z := by rw [IntKind.wrap_i64] <;> omega
      have hwp : IntKind.i64.wrap 256 = 256 := by decide
      have hwt : z.tmod 256 = z % 256 := Int.tmod_eq_emod_of_nonneg hz1
      have hwm : IntKind.i64.wrap (z % 256) = z % 256 := by rw [IntKind.wrap_i64] <;> omega
      have q2 := hq 2 _ rfl
      clear hzk huk hvk hc2 hc3 hb2 hb3 hq
      go_wp2_with fail
      go_region_law (refine step_app2 rfl (.tmp 72) (.tmp 82) 22 rfl (w.heap.size + 1) 3 (.int .i64 0) 8 Tryd.underlying22 elem_int' rfl A0 k C0 _ rfl ((HF.out.o0.alloc _).drewN 1) _ (some ⟨wr.heap.size, 0, none⟩) 1 1 [.int .i64 (z % 256)] rfl ((Rd.one wr _ _).drewN 1) rfl (by intro u hu; simp only [List.mem_singleton] at hu; subst hu; rfl) (by unfold maxLen; omega) (by omega) (by have := HF.out.size; simp; omega) ?_; intro a2 c2' w2 ho hg hn; rw [HCFk.out, ← ints_snoc] at ho; have HF2 := Lib.hid ((HF.out.alloc _).drew.app0 ho hg hn); clear ho hg hn)
      clear q2 hc1 hb1 hwz hwp hwt hwm
      have HWB := Lib.hid (show IntKind.i64.wrap (2 * (b : Int)) = ((2 * b : Nat) : Int) by rw [IntKind.wrap_i64] <;> omega)
      have HS0 : Hid (KL w.heap.size 3 (.slice (some ⟨b2, o2, none⟩) n2 c2) (b : Int) u b2 (o2 + k) w2 w2) := Lib.hid ⟨(HF2.out.below.cell (p := ⟨w.heap.size, 3, none⟩) (Nat.lt_succ_self _)).trans (HBX.out 3 _ rfl), (HF2.out.below.cell (p := ⟨w.heap.size, 5, none⟩) (Nat.lt_succ_self _)).trans (HBX.out 5 _ rfl), (HF2.out.below.cell (p := ⟨b2, o2 + k, none⟩) (Nat.lt_succ_of_lt HB2.out)).trans ((HF.out.below.cell (p := ⟨b2, o2 + k, none⟩) (Nat.lt_succ_of_lt HB2.out)).symm.trans HC2.out), Below.refl _ _⟩
      obtain ⟨q3, q5, qs, hbl⟩ := HS0.out
      clear hbl
      go_wp2_with fail
      go_region_held3 (fun wn => wn.cell? ⟨w.heap.size, 3, none⟩ = some (.slice (some ⟨b2, o2, none⟩) n2 c2) ∧ wn.cell? ⟨w.heap.size, 5, none⟩ = some (.int .i64 (b : Int)) ∧ wn.cell? ⟨b2, o2 + k, none⟩ = some (.string u) ∧ Below w2.heap.size w2 wn) (first | exact HS1.out | exact KL.drew HS0.out | assumption) (first
        | (go_at_call 16; ((with_reducible refine (row_at u (2 * b) _ HWB.out _ HUS.out (by omega)).mono ?_)); rw [HXk.out]; rintro e5 w3 ⟨rfl, hb5⟩; have HS1 := Lib.hid (KL.next (by assumption) hb5)))
      have HF3 := Lib.hid (HF2.out.next HS1.out.2.2.2)
      clear HS0 HS1 HF2 q3 q5 qs hb5
      have HS0 : Hid (KL w.heap.size 4 (.slice (some ⟨b3, o3, none⟩) n3 c3) (b : Int) v b3 (o3 + k) w3 w3) := Lib.hid ⟨(HF3.out.below.cell (p := ⟨w.heap.size, 4, none⟩) (Nat.lt_succ_self _)).trans (HBX.out 4 _ rfl), (HF3.out.below.cell (p := ⟨w.heap.size, 5, none⟩) (Nat.lt_succ_self _)).trans (HBX.out 5 _ rfl), (HF3.out.below.cell (p := ⟨b3, o3 + k, none⟩) (Nat.lt_succ_of_lt HB3.out)).trans ((HF.out.below.cell (p := ⟨b3, o3 + k, none⟩) (Nat.lt_succ_of_lt HB3.out)).symm.trans HC3.out), Below.refl _ _⟩
      obtain ⟨q3, q5, qs, hbl⟩ := HS0.out
      clear hbl
      go_wp2_with fail
      go_region_held3 (fun wn => wn.cell? ⟨w.heap.size, 4, none⟩ = some (.slice (some ⟨b3, o3, none⟩) n3 c3) ∧ wn.cell? ⟨w.heap.size, 5, none⟩ = some (.int .i64 (b : Int)) ∧ wn.cell? ⟨b3, o3 + k, none⟩ = some (.string v) ∧ Below w3.heap.size w3 wn) (first | exact HS1.out | exact KL.drew HS0.out | assumption) (first
        | (go_at_call 16; ((with_reducible refine (row_at v (2 * b) _ HWB.out _ HVS.out (by omega)).mono ?_)); rw [HYk.out]; rintro e5 w4 ⟨rfl, hb5⟩; have HS1 := Lib.hid (KL.next (by assumption) hb5)))
      have HF4 := Lib.hid (HF3.out.next HS1.out.2.2.2)
      clear HS0 HS1 HF3 q3 q5 qs hb5
      have HT4 := Lib.hid (HT0.out.next (HB1.out.trans (HF4.out.below.mono (Nat.le_succ _))))
      have HXR := Lib.hid (xor_rows ((HXL.out k).trans (HYL.out k).symm))
      have HSR := Lib.hid (show pairS (sclS 8 cc (strB (X k))) (sclE 8 cc (strB (X k)).size) = .tuple #[.string (strB (Fld.scl 8 cc (X k))), .int .i64 0] from scl_rows (m := 8) (.inl rfl) (x := X k) (by rw [HXL.out]; omega) HCC.out)
      have HSX := Lib.hid (show (strB (X k)).size ≤ 100000000 by rw [strB_size, HXL.out]; omega)
      have HSY := Lib.hid (show (strB (Y k)).size ≤ 100000000 by rw [strB_size, HYL.out]; omega)
      go_wp2_with fail
      refine (fxor_any (strB (X k)) (strB (Y k)) _ HSX.out HSY.out).mono ?_
      rw [HXR.out]
      rintro e w5 ⟨rfl, hb5⟩
      have HF5 := Lib.hid (HF4.out.next hb5)
      have HT5 := Lib.hid (HT4.out.next hb5)
      clear hb5 HF4 HT4
      go_wp2_with fail
      refine (fscale_any 8 cc (strB (X k)) _ HT5.out HSX.out).mono ?_
      rw [HSR.out]
      rintro e w6 ⟨rfl, hb6⟩
      have HF6 := Lib.hid (HF5.out.next hb6)
      clear hb6 HF5 HT5
      go_wp2_with (first
        | (refine wpList_app2 _ rfl (.tmp 115) (.tmp 117) 23 rfl (w.heap.size + 1) 9 (.string .empty) 16 Tryd.underlying23 elem_string rfl A1 k C1 _ rfl (HF6.out.o1.alloc _) _ (some ⟨w6.heap.size, 0, none⟩) 1 1 [.string (strB (X k))] rfl (Rd.one w6 _ _) rfl (by intro u hu; simp only [List.mem_singleton] at hu; subst hu; rfl) (by unfold maxLen; omega) (by omega) (by have := HF6.out.size; simp; omega) ?_; intro D1 E1 w7 ho hg hn; rw [← strs_snoc (fun i => strB (X i))] at ho; have HF7 := Lib.hid ((HF6.out.alloc _).app1 ho hg hn); clear ho hg hn)
        | (refine wpList_app2 _ rfl (.tmp 119) (.tmp 121) 23 rfl (w.heap.size + 1) 9 (.string .empty) 16 Tryd.underlying23 elem_string rfl A2 k C2 _ rfl (HF7.out.o2.alloc _) _ (some ⟨w7.heap.size, 0, none⟩) 1 1 [.string (strB (Y k))] rfl (Rd.one w7 _ _) rfl (by intro u hu; simp only [List.mem_singleton] at hu; subst hu; rfl) (by unfold maxLen; omega) (by omega) (by have := HF7.out.size; simp; omega) ?_; intro D2 E2 w8 ho hg hn; rw [← strs_snoc (fun i => strB (Y i))] at ho; have HF8 := Lib.hid ((HF7.out.alloc _).app2 ho hg hn); clear ho hg hn)
        | (refine wpList_app2 _ rfl (.tmp 123) (.tmp 125) 23 rfl (w.heap.size + 1) 9 (.string .empty) 16 Tryd.underlying23 elem_string rfl A3 k C3 _ rfl (HF8.out.o3.alloc _) _ (some ⟨w8.heap.size, 0, none⟩) 1 1 [.string (strB (Fld.xorL (X k) (Y k)))] rfl (Rd.one w8 _ _) rfl (by intro u hu; simp only [List.mem_singleton] at hu; subst hu; rfl) (by unfold maxLen; omega) (by omega) (by have := HF8.out.size; simp; omega) ?_; intro D3 E3 w9 ho hg hn; rw [← strs_snoc (fun i => strB (Fld.xorL (X i) (Y i)))] at ho; have HF9 := Lib.hid ((HF8.out.alloc _).app3 ho hg hn); clear ho hg hn)
        | (refine wpList_app2 _ rfl (.tmp 127) (.tmp 129) 23 rfl (w.heap.size + 1) 9 (.string .empty) 16 Tryd.underlying23 elem_string rfl A4 k C4 _ rfl (HF9.out.o4.alloc _) _ (some ⟨w9.heap.size, 0, none⟩) 1 1 [.string (strB (Fld.scl 8 cc (X k)))] rfl (Rd.one w9 _ _) rfl (by intro u hu; simp only [List.mem_singleton] at hu; subst hu; rfl) (by unfold maxLen; omega) (by omega) (by have := HF9.out.size; simp; omega) ?_; intro D4 E4 w10 ho hg hn; rw [← strs_snoc (fun i => strB (Fld.scl 8 cc (X i)))] at ho; have HF10 := Lib.hid ((HF9.out.alloc _).app4 ho hg hn); clear ho hg hn))
      go_roundw
      case rel => exact ⟨k + 1, a2, D1, D2, D3, D4, c2', E1, E2, E3, E4, by omega, by go_num, rfl, rfl, rfl, rfl, rfl, HF10.out⟩
      case measure => simp [intOf]; omega
    · have hkn : k = nn := by omega
      subst hkn
      have HCFB := Lib.hid (show ∀ i, i < k → 0 ≤ CF i ∧ CF i < 2 ^ 8 from fun i _ => by
        rw [HCF.out]; dsimp only
        have e : (2 : Int) ^ 8 = 256 := by decide
        rw [e]; omega)
      have HCN := Lib.hid (show ∀ i, i < k → (CF i).toNat < 2 ^ 8 from fun i hi => by
        have h := HCFB.out i hi
        have e : (2 : Int) ^ 8 = 256 := by decide
        rw [e] at h
        rw [show 2 ^ 8 = 256 by decide]; omega)
      have HNS := Lib.hid (show 2 * b % Fld.size 8 = 0 by have e : Fld.size 8 = 1 := rfl; rw [e]; omega)
      have HIM : Hid (Fld.IsM 8) := Lib.hid (.inl rfl)
      obtain ⟨cx, hcx⟩ : ∃ cx, Fld.combTo 8 (2 * b) (Fld.rowsOf (fun i => (CF i).toNat) X k) = cx := ⟨_, rfl⟩
      obtain ⟨cy, hcy⟩ : ∃ cy, Fld.combTo 8 (2 * b) (Fld.rowsOf (fun i => (CF i).toNat) Y k) = cy := ⟨_, rfl⟩
      have hlx : cx.length = 2 * b := by rw [← hcx]; exact Fld.rows_length k fun i _ => HXL.out i
      have hly : cy.length = 2 * b := by rw [← hcy]; exact Fld.rows_length k fun i _ => HYL.out i
      have HVX := Lib.hid (show pairS (combS 8 ((List.range k).map CF) ((List.range k).map fun i => strB (X i))) (combE 8 ((List.range k).map CF) ((List.range k).map fun i => strB (X i))) = .tuple #[.string (strB cx), .int .i64 0] from (comb_rows (m := 8) HIM.out HNS.out h1 CF X HCFB.out fun i _ => HXL.out i).trans (by rw [hcx]))
      have HVY := Lib.hid (show pairS (combS 8 ((List.range k).map CF) ((List.range k).map fun i => strB (Y i))) (combE 8 ((List.range k).map CF) ((List.range k).map fun i => strB (Y i))) = .tuple #[.string (strB cy), .int .i64 0] from (comb_rows (m := 8) HIM.out HNS.out h1 CF Y HCFB.out fun i _ => HYL.out i).trans (by rw [hcy]))
      have HVS2 := Lib.hid (show pairS (combS 8 ((List.range k).map CF) ((List.range k).map fun i => strB (Fld.xorL (X i) (Y i)))) (combE 8 ((List.range k).map CF) ((List.range k).map fun i => strB (Fld.xorL (X i) (Y i)))) = .tuple #[.string (strB (Fld.xorL cx cy)), .int .i64 0] from
        (comb_rows (m := 8) HIM.out HNS.out h1 CF (fun i => Fld.xorL (X i) (Y i)) HCFB.out fun i _ => (Fld.xorL_length ((HXL.out i).trans (HYL.out i).symm)).trans (HXL.out i)).trans (by rw [Fld.comb_sum _ X Y k (fun i _ => HXL.out i) (fun i _ => HYL.out i), hcx, hcy]))
      have HVT := Lib.hid (show pairS (combS 8 ((List.range k).map CF) ((List.range k).map fun i => strB (Fld.scl 8 cc (X i)))) (combE 8 ((List.range k).map CF) ((List.range k).map fun i => strB (Fld.scl 8 cc (X i)))) = .tuple #[.string (strB (Fld.scl 8 cc cx)), .int .i64 0] from
        (comb_rows (m := 8) HIM.out HNS.out h1 CF (fun i => Fld.scl 8 cc (X i)) HCFB.out fun i _ => (Fld.scl_length _ _ _).trans (HXL.out i)).trans (by rw [Fld.comb_scl HIM.out HNS.out cc HCC.out _ X k HCN.out (fun i _ => HXL.out i), hcx]))
      have HXR := Lib.hid (xor_rows (hlx.trans hly.symm))
      have HSR := Lib.hid (show pairS (sclS 8 cc (strB cx)) (sclE 8 cc (strB cx).size) = .tuple #[.string (strB (Fld.scl 8 cc cx)), .int .i64 0] from scl_rows (m := 8) HIM.out (x := cx) (by rw [hlx]; omega) HCC.out)
      have HZX := Lib.hid (show (strB cx).size ≤ 100000000 by rw [strB_size, hlx]; omega)
      have HZY := Lib.hid (show (strB cy).size ≤ 100000000 by rw [strB_size, hly]; omega)
      clear hq hcx hcy hlx hly
      have HT0' := Lib.hid (HT0.out.next HBW.out)
      have HLI := Lib.hid (show ((List.range k).map CF).length = k by simp)
      have HLS := Lib.hid (show ∀ f : Nat → ByteArray, ((List.range k).map f).length = k from fun f => by simp)
      have HUB := Lib.hid (show ∀ f : Nat → List UInt8, (∀ i, (f i).length = 2 * b) → ∀ u ∈ (List.range k).map (fun i => strB (f i)), u.size ≤ 100000000 from fun f hf u hu => by
        obtain ⟨i, _, rfl⟩ := List.mem_map.1 hu
        rw [strB_size, hf i]; omega)
      go_wp2_with fail
      refine (fcomb_any 8 A0 k C0 ((List.range k).map CF) A1 k C1 ((List.range k).map fun i => strB (X i)) wr HT0'.out HLI.out (by omega) HF.out.o0.rd (HLS.out _) (by omega) HF.out.o1.rd (HUB.out (fun i => X i) HXL.out)).mono ?_
      rw [HVX.out]
      rintro e v0 ⟨rfl, hb5⟩
      have HG0 := Lib.hid (HF.out.next hb5)
      have HU0 := Lib.hid (HT0'.out.next hb5)
      clear hb5 HF HT0' HVX
      go_wp2_with fail
      refine (fcomb_any 8 A0 k C0 ((List.range k).map CF) A2 k C2 ((List.range k).map fun i => strB (Y i)) v0 HU0.out HLI.out (by omega) HG0.out.o0.rd (HLS.out _) (by omega) HG0.out.o2.rd (HUB.out (fun i => Y i) HYL.out)).mono ?_
      rw [HVY.out]
      rintro e v1 ⟨rfl, hb5⟩
      have HG1 := Lib.hid (HG0.out.next hb5)
      have HU1 := Lib.hid (HU0.out.next hb5)
      clear hb5 HG0 HU0 HVY
      go_wp2_with fail
      refine (fcomb_any 8 A0 k C0 ((List.range k).map CF) A3 k C3 ((List.range k).map fun i => strB (Fld.xorL (X i) (Y i))) v1 HU1.out HLI.out (by omega) HG1.out.o0.rd (HLS.out _) (by omega) HG1.out.o3.rd (HUB.out (fun i => Fld.xorL (X i) (Y i)) (fun i => (Fld.xorL_length ((HXL.out i).trans (HYL.out i).symm)).trans (HXL.out i)))).mono ?_
      rw [HVS2.out]
      rintro e v2 ⟨rfl, hb5⟩
      have HG2 := Lib.hid (HG1.out.next hb5)
      have HU2 := Lib.hid (HU1.out.next hb5)
      clear hb5 HG1 HU1 HVS2
      go_wp2_with fail
      refine (fcomb_any 8 A0 k C0 ((List.range k).map CF) A4 k C4 ((List.range k).map fun i => strB (Fld.scl 8 cc (X i))) v2 HU2.out HLI.out (by omega) HG2.out.o0.rd (HLS.out _) (by omega) HG2.out.o4.rd (HUB.out (fun i => Fld.scl 8 cc (X i)) (fun i => (Fld.scl_length _ _ _).trans (HXL.out i)))).mono ?_
      rw [HVT.out]
      rintro e v3 ⟨rfl, hb5⟩
      have HG3 := Lib.hid (HG2.out.next hb5)
      have HU3 := Lib.hid (HU2.out.next hb5)
      clear hb5 HG2 HU2 HVT
      go_wp2_with fail
      refine (fxor_any (strB cx) (strB cy) _ HZX.out HZY.out).mono ?_
      rw [HXR.out]
      rintro e v4 ⟨rfl, hb5⟩
      have HG4 := Lib.hid (HG3.out.next hb5)
      have HU4 := Lib.hid (HU3.out.next hb5)
      clear hb5 HG3 HU3
      go_wp2_with fail
      refine (fscale_any 8 cc (strB cx) _ HU4.out HZX.out).mono ?_
      rw [HSR.out]
      rintro e v5 ⟨rfl, hb5⟩
      have HG5 := Lib.hid (HG4.out.next hb5)
      clear hb5 HG4 HU4
      go_wp2_with fail
      go_ret
      exact ⟨rfl, HB1.out.trans (HG5.out.below.mono (Nat.le_succ _))⟩

set_option maxRecDepth 100000 in
set_option maxHeartbeats 6400000 in
theorem lin_16 (C : Int) (a1 : Option Addr) (n1 c1 : Nat) (zs : List Int) (a2 : Option Addr) (n2 c2 : Nat) (us : List ByteArray) (a3 : Option Addr) (n3 c3 : Nat) (vs : List ByteArray) (b : Nat) (nn : Nat) (w : World)
    (hC : 0 ≤ C ∧ C ≤ 65535) (hl1 : zs.length = n1) (hn1 : n1 ≤ 9223372036854775807) (hr1 : Rd w w.heap.size a1 (zs.map (Value.int .u16))) (hz : ∀ z ∈ zs, 0 ≤ z ∧ z ≤ 65535) (hl2 : us.length = n2) (hn2 : n2 ≤ 9223372036854775807) (hr2 : Rd w w.heap.size a2 (strs us)) (hs2 : ∀ u ∈ us, u.size ≤ maxLen)
    (hl3 : vs.length = n3) (hn3 : n3 ≤ 9223372036854775807) (hr3 : Rd w w.heap.size a3 (strs vs)) (hs3 : ∀ u ∈ vs, u.size ≤ maxLen) (ht : Tab w) (hnn : nn = min n1 (min n2 n3)) (h1 : 1 ≤ nn) (h8 : nn ≤ 8) (hb : b ≤ 32) :
    Calls Tryd.prog 4 #[.agg #[.bool true, .int .u16 C, .slice a1 n1 c1, .slice a2 n2 c2, .slice a3 n3 c3, .int .i64 (b : Int)]] w fun e w' => e = .returned (.bool true) ∧ Below w.heap.size w w' := by
  obtain ⟨hC1, hC2⟩ := hC
  have HT := Lib.hid (ht.next ((Below.refl _ w).alloc (Nat.le_refl _) (.cells #[.bool true, .int .u16 C, .slice a1 n1 c1, .slice a2 n2 c2, .slice a3 n3 c3, .int .i64 (b : Int)] 36)))
  have HT0 := Lib.hid ht
  have HR1 := Lib.hid hr1
  have HR2 := Lib.hid hr2
  have HR3 := Lib.hid hr3
  have HL1 := Lib.hid hl1
  have HL2 := Lib.hid hl2
  have HL3 := Lib.hid hl3
  have HZ := Lib.hid hz
  have HS2 := Lib.hid hs2
  have HS3 := Lib.hid hs3
  have HNN := Lib.hid hnn
  have hmin : ∀ (ts : Array TypeId) (t : TypeId) (W : World), (Builtin.min_ ts t #[.int .i64 (n1 : Int), .int .i64 (n2 : Int), .int .i64 (n3 : Int)]).run Tryd.prog W = .ok (.int .i64 (nn : Int)) W := fun ts t W => by
    have : (if (n3 : Int) < (if (n2 : Int) < (n1 : Int) then (n2 : Int) else (n1 : Int)) then (n3 : Int) else (if (n2 : Int) < (n1 : Int) then (n2 : Int) else (n1 : Int))) = (nn : Int) := by
      split <;> split at * <;> omega
    rw [← this]
    simp [Builtin.min_, Builtin.min2]
  obtain ⟨cc, hcc⟩ : ∃ cc : Nat, C % 65536 = (cc : Int) := ⟨(C % 65536).toNat, by omega⟩
  have HCC := Lib.hid (show cc < 2 ^ 16 by rw [show 2 ^ 16 = 65536 by rfl]; omega)
  clear ht hr1 hr2 hr3 hl1 hl2 hl3 hz hs2 hs3 hnn
  go_enter Tryd.func4, Tryd.ntmps4
  go_wp2_with fail
  refine (sanity_any _ HT.out).mono ?_
  rintro e w1 ⟨rfl, hb1⟩
  have HB := Lib.hid (show Below (w.heap.size + 1) (w.alloc (.cells #[.bool true, .int .u16 C, .slice a1 n1 c1, .slice a2 n2 c2, .slice a3 n3 c3, .int .i64 (b : Int)] 36)) w1 from hb1.mono (by simp))
  have hrow : Row w1 w.heap.size 36 #[.bool true, .int .u16 C, .slice a1 n1 c1, .slice a2 n2 c2, .slice a3 n3 c3, .int .i64 (b : Int)] := (Row.new w _ _).below hb1 (by simp)
  have HRW := Lib.hid hrow
  have HB1 := Lib.hid (show Below w.heap.size w w1 from below_call ((Below.refl _ w).alloc (Nat.le_refl _) _) hb1)
  have HBS := Lib.hid (show w.heap.size + 1 ≤ w1.heap.size by have := hb1.size; simpa using this)
  have q0 := hrow.cell 0
  have q1 := hrow.cell 1
  have q2 := hrow.cell 2
  have q3 := hrow.cell 3
  have q4 := hrow.cell 4
  have q5 := hrow.cell 5
  clear hb1 hrow
  go_wp2_with fail
  have HBX : Hid (∀ (i : Nat) (v : Value), (#[.bool true, .int .u16 C, .slice a1 n1 c1, .slice a2 n2 c2, .slice a3 n3 c3, .int .i64 (b : Int)] : Array Value)[i]? = some v → w1.cell? ⟨w.heap.size, i, none⟩ = some v) := Lib.hid fun i v h => (HRW.out.cell i).trans h
  go_region
  rw [hcc]
  clear q0 q1 q2 q3 q4 q5
  obtain ⟨CF, hCF⟩ : ∃ CF : Nat → Int, CF = fun i => (zs[i]?.getD 0) % 65536 := ⟨_, rfl⟩
  obtain ⟨X, hX⟩ : ∃ X : Nat → List UInt8, X = fun i => rowL (us[i]?.getD .empty) (2 * b) := ⟨_, rfl⟩
  obtain ⟨Y, hY⟩ : ∃ Y : Nat → List UInt8, Y = fun i => rowL (vs[i]?.getD .empty) (2 * b) := ⟨_, rfl⟩
  have HCF := Lib.hid hCF
  have HX := Lib.hid hX
  have HY := Lib.hid hY
  have HXL := Lib.hid (show ∀ i, (X i).length = 2 * b from fun i => by rw [hX]; exact rowL_length _ _)
  have HYL := Lib.hid (show ∀ i, (Y i).length = 2 * b from fun i => by rw [hY]; exact rowL_length _ _)
  have HF0 := Lib.hid (Five.start (B := w.heap.size + 1) w1 HBS.out).drew
  clear hCF hX hY hcc
  go_wp2_with fail
  go_loopw [7, 8, 9, 10, 11, 12] (fun q7 q8 q9 q10 q11 i wr => ∃ (k : Nat) (A0 A1 A2 A3 A4 : Option Addr) (C0 C1 C2 C3 C4 : Nat), k ≤ nn ∧ i = .int .i64 k ∧ q7 = .slice A0 k C0 ∧ q8 = .slice A1 k C1 ∧ q9 = .slice A2 k C2 ∧ q10 = .slice A3 k C3 ∧ q11 = .slice A4 k C4 ∧
    Five (w.heap.size + 1) w1 wr A0 k C0 (ints ((List.range k).map CF)) A1 k C1 (strs ((List.range k).map fun i => strB (X i))) A2 k C2 (strs ((List.range k).map fun i => strB (Y i))) A3 k C3 (strs ((List.range k).map fun i => strB (Fld.xorL (X i) (Y i)))) A4 k C4 (strs ((List.range k).map fun i => strB (Fld.scl 16 cc (X i))))) (fun _ _ _ _ _ i _ => nn - (intOf i).toNat)
  case atStart => exact ⟨0, none, none, none, none, none, 0, 0, 0, 0, 0, Nat.zero_le _, rfl, rfl, rfl, rfl, rfl, rfl, HF0.out⟩
  case round =>
    obtain ⟨k, A0, A1, A2, A3, A4, C0, C1, C2, C3, C4, hk, rfl, rfl, rfl, rfl, rfl, rfl, hF⟩ := hrel
    have HF := Lib.hid hF
    have HBW := Lib.hid (HB1.out.trans (hF.below.mono (Nat.le_succ _)))
    have hq : ∀ (i : Nat) (v : Value), (#[.bool true, .int .u16 C, .slice a1 n1 c1, .slice a2 n2 c2, .slice a3 n3 c3, .int .i64 (b : Int)] : Array Value)[i]? = some v → wr.cell? ⟨w.heap.size, i, none⟩ = some v := fun i v h => (hF.below.cell (p := ⟨w.heap.size, i, none⟩) (Nat.lt_succ_self _)).trans (HBX.out i v h)
    have HQ := Lib.hid hq
    clear hF
    by_cases hlt : k < nn
    · have hk1 : k < n1 := by have := HNN.out; omega
      have hk2 : k < n2 := by have := HNN.out; omega
      have hk3 : k < n3 := by have := HNN.out; omega
      obtain ⟨z, hzk⟩ : ∃ z, zs[k]? = some z := ⟨_, List.getElem?_eq_getElem (by rw [HL1.out]; exact hk1)⟩
      obtain ⟨u, huk⟩ : ∃ u, us[k]? = some u := ⟨_, List.getElem?_eq_getElem (by rw [HL2.out]; exact hk2)⟩
      obtain ⟨v, hvk⟩ : ∃ v, vs[k]? = some v := ⟨_, List.getElem?_eq_getElem (by rw [HL3.out]; exact hk3)⟩
      obtain ⟨b1, o1, rfl, hb1, hc1⟩ := (HR1.out.below HBW.out) k (.int .u16 z) (by rw [List.getElem?_map, hzk]; rfl)
      obtain ⟨b2, o2, rfl, hb2, hc2⟩ := (HR2.out.below HBW.out) k (.string u) (by rw [strs, List.getElem?_map, huk]; rfl)
      obtain ⟨b3, o3, rfl, hb3, hc3⟩ := (HR3.out.below HBW.out) k (.string v) (by rw [strs, List.getElem?_map, hvk]; rfl)
      have HC2 := Lib.hid hc2
      have HC3 := Lib.hid hc3
      have HB2 := Lib.hid hb2
      have HB3 := Lib.hid hb3
      have hzb := HZ.out z (List.mem_of_getElem? hzk)
      have HUS := Lib.hid (HS2.out u (List.mem_of_getElem? huk))
      have HVS := Lib.hid (HS3.out v (List.mem_of_getElem? hvk))
      have HCFk := Lib.hid (show z % 65536 = CF k by rw [HCF.out]; dsimp only; rw [hzk]; rfl)
      have HXk := Lib.hid (show rowL u (2 * b) = X k by rw [HX.out]; dsimp only; rw [huk]; rfl)
      have HYk := Lib.hid (show rowL v (2 * b) = Y k by rw [HY.out]; dsimp only; rw [hvk]; rfl)
      obtain ⟨hz1, hz2⟩ := hzb
      have hwz : IntKind.i64.wrap z = z := by rw [IntKind.wrap_i64] <;> omega
      have hwp : IntKind.i64.wrap 65536 = 65536 := by decide
      have hwt : z.tmod 65536 = z % 65536 := Int.tmod_eq_emod_of_nonneg hz1
      have hwm : IntKind.i64.wrap (z % 65536) = z % 65536 := by rw [IntKind.wrap_i64] <;> omega
      have q2 := hq 2 _ rfl
      clear hzk huk hvk hc2 hc3 hb2 hb3 hq
      go_wp2_with fail
      go_region_law (refine step_app2 rfl (.tmp 72) (.tmp 82) 22 rfl (w.heap.size + 1) 3 (.int .i64 0) 8 Tryd.underlying22 elem_int' rfl A0 k C0 _ rfl ((HF.out.o0.alloc _).drewN 1) _ (some ⟨wr.heap.size, 0, none⟩) 1 1 [.int .i64 (z % 65536)] rfl ((Rd.one wr _ _).drewN 1) rfl (by intro u hu; simp only [List.mem_singleton] at hu; subst hu; rfl) (by unfold maxLen; omega) (by omega) (by have := HF.out.size; simp; omega) ?_; intro a2 c2' w2 ho hg hn; rw [HCFk.out, ← ints_snoc] at ho; have HF2 := Lib.hid ((HF.out.alloc _).drew.app0 ho hg hn); clear ho hg hn)
      clear q2 hc1 hb1 hwz hwp hwt hwm
      have HWB := Lib.hid (show IntKind.i64.wrap (2 * (b : Int)) = ((2 * b : Nat) : Int) by rw [IntKind.wrap_i64] <;> omega)
      have HS0 : Hid (KL w.heap.size 3 (.slice (some ⟨b2, o2, none⟩) n2 c2) (b : Int) u b2 (o2 + k) w2 w2) := Lib.hid ⟨(HF2.out.below.cell (p := ⟨w.heap.size, 3, none⟩) (Nat.lt_succ_self _)).trans (HBX.out 3 _ rfl), (HF2.out.below.cell (p := ⟨w.heap.size, 5, none⟩) (Nat.lt_succ_self _)).trans (HBX.out 5 _ rfl), (HF2.out.below.cell (p := ⟨b2, o2 + k, none⟩) (Nat.lt_succ_of_lt HB2.out)).trans ((HF.out.below.cell (p := ⟨b2, o2 + k, none⟩) (Nat.lt_succ_of_lt HB2.out)).symm.trans HC2.out), Below.refl _ _⟩
      obtain ⟨q3, q5, qs, hbl⟩ := HS0.out
      clear hbl
      go_wp2_with fail
      go_region_held3 (fun wn => wn.cell? ⟨w.heap.size, 3, none⟩ = some (.slice (some ⟨b2, o2, none⟩) n2 c2) ∧ wn.cell? ⟨w.heap.size, 5, none⟩ = some (.int .i64 (b : Int)) ∧ wn.cell? ⟨b2, o2 + k, none⟩ = some (.string u) ∧ Below w2.heap.size w2 wn) (first | exact HS1.out | exact KL.drew HS0.out | assumption) (first
        | (go_at_call 16; ((with_reducible refine (row_at u (2 * b) _ HWB.out _ HUS.out (by omega)).mono ?_)); rw [HXk.out]; rintro e5 w3 ⟨rfl, hb5⟩; have HS1 := Lib.hid (KL.next (by assumption) hb5)))
      have HF3 := Lib.hid (HF2.out.next HS1.out.2.2.2)
      clear HS0 HS1 HF2 q3 q5 qs hb5
      have HS0 : Hid (KL w.heap.size 4 (.slice (some ⟨b3, o3, none⟩) n3 c3) (b : Int) v b3 (o3 + k) w3 w3) := Lib.hid ⟨(HF3.out.below.cell (p := ⟨w.heap.size, 4, none⟩) (Nat.lt_succ_self _)).trans (HBX.out 4 _ rfl), (HF3.out.below.cell (p := ⟨w.heap.size, 5, none⟩) (Nat.lt_succ_self _)).trans (HBX.out 5 _ rfl), (HF3.out.below.cell (p := ⟨b3, o3 + k, none⟩) (Nat.lt_succ_of_lt HB3.out)).trans ((HF.out.below.cell (p := ⟨b3, o3 + k, none⟩) (Nat.lt_succ_of_lt HB3.out)).symm.trans HC3.out), Below.refl _ _⟩
      obtain ⟨q3, q5, qs, hbl⟩ := HS0.out
      clear hbl
      go_wp2_with fail
      go_region_held3 (fun wn => wn.cell? ⟨w.heap.size, 4, none⟩ = some (.slice (some ⟨b3, o3, none⟩) n3 c3) ∧ wn.cell? ⟨w.heap.size, 5, none⟩ = some (.int .i64 (b : Int)) ∧ wn.cell? ⟨b3, o3 + k, none⟩ = some (.string v) ∧ Below w3.heap.size w3 wn) (first | exact HS1.out | exact KL.drew HS0.out | assumption) (first
        | (go_at_call 16; ((with_reducible refine (row_at v (2 * b) _ HWB.out _ HVS.out (by omega)).mono ?_)); rw [HYk.out]; rintro e5 w4 ⟨rfl, hb5⟩; have HS1 := Lib.hid (KL.next (by assumption) hb5)))
      have HF4 := Lib.hid (HF3.out.next HS1.out.2.2.2)
      clear HS0 HS1 HF3 q3 q5 qs hb5
      have HT4 := Lib.hid (HT0.out.next (HB1.out.trans (HF4.out.below.mono (Nat.le_succ _))))
      have HXR := Lib.hid (xor_rows ((HXL.out k).trans (HYL.out k).symm))
      have HSR := Lib.hid (show pairS (sclS 16 cc (strB (X k))) (sclE 16 cc (strB (X k)).size) = .tuple #[.string (strB (Fld.scl 16 cc (X k))), .int .i64 0] from scl_rows (m := 16) (.inr rfl) (x := X k) (by rw [HXL.out]; omega) HCC.out)
      have HSX := Lib.hid (show (strB (X k)).size ≤ 100000000 by rw [strB_size, HXL.out]; omega)
      have HSY := Lib.hid (show (strB (Y k)).size ≤ 100000000 by rw [strB_size, HYL.out]; omega)
      go_wp2_with fail
      refine (fxor_any (strB (X k)) (strB (Y k)) _ HSX.out HSY.out).mono ?_
      rw [HXR.out]
      rintro e w5 ⟨rfl, hb5⟩
      have HF5 := Lib.hid (HF4.out.next hb5)
      have HT5 := Lib.hid (HT4.out.next hb5)
      clear hb5 HF4 HT4
      go_wp2_with fail
      refine (fscale_any 16 cc (strB (X k)) _ HT5.out HSX.out).mono ?_
      rw [HSR.out]
      rintro e w6 ⟨rfl, hb6⟩
      have HF6 := Lib.hid (HF5.out.next hb6)
      clear hb6 HF5 HT5
      go_wp2_with (first
        | (refine wpList_app2 _ rfl (.tmp 115) (.tmp 117) 23 rfl (w.heap.size + 1) 9 (.string .empty) 16 Tryd.underlying23 elem_string rfl A1 k C1 _ rfl (HF6.out.o1.alloc _) _ (some ⟨w6.heap.size, 0, none⟩) 1 1 [.string (strB (X k))] rfl (Rd.one w6 _ _) rfl (by intro u hu; simp only [List.mem_singleton] at hu; subst hu; rfl) (by unfold maxLen; omega) (by omega) (by have := HF6.out.size; simp; omega) ?_; intro D1 E1 w7 ho hg hn; rw [← strs_snoc (fun i => strB (X i))] at ho; have HF7 := Lib.hid ((HF6.out.alloc _).app1 ho hg hn); clear ho hg hn)
        | (refine wpList_app2 _ rfl (.tmp 119) (.tmp 121) 23 rfl (w.heap.size + 1) 9 (.string .empty) 16 Tryd.underlying23 elem_string rfl A2 k C2 _ rfl (HF7.out.o2.alloc _) _ (some ⟨w7.heap.size, 0, none⟩) 1 1 [.string (strB (Y k))] rfl (Rd.one w7 _ _) rfl (by intro u hu; simp only [List.mem_singleton] at hu; subst hu; rfl) (by unfold maxLen; omega) (by omega) (by have := HF7.out.size; simp; omega) ?_; intro D2 E2 w8 ho hg hn; rw [← strs_snoc (fun i => strB (Y i))] at ho; have HF8 := Lib.hid ((HF7.out.alloc _).app2 ho hg hn); clear ho hg hn)
        | (refine wpList_app2 _ rfl (.tmp 123) (.tmp 125) 23 rfl (w.heap.size + 1) 9 (.string .empty) 16 Tryd.underlying23 elem_string rfl A3 k C3 _ rfl (HF8.out.o3.alloc _) _ (some ⟨w8.heap.size, 0, none⟩) 1 1 [.string (strB (Fld.xorL (X k) (Y k)))] rfl (Rd.one w8 _ _) rfl (by intro u hu; simp only [List.mem_singleton] at hu; subst hu; rfl) (by unfold maxLen; omega) (by omega) (by have := HF8.out.size; simp; omega) ?_; intro D3 E3 w9 ho hg hn; rw [← strs_snoc (fun i => strB (Fld.xorL (X i) (Y i)))] at ho; have HF9 := Lib.hid ((HF8.out.alloc _).app3 ho hg hn); clear ho hg hn)
        | (refine wpList_app2 _ rfl (.tmp 127) (.tmp 129) 23 rfl (w.heap.size + 1) 9 (.string .empty) 16 Tryd.underlying23 elem_string rfl A4 k C4 _ rfl (HF9.out.o4.alloc _) _ (some ⟨w9.heap.size, 0, none⟩) 1 1 [.string (strB (Fld.scl 16 cc (X k)))] rfl (Rd.one w9 _ _) rfl (by intro u hu; simp only [List.mem_singleton] at hu; subst hu; rfl) (by unfold maxLen; omega) (by omega) (by have := HF9.out.size; simp; omega) ?_; intro D4 E4 w10 ho hg hn; rw [← strs_snoc (fun i => strB (Fld.scl 16 cc (X i)))] at ho; have HF10 := Lib.hid ((HF9.out.alloc _).app4 ho hg hn); clear ho hg hn))
      go_roundw
      case rel => exact ⟨k + 1, a2, D1, D2, D3, D4, c2', E1, E2, E3, E4, by omega, by go_num, rfl, rfl, rfl, rfl, rfl, HF10.out⟩
      case measure => simp [intOf]; omega
    · have hkn : k = nn := by omega
      subst hkn
      have HCFB := Lib.hid (show ∀ i, i < k → 0 ≤ CF i ∧ CF i < 2 ^ 16 from fun i _ => by
        rw [HCF.out]; dsimp only
        have e : (2 : Int) ^ 16 = 65536 := by decide
        rw [e]; omega)
      have HCN := Lib.hid (show ∀ i, i < k → (CF i).toNat < 2 ^ 16 from fun i hi => by
        have h := HCFB.out i hi
        have e : (2 : Int) ^ 16 = 65536 := by decide
        rw [e] at h
        rw [show 2 ^ 16 = 65536 by decide]; omega)
      have HNS := Lib.hid (show 2 * b % Fld.size 16 = 0 by have e : Fld.size 16 = 2 := rfl; rw [e]; omega)
      have HIM : Hid (Fld.IsM 16) := Lib.hid (.inr rfl)
      obtain ⟨cx, hcx⟩ : ∃ cx, Fld.combTo 16 (2 * b) (Fld.rowsOf (fun i => (CF i).toNat) X k) = cx := ⟨_, rfl⟩
      obtain ⟨cy, hcy⟩ : ∃ cy, Fld.combTo 16 (2 * b) (Fld.rowsOf (fun i => (CF i).toNat) Y k) = cy := ⟨_, rfl⟩
      have hlx : cx.length = 2 * b := by rw [← hcx]; exact Fld.rows_length k fun i _ => HXL.out i
      have hly : cy.length = 2 * b := by rw [← hcy]; exact Fld.rows_length k fun i _ => HYL.out i
      have HVX := Lib.hid (show pairS (combS 16 ((List.range k).map CF) ((List.range k).map fun i => strB (X i))) (combE 16 ((List.range k).map CF) ((List.range k).map fun i => strB (X i))) = .tuple #[.string (strB cx), .int .i64 0] from (comb_rows (m := 16) HIM.out HNS.out h1 CF X HCFB.out fun i _ => HXL.out i).trans (by rw [hcx]))
      have HVY := Lib.hid (show pairS (combS 16 ((List.range k).map CF) ((List.range k).map fun i => strB (Y i))) (combE 16 ((List.range k).map CF) ((List.range k).map fun i => strB (Y i))) = .tuple #[.string (strB cy), .int .i64 0] from (comb_rows (m := 16) HIM.out HNS.out h1 CF Y HCFB.out fun i _ => HYL.out i).trans (by rw [hcy]))
      have HVS2 := Lib.hid (show pairS (combS 16 ((List.range k).map CF) ((List.range k).map fun i => strB (Fld.xorL (X i) (Y i)))) (combE 16 ((List.range k).map CF) ((List.range k).map fun i => strB (Fld.xorL (X i) (Y i)))) = .tuple #[.string (strB (Fld.xorL cx cy)), .int .i64 0] from
        (comb_rows (m := 16) HIM.out HNS.out h1 CF (fun i => Fld.xorL (X i) (Y i)) HCFB.out fun i _ => (Fld.xorL_length ((HXL.out i).trans (HYL.out i).symm)).trans (HXL.out i)).trans (by rw [Fld.comb_sum _ X Y k (fun i _ => HXL.out i) (fun i _ => HYL.out i), hcx, hcy]))
      have HVT := Lib.hid (show pairS (combS 16 ((List.range k).map CF) ((List.range k).map fun i => strB (Fld.scl 16 cc (X i)))) (combE 16 ((List.range k).map CF) ((List.range k).map fun i => strB (Fld.scl 16 cc (X i)))) = .tuple #[.string (strB (Fld.scl 16 cc cx)), .int .i64 0] from
        (comb_rows (m := 16) HIM.out HNS.out h1 CF (fun i => Fld.scl 16 cc (X i)) HCFB.out fun i _ => (Fld.scl_length _ _ _).trans (HXL.out i)).trans (by rw [Fld.comb_scl HIM.out HNS.out cc HCC.out _ X k HCN.out (fun i _ => HXL.out i), hcx]))
      have HXR := Lib.hid (xor_rows (hlx.trans hly.symm))
      have HSR := Lib.hid (show pairS (sclS 16 cc (strB cx)) (sclE 16 cc (strB cx).size) = .tuple #[.string (strB (Fld.scl 16 cc cx)), .int .i64 0] from scl_rows (m := 16) HIM.out (x := cx) (by rw [hlx]; omega) HCC.out)
      have HZX := Lib.hid (show (strB cx).size ≤ 100000000 by rw [strB_size, hlx]; omega)
      have HZY := Lib.hid (show (strB cy).size ≤ 100000000 by rw [strB_size, hly]; omega)
      clear hq hcx hcy hlx hly
      have HT0' := Lib.hid (HT0.out.next HBW.out)
      have HLI := Lib.hid (show ((List.range k).map CF).length = k by simp)
      have HLS := Lib.hid (show ∀ f : Nat → ByteArray, ((List.range k).map f).length = k from fun f => by simp)
      have HUB := Lib.hid (show ∀ f : Nat → List UInt8, (∀ i, (f i).length = 2 * b) → ∀ u ∈ (List.range k).map (fun i => strB (f i)), u.size ≤ 100000000 from fun f hf u hu => by
        obtain ⟨i, _, rfl⟩ := List.mem_map.1 hu
        rw [strB_size, hf i]; omega)
      go_wp2_with fail
      refine (fcomb_any 16 A0 k C0 ((List.range k).map CF) A1 k C1 ((List.range k).map fun i => strB (X i)) wr HT0'.out HLI.out (by omega) HF.out.o0.rd (HLS.out _) (by omega) HF.out.o1.rd (HUB.out (fun i => X i) HXL.out)).mono ?_
      rw [HVX.out]
      rintro e v0 ⟨rfl, hb5⟩
      have HG0 := Lib.hid (HF.out.next hb5)
      have HU0 := Lib.hid (HT0'.out.next hb5)
      clear hb5 HF HT0' HVX
      go_wp2_with fail
      refine (fcomb_any 16 A0 k C0 ((List.range k).map CF) A2 k C2 ((List.range k).map fun i => strB (Y i)) v0 HU0.out HLI.out (by omega) HG0.out.o0.rd (HLS.out _) (by omega) HG0.out.o2.rd (HUB.out (fun i => Y i) HYL.out)).mono ?_
      rw [HVY.out]
      rintro e v1 ⟨rfl, hb5⟩
      have HG1 := Lib.hid (HG0.out.next hb5)
      have HU1 := Lib.hid (HU0.out.next hb5)
      clear hb5 HG0 HU0 HVY
      go_wp2_with fail
      refine (fcomb_any 16 A0 k C0 ((List.range k).map CF) A3 k C3 ((List.range k).map fun i => strB (Fld.xorL (X i) (Y i))) v1 HU1.out HLI.out (by omega) HG1.out.o0.rd (HLS.out _) (by omega) HG1.out.o3.rd (HUB.out (fun i => Fld.xorL (X i) (Y i)) (fun i => (Fld.xorL_length ((HXL.out i).trans (HYL.out i).symm)).trans (HXL.out i)))).mono ?_
      rw [HVS2.out]
      rintro e v2 ⟨rfl, hb5⟩
      have HG2 := Lib.hid (HG1.out.next hb5)
      have HU2 := Lib.hid (HU1.out.next hb5)
      clear hb5 HG1 HU1 HVS2
      go_wp2_with fail
      refine (fcomb_any 16 A0 k C0 ((List.range k).map CF) A4 k C4 ((List.range k).map fun i => strB (Fld.scl 16 cc (X i))) v2 HU2.out HLI.out (by omega) HG2.out.o0.rd (HLS.out _) (by omega) HG2.out.o4.rd (HUB.out (fun i => Fld.scl 16 cc (X i)) (fun i => (Fld.scl_length _ _ _).trans (HXL.out i)))).mono ?_
      rw [HVT.out]
      rintro e v3 ⟨rfl, hb5⟩
      have HG3 := Lib.hid (HG2.out.next hb5)
      have HU3 := Lib.hid (HU2.out.next hb5)
      clear hb5 HG2 HU2 HVT
      go_wp2_with fail
      refine (fxor_any (strB cx) (strB cy) _ HZX.out HZY.out).mono ?_
      rw [HXR.out]
      rintro e v4 ⟨rfl, hb5⟩
      have HG4 := Lib.hid (HG3.out.next hb5)
      have HU4 := Lib.hid (HU3.out.next hb5)
      clear hb5 HG3 HU3
      go_wp2_with fail
      refine (fscale_any 16 cc (strB cx) _ HU4.out HZX.out).mono ?_
      rw [HSR.out]
      rintro e v5 ⟨rfl, hb5⟩
      have HG5 := Lib.hid (HG4.out.next hb5)
      clear hb5 HG4 HU4
      go_wp2_with fail
      go_ret
      exact ⟨rfl, HB1.out.trans (HG5.out.below.mono (Nat.le_succ _))⟩

set_option maxRecDepth 100000 in
set_option maxHeartbeats 1600000 in
theorem lin_out (wd : Bool) (C : Int) (a1 : Option Addr) (n1 c1 : Nat) (a2 : Option Addr) (n2 c2 : Nat) (a3 : Option Addr) (n3 c3 : Nat) (b : Int) (nn : Nat) (w : World)
    (hn1 : n1 ≤ 9223372036854775807) (hn2 : n2 ≤ 9223372036854775807) (hn3 : n3 ≤ 9223372036854775807) (ht : Tab w) (hnn : nn = min n1 (min n2 n3)) (h : nn < 1 ∨ (1 ≤ nn ∧ 8 < nn) ∨ (1 ≤ nn ∧ nn ≤ 8 ∧ b < 0) ∨ (1 ≤ nn ∧ nn ≤ 8 ∧ 0 ≤ b ∧ 32 < b)) :
    Calls Tryd.prog 4 #[.agg #[.bool wd, .int .u16 C, .slice a1 n1 c1, .slice a2 n2 c2, .slice a3 n3 c3, .int .i64 b]] w fun e w' => e = .returned (.bool true) ∧ Below w.heap.size w w' := by
  have HT := Lib.hid (ht.next ((Below.refl _ w).alloc (Nat.le_refl _) (.cells #[.bool wd, .int .u16 C, .slice a1 n1 c1, .slice a2 n2 c2, .slice a3 n3 c3, .int .i64 b] 36)))
  have hmin : ∀ (ts : Array TypeId) (t : TypeId) (W : World), (Builtin.min_ ts t #[.int .i64 (n1 : Int), .int .i64 (n2 : Int), .int .i64 (n3 : Int)]).run Tryd.prog W = .ok (.int .i64 (nn : Int)) W := fun ts t W => by
    have : (if (n3 : Int) < (if (n2 : Int) < (n1 : Int) then (n2 : Int) else (n1 : Int)) then (n3 : Int) else (if (n2 : Int) < (n1 : Int) then (n2 : Int) else (n1 : Int))) = (nn : Int) := by
      split <;> split at * <;> omega
    rw [← this]
    simp [Builtin.min_, Builtin.min2]
  have hnb : nn ≤ 9223372036854775807 := by omega
  clear hnn ht
  rcases h with h | ⟨h, h2⟩ | ⟨h, h2, h3⟩ | ⟨h, h2, h3, h4⟩
  all_goals
    go_enter Tryd.func4, Tryd.ntmps4
    go_wp2_with fail
    refine (sanity_any _ HT.out).mono ?_
    rintro e w1 ⟨rfl, hb⟩
    have HB := Lib.hid (below_call ((Below.refl _ w).alloc (Nat.le_refl _) _) hb)
    have hrow : Row w1 w.heap.size 36 #[.bool wd, .int .u16 C, .slice a1 n1 c1, .slice a2 n2 c2, .slice a3 n3 c3, .int .i64 b] := (Row.new w _ _).below hb (by simp)
    have q2 := hrow.cell 2
    have q3 := hrow.cell 3
    have q4 := hrow.cell 4
    have q5 := hrow.cell 5
    clear hb hrow
    go_wp2_with fail
    go_ret
    exact ⟨rfl, HB.out⟩
theorem walk_FieldCombineIsLinear (wd : Bool) (C : Int) (a1 : Option Addr) (n1 c1 : Nat) (zs : List Int) (a2 : Option Addr) (n2 c2 : Nat) (us : List ByteArray) (a3 : Option Addr) (n3 c3 : Nat) (vs : List ByteArray) (b : Int) (w : World)
    (hC : 0 ≤ C ∧ C ≤ 65535) (hl1 : zs.length = n1) (hn1 : n1 ≤ 9223372036854775807) (hr1 : Rd w w.heap.size a1 (zs.map (Value.int .u16))) (hz : ∀ z ∈ zs, 0 ≤ z ∧ z ≤ 65535) (hl2 : us.length = n2) (hn2 : n2 ≤ 9223372036854775807) (hr2 : Rd w w.heap.size a2 (strs us)) (hs2 : ∀ u ∈ us, u.size ≤ maxLen)
    (hl3 : vs.length = n3) (hn3 : n3 ≤ 9223372036854775807) (hr3 : Rd w w.heap.size a3 (strs vs)) (hs3 : ∀ u ∈ vs, u.size ≤ maxLen) (ht : Tab w) :
    Calls Tryd.prog 4 #[.agg #[.bool wd, .int .u16 C, .slice a1 n1 c1, .slice a2 n2 c2, .slice a3 n3 c3, .int .i64 b]] w fun e w' => e = .returned (.bool true) ∧ Below w.heap.size w w' := by
  obtain ⟨nn, hnn⟩ : ∃ nn, nn = min n1 (min n2 n3) := ⟨_, rfl⟩
  by_cases h : nn < 1 ∨ (1 ≤ nn ∧ 8 < nn) ∨ (1 ≤ nn ∧ nn ≤ 8 ∧ b < 0) ∨ (1 ≤ nn ∧ nn ≤ 8 ∧ 0 ≤ b ∧ 32 < b)
  · exact lin_out wd C a1 n1 c1 a2 n2 c2 a3 n3 c3 b nn w hn1 hn2 hn3 ht hnn h
  · obtain ⟨B, rfl⟩ := Int.eq_ofNat_of_zero_le (show 0 ≤ b by omega)
    cases wd
    · exact lin_8 C a1 n1 c1 zs a2 n2 c2 us a3 n3 c3 vs B nn w hC hl1 hn1 hr1 hz hl2 hn2 hr2 hs2 hl3 hn3 hr3 hs3 ht hnn (by omega) (by omega) (by omega)
    · exact lin_16 C a1 n1 c1 zs a2 n2 c2 us a3 n3 c3 vs B nn w hC hl1 hn1 hr1 hz hl2 hn2 hr2 hs2 hl3 hn3 hr3 hs3 ht hnn (by omega) (by omega) (by omega)

/-! ### the frame: the arguments opened and shut -/
theorem contract_FieldCombineIsLinear (H : Type) (enc : TypeId × Value → H) (W : World) (base : Nat) (args : Array Value) (ds gs : List (DataW H)) (before : List MemPlace)
    (hval0 : ∀ (j : Nat) t v, Tryd.f4.params[j]? = some t → args[j]? = some v → Value.okWide Tryd.prog W .any base t v)
    (hW : DataW.Whole enc Tryd.prog Tryd.f4.params.toList Rows.fieldCombineIsLinearSpec.vars false W args.toList ds gs before) (hL : laidMetH Tryd.prog Rows.fieldCombineIsLinearRow.laid W) :
    Calls Tryd.prog 4 args W fun e W' => ∃ v, e = .returned v ∧ Rows.fieldCombineIsLinearSpec.post enc Tryd.prog Tryd.f4 false true false false W args v W' := by
  have hval : ∀ (j : Nat) t v, Tryd.f4.params[j]? = some t → args[j]? = some v → Value.okWide Tryd.prog W .any base t v := hval0
  have hW' := hW
  obtain ⟨p, q, hA0, hV, rfl, hfz, hnd⟩ := hW
  have hA : DataW.TrodAll enc Tryd.prog W 0 (fun _ => true) true Tryd.f4.params.toList args.toList ds p := hA0
  rw [Tryd.params4] at hA hval
  obtain ⟨v0, vs0, d0, ds0, p0, q0, hargs, rfl, rfl, h0, r0⟩ := trodAll_cons hA
  obtain ⟨rfl, rfl, rfl⟩ := trodAll_nil r0
  obtain rfl : args = #[v0] := by cases args; simp_all
  obtain ⟨rfl, rfl⟩ := trodVars_none hV
  have k0 := h0
  have lt0 : ∀ x ∈ p0, x.block < W.heap.size := by obtain ⟨m, hm⟩ := k0; exact DataW.trod_lt m _ _ _ hm
  obtain ⟨cs0, rfl, _⟩ := okWide_struct Tryd.underlying36 (hval 0 36 v0 rfl rfl)
  obtain ⟨fuel0, hf0⟩ := h0
  obtain ⟨wd0, C0, aa0, na0, ca0, la0, ab0, nb0, cb0, lb0, ac0, nc0, cc0, lc0, by0, hcs0, hz0, ha0, hb0, hc0, hw0, hd0, he0, hff0, hg0, hh0, hi0, hj0, hk0⟩ := open_lin hf0
  obtain rfl : cs0 = #[.bool wd0, .int .u16 C0, .slice aa0 na0 ca0, .slice ab0 nb0 cb0, .slice ac0 nc0 cc0, .int .i64 by0] := by apply Array.toList_inj.1; simpa [Value.cells] using hcs0
  refine (walk_FieldCombineIsLinear wd0 C0 aa0 na0 ca0 la0 ab0 nb0 cb0 lb0 ac0 nc0 cc0 lc0 by0 W hz0 ha0 hb0 hc0 hw0 hd0 he0 hff0 hg0 hh0 hi0 hj0 hk0 (tab_of hL)).mono fun e W' ⟨he, bel⟩ => ?_
  subst he
  exact ⟨_, rfl, _, _, _, [], _, [], hW', trodAll_mk1 (shut_bool Tryd.underlying4 _), (trodAll_cons_mk (Below.trod laidOut (by kernel_rfl) (of_decide_eq_true (by kernel_rfl)) k0 bel lt0) trodAll_mk0), rfl, bel.frame _, fun h => by cases h⟩
theorem laid_FieldCombineIsLinear (os : Os) : laidMet Tryd.prog Rows.fieldCombineIsLinearRow.laid ((laidWorld os).forCall (fun _ _ => 0) ⟨#[], #[.agg #[.bool false, .int .u16 0, .slice none 0 0, .slice none 0 0, .slice none 0 0, .int .i64 0]], []⟩).memory :=
  laidMet_of_run' 8 (by kernel_rfl) (by kernel_rfl)
theorem reads_FieldCombineIsLinear (os : Os) {H : Type} (enc : TypeId × Value → H) : ∃ places, DataW.whole enc Tryd.prog ((laidWorld os).forCall (fun _ _ => 0) ⟨#[], #[.agg #[.bool false, .int .u16 0, .slice none 0 0, .slice none 0 0, .slice none 0 0, .int .i64 0]], []⟩).memory Tryd.f4.params.toList Rows.fieldCombineIsLinearSpec.vars false (#[.agg #[.bool false, .int .u16 0, .slice none 0 0, .slice none 0 0, .slice none 0 0, .int .i64 0]] : Array Value).toList 8 = some ([.agg [.lit (.bool false), .lit (.int .u16 0), .nil, .nil, .nil, .lit (.int .i64 0)]], [], places) :=
  ⟨[], by kernel_rfl⟩
set_option maxRecDepth 100000 in
theorem lifted_FieldCombineIsLinear (os : Os) (started : os.Started) (H : Type) (enc : TypeId × Value → H) (F : Stop.Interp) :
    ReturnsInHanded {} Tryd.checked os 4 .any ((OpenSpec.ofChange Rows.fieldCombineIsLinearSpec).preRow enc Tryd.prog Tryd.f4 Rows.fieldCombineIsLinearRow.domain false Rows.fieldCombineIsLinearRow.laid) (((OpenSpec.ofChange Rows.fieldCombineIsLinearSpec).at F).post enc Tryd.prog Tryd.f4 false true false false) := by
  obtain ⟨places, hx⟩ := reads_FieldCombineIsLinear os enc
  refine returnsInHanded_of_row (C := Tryd.checked) (s := OpenSpec.ofChange Rows.fieldCombineIsLinearSpec) own started (by kernel_rfl) Tryd.func4
    (witness_row_at (enc := enc) (C := Tryd.checked) false (laidWorld os) #[.agg #[.bool false, .int .u16 0, .slice none 0 0, .slice none 0 0, .slice none 0 0, .int .i64 0]] rfl (by kernel_rfl) (by kernel_rfl) (by kernel_rfl)
      (OpenSpec.preRow_of_cond 8 hx (by kernel_rfl) (fun k hk => by cases hk) (by kernel_rfl) (laid_FieldCombineIsLinear os))) ?_
  intro W base args ds gs before hval hW _ hcond _ hL _ _
  exact contract_FieldCombineIsLinear H enc W base args ds gs before hval hW hL

theorem said_FieldCombineIsLinear : Rows.FieldCombineIsLinearSaid :=
  OpenClaim.holds_of_cond 4 Tryd.f4 rfl rfl rfl rfl rfl rfl rfl ⟨rfl, rfl, rfl, rfl, rfl⟩ rfl rfl rfl rfl rfl (by kernel_rfl) Tryd.func4 (by kernel_rfl)
    (of_decide_eq_true (by kernel_rfl)) (by unfold Func.isWrapper; first | (rw [if_pos (by decide +kernel)]; kernel_rfl) | (rw [if_neg (by decide +kernel)]; exact ⟨rfl, rfl⟩))
    (fun os started H enc _ F => by rw [OpenClaim.pre_eq_preRow]; exact lifted_FieldCombineIsLinear os started H enc F)
theorem plain_FieldCombineIsLinear (f : FuncId) (fn : Func) (hf : Tryd.pinned.checked.prog.funcNamed "solvent/solventlaw05.FieldCombineIsLinear" = some f) (hfn : Tryd.pinned.checked.prog.funcs[f]? = some fn) :
    false = Tryd.pinned.checked.prog.looks [] ∧ ∀ (j : Nat) t, fn.params[j]? = some t → Tryd.pinned.checked.prog.wantsStandIn t = false := by
  obtain rfl : f = 4 := Option.some.inj ((show Tryd.prog.funcNamed "solvent/solventlaw05.FieldCombineIsLinear" = some 4 by kernel_rfl).symm.trans hf) |>.symm
  obtain rfl : fn = Tryd.f4 := (Option.some.inj (Tryd.func4.symm.trans hfn)).symm
  refine ⟨by kernel_rfl, fun j t ht => ?_⟩
  rw [Tryd.params4] at ht
  have hm := Array.mem_of_getElem? ht
  simp only [List.mem_toArray, List.mem_cons, List.not_mem_nil, or_false] at hm
  subst hm
  exact (show Tryd.prog.wantsStandIn 36 = false by kernel_rfl)
theorem proved_FieldCombineIsLinear : Rows.FieldCombineIsLinearCardSaid :=
  Claim7.holds_tied_plain_at .later [] _ _ _ _ said_FieldCombineIsLinear (fun _ h => by cases h) (by kernel_rfl) (fun _ h => by cases h) fieldCombineIsLinear_row_tie rfl ⟨rfl, rfl⟩ (by kernel_rfl) rfl plain_FieldCombineIsLinear (by kernel_rfl)
end Go.Proofs.YtdmcdgpigpekhaaDoor
