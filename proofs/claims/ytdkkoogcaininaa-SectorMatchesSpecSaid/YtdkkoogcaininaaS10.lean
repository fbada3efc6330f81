/- Sector: Seal of the reference. -/
import Derived.Test.YtdkkoogcaininaaS9
namespace Go.Proofs.Ytdkkoogcaininaa
set_option linter.unusedSimpArgs false
set_option linter.unusedVariables false
open Go.RowKit Go.Lib

theorem rep_app (BS : List UInt8) (k : Nat) : (BS ++ List.replicate (k + 1) 0).map v8 = (BS ++ List.replicate k 0).map v8 ++ [.int .u8 0] := by
  rw [show List.replicate (k + 1) (0 : UInt8) = List.replicate k 0 ++ [0] from List.replicate_succ', ← List.append_assoc, List.map_append]; rfl
def lenV : Value → Nat
  | .slice _ n _ => n
  | _ => 0
theorem number2_int (m : Int) (w : World) (h0 : 0 ≤ m) (hm : m < 9223372036854775807) :
    Calls Try.prog 26 #[.int .i64 m, .int .i64 2] w fun e w' => ∃ (a' : Option Addr) (c' : Nat), e = .returned (.slice a' 2 c') ∧ Own w' w.heap.size 5 a' 2 c' ((bytesOf 2 m.toNat).map v8) ∧ Below w.heap.size w w' := by
  have := number2_any m.toNat w (by omega)
  rwa [Int.toNat_of_nonneg h0] at this
theorem number4_int (m : Int) (w : World) (h0 : 0 ≤ m) (hm : m < 9223372036854775807) :
    Calls Try.prog 26 #[.int .i64 m, .int .i64 4] w fun e w' => ∃ (a' : Option Addr) (c' : Nat), e = .returned (.slice a' 4 c') ∧ Own w' w.heap.size 5 a' 4 c' ((bytesOf 4 m.toNat).map v8) ∧ Below w.heap.size w w' := by
  have := number4_any m.toNat w (by omega)
  rwa [Int.toNat_of_nonneg h0] at this
set_option maxRecDepth 100000 in
set_option maxHeartbeats 1600000 in
theorem rseal_bad (d a i e c : Int) (p : ByteArray) (w : World) (h : placeB d a i = false ∨ (placeB d a i = true ∧ genB e c = false) ∨ (placeB d a i = true ∧ genB e c = true ∧ 40 < (p.size : Int))) :
    Calls Try.prog 11 #[.agg #[.int .i64 d, .int .i64 a, .int .i64 i], .agg #[.int .i64 e, .int .i64 c], .string p] w fun x w' => x = .returned (.tuple #[.string .empty, .int .i64 1]) ∧ Below w.heap.size w w' := by
  cases hG : genB e c
  all_goals
    rcases h with h | ⟨h, h1⟩ | ⟨h, h1, h2⟩
    all_goals first | (exfalso; rw [hG] at h1; cases h1; done) | skip
    all_goals
      have HP := Lib.hid h
      have HG := Lib.hid hG
      clear h hG
      go_enter Try.func11, Try.ntmps11
      go_wp2_with fail
      refine (rplace_any d a i _).mono ?_
      rintro x w1 ⟨rfl, hb⟩
      rw [HP.out]
      have HN := Lib.hid (show Row w1 (w.heap.size + 1) 25 #[.int .i64 e, .int .i64 c] from ((Row.made _ _ (size1 _ _).symm).below hb (by simp)))
      have HB := Lib.hid (below_call (((Below.refl w.heap.size w).alloc (Nat.le_refl _) _).alloc (by simp) _) hb)
      obtain ⟨g0, g1⟩ := row2 HN.out
      clear hb
      go_wp2_with fail
      refine (right_any e c _).mono ?_
      rintro x w2 ⟨rfl, hb⟩
      rw [HG.out]
      have HB2 := Lib.hid (below_call HB.out hb)
      clear hb
      go_wp2_with fail
      refine bodyPost_ret (v := .tuple #[.string .empty, .int .i64 1]) ?_ rfl ⟨rfl, HB2.out⟩
      rw [results_tmp2 rfl]; rfl
set_option maxRecDepth 100000 in
set_option maxHeartbeats 1600000 in
theorem rseal_ok (d a i e c : Int) (p : ByteArray) (w : World) (h : placeB d a i = true) (h1 : genB e c = true) (h2 : p.size ≤ 40) :
    Calls Try.prog 11 #[.agg #[.int .i64 d, .int .i64 a, .int .i64 i], .agg #[.int .i64 e, .int .i64 c], .string p] w fun x w' => x = .returned (.tuple #[.string (strB (sealOf d.toNat a.toNat i.toNat e.toNat c.toNat p.data.toList)), .int .i64 0]) ∧ Below w.heap.size w w' := by
  obtain ⟨hd1, hd2, ha1, ha2, hi1, hi2⟩ := placeB_iff.1 h
  have hec : 0 ≤ e ∧ e < 4294967296 ∧ 0 ≤ c ∧ c < 4294967296 := by
    simp only [genB, fitG, Bool.and_eq_true, decide_eq_true_eq] at h1; omega
  obtain ⟨he1, he2, hc1, hc2⟩ := hec
  have HP := Lib.hid h
  have HG := Lib.hid h1
  clear h h1
  go_enter Try.func11, Try.ntmps11
  go_wp2_with fail
  refine (rplace_any d a i _).mono ?_
  rintro x w1 ⟨rfl, hb⟩
  rw [HP.out]
  have HN := Lib.hid (show Row w1 (w.heap.size + 1) 25 #[.int .i64 e, .int .i64 c] from ((Row.made _ _ (size1 _ _).symm).below hb (by simp)))
  have HL := Lib.hid (show Row w1 w.heap.size 23 #[.int .i64 d, .int .i64 a, .int .i64 i] from (((Row.new w _ _).alloc _).below hb (by simp; omega)))
  have HB := Lib.hid (below_call (((Below.refl w.heap.size w).alloc (Nat.le_refl _) _).alloc (by simp) _) hb)
  obtain ⟨g0, g1⟩ := row2 HN.out
  clear hb
  go_wp2_with fail
  refine (right_any e c _).mono ?_
  rintro x w2 ⟨rfl, hb⟩
  rw [HG.out]
  have HN := Lib.hid (HN.out.below hb HN.out.lt)
  have HL := Lib.hid (HL.out.below hb HL.out.lt)
  have HB := Lib.hid (below_call HB.out hb)
  clear hb g0 g1
  obtain ⟨g0, g1⟩ := row2 HN.out
  obtain ⟨l0, l1, l2⟩ := row3 HL.out
  have hlt : w.heap.size < w2.heap.size := HL.out.lt
  have hlt2 : w.heap.size + 1 < w2.heap.size := HN.out.lt
  go_wp2_with fail
  have h0 : Own (w2.alloc (.cells #[.int .u8 a, .int .u8 d] 5)) w2.heap.size 5 (some ⟨w2.heap.size, 0, none⟩) 2 2 ([UInt8.ofNat a.toNat, UInt8.ofNat d.toNat].map v8) := by
    have := Own.new w2 w2.heap.size 5 #[.int .u8 a, .int .u8 d] 2 (Nat.le_refl _) rfl (by unfold maxLen; omega)
    rw [List.map_cons, List.map_cons, List.map_nil, v8_int a (by omega) (by omega), v8_int d hd1 (by omega)]; exact this
  have HN2 := Lib.hid hlt2
  have HL2 := Lib.hid hlt
  have HW2 := Lib.hid HB.out.size
  have HS := Lib.hid (show w2.heap.size ≤ (w2.alloc (.cells #[.int .u8 a, .int .u8 d] 5)).heap.size by simp)
  have HN := Lib.hid (HN.out.alloc (.cells #[.int .u8 a, .int .u8 d] 5))
  have HL := Lib.hid (HL.out.alloc (.cells #[.int .u8 a, .int .u8 d] 5))
  have HB := Lib.hid (HB.out.alloc HB.out.size (.cells #[.int .u8 a, .int .u8 d] 5))
  refine (number2_int i _ hi1 (by omega)).mono ?_
  rintro x wn ⟨ak, ck, rfl, hk, hb⟩
  have HK := Lib.hid hk
  have HO := Lib.hid (h0.below hb)
  have HN := Lib.hid (HN.out.below hb (by have := HN2.out; have := HS.out; omega))
  have HL := Lib.hid (HL.out.below hb (by have := HN2.out; have := HS.out; omega))
  have HB := Lib.hid (below_call HB.out hb)
  have HS := Lib.hid (Nat.le_trans HS.out hb.size)
  clear hb hk g0 g1 l0 l1 l2 hlt hlt2
  obtain ⟨g0, g1⟩ := row2 HN.out
  obtain ⟨l0, l1, l2⟩ := row3 HL.out
  have hlt : w.heap.size < wn.heap.size := HL.out.lt
  have hlt2 : w.heap.size + 1 < wn.heap.size := HN.out.lt
  clear h0
  go_wp2_with (refine wpList_app _ rfl _ _ 40 rfl w2.heap.size 5 (.int .u8 0) 1 Try.underlying40 elem_u8 rfl (some ⟨w2.heap.size, 0, none⟩) 2 2 _ rfl HO.out _ ak 2 ck _ rfl HK.out.rd (by simp [bytesOf_len]) (by intro u hu; simp only [List.mem_map] at hu; obtain ⟨x, _, rfl⟩ := hu; rfl) (by unfold maxLen; omega) (by omega) HS.out ?_; intro a3 c3 vv3 ho hg; rw [← List.map_append] at ho; have hb := below_grown (Below.refl w2.heap.size _) hg HO.out HS.out; have HO := Lib.hid (show Own vv3 w2.heap.size 5 a3 4 c3 _ from ho); have HN := Lib.hid (HN.out.below hb HN2.out); have HL := Lib.hid (HL.out.below hb HL2.out); have HB := Lib.hid (HB.out.trans (hb.mono HW2.out)); have HS := Lib.hid (Nat.le_trans HS.out hb.size); clear ho hg hb HK g0 g1 l0 l1 l2 hlt hlt2; obtain ⟨g0, g1⟩ := row2 HN.out; obtain ⟨l0, l1, l2⟩ := row3 HL.out; have hlt : w.heap.size < vv3.heap.size := HL.out.lt; have hlt2 : w.heap.size + 1 < vv3.heap.size := HN.out.lt)
  refine (number4_int e _ he1 (by omega)).mono ?_
  rintro x wn ⟨ak, ck, rfl, hk, hb⟩
  have HK := Lib.hid hk
  have HO := Lib.hid (HO.out.below hb)
  have HN := Lib.hid (HN.out.below hb (by have := HN2.out; have := HS.out; omega))
  have HL := Lib.hid (HL.out.below hb (by have := HN2.out; have := HS.out; omega))
  have HB := Lib.hid (below_call HB.out hb)
  have HS := Lib.hid (Nat.le_trans HS.out hb.size)
  clear hb hk g0 g1 l0 l1 l2 hlt hlt2
  obtain ⟨g0, g1⟩ := row2 HN.out
  obtain ⟨l0, l1, l2⟩ := row3 HL.out
  have hlt : w.heap.size < wn.heap.size := HL.out.lt
  have hlt2 : w.heap.size + 1 < wn.heap.size := HN.out.lt
  go_wp2_with (refine wpList_app _ rfl _ _ 40 rfl w2.heap.size 5 (.int .u8 0) 1 Try.underlying40 elem_u8 rfl a3 4 c3 _ rfl HO.out _ ak 4 ck _ rfl HK.out.rd (by simp [bytesOf_len]) (by intro u hu; simp only [List.mem_map] at hu; obtain ⟨x, _, rfl⟩ := hu; rfl) (by unfold maxLen; omega) (by omega) HS.out ?_; intro a4 c4 vv4 ho hg; rw [← List.map_append] at ho; have hb := below_grown (Below.refl w2.heap.size _) hg HO.out HS.out; have HO := Lib.hid (show Own vv4 w2.heap.size 5 a4 8 c4 _ from ho); have HN := Lib.hid (HN.out.below hb HN2.out); have HL := Lib.hid (HL.out.below hb HL2.out); have HB := Lib.hid (HB.out.trans (hb.mono HW2.out)); have HS := Lib.hid (Nat.le_trans HS.out hb.size); clear ho hg hb HK g0 g1 l0 l1 l2 hlt hlt2; obtain ⟨g0, g1⟩ := row2 HN.out; obtain ⟨l0, l1, l2⟩ := row3 HL.out; have hlt : w.heap.size < vv4.heap.size := HL.out.lt; have hlt2 : w.heap.size + 1 < vv4.heap.size := HN.out.lt)
  refine (number4_int c _ hc1 (by omega)).mono ?_
  rintro x wn ⟨ak, ck, rfl, hk, hb⟩
  have HK := Lib.hid hk
  have HO := Lib.hid (HO.out.below hb)
  have HN := Lib.hid (HN.out.below hb (by have := HN2.out; have := HS.out; omega))
  have HL := Lib.hid (HL.out.below hb (by have := HN2.out; have := HS.out; omega))
  have HB := Lib.hid (below_call HB.out hb)
  have HS := Lib.hid (Nat.le_trans HS.out hb.size)
  clear hb hk g0 g1 l0 l1 l2 hlt hlt2
  obtain ⟨g0, g1⟩ := row2 HN.out
  obtain ⟨l0, l1, l2⟩ := row3 HL.out
  have hlt : w.heap.size < wn.heap.size := HL.out.lt
  have hlt2 : w.heap.size + 1 < wn.heap.size := HN.out.lt
  have H1 := Lib.hid (show Try.prog.underlying 9 = some .string from Try.underlying9)
  have hpl : (p.size : Int) ≤ 40 := by omega
  go_wp2_with (first
    | (refine wpList_app _ rfl _ _ 40 rfl w2.heap.size 5 (.int .u8 0) 1 Try.underlying40 elem_u8 rfl a4 8 c4 _ rfl HO.out _ ak 4 ck _ rfl HK.out.rd (by simp [bytesOf_len]) (by intro u hu; simp only [List.mem_map] at hu; obtain ⟨x, _, rfl⟩ := hu; rfl) (by unfold maxLen; omega) (by omega) HS.out ?_; intro a5 c5 vv5 ho hg; rw [← List.map_append] at ho; have hb := below_grown (Below.refl w2.heap.size _) hg HO.out HS.out; have HO := Lib.hid (show Own vv5 w2.heap.size 5 a5 12 c5 _ from ho); have HN := Lib.hid (HN.out.below hb HN2.out); have HL := Lib.hid (HL.out.below hb HL2.out); have HB := Lib.hid (HB.out.trans (hb.mono HW2.out)); have HS := Lib.hid (Nat.le_trans HS.out hb.size); clear ho hg hb HK g0 g1 l0 l1 l2 hlt hlt2; obtain ⟨g0, g1⟩ := row2 HN.out; obtain ⟨l0, l1, l2⟩ := row3 HL.out; have hlt : w.heap.size < vv5.heap.size := HL.out.lt; have hlt2 : w.heap.size + 1 < vv5.heap.size := HN.out.lt)
    | (refine wpList_apps rfl _ _ 40 9 rfl w2.heap.size 5 Try.underlying40 H1.out elem_u8 a5 12 c5 _ rfl HO.out p rfl (by omega) HS.out ?_; intro a6 c6 vv6 ho hg; have hb := below_grown (Below.refl w2.heap.size _) hg HO.out HS.out; have HO := Lib.hid ho; have HN := Lib.hid (HN.out.below hb HN2.out); have HL := Lib.hid (HL.out.below hb HL2.out); have HB := Lib.hid (HB.out.trans (hb.mono HW2.out)); have HS := Lib.hid (Nat.le_trans HS.out hb.size); clear ho hg hb))
  have hb6 : 12 + p.size ≤ 52 := by omega
  obtain ⟨BS, hBS⟩ : ∃ BS, BS = [UInt8.ofNat a.toNat, UInt8.ofNat d.toNat] ++ bytesOf 2 i.toNat ++ bytesOf 4 e.toNat ++ bytesOf 4 c.toNat ++ p.data.toList := ⟨_, rfl⟩
  rw [← hBS] at HO
  have HBS := Lib.hid hBS
  clear hBS
  go_loopw [10] (fun sv wr => ∃ (k c' : Nat) (a' : Option Addr), 12 + p.size + k ≤ 52 ∧ sv = .slice a' (12 + p.size + k) c' ∧ Own wr w2.heap.size 5 a' (12 + p.size + k) c' ((BS ++ List.replicate k 0).map v8) ∧ Below w2.heap.size vv6 wr) (fun sv _ => 52 - lenV sv)
  case atStart => exact ⟨0, c6, a6, by omega, rfl, by simpa using HO.out, Below.refl _ _⟩
  case round =>
    obtain ⟨k, c', a', hk, rfl, ho, hb⟩ := hrel
    have HX := Lib.hid ho
    have HY := Lib.hid hb
    have HZ := Lib.hid (Nat.le_trans HS.out hb.size)
    clear ho hb
    by_cases hlt : 12 + p.size + k < 52
    · have hd : decide (((12 + p.size + k : Nat) : Int) < 52) = true := by simp; omega
      go_wp2_with (refine wpList_app _ rfl (.tmp 55) (.tmp 56) 40 rfl w2.heap.size 5 (.int .u8 0) 1 Try.underlying40 elem_u8 rfl a' (12 + p.size + k) c' _ rfl (HX.out.alloc _) _ (some ⟨wr.heap.size, 0, none⟩) 1 1 [.int .u8 0] rfl (Rd.one wr _ _) rfl (by intro u hu; simp only [List.mem_singleton] at hu; subst hu; rfl) (by unfold maxLen; omega) (by omega) (by have := HZ.out; simp; omega) ?_; intro a2 c2 wn ho hg; have HO2 := Lib.hid ho; have HB2 := Lib.hid (below_grown2 (HY.out.alloc HZ.out _) hg (HX.out.alloc _) (by have := HZ.out; simp; omega) (Nat.le_refl _)); clear ho hg)
      go_roundw
      case rel => exact ⟨k + 1, c2, a2, by omega, rfl, by have := HO2.out; rw [rep_app]; exact this, HB2.out⟩
      case measure => simp only [lenV]; omega
    · have hd : decide (((12 + p.size + k : Nat) : Int) < 52) = false := by simp; omega
      obtain rfl : k = 40 - p.size := by omega
      have h52 : 12 + p.size + (40 - p.size) = 52 := by omega
      rw [h52] at HX hd ⊢
      have HO := HX
      have HS := HZ
      have HN := Lib.hid (HN.out.below HY.out HN2.out)
      have HB := Lib.hid (HB.out.trans (HY.out.mono HW2.out))
      obtain ⟨g0, g1⟩ := row2 HN.out
      have hlt2 : w.heap.size + 1 < wr.heap.size := HN.out.lt
      go_wp2_with fail
      refine (number4_int e _ he1 (by omega)).mono ?_
      rintro x wn ⟨ak, ck, rfl, hk, hb⟩
      have HK := Lib.hid hk
      have HO := Lib.hid (HO.out.below hb)
      have HN := Lib.hid (HN.out.below hb (by have := HN2.out; have := HS.out; omega))
      have HB := Lib.hid (below_call HB.out hb)
      have HS := Lib.hid (Nat.le_trans HS.out hb.size)
      clear hb hk g0 g1 hlt2
      obtain ⟨g0, g1⟩ := row2 HN.out
      have hlt2 : w.heap.size + 1 < wn.heap.size := HN.out.lt
      go_wp2_with (refine wpList_app _ rfl _ _ 40 rfl w2.heap.size 5 (.int .u8 0) 1 Try.underlying40 elem_u8 rfl a' 52 c' _ rfl HO.out _ ak 4 ck _ rfl HK.out.rd (by simp [bytesOf_len]) (by intro u hu; simp only [List.mem_map] at hu; obtain ⟨x, _, rfl⟩ := hu; rfl) (by unfold maxLen; omega) (by omega) HS.out ?_; intro a8 c8 vv8 ho hg; rw [← List.map_append] at ho; have hb := below_grown (Below.refl w2.heap.size _) hg HO.out HS.out; have HO := Lib.hid (show Own vv8 w2.heap.size 5 a8 56 c8 _ from ho); have HN := Lib.hid (HN.out.below hb HN2.out); have HB := Lib.hid (HB.out.trans (hb.mono HW2.out)); have HS := Lib.hid (Nat.le_trans HS.out hb.size); clear ho hg hb HK g0 g1 hlt2; obtain ⟨g0, g1⟩ := row2 HN.out; have hlt2 : w.heap.size + 1 < vv8.heap.size := HN.out.lt)
      refine (number4_int c _ hc1 (by omega)).mono ?_
      rintro x wn ⟨ak, ck, rfl, hk, hb⟩
      have HK := Lib.hid hk
      have HO := Lib.hid (HO.out.below hb)
      have HN := Lib.hid (HN.out.below hb (by have := HN2.out; have := HS.out; omega))
      have HB := Lib.hid (below_call HB.out hb)
      have HS := Lib.hid (Nat.le_trans HS.out hb.size)
      clear hb hk g0 g1 hlt2
      obtain ⟨g0, g1⟩ := row2 HN.out
      have hlt2 : w.heap.size + 1 < wn.heap.size := HN.out.lt
      go_wp2_with (refine wpList_app _ rfl _ _ 40 rfl w2.heap.size 5 (.int .u8 0) 1 Try.underlying40 elem_u8 rfl a8 56 c8 _ rfl HO.out _ ak 4 ck _ rfl HK.out.rd (by simp [bytesOf_len]) (by intro u hu; simp only [List.mem_map] at hu; obtain ⟨x, _, rfl⟩ := hu; rfl) (by unfold maxLen; omega) (by omega) HS.out ?_; intro a9 c9 vv9 ho hg; rw [← List.map_append] at ho; have hb := below_grown (Below.refl w2.heap.size _) hg HO.out HS.out; have HO := Lib.hid (show Own vv9 w2.heap.size 5 a9 60 c9 _ from ho); have HN := Lib.hid (HN.out.below hb HN2.out); have HB := Lib.hid (HB.out.trans (hb.mono HW2.out)); have HS := Lib.hid (Nat.le_trans HS.out hb.size); clear ho hg hb HK g0 g1 hlt2; obtain ⟨g0, g1⟩ := row2 HN.out; have hlt2 : w.heap.size + 1 < vv9.heap.size := HN.out.lt)
      obtain ⟨BD, hBD⟩ : ∃ BD, BD = bodyOf d.toNat a.toNat i.toNat e.toNat c.toNat p.data.toList := ⟨_, rfl⟩
      have HBD := Lib.hid hBD
      have hPl : p.data.toList.length = p.size := by rw [Array.length_toList]; rfl
      replace HO := Lib.hid (show Own vv9 w2.heap.size 5 a9 60 c9 (BD.map v8) by
        have := HO.out; rw [hBD, bodyOf, hPl, ← HBS.out]; exact this)
      have hbl : BD.length = 60 := by have := HO.out.len; simpa using this
      clear hBD hPl
      refine (rof_any a9 60 c9 vv9.heap.size BD vv9 hbl (by decide) HO.out.rd).mono ?_
      rintro x w10 ⟨rfl, rfl⟩
      rw [v32]
      have hcl := (Crc.crc BD).isLt
      have hk1 : IntKind.i64.wrap ((Crc.crc BD).toNat : Int) = ((Crc.crc BD).toNat : Int) := IntWalk.i64_in _ (by omega)
      go_wp2_with fail
      refine (number4_any (Crc.crc BD).toNat vv9 (by omega)).mono ?_
      rintro x w11 ⟨a11, c11, rfl, hk, hb⟩
      have hcv1 := conv_str w11 40 9 5 a11 4 c11 _ Try.underlying40 Try.underlying5 H1.out hk.rd (by simp [bytesOf_len]) (by omega)
      have hcv2 := conv_str w11 40 9 5 a9 60 c9 _ Try.underlying40 Try.underlying5 H1.out (HO.out.below hb).rd hbl (by omega)
      have HB := Lib.hid (below_call HB.out hb)
      have hz1 : (strB (bytesOf 4 (Crc.crc BD).toNat)).size = 4 := by rw [strB_size, bytesOf_len]
      have hz2 : (strB BD).size = 60 := by rw [strB_size, hbl]
      clear hk hb hcl g0 g1
      go_wp2_with fail
      refine bodyPost_ret (v := .tuple #[.string (strB (sealOf d.toNat a.toNat i.toNat e.toNat c.toNat p.data.toList)), .int .i64 0]) ?_ rfl ⟨rfl, HB.out⟩
      rw [results_tmp2 rfl]
      have hfin : strB (sealOf d.toNat a.toNat i.toNat e.toNat c.toNat p.data.toList) = strB (bytesOf 4 (Crc.crc BD).toNat) ++ strB BD := by rw [sealOf, ← HBD.out, strB_app]
      rw [hfin]
      rfl
end Go.Proofs.Ytdkkoogcaininaa
