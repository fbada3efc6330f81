/- Sector: Seal. -/
import Derived.Test.YtdkkoogcaininaaS8
import Derived.Test.YtdkkoogcaininaaCrcRf
import Derived.Test.YtdkkoogcaininaaAppZ
import Derived.Deep.RegionHeld3
import Derived.Lib.AppendStr
namespace Go.Proofs.Ytdkkoogcaininaa
set_option linter.unusedSimpArgs false
set_option linter.unusedVariables false
open Go.RowKit Go.Lib

theorem row3 {w1 : World} {g : Nat} {x0 x1 x2 : Value} {t : TypeId} (hr : Row w1 g t #[x0, x1, x2]) :
    w1.cell? ⟨g, 0, none⟩ = some x0 ∧ w1.cell? ⟨g, 1, none⟩ = some x1 ∧ w1.cell? ⟨g, 2, none⟩ = some x2 := ⟨hr.cell 0, hr.cell 1, hr.cell 2⟩
theorem row2 {w1 : World} {g : Nat} {x0 x1 : Value} {t : TypeId} (hr : Row w1 g t #[x0, x1]) :
    w1.cell? ⟨g, 0, none⟩ = some x0 ∧ w1.cell? ⟨g, 1, none⟩ = some x1 := ⟨hr.cell 0, hr.cell 1⟩
set_option maxRecDepth 100000 in
set_option maxHeartbeats 1600000 in
theorem seal_bad (d a i e c : Int) (p : ByteArray) (w : World) (h : placeB d a i = false ∨ (placeB d a i = true ∧ genB e c = false) ∨ (placeB d a i = true ∧ genB e c = true ∧ 40 < (p.size : Int))) :
    Calls Try.prog 10 #[.agg #[.int .i64 d, .int .i64 a, .int .i64 i], .agg #[.int .i64 e, .int .i64 c], .string p] w fun x w' => x = .returned (.tuple #[.string .empty, .int .i64 1]) ∧ Below w.heap.size w w' := by
  rcases h with h | ⟨h, h1⟩ | ⟨h, h1, h2⟩
  all_goals
    have HP := Lib.hid h
    clear h
    (try have HG := Lib.hid h1; clear h1)
    go_enter Try.func10, Try.ntmps10
    go_wp2_with fail
    refine (splace_any d a i _).mono ?_
    rintro x w1 ⟨rfl, hb⟩
    rw [HP.out]
    have HN := Lib.hid (show Row w1 (w.heap.size + 1) 25 #[.int .i64 e, .int .i64 c] from ((Row.made _ _ (size1 _ _).symm).below hb (by simp)))
    have HB := Lib.hid (below_call (((Below.refl w.heap.size w).alloc (Nat.le_refl _) _).alloc (by simp) _) hb)
    obtain ⟨g0, g1⟩ := row2 HN.out
    clear hb
    go_wp2_with (first | (go_at_call 21; ((with_reducible refine (vgen_any e c _).mono ?_)); rintro x w2 ⟨rfl, hb⟩; rw [HG.out]; have HB2 := Lib.hid (below_call HB.out hb); clear hb))
    refine bodyPost_ret (v := .tuple #[.string .empty, .int .i64 1]) ?_ rfl ⟨rfl, by first | exact HB2.out | exact HB.out⟩
    rw [results_tmp2 rfl]; rfl
theorem Own.drew {w : World} {B : Nat} {e : TypeId} {a : Option Addr} {n c : Nat} {xs : List Value} (h : Own w B e a n c xs) : Own w.drew B e a n c xs := h
theorem strCells_v8 (s : ByteArray) : strCells s = s.data.toList.map v8 := rfl
theorem wpList_apps {P : Program} {w : World} {ops : Array Oper} {rest : List Oper} {o : Oper} {act : Act} {Q : Exit → Act → World → Prop} (hgd : o.guard = none) (sl x : Operand) (t u : TypeId)
    (ho : o.op = .call { callee := .builtin .append, args := #[sl, x], argTypes := #[t, u] })
    (B : Nat) (e : TypeId) (ht : P.underlying t = some (.slice e)) (hu : P.underlying u = some .string) (he : Elem P e (.int .u8 0) 1)
    (a : Option Addr) (n c : Nat) (bs : List UInt8) (hs : act.eval sl = .slice a n c) (hown : Own w B e a n c (bs.map v8)) (s : ByteArray) (hx : act.eval x = .string s)
    (h63 : n + s.size ≤ 140737488355328) (hbase : B ≤ w.heap.size)
    (h : ∀ a' c' w', Own w' B e a' (n + s.size) c' ((bs ++ s.data.toList).map v8) → w.grownBy w' (Value.slice a n c).ownBlock → wpList P ops Q rest (act.put o.dst (.slice a' (n + s.size) c')) w') : wpList P ops Q (o :: rest) act w := by
  obtain ⟨i, hi, hz0, hz1, hz2⟩ := info_parts he
  refine wpList_append_own_string w hgd sl x t u ho B e i ht hu hi hz0 hz1 hz2 (.slice a n c) n (bs.map v8) hs hown s hx (by unfold maxLen; omega) h63 hbase fun v' w' hw' hg _ => ?_
  rw [strCells_v8, ← List.map_append] at hw'
  rcases hw'.2 with ⟨rfl, hn⟩ | ⟨g, cap, cur, rfl, hr⟩
  · have := h none 0 w' (by rw [hn] at hw' ⊢; exact hw') hg
    rwa [hn] at this
  · exact h (some ⟨g, 0, none⟩) cap w' hw' hg
/-- a sector behind its checksum; a sector -/
def bodyOf (d a i e c : Nat) (p : List UInt8) : List UInt8 := [UInt8.ofNat a, UInt8.ofNat d] ++ bytesOf 2 i ++ bytesOf 4 e ++ bytesOf 4 c ++ p ++ List.replicate (40 - p.length) 0 ++ bytesOf 4 e ++ bytesOf 4 c
def sealOf (d a i e c : Nat) (p : List UInt8) : List UInt8 := bytesOf 4 (Crc.crc (bodyOf d a i e c p)).toNat ++ bodyOf d a i e c p
theorem v8_int (n : Int) (h0 : 0 ≤ n) (h : n < 256) : v8 (UInt8.ofNat n.toNat) = .int .u8 n := by
  rw [v8, UInt8.toNat_ofNat', Nat.mod_eq_of_lt (by omega)]; congr 1; omega
theorem put16_int (B : Nat) (a : Option Addr) (n c : Nat) (bs : List UInt8) (m : Int) (w : World) (h0 : 0 ≤ m) (hm : m < 65536) (hn : n ≤ 1000) (hB : B ≤ w.heap.size) (ho : Own w B 5 a n c (bs.map v8)) :
    Calls Try.prog 22 #[.slice a n c, .int .u16 m] w fun e w' => ∃ (a' : Option Addr) (c' : Nat), e = .returned (.slice a' (n + 2) c') ∧ Own w' B 5 a' (n + 2) c' ((bs ++ bytesOf 2 m.toNat).map v8) ∧ Below B w w' := by
  have := put16_any B a n c bs m.toNat w (by omega) hn hB ho
  rwa [Int.toNat_of_nonneg h0] at this
theorem put32_int (B : Nat) (a : Option Addr) (n c : Nat) (bs : List UInt8) (m : Int) (w : World) (h0 : 0 ≤ m) (hm : m < 4294967296) (hn : n ≤ 1000) (hB : B ≤ w.heap.size) (ho : Own w B 5 a n c (bs.map v8)) :
    Calls Try.prog 23 #[.slice a n c, .int .u32 m] w fun e w' => ∃ (a' : Option Addr) (c' : Nat), e = .returned (.slice a' (n + 4) c') ∧ Own w' B 5 a' (n + 4) c' ((bs ++ bytesOf 4 m.toNat).map v8) ∧ Below B w w' := by
  have := put32_any B a n c bs m.toNat w (by omega) hn hB ho
  rwa [Int.toNat_of_nonneg h0] at this
theorem v8_nat (n : Nat) (h : n < 256) : v8 (UInt8.ofNat n) = .int .u8 (n : Int) := by
  rw [v8, UInt8.toNat_ofNat', Nat.mod_eq_of_lt h]
set_option maxRecDepth 100000 in
set_option maxHeartbeats 1600000 in
theorem seal_ok (d a i e c : Int) (p : ByteArray) (w : World) (h : placeB d a i = true) (h1 : genB e c = true) (h2 : p.size ≤ 40) :
    Calls Try.prog 10 #[.agg #[.int .i64 d, .int .i64 a, .int .i64 i], .agg #[.int .i64 e, .int .i64 c], .string p] w fun x w' => x = .returned (.tuple #[.string (strB (sealOf d.toNat a.toNat i.toNat e.toNat c.toNat p.data.toList)), .int .i64 0]) ∧ Below w.heap.size w w' := by
  obtain ⟨hd1, hd2, ha1, ha2, hi1, hi2⟩ := placeB_iff.1 h
  have hec : 0 ≤ e ∧ e < 4294967296 ∧ 0 ≤ c ∧ c < 4294967296 := by
    simp only [genB, fitG, Bool.and_eq_true, decide_eq_true_eq] at h1; omega
  obtain ⟨he1, he2, hc1, hc2⟩ := hec
  have HP := Lib.hid h
  have HG := Lib.hid h1
  clear h h1
  go_enter Try.func10, Try.ntmps10
  go_wp2_with fail
  refine (splace_any d a i _).mono ?_
  rintro x w1 ⟨rfl, hb⟩
  rw [HP.out]
  have HN := Lib.hid (show Row w1 (w.heap.size + 1) 25 #[.int .i64 e, .int .i64 c] from ((Row.made _ _ (size1 _ _).symm).below hb (by simp)))
  have HL := Lib.hid (show Row w1 w.heap.size 23 #[.int .i64 d, .int .i64 a, .int .i64 i] from (((Row.new w _ _).alloc _).below hb (by simp; omega)))
  have HB := Lib.hid (below_call (((Below.refl w.heap.size w).alloc (Nat.le_refl _) _).alloc (by simp) _) hb)
  obtain ⟨g0, g1⟩ := row2 HN.out
  clear hb
  go_wp2_with fail
  refine (vgen_any e c _).mono ?_
  rintro x w2 ⟨rfl, hb⟩
  rw [HG.out]
  have HN := Lib.hid (HN.out.below hb HN.out.lt)
  have HL := Lib.hid (HL.out.below hb HL.out.lt)
  have HB := Lib.hid (below_call HB.out hb)
  clear hb g0 g1
  obtain ⟨g0, g1⟩ := row2 HN.out
  obtain ⟨l0, l1, l2⟩ := row3 HL.out
  have hlt : w.heap.size < w2.heap.size := HL.out.lt
  have hlt2 : w.heap.size + 1 < w2.heap.size := HN.out.lt
  go_wp2_with fail
  have h0 : Own (w2.alloc (.cells #[.int .u8 a, .int .u8 d] 5)) w2.heap.size 5 (some ⟨w2.heap.size, 0, none⟩) 2 2 ([UInt8.ofNat a.toNat, UInt8.ofNat d.toNat].map v8) := by
    have := Own.new w2 w2.heap.size 5 #[.int .u8 a, .int .u8 d] 2 (Nat.le_refl _) rfl (by unfold maxLen; omega)
    rw [List.map_cons, List.map_cons, List.map_nil, v8_int a (by omega) (by omega), v8_int d hd1 (by omega)]; exact this
  refine (put16_int w2.heap.size _ 2 2 _ i _ hi1 (by omega) (by omega) (by simp) h0).mono ?_
  rintro x w3 ⟨a3, c3, rfl, ho, hb⟩
  have HO := Lib.hid (show Own w3 w2.heap.size 5 a3 4 c3 _ from ho)
  have HN2 := Lib.hid hlt2
  have HL2 := Lib.hid hlt
  have HW2 := Lib.hid HB.out.size
  have HN := Lib.hid ((HN.out.alloc _).below hb HN.out.lt)
  have HL := Lib.hid ((HL.out.alloc _).below hb HL.out.lt)
  have HB := Lib.hid ((HB.out.alloc HB.out.size _).trans (hb.mono HB.out.size))
  have HS := Lib.hid (show w2.heap.size ≤ w3.heap.size by have := hb.size; simp at this; omega)
  clear hb g0 g1 l0 l1 l2 h0 ho hlt hlt2
  obtain ⟨g0, g1⟩ := row2 HN.out
  have hlt2 : w.heap.size + 1 < w3.heap.size := HN.out.lt
  go_wp2_with fail
  have H0 := row2 HN.out
  have HOd := Lib.hid (show Own w3.drew w2.heap.size 5 a3 4 c3 _ from HO.out)
  have HSd := Lib.hid (show w2.heap.size ≤ w3.drew.heap.size from HS.out)
  have hwe : IntKind.u32.wrap e = e := by rw [IntKind.wrap_u32]; omega
  have hwc : IntKind.u32.wrap c = c := by rw [IntKind.wrap_u32]; omega
  go_region_held3 (fun w' => w'.cell? ⟨w.heap.size + 1, 0, none⟩ = some (.int .i64 e) ∧ w'.cell? ⟨w.heap.size + 1, 1, none⟩ = some (.int .i64 c)) (first | exact HS0 | exact H0) (first
    | (go_at_call 23; ((with_reducible refine (put32_int w2.heap.size a3 4 c3 _ e _ he1 he2 (by omega) HSd.out HOd.out).mono ?_)); rintro x w4 ⟨a4, c4, rfl, ho, hb⟩; replace hb := undrew hb; have HO := Lib.hid (show Own w4 w2.heap.size 5 a4 8 c4 _ from ho); have HN := Lib.hid (HN.out.below hb HN2.out); have HL := Lib.hid (HL.out.below hb HL2.out); have HB := Lib.hid (HB.out.trans (hb.mono HW2.out)); have HS := Lib.hid (Nat.le_trans HS.out hb.size); have HS0 := row2 HN.out; clear ho hb)
    | (go_at_call 23; ((with_reducible refine (put32_int w2.heap.size _ _ _ _ c _ hc1 hc2 (by omega) HS.out HO.out).mono ?_)); rintro x w5 ⟨a5, c5, rfl, ho, hb⟩; have HO := Lib.hid (show Own w5 w2.heap.size 5 a5 12 c5 _ from ho); have HN := Lib.hid (HN.out.below hb HN2.out); have HL := Lib.hid (HL.out.below hb HL2.out); have HB := Lib.hid (HB.out.trans (hb.mono HW2.out)); have HS := Lib.hid (Nat.le_trans HS.out hb.size); have HS0 := row2 HN.out; clear ho hb))
  obtain ⟨PB, hPB⟩ : ∃ PB, PB = p.data.toList := ⟨_, rfl⟩
  have HPB := Lib.hid hPB
  have hpl : (p.size : Int) ≤ 40 := by omega
  have H1 := Lib.hid (show Try.prog.underlying 9 = some .string from Try.underlying9)
  have H2 := Lib.hid (show Try.prog.underlying 3 = some (.int .i64) from Try.underlying3)
  clear hPB
  go_wp2_with (first
    | (refine wpList_apps rfl (.tmp 42) (.tmp 43) 40 9 rfl w2.heap.size 5 Try.underlying40 H1.out elem_u8 a5 12 c5 _ rfl HO.out p rfl (by omega) HS.out ?_; intro a6 c6 w6 ho hg; rw [← HPB.out] at ho; have HO6 := Lib.hid ho; have hb := below_grown (Below.refl w2.heap.size w5) hg HO.out HS.out; have HN := Lib.hid (HN.out.below hb HN2.out); have HL := Lib.hid (HL.out.below hb HL2.out); have HB := Lib.hid (HB.out.trans (hb.mono HW2.out)); have HS6 := Lib.hid (Nat.le_trans HS.out hb.size); clear ho hg hb HS0 HO)
    | (refine wpList_appz rfl _ _ 40 3 9 rfl w2.heap.size 5 Try.underlying40 H2.out H1.out elem_u8 a6 (12 + p.size) c6 _ rfl HO6.out (40 - p.size) (congrArg (Value.int .i64) (show (40 - (p.size : Int)) = ((40 - p.size : Nat) : Int) by omega)) (by omega) (by omega) HS6.out ?_; intro a7 c7 w7 ho hg; have HO7 := Lib.hid ho; have hb := below_grown (Below.refl w2.heap.size w6) hg HO6.out HS6.out; have HN := Lib.hid (HN.out.below hb HN2.out); have HL := Lib.hid (HL.out.below hb HL2.out); have HB := Lib.hid (HB.out.trans (hb.mono HW2.out)); have HS7 := Lib.hid (Nat.le_trans HS6.out hb.size); clear ho hg hb))
  have h52 : 12 + p.size + (40 - p.size) = 52 := by omega
  rw [h52] at HO7 ⊢
  have H0 := row2 HN.out
  have HOd := Lib.hid (show Own w7.drew w2.heap.size 5 a7 52 c7 _ from HO7.out)
  have HSd := Lib.hid (show w2.heap.size ≤ w7.drew.heap.size from HS7.out)
  clear HO7 HO6 h52
  go_region_held3 (fun w' => w'.cell? ⟨w.heap.size + 1, 0, none⟩ = some (.int .i64 e) ∧ w'.cell? ⟨w.heap.size + 1, 1, none⟩ = some (.int .i64 c)) (first | exact HS0 | exact H0) (first
    | (go_at_call 23; ((with_reducible refine (put32_int w2.heap.size a7 52 c7 _ e _ he1 he2 (by omega) HSd.out HOd.out).mono ?_)); rintro x w8 ⟨a8, c8, rfl, ho, hb⟩; replace hb := undrew hb; have HO8 := Lib.hid (show Own w8 w2.heap.size 5 a8 56 c8 _ from ho); have HN := Lib.hid (HN.out.below hb HN2.out); have HL := Lib.hid (HL.out.below hb HL2.out); have HB := Lib.hid (HB.out.trans (hb.mono HW2.out)); have HS8 := Lib.hid (Nat.le_trans HS7.out hb.size); have HS0 := row2 HN.out; clear ho hb)
    | (go_at_call 23; ((with_reducible refine (put32_int w2.heap.size a8 56 c8 _ c _ hc1 hc2 (by omega) HS8.out HO8.out).mono ?_)); rintro x w9 ⟨a9, c9, rfl, ho, hb⟩; have HO9 := Lib.hid (show Own w9 w2.heap.size 5 a9 60 c9 _ from ho); have HN := Lib.hid (HN.out.below hb HN2.out); have HL := Lib.hid (HL.out.below hb HL2.out); have HB := Lib.hid (HB.out.trans (hb.mono HW2.out)); have HS9 := Lib.hid (Nat.le_trans HS8.out hb.size); have HS0 := row2 HN.out; clear ho hb))
  go_wp2_with fail
  obtain ⟨BD, hBD⟩ : ∃ BD, BD = bodyOf d.toNat a.toNat i.toNat e.toNat c.toNat PB := ⟨_, rfl⟩
  have HBD := Lib.hid hBD
  have hPl : PB.length = p.size := by rw [HPB.out, Array.length_toList]; rfl
  replace HO9 := Lib.hid (show Own w9 w2.heap.size 5 a9 60 c9 (BD.map v8) by
    have := HO9.out; rw [hBD, bodyOf, hPl]; exact this)
  have hbl : BD.length = 60 := by have := HO9.out.len; simpa using this
  clear HO8 HSd HOd hBD H0 HS0
  refine (of_any a9 60 c9 w9.heap.size BD w9 hbl (by decide) (Nat.le_refl _) HO9.out.rd).mono ?_
  rintro x w10 ⟨rfl, hb⟩
  have HO := Lib.hid (HO9.out.below hb)
  have HB := Lib.hid (below_call HB.out hb)
  have HB10 := Lib.hid HB.out
  clear hb
  go_wp2_with fail
  have hcl := (Crc.crc BD).isLt
  refine (put32_any w10.heap.size none 0 0 [] (Crc.crc BD).toNat w10 hcl (by omega) (Nat.le_refl _) (Own.nil _ _ _)).mono ?_
  rintro x w11 ⟨a11, c11, rfl, ho, hb⟩
  have HK := Lib.hid (show Own w11 w10.heap.size 5 a11 4 c11 ((bytesOf 4 (Crc.crc BD).toNat).map v8) from ho)
  have HO := Lib.hid (HO.out.below hb)
  have HB := Lib.hid (below_call HB.out hb)
  have HS11 := Lib.hid hb.size
  clear hb ho hcl
  have hHB := HB10.out.size
  go_wp2_with (refine wpList_app _ rfl (.tmp 61) (.tmp 62) 40 rfl w10.heap.size 5 (.int .u8 0) 1 Try.underlying40 elem_u8 rfl a11 4 c11 _ rfl HK.out w11.heap.size a9 60 c9 (BD.map v8) rfl HO.out.rd (by simp [hbl]) (by intro u hu; simp only [List.mem_map] at hu; obtain ⟨x, _, rfl⟩ := hu; rfl) (by unfold maxLen; omega) (by omega) HS11.out ?_; intro a12 c12 w12 ho hg; rw [← List.map_append] at ho; have hcv := conv_str w12 40 9 5 a12 64 c12 _ Try.underlying40 Try.underlying5 H1.out ho.rd (by simp [hbl, bytesOf_len]) (by omega); have HB := Lib.hid (below_grown2 HB.out hg HK.out HB.out.size hHB); clear ho hg)
  refine bodyPost_ret (v := .tuple #[.string (strB (sealOf d.toNat a.toNat i.toNat e.toNat c.toNat p.data.toList)), .int .i64 0]) ?_ rfl ⟨rfl, HB.out⟩
  rw [results_tmp2 rfl]
  have hfin : sealOf d.toNat a.toNat i.toNat e.toNat c.toNat p.data.toList = bytesOf 4 (Crc.crc BD).toNat ++ BD := by rw [sealOf, ← HPB.out, HBD.out]
  rw [hfin]
  rfl
end Go.Proofs.Ytdkkoogcaininaa
