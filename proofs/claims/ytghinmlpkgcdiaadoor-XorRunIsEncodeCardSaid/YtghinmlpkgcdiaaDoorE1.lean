/- Fields: the linear combination of strings, as the program makes it. -/
import Derived.Test.YtghinmlpkgcdiaaDoorXQ
import Derived.Test.YtghinmlpkgcdiaaDoorG10
import Derived.Test.YtghinmlpkgcdiaaDoorRF
import Derived.Test.YtghinmlpkgcdiaaDoorFldL
import Derived.Shelf.Abstract
import Derived.Shelf.RegionOpen
import Derived.WalkKit
import Derived.OwnWalkIn
import Derived.TacticsInMore
import Derived.LoopNIn
import Derived.LoopIn
/-! Fields: the iterator over the symbols of a string keeps its contract. -/
namespace Go.Proofs.YtghinmlpkgcdiaaDoor
set_option linter.unusedSimpArgs false
set_option linter.unusedVariables false
open Go.RowKit Go.Shelf Go.Lib
attribute [local go_sem] Oper.semAt_some

/-- the number that the first j bytes from I on make -/
def bigV (l : List UInt8) (I : Nat) : Nat → Nat
  | 0 => 0
  | j + 1 => 256 * bigV l I j + (l[I + j]?.getD 0).toNat
theorem bigV_sym {m : Nat} (hm : Fld.IsM m) (l : List UInt8) (I : Nat) : bigV l I (Fld.size m) = Fld.symAt m l I := by
  rcases hm with rfl | rfl
  · show bigV l I 1 = _
    simp [bigV, Fld.symAt]
  · show bigV l I 2 = _
    simp [bigV, Fld.symAt]
theorem i64_or_byte (x : Nat) (b : UInt8) (hx : x < 1099511627776) : bits .or .i64 ((x : Int) * 256) (b.toNat : Int) = ((256 * x + b.toNat : Nat) : Int) := by
  have hb := b.toNat_lt
  have e1 : ((x : Int) * 256) = ((x * 256 : Nat) : Int) := by simp
  rw [e1]
  show IntKind.i64.wrap ((BitVec.ofInt 64 ((x * 256 : Nat) : Int) ||| BitVec.ofInt 64 (b.toNat : Int)).toNat : Int) = _
  rw [BitVec.toNat_or, ofInt64 _ (by omega), ofInt64 _ (by omega), IntKind.wrap_i64]
  have : x * 256 ||| b.toNat = x * 256 + b.toNat := by
    have := Nat.shiftLeft_add_eq_or_of_lt (b := b.toNat) (i := 8) (by omega) x
    rw [Nat.shiftLeft_eq] at this
    exact this.symm
  rw [this]
  omega
theorem bigV_lt (l : List UInt8) (I : Nat) : ∀ j, j ≤ 2 → bigV l I j < 65536
  | 0, _ => by simp [bigV]
  | 1, _ => by have := (l[I]?.getD 0).toNat_lt; simp [bigV]; omega
  | 2, _ => by have := (l[I]?.getD 0).toNat_lt; have := (l[I + 1]?.getD 0).toNat_lt; simp [bigV]; omega
  | n + 3, h => by omega
theorem extract_get (u : ByteArray) (I S j : Nat) (hj : j < S) (h : I + S ≤ u.size) : (u.extract I (I + S)).data.toList[j]?.getD 0 = u.data.toList[I + j]?.getD 0 := by
  rw [ByteArray.data_extract, Array.toList_extract, List.getElem?_take_of_lt (by omega), List.getElem?_drop]
set_option maxRecDepth 100000 in
set_option maxHeartbeats 2000000 in
theorem sym_gives (m : Nat) (hm : Fld.IsM m) (u : ByteArray) (Bm Bu : Nat) (w : World) (h1 : Row w Bm 3 #[.int .i64 (m : Int)]) (h2 : Row w Bu 9 #[.string u]) (hs : u.size ≤ 100000000) :
    Gives Tryd.prog 95 #[.pointer (some ⟨Bm, 0, none⟩), .pointer (some ⟨Bu, 0, none⟩)] (fun p : Nat × Nat => #[Value.int .i64 (p.1 : Int), .int .i64 (p.2 : Int)]) (fun k => k = Bm ∨ k = Bu) (Fld.syms m u.data.toList) w := fun l X J Jx W hW hX hN hJ hJx hY h0 => by
  have h1' := h1.below hW h1.lt
  have h2' := h2.below hW h2.lt
  have hc1 : W.cell? ⟨Bm, 0, none⟩ = some (.int .i64 (m : Int)) := h1'.cell 0
  have H1 := Lib.hid h1'
  have H2 := Lib.hid h2'
  obtain ⟨S, hS⟩ : ∃ S, Fld.size m = S := ⟨_, rfl⟩
  have hSi : (m : Int) / 8 = (S : Int) := by rw [← hS]; unfold Fld.size; omega
  have hS2 : 0 < S ∧ S ≤ 2 := by rw [← hS]; rcases hm with rfl | rfl <;> decide
  obtain ⟨hS0, hS2⟩ := hS2
  have HS := Lib.hid hS
  have HM := Lib.hid hm
  have HY := Lib.hid hY
  have HJ := Lib.hid hJ
  have HN := Lib.hid hN
  have HLD := Lib.hid (len_data u)
  clear h1 h2 h1' h2' hS hm hY hJ hN
  refine callsIn_of_wp Tryd.func95 rfl trivial ?_ rfl
  simp only [Tryd.ntmps95, List.size_toArray, List.length_cons, List.length_nil, Nat.reduceAdd, Nat.reduceSub, Array.replicate_succ, Array.replicate_zero, List.push_toArray, List.append_toArray, List.nil_append, List.cons_append]
  gi_wp2
  gi_loopw [5] (fun i wr => ∃ k I : Nat, k ≤ u.size / S ∧ I = k * S ∧ i = .int .i64 I ∧ J ((Fld.syms m u.data.toList).take k) wr ∧ Row wr Bm 3 #[.int .i64 (m : Int)] ∧ Row wr Bu 9 #[.string u] ∧ W.heap.size ≤ wr.heap.size) (fun i _ => u.size + 1 - (intOf i).toNat)
  case atStart => exact ⟨0, 0, Nat.zero_le _, by omega, rfl, h0, H1.out, H2.out, Nat.le_refl _⟩
  case round =>
    obtain ⟨k, I, hk, hI, rfl, hj, hr1, hr2, hsz⟩ := hrel
    have hcu : wr.cell? ⟨Bu, 0, none⟩ = some (.string u) := hr2.cell 0
    have HI := Lib.hid hI
    have HR1 := Lib.hid hr1
    have HR2 := Lib.hid hr2
    have HJ2 := Lib.hid hj
    have hle : I ≤ u.size := by rw [hI]; exact Nat.le_trans (Nat.mul_le_mul_right S hk) (Nat.div_mul_le_self _ _)
    by_cases hlt : k < u.size / S
    · have hIS : I + S ≤ u.size := by
        rw [hI]
        have := Nat.mul_le_mul_right S (show k + 1 ≤ u.size / S from hlt)
        rw [Nat.add_mul, Nat.one_mul] at this
        exact Nat.le_trans this (Nat.div_mul_le_self _ _)
      clear hr1 hr2 hj hI
      have hd : decide ((I : Int) + (S : Int) ≤ (u.size : Int)) = true := by simp; omega
      obtain ⟨cB, wB, hcv, hbB, hB⟩ := conv_bytes wr (u.extract I (I + S))
      have HB := Lib.hid hbB
      have HR := Lib.hid hB
      clear hbB hB
      have hsl : ∀ w, (Instr.slice 9 (.string u) (some (.int .i64 (I : Int))) (some (.int .i64 ((I : Int) + (S : Int)))) none).run Tryd.prog w = .ok (.string (u.extract I (I + S))) w := fun w => by
        rw [run_slice_string w 9 u .i64 .i64 (I : Int) ((I : Int) + (S : Int)) Tryd.underlying9 (by omega) (by omega) (by omega)]
        congr 2
      have hxs : (u.extract I (I + S)).size = S := by rw [ByteArray.size_extract]; omega
      obtain ⟨E, hE⟩ : ∃ E, u.extract I (I + S) = E := ⟨_, rfl⟩
      have HE := Lib.hid hE
      rw [hE] at hcv hsl hxs HR
      have HXS := Lib.hid hxs
      have HEG := Lib.hid (fun j (hj : j < S) => (show E.data.toList[j]?.getD 0 = u.data.toList[I + j]?.getD 0 by rw [← hE]; exact extract_get u I S j hj hIS))
      clear hE
      gi_wp2
      gi_loop [6, 28] (fun x i => ∃ j : Nat, j ≤ S ∧ i = .int .i64 j ∧ x = .int .i64 (bigV u.data.toList I j : Int)) (fun _ i => S - (intOf i).toNat)
      case atStart => exact ⟨0, Nat.zero_le _, rfl, rfl⟩
      case round =>
        obtain ⟨j, hj, rfl, rfl⟩ := hrel
        by_cases hjl : j < S
        · obtain ⟨hc, hf⟩ := HR.out.cell (k := j) (by rw [len_data, HXS.out]; exact hjl)
          rw [HEG.out j hjl] at hc
          obtain ⟨b, hb⟩ : ∃ b, u.data.toList[I + j]?.getD 0 = b := ⟨_, rfl⟩
          have HV := Lib.hid (show bigV u.data.toList I (j + 1) = 256 * bigV u.data.toList I j + b.toNat by rw [← hb]; rfl)
          rw [hb] at hc
          have hV := bigV_lt u.data.toList I j (by omega)
          obtain ⟨V, hVe⟩ : ∃ V, bigV u.data.toList I j = V := ⟨_, rfl⟩
          rw [hVe] at HV hV ⊢
          have HOR := Lib.hid (i64_or_byte V b (by omega))
          have hbb : (b.toNat : Int) ≤ 255 := by have := b.toNat_lt; omega
          have hd : decide (j < S) = true := by simp; omega
          clear hb hf hVe
          gi_wp2
          go_round
          case rel => exact ⟨j + 1, by omega, by go_num, by rw [HV.out]; exact congrArg (Value.int .i64) HOR.out⟩
          case measure => simp [intOf]; omega
        · have hjS : j = S := by omega
          subst hjS
          obtain ⟨V, hVe⟩ : ∃ V, bigV u.data.toList I j = V := ⟨_, rfl⟩
          have hp : (Fld.syms m u.data.toList).take k ++ [(I, V)] <+: Fld.syms m u.data.toList := by
            have h1 := Fld.syms_take m u.data.toList (k := k) (by rw [HLD.out, HS.out]; exact hlt)
            rw [HS.out, ← HI.out, ← bigV_sym HM.out, HS.out, hVe] at h1
            rw [← h1]; exact List.take_prefix _ _
          have HP := Lib.hid hp
          have HT := Lib.hid (show (Fld.syms m u.data.toList).take (k + 1) = (Fld.syms m u.data.toList).take k ++ [(I, V)] by
            have h1 := Fld.syms_take m u.data.toList (k := k) (by rw [HLD.out, HS.out]; exact hlt)
            rw [HS.out, ← HI.out, ← bigV_sym HM.out, HS.out, hVe] at h1
            exact h1)
          obtain ⟨fn, tmps, assign, body, hy, hR⟩ := HY.out _ _ wB HP.out (Nat.le_trans hsz HB.out.size) (HJ.out _ _ _ hsz HJ2.out (HB.out.mono hsz))
          have HRR := Lib.hid hR
          rw [hVe]
          have hd : decide (j < j) = false := by simp
          clear hR hp hVe
          gi_wp2
          refine (HRR.out _).mono ?_
          rintro e W3 ⟨ho, (⟨rfl, hJ3⟩ | ⟨rfl, hJx3⟩)⟩
          · have hW3 : W.heap.size ≤ W3.heap.size := Nat.le_trans hsz (Nat.le_trans HB.out.size ho.size)
            have HR13 := Lib.hid (ho.row (HR1.out.below HB.out HR1.out.lt) (HN.out Bm (.inl rfl)))
            have HR23 := Lib.hid (ho.row (HR2.out.below HB.out HR2.out.lt) (HN.out Bu (.inr rfl)))
            have hc3 : W3.cell? ⟨Bm, 0, none⟩ = some (.int .i64 (m : Int)) := HR13.out.cell 0
            have HJ3 := Lib.hid (show J ((Fld.syms m u.data.toList).take (k + 1)) W3 by rw [HT.out]; exact hJ3)
            clear ho hJ3 hy hc1
            gi_wp2
            go_roundw
            case rel => exact ⟨k + 1, I + j, by omega, by rw [HI.out, Nat.add_mul, Nat.one_mul], by go_num, HJ3.out, HR13.out, HR23.out, hW3⟩
            case measure => simp [intOf]; omega
          · have HJx3 := Lib.hid hJx3
            clear ho hJx3 hy
            gi_wp2
            refine bodyPost_ret (results_none rfl _ _ _) rfl ?_
            exact ⟨⟨_, rfl⟩, .inr ⟨_, HP.out, HJx3.out⟩⟩
    · have h1 : k = u.size / S := by omega
      have HJ3 := Lib.hid (show J (Fld.syms m u.data.toList) wr by rw [← List.take_of_length_le (l := Fld.syms m u.data.toList) (i := k) (by rw [Fld.syms_length, HLD.out, HS.out, h1]; exact Nat.le_refl _)]; exact hj)
      have hd : decide ((I : Int) + (S : Int) ≤ (u.size : Int)) = false := by
        have h2 := Nat.div_add_mod u.size S
        have h3 := Nat.mod_lt u.size hS0
        have h4 : I = S * (u.size / S) := by rw [hI, h1, Nat.mul_comm]
        simp; omega
      clear hr1 hr2 hj hI h1
      gi_wp2
      go_end0
      exact ⟨⟨_, rfl⟩, .inl HJ3.out⟩
end Go.Proofs.YtghinmlpkgcdiaaDoor
/-! Fields: the multiple of a string added to a row of bytes. -/
namespace Go.Proofs.YtghinmlpkgcdiaaDoor
set_option linter.unusedSimpArgs false
set_option linter.unusedVariables false
open Go.RowKit Go.Shelf Go.Lib
attribute [local go_sem] Oper.semAt_some

/-- block g holds just these bytes -/
def Byts (w : World) (g : Nat) (bs : List UInt8) : Prop := Row w g 5 (bs.map v8).toArray
theorem Byts.cell {w : World} {g : Nat} {bs : List UInt8} (h : Byts w g bs) {k : Nat} (hk : k < bs.length) : w.cell? ⟨g, k, none⟩ = some (.int .u8 ((bs[k]?.getD 0).toNat : Int)) ∧ w.frozen? ⟨g, k, none⟩ = false := by
  refine ⟨?_, Row.frozen h k⟩
  rw [Row.cell h k]
  simp [List.getElem?_eq_getElem hk, v8]
theorem Byts.put {w : World} {g : Nat} {bs : List UInt8} (h : Byts w g bs) (k : Nat) (x : UInt8) : Byts (w.setCell ⟨g, k, none⟩ (v8 x)) g (bs.set k x) := by
  have := Row.put h k (v8 x)
  unfold Byts
  rw [show ((bs.set k x).map v8).toArray = (bs.map v8).toArray.setIfInBounds k (v8 x) by simp [List.map_set]]
  exact this
theorem Byts.rd {w : World} {g : Nat} {bs : List UInt8} (h : Byts w g bs) : Rd w w.heap.size (some ⟨g, 0, none⟩) (bs.map v8) :=
  Rd.row h (Row.lt h) fun j u hu => by rw [← hu]; simp
theorem Only.tab {X : Nat → Prop} {w w' : World} (h : Only X w w') (ht : Tab w) (hx : ¬ X 0) : Tab w' := by
  obtain ⟨t, fr, h1⟩ := ht
  exact ⟨t, fr, (h.block 0 (Array.getElem?_eq_some_iff.1 h1).1 hx).trans h1⟩
set_option maxRecDepth 100000 in
theorem fsymbols_any (m : Int) (u : ByteArray) (w : World) :
    Calls Tryd.prog 90 #[.int .i64 m, .string u] w fun e w' => e = .returned (.func (.func 95) #[] #[.pointer (some ⟨w.heap.size, 0, none⟩), .pointer (some ⟨w.heap.size + 1, 0, none⟩)]) ∧ w' = (w.alloc (.cells #[.int .i64 m] 3)).alloc (.cells #[.string u] 9) := by
  go_enter Tryd.func90, Tryd.ntmps90
  go_wp2_with fail
  go_ret
  exact ⟨rfl, rfl⟩
/-- the bytes that are done after j bytes of the symbol at I -/
def doneF (I S j p : Nat) : Bool := decide (p < I) || (decide (I + S - j ≤ p) && decide (p < I + S))
theorem byte_mod (x : UInt8) (y : Nat) : Value.int .u8 (bits .xor .u8 (x.toNat : Int) ((y : Int) % 256)) = v8 (x ^^^ UInt8.ofNat y) := by
  have e : (y : Int) % 256 = ((UInt8.ofNat y).toNat : Int) := by rw [UInt8.toNat_ofNat']; rfl
  rw [e, b8_xor]; rfl
set_option maxRecDepth 100000 in
set_option maxHeartbeats 3200000 in
theorem accumulate_any (m c : Nat) (hm : Fld.IsM m) (hc : c < 2 ^ m) (u : ByteArray) (g n cap : Nat) (B : List UInt8) (w : World) (ht : Tab w) (hg : Byts w g B) (h0 : 0 < g) (hl : B.length = n) (hu : u.size = n) (hdv : n % Fld.size m = 0) (hn : n ≤ 100000000) (hcap : n ≤ cap) :
    Calls Tryd.prog 74 #[.slice (some ⟨g, 0, none⟩) n cap, .int .i64 (m : Int), .int .i64 (c : Int), .string u] w fun e w' => (∃ v, e = .returned v) ∧ Byts w' g (Fld.xorL B (Fld.scl m c u.data.toList)) ∧ Only (fun k => k = g) w w' := by
  refine (callsIn_wide (n := 5)).1 ?_
  have HT := Lib.hid ht
  have HG := Lib.hid hg
  have HM := Lib.hid hm
  have HC := Lib.hid hc
  have hgl := Row.lt hg
  obtain ⟨T, hT⟩ : ∃ T, Fld.xorL B (Fld.scl m c u.data.toList) = T := ⟨_, rfl⟩
  have HTT := Lib.hid hT
  have hLu : u.data.toList.length = n := by rw [len_data, hu]
  have hTl : T.length = n := by rw [← hT, Fld.xorL_length (by rw [Fld.scl_length, hLu, hl]), hl]
  obtain ⟨S, hS⟩ : ∃ S, Fld.size m = S := ⟨_, rfl⟩
  have hSi : (m : Int) / 8 = (S : Int) := by rw [← hS]; unfold Fld.size; omega
  have hS2 : 0 < S ∧ S ≤ 2 := by rw [← hS]; rcases hm with rfl | rfl <;> decide
  obtain ⟨hS0, hS2⟩ := hS2
  rw [hS] at hdv
  have HS := Lib.hid hS
  have HLU := Lib.hid hLu
  have HTL := Lib.hid hTl
  have HBL := Lib.hid hl
  have HUS := Lib.hid hu
  have HDV := Lib.hid hdv
  have hm16 := m_le hm
  clear ht hg hm hc hT hS hLu hTl hl hdv
  refine callsIn_of_wp_marks Tryd.func74 rfl trivial ?_ rfl
  simp only [Tryd.ntmps74, List.size_toArray, List.length_cons, List.length_nil, Nat.reduceAdd, Nat.reduceSub, Array.replicate_succ, Array.replicate_zero, List.push_toArray, List.append_toArray, List.nil_append, List.cons_append]
  gi_wp2_with fail
  refine ⟨trivial, ?_⟩
  obtain ⟨w3, hw3⟩ : ∃ W, W = ((w.alloc (.cells #[.slice (some ⟨g, 0, none⟩) n cap] 91)).alloc (.cells #[.int .i64 (m : Int)] 3)).alloc (.cells #[.int .i64 (c : Int)] 3) := ⟨_, rfl⟩
  rw [← hw3]
  have hz3 : w3.heap.size = w.heap.size + 3 := by rw [hw3]; simp
  have hb3 : Below w.heap.size w w3 := by rw [hw3]; exact (((Below.refl _ w).alloc (Nat.le_refl _) _).alloc (by simp) _).alloc (by simp; omega) _
  have hr0 : Row w3 w.heap.size 91 #[.slice (some ⟨g, 0, none⟩) n cap] := by rw [hw3]; exact ((Row.new w _ _).alloc _).alloc _
  have hr1 : Row w3 (w.heap.size + 1) 3 #[.int .i64 (m : Int)] := by rw [hw3]; exact (Row.made _ _ (by simp)).alloc _
  have hr2 : Row w3 (w.heap.size + 2) 3 #[.int .i64 (c : Int)] := by rw [hw3]; exact Row.made _ _ (by simp)
  clear hw3
  refine (callsIn_wide.2 (fsymbols_any (m : Int) u w3)).mono ?_
  rintro e w4 ⟨rfl, hw4⟩
  have hb4 : Below w3.heap.size w3 w4 := by rw [hw4]; exact ((Below.refl _ w3).alloc (Nat.le_refl _) _).alloc (by simp) _
  have hz4 : w4.heap.size = w3.heap.size + 2 := by rw [hw4]; simp
  have hrm : Row w4 w3.heap.size 3 #[.int .i64 (m : Int)] := by rw [hw4]; exact (Row.new w3 _ _).alloc _
  have hru : Row w4 (w3.heap.size + 1) 9 #[.string u] := by rw [hw4]; exact Row.made _ _ (by simp)
  clear hw4
  have HR0 := Lib.hid (hr0.below hb4 hr0.lt)
  have HR1 := Lib.hid (hr1.below hb4 hr1.lt)
  have HR2 := Lib.hid (hr2.below hb4 hr2.lt)
  have HRM := Lib.hid hrm
  have HRU := Lib.hid hru
  have HG4 := Lib.hid (show Byts w4 g B from (Row.below HG.out hb3 hgl).below hb4 (by omega))
  have HO4 := Lib.hid (show Only (fun k => k = g) w w4 from Only.of_below (below_call hb3 hb4) (fun k hk _ => hk))
  have HZ3 := Lib.hid hz3
  have HZ4 := Lib.hid hz4
  clear hr0 hr1 hr2 hrm hru hb3 hb4 hz3 hz4
  gi_wp2_with fail
  refine wp_range (gf := 95) (lb := #[.pointer (some ⟨w3.heap.size, 0, none⟩), .pointer (some ⟨w3.heap.size + 1, 0, none⟩)]) rfl (enters_of Tryd.func95 (by kernel_rfl) rfl)
    (sym_gives m HM.out u w3.heap.size (w3.heap.size + 1) w4 HRM.out HRU.out (by omega)) (Below.refl _ _) (fun _ => rfl)
    (fun k => k = g) (fun k h => by have := HZ3.out; have := HZ4.out; omega) (fun k h => by have := HZ3.out; have := HZ4.out; omega)
    (fun pre A => Row A w.heap.size 91 #[.slice (some ⟨g, 0, none⟩) n cap] ∧ Row A (w.heap.size + 1) 3 #[.int .i64 (m : Int)] ∧ Row A (w.heap.size + 2) 3 #[.int .i64 (c : Int)] ∧ Byts A g (Fld.mixL (fun p => decide (p < pre.length * S)) B T) ∧ Only (fun k => k = g) w A)
    (fun c pre A => False) (fun pre A A' hs h hb => ⟨h.1.below hb (by have := HZ3.out; have := HZ4.out; omega), h.2.1.below hb (by have := HZ3.out; have := HZ4.out; omega), h.2.2.1.below hb (by have := HZ3.out; have := HZ4.out; omega), Row.below h.2.2.2.1 hb (by have := HZ3.out; have := HZ4.out; omega), h.2.2.2.2.later hb (by have := HZ3.out; have := HZ4.out; omega)⟩) (fun c pre A A' _ h _ => h)
    ⟨HR0.out, HR1.out, HR2.out, by rw [Fld.mixL_none (fun p _ => by simp)]; exact HG4.out, HO4.out⟩ ?a1 ?assign ?body ?done (fun c pre A _ _ h _ => h.elim)
  case assign =>
    intro l2 x A K hK
    gi_wp2
    exact hK
  case body =>
    rintro l2 pre ⟨I, V⟩ A hpre hsA ⟨k0, k1, k2, k3, k4⟩
    obtain ⟨ex, hlt⟩ := Fld.syms_at hpre
    rw [HS.out] at ex hlt
    injection ex with eI eV
    rw [← eI] at eV
    have hIn : I + S ≤ n := by
      rw [HLU.out] at hlt
      have h1 := Nat.mul_le_mul_right S hlt
      rw [Nat.succ_mul] at h1
      rw [eI]
      exact Nat.le_trans h1 (Nat.div_mul_le_self _ _)
    have HV := Lib.hid (show V < 2 ^ m by rw [eV]; exact Fld.symAt_lt HM.out _ _)
    obtain ⟨X, hX⟩ : ∃ X, Fld.mul m c V = X := ⟨_, rfl⟩
    have hX16 : X < 65536 := by rw [← hX]; exact pow_le HM.out (Fld.mul_lt HM.out _ HC.out)
    have HX := Lib.hid hX
    have HTV := Lib.hid (fun j (hj : j < S) => (show T[I + (S - 1 - j)]?.getD 0 = (B[I + (S - 1 - j)]?.getD 0) ^^^ UInt8.ofNat (X / 256 ^ j) by
      have hp : I + (S - 1 - j) < B.length := by rw [HBL.out]; omega
      have h1 := Fld.sclB_at HM.out c u.data.toList pre.length j (by rw [HS.out]; exact hj)
      rw [HS.out, ← eI, ← eV, hX] at h1
      rw [← HTT.out, Fld.xorL_get (by rw [Fld.scl_length, HLU.out, HBL.out]) hp, Fld.scl_get m c _ (by rw [HLU.out]; omega), h1]; rfl))
    have hk0 : A.cell? ⟨w.heap.size, 0, none⟩ = some (.slice (some ⟨g, 0, none⟩) n cap) := k0.cell 0
    have hk1 : A.cell? ⟨w.heap.size + 1, 0, none⟩ = some (.int .i64 (m : Int)) := k1.cell 0
    have hk2 : A.cell? ⟨w.heap.size + 1 + 1, 0, none⟩ = some (.int .i64 (c : Int)) := k2.cell 0
    have HK0 := Lib.hid k0
    have HK1 := Lib.hid k1
    have HK2 := Lib.hid k2
    have HK3 := Lib.hid k3
    have HK4 := Lib.hid k4
    have HEI := Lib.hid eI
    clear k0 k1 k2 k3 k4 hX hpre eI eV hlt
    gi_wp2_with fail
    refine ⟨trivial, ?_⟩
    refine (calls_round (product_any m c V HM.out HC.out HV.out A (Only.tab HK4.out HT.out (by omega)))).mono ?_
    rw [HX.out]
    rintro e A1 ⟨rfl, hb⟩
    have hk01 : A1.cell? ⟨w.heap.size, 0, none⟩ = some (.slice (some ⟨g, 0, none⟩) n cap) := (HK0.out.below hb HK0.out.lt).cell 0
    have hk11 : A1.cell? ⟨w.heap.size + 1, 0, none⟩ = some (.int .i64 (m : Int)) := (HK1.out.below hb HK1.out.lt).cell 0
    have HA1 := Lib.hid hb
    have hszA := hb.size
    clear hb hk0 hk1 hk2
    have hIn9 : (I : Int) + (S : Int) ≤ 100000000 := by omega
    gi_wp2_with fail
    gi_loopw [9, 10] (fun x i wr => ∃ j : Nat, j ≤ S ∧ i = .int .i64 ((I : Int) + (S : Int) - 1 - (j : Int)) ∧ x = .int .i64 ((X / 256 ^ j : Nat) : Int) ∧ Row wr w.heap.size 91 #[.slice (some ⟨g, 0, none⟩) n cap] ∧ Byts wr g (Fld.mixL (doneF I S j) B T) ∧ Only (fun k => k = g) A wr) (fun _ i _ => (intOf i + 1 - (I : Int)).toNat)
    case atStart =>
      refine ⟨0, Nat.zero_le _, by simp, by simp, HK0.out.below HA1.out HK0.out.lt, ?_, Only.of_below HA1.out (fun k hk _ => hk)⟩
      rw [Fld.mixL_cong (g := fun p => decide (p < pre.length * S)) (fun p _ => by unfold doneF; rw [← HEI.out, Bool.eq_iff_iff]; simp; omega)]
      exact Row.below HK3.out HA1.out (Row.lt HK3.out)
    case round =>
      obtain ⟨j, hj, rfl, rfl, hr, hby, hon⟩ := hrel
      have hcr : wr.cell? ⟨w.heap.size, 0, none⟩ = some (.slice (some ⟨g, 0, none⟩) n cap) := hr.cell 0
      have HRR := Lib.hid hr
      have HBY := Lib.hid hby
      have HON := Lib.hid hon
      clear hr hby hon
      by_cases hlt : j < S
      · have hd : decide ((I : Int) ≤ (I : Int) + (S : Int) - 1 - (j : Int)) = true := by simp; omega
        obtain ⟨q, hq⟩ : ∃ q, I + (S - 1 - j) = q := ⟨_, rfl⟩
        have hqi : (I : Int) + (S : Int) - 1 - (j : Int) = (q : Int) := by omega
        have hqn : q < n := by omega
        obtain ⟨hc, hf⟩ := HBY.out.cell (k := q) (by rw [Fld.mixL_length, HBL.out]; exact hqn)
        obtain ⟨y, hy⟩ : ∃ y, (Fld.mixL (doneF I S j) B T)[q]?.getD 0 = y := ⟨_, rfl⟩
        rw [hy] at hc
        obtain ⟨Z, hZ⟩ : ∃ Z, X / 256 ^ j = Z := ⟨_, rfl⟩
        have HZN := Lib.hid (show X / 256 ^ (j + 1) = Z / 256 by rw [Nat.pow_succ, ← Nat.div_div_eq_div_mul, hZ])
        have hZ16 : Z < 65536 := by rw [← hZ]; exact Nat.lt_of_le_of_lt (Nat.div_le_self _ _) hX16
        have HSET := Lib.hid (show (Fld.mixL (doneF I S j) B T).set q (y ^^^ UInt8.ofNat Z) = Fld.mixL (doneF I S (j + 1)) B T by
          have hqB : q < B.length := by rw [HBL.out]; exact hqn
          have e1 : y = B[q]?.getD 0 := by
            rw [Fld.mixL_get _ _ _ hqB, show doneF I S j q = false by unfold doneF; rw [Bool.or_eq_false_iff]; simp; omega] at hy
            simpa using hy.symm
          have e2 := HTV.out j hlt
          rw [hq, hZ, ← e1] at e2
          rw [Fld.mixL_set _ _ _ hqB _ e2.symm]
          exact Fld.mixL_cong fun p _ => by unfold doneF; rw [Bool.eq_iff_iff]; simp; omega)
        have hqi2 := Lib.hid (show (q : Int) - 1 = (I : Int) + (S : Int) - 1 - ((j + 1 : Nat) : Int) by omega)
        have hIq : I ≤ q := by omega
        rw [hqi, hZ]
        clear hy hZ hq hqi hd
        have hd : decide (I ≤ q) = true := by simp; omega
        gi_wp2
        go_roundw
        case rel =>
          refine ⟨j + 1, by omega, congrArg (Value.int .i64) hqi2.out, ?_, HRR.out.far (by show w.heap.size ≠ g; omega) _, ?_, HON.out.setCell (p := ⟨g, q, none⟩) rfl _⟩
          · rw [HZN.out]; rfl
          · rw [byte_mod, ← HSET.out]; exact HBY.out.put q _
        case measure => simp [intOf]; omega
      · have hjS : j = S := by omega
        have hd : decide ((I : Int) ≤ (I : Int) + (S : Int) - 1 - (j : Int)) = false := by simp; omega
        have HBY2 := Lib.hid (show Byts wr g (Fld.mixL (fun p => decide (p < (pre ++ [(I, V)]).length * S)) B T) by
          have := HBY.out
          rw [hjS] at this
          rwa [Fld.mixL_cong (g := fun p => decide (p < (pre ++ [(I, V)]).length * S)) (fun p _ => by unfold doneF; rw [List.length_append, List.length_singleton, Nat.add_mul, Nat.one_mul, ← HEI.out, Bool.eq_iff_iff]; simp; omega)] at this)
        clear hjS
        gi_wp2
        exact ⟨HON.out, HRR.out, HON.out.row HK1.out (by show ¬ w.heap.size + 1 = g; omega), HON.out.row HK2.out (by show ¬ w.heap.size + 2 = g; omega), HBY2.out, HK4.out.trans HON.out⟩
  case done =>
    rintro A hsA ⟨k0, k1, k2, k3, k4⟩ hD
    have hall : (Fld.syms m u.data.toList).length * S = n := by
      rw [Fld.syms_length, HLU.out, HS.out]
      have h1 := Nat.div_add_mod n S
      rw [HDV.out, Nat.mul_comm] at h1
      exact h1
    rw [Fld.mixL_all (by rw [HBL.out, HTL.out]) (fun p hp => by rw [hall, ← HBL.out]; simpa using hp)] at k3
    have HK3 := Lib.hid k3
    have HK4 := Lib.hid k4
    clear k0 k1 k2 k3 k4 hall
    gi_wp2
    refine ⟨by simp, .inl ⟨_, _, rfl, run_takeDeferred hD, ?_⟩⟩
    have hlt4 := (Array.getElem?_eq_some_iff.1 hD).1
    rw [HTT.out]
    refine ⟨_, results_none rfl _ _ _, ⟨_, rfl⟩, (World.putObj_heap_other (by have := HZ3.out; have := HZ4.out; omega)).trans HK3.out, HK4.out.later (B := w4.heap.size) (below_putObj A (Nat.le_refl _) _) (by have := HZ3.out; have := HZ4.out; omega)⟩
end Go.Proofs.YtghinmlpkgcdiaaDoor
/-! Fields: are all strings of one length? -/
namespace Go.Proofs.YtghinmlpkgcdiaaDoor
set_option linter.unusedSimpArgs false
set_option linter.unusedVariables false
open Go.RowKit Go.Lib

def otherB (n : Nat) (u : ByteArray) : Bool := !(decide (u.size = n))
set_option maxRecDepth 100000 in
theorem cmpl_any (u : ByteArray) (g n : Nat) (w : World) (hg : Row w g 3 #[.int .i64 (n : Int)]) :
    Calls Tryd.prog 73 #[.string u, .pointer (some ⟨g, 0, none⟩)] w fun e w' => e = .returned (.bool (!(otherB n u))) ∧ w' = w := by
  have hc : w.cell? ⟨g, 0, none⟩ = some (.int .i64 (n : Int)) := hg.cell 0
  have HB := Lib.hid (show ((u.size : Int) == (n : Int)) = !(otherB n u) by unfold otherB; rw [Bool.not_not, Bool.eq_iff_iff, beq_iff_eq, decide_eq_true_eq]; omega)
  have HB2 := Lib.hid (show (u.size == n) = !(otherB n u) by unfold otherB; rw [Bool.not_not, Bool.eq_iff_iff, beq_iff_eq, decide_eq_true_eq])
  clear hg
  go_enter Tryd.func73, Tryd.ntmps73
  go_wp2
  go_ret
  exact ⟨ret_bool (by first | exact HB2.out | exact HB.out), rfl⟩
set_option maxRecDepth 100000 in
theorem other_any (u : ByteArray) (g h n : Nat) (w : World) (hg : Row w g 3 #[.int .i64 (n : Int)]) (hh : Row w h 75 #[.func (.func 73) #[] #[.pointer (some ⟨g, 0, none⟩)]]) :
    Calls Tryd.prog 89 #[.string u, .pointer (some ⟨h, 0, none⟩)] w fun e w' => e = .returned (.bool (otherB n u)) ∧ w' = w := by
  have hc : w.cell? ⟨h, 0, none⟩ = some (.func (.func 73) #[] #[.pointer (some ⟨g, 0, none⟩)]) := hh.cell 0
  have HG := Lib.hid hg
  obtain ⟨b, hb⟩ : ∃ b, otherB n u = b := ⟨_, rfl⟩
  have HB := Lib.hid hb
  rw [hb]
  clear hg hh hb
  go_enter Tryd.func89, Tryd.ntmps89
  go_wp2_with fail
  refine (cmpl_any u g n _ HG.out).mono ?_
  rw [HB.out]
  rintro e w1 ⟨rfl, rfl⟩
  cases b
  all_goals
    go_wp2
    go_ret
    exact ⟨rfl, rfl⟩
set_option maxRecDepth 100000 in
theorem otheri_any (a : Option Addr) (ln c : Nat) (us : List ByteArray) (g h n : Nat) (w : World) (hl : us.length = ln) (hn : ln ≤ 9223372036854775807) (hr : Rd w w.heap.size a (strs us)) (hg : Row w g 3 #[.int .i64 (n : Int)]) (hh : Row w h 75 #[.func (.func 73) #[] #[.pointer (some ⟨g, 0, none⟩)]]) :
    Calls Tryd.prog 75 #[.slice a ln c, .func (.func 89) #[] #[.pointer (some ⟨h, 0, none⟩)]] w fun e w' => Found (us.any (otherB n)) e ∧ w' = w := by
  have HR := Lib.hid hr
  have HG := Lib.hid hg
  have HH := Lib.hid hh
  have HL := Lib.hid hl
  clear hr hg hh hl
  go_enter Tryd.func75, Tryd.ntmps75
  go_wp2
  go_loopw [8] (fun i wr => wr = w ∧ ∃ k : Nat, k ≤ ln ∧ i = .int .i64 k ∧ (us.take k).any (otherB n) = false) (fun i _ => ln - (intOf i).toNat)
  case atStart => exact ⟨rfl, 0, by omega, rfl, rfl⟩
  case round =>
    obtain ⟨rfl, k, hk, rfl, ha⟩ := hrel
    have HA := Lib.hid ha
    clear ha
    by_cases hlt : k < ln
    · obtain ⟨x, hx⟩ : ∃ x, us[k]? = some x := ⟨_, List.getElem?_eq_getElem (by rw [HL.out]; exact hlt)⟩
      obtain ⟨b, off, rfl, hb, hc⟩ := HR.out k (.string x) (by rw [strs, List.getElem?_map, hx]; rfl)
      have HX := Lib.hid hx
      clear hx
      obtain ⟨bx, hbx⟩ : ∃ bx, otherB n x = bx := ⟨_, rfl⟩
      have HBX := Lib.hid hbx
      clear hbx
      go_wp2_with fail
      refine (other_any x g h n _ HG.out HH.out).mono ?_
      rw [HBX.out]
      rintro e w1 ⟨rfl, rfl⟩
      cases bx
      · go_wp2
        go_roundw
        case rel => exact ⟨trivial, k + 1, by omega, by go_num, by rw [any_take2 HA.out HX.out]; exact HBX.out⟩
        case measure => simp [intOf]; omega
      · go_wp2
        go_ret
        refine ⟨.inr ⟨?_, k, rfl⟩, rfl⟩
        rw [List.any_eq_true]
        exact ⟨x, List.mem_of_getElem? HX.out, HBX.out⟩
    · have h1 : k = ln := by omega
      have HA2 := Lib.hid (show us.any (otherB n) = false by
        have := HA.out
        rwa [List.take_of_length_le (by rw [HL.out]; omega)] at this)
      clear h1
      go_wp2
      go_ret
      exact ⟨.inl ⟨HA2.out, rfl⟩, rfl⟩
set_option maxRecDepth 100000 in
theorem otherc_any (a : Option Addr) (ln c : Nat) (us : List ByteArray) (g h n : Nat) (w : World) (hl : us.length = ln) (hn : ln ≤ 9223372036854775807) (hr : Rd w w.heap.size a (strs us)) (hg : Row w g 3 #[.int .i64 (n : Int)]) (hh : Row w h 75 #[.func (.func 73) #[] #[.pointer (some ⟨g, 0, none⟩)]]) :
    Calls Tryd.prog 42 #[.slice a ln c, .func (.func 89) #[] #[.pointer (some ⟨h, 0, none⟩)]] w fun e w' => e = .returned (.bool (us.any (otherB n))) ∧ w' = w := by
  have h := otheri_any a ln c us g h n w hl hn hr hg hh
  generalize us.any (otherB n) = b at h
  have H := Lib.hid h
  clear h hl hr hg hh
  go_enter Tryd.func42, Tryd.ntmps42
  go_wp2_with fail
  refine H.out.mono ?_
  rintro e w1 ⟨hf, rfl⟩
  rcases hf with ⟨rfl, rfl⟩ | ⟨rfl, k, rfl⟩
  · go_wp2
    go_ret
    exact ⟨rfl, rfl⟩
  · have hd : decide (0 ≤ (k : Int)) = true := by simp
    go_wp2
    go_ret
    exact ⟨rfl, rfl⟩
set_option maxRecDepth 100000 in
theorem fevery_any (a : Option Addr) (ln c : Nat) (us : List ByteArray) (g n : Nat) (w : World) (hl : us.length = ln) (hn : ln ≤ 9223372036854775807) (hr : Rd w w.heap.size a (strs us)) (hg : Row w g 3 #[.int .i64 (n : Int)]) :
    Calls Tryd.prog 72 #[.slice a ln c, .func (.func 73) #[] #[.pointer (some ⟨g, 0, none⟩)]] w fun e w' => e = .returned (.bool (!(us.any (otherB n)))) ∧ Below w.heap.size w w' := by
  obtain ⟨w1, hw1⟩ : ∃ W, W = w.alloc (.cells #[.func (.func 73) #[] #[.pointer (some ⟨g, 0, none⟩)]] 75) := ⟨_, rfl⟩
  have HB := Lib.hid (show Below w.heap.size w w1 by rw [hw1]; exact (Below.refl _ w).alloc (Nat.le_refl _) _)
  have HC := Lib.hid (otherc_any a ln c us g w.heap.size n w1 hl hn ((hr.below HB.out).more HB.out.size) (hg.below HB.out hg.lt) (by rw [hw1]; exact Row.new w _ _))
  have HW := Lib.hid hw1
  obtain ⟨b, hb⟩ : ∃ b, us.any (otherB n) = b := ⟨_, rfl⟩
  rw [hb] at HC ⊢
  clear hl hr hg hw1 hb
  go_enter Tryd.func72, Tryd.ntmps72
  go_wp2_with fail
  rw [← HW.out]
  refine HC.out.mono ?_
  rintro e w2 ⟨rfl, rfl⟩
  go_wp2
  go_ret
  exact ⟨rfl, HB.out⟩
end Go.Proofs.YtghinmlpkgcdiaaDoor
/-! Fields: the linear combination of strings, the program's. -/
namespace Go.Proofs.YtghinmlpkgcdiaaDoor
set_option linter.unusedSimpArgs false
set_option linter.unusedVariables false
open Go.RowKit Go.Lib

/-- the length of the first string -/
def len0 (us : List ByteArray) : Nat := match us with | [] => 0 | u :: _ => u.size
def okC (m : Int) (coef : List Int) (us : List ByteArray) : Bool :=
  allB m coef && decide (coef.length ≠ 0) && decide (coef.length = us.length) && decide (len0 us % Fld.size m.toNat = 0) && !(us.any (otherB (len0 us)))
def pairs (coef : List Int) (us : List ByteArray) : List (Nat × List UInt8) := (coef.map Int.toNat).zip (us.map fun u => u.data.toList)
def combS (m : Int) (coef : List Int) (us : List ByteArray) : List UInt8 := if okC m coef us then Fld.combTo m.toNat (len0 us) (pairs coef us) else []
def combE (m : Int) (coef : List Int) (us : List ByteArray) : Int := if okC m coef us then 0 else 1
theorem byts_made (w : World) (n : Nat) : Byts (w.alloc (.cells (madeCells #[.int .u8 0] n) 5)) w.heap.size (List.replicate n 0) := by
  unfold Byts
  have : ((List.replicate n (0 : UInt8)).map v8).toArray = madeCells #[.int .u8 0] n := by
    apply Array.toList_inj.1
    rw [toList_madeCells_one]
    simp [v8]
  rw [this]
  exact Row.new w _ _
theorem pairs_take {coef : List Int} {us : List ByteArray} {k : Nat} {c : Int} {u : ByteArray} (hc : coef[k]? = some c) (hu : us[k]? = some u) : (pairs coef us).take (k + 1) = (pairs coef us).take k ++ [(c.toNat, u.data.toList)] := by
  rw [List.take_add_one]
  have : (pairs coef us)[k]? = some (c.toNat, u.data.toList) := by
    unfold pairs
    rw [List.getElem?_zip_eq_some]
    exact ⟨by rw [List.getElem?_map, hc]; rfl, by rw [List.getElem?_map, hu]; rfl⟩
  rw [this]; rfl
set_option maxRecDepth 100000 in
set_option maxHeartbeats 3200000 in
theorem fcomb_yes (m : Nat) (hm : Fld.IsM m) (a1 : Option Addr) (n1 c1 : Nat) (coef : List Int) (a2 : Option Addr) (c2 : Nat) (us : List ByteArray) (w : World) (ht : Tab w) (hl1 : coef.length = n1) (hn1 : n1 ≤ 9223372036854775807) (hr1 : Rd w w.heap.size a1 (ints coef))
    (hl2 : us.length = n1) (hr2 : Rd w w.heap.size a2 (strs us)) (hpos : 0 < n1) (hall : allB (m : Int) coef = true) (hs : ∀ u ∈ us, u.size ≤ 100000000) :
    Calls Tryd.prog 41 #[.int .i64 (m : Int), .slice a1 n1 c1, .slice a2 n1 c2] w fun e w' => e = .returned (pairS (combS m coef us) (combE m coef us)) ∧ Below w.heap.size w w' := by
  have HC := Lib.hid (all_any (m : Int) a1 n1 c1 coef w ht hl1 hn1 hr1)
  have HALL := Lib.hid hall
  have HT := Lib.hid ht
  have HM := Lib.hid hm
  have HR1 := Lib.hid hr1
  have HR2 := Lib.hid hr2
  have HL1 := Lib.hid hl1
  have HL2 := Lib.hid hl2
  have HSZ := Lib.hid hs
  obtain ⟨u0, hu0⟩ : ∃ u, us[0]? = some u := ⟨_, List.getElem?_eq_getElem (by omega)⟩
  obtain ⟨n, hn⟩ : ∃ n, u0.size = n := ⟨_, rfl⟩
  have hlen : len0 us = n := by
    cases us with
    | nil => cases hu0
    | cons u r => simp at hu0; subst hu0; exact hn
  have hn8 : n ≤ 100000000 := by rw [← hn]; exact hs _ (List.mem_of_getElem? hu0)
  obtain ⟨S, hS⟩ : ∃ S, Fld.size m = S := ⟨_, rfl⟩
  have hSi : (m : Int) / 8 = (S : Int) := by rw [← hS]; unfold Fld.size; omega
  have hS0 : 0 < S := by rw [← hS]; exact Fld.size_pos hm
  have HS := Lib.hid hS
  have HLEN := Lib.hid hlen
  have HOK := Lib.hid (show okC (m : Int) coef us = (decide (n % S = 0) && !(us.any (otherB n))) by
    unfold okC
    rw [hall, hl1, hl2, hlen, Int.toNat_natCast, hS]
    simp [show n1 ≠ 0 by omega])
  obtain ⟨b2, off2, rfl, hb2, hc2⟩ := hr2 0 (.string u0) (by rw [strs, List.getElem?_map, hu0]; rfl)
  have HB2 := Lib.hid hb2
  have hm16 := m_le hm
  have HC2 := Lib.hid hc2
  have HU0 := Lib.hid hn
  have hq0 : ((n1 : Int) == 0) = false := by rw [beq_eq_false_iff_ne]; omega
  clear ht hm hr1 hr2 hl1 hl2 hs hu0 hlen hS hall hb2 hc2
  by_cases hdv : n % S = 0
  · have hbd : ((n : Int) % (S : Int) != 0) = false := by
      have : (n : Int) % (S : Int) = ((n % S : Nat) : Int) := by simp
      rw [this, hdv]; rfl
    cases hany : us.any (otherB n) with
    | false =>
      have HANY := Lib.hid hany
      have hcb : okC (m : Int) coef us = true := by rw [HOK.out, hany, decide_eq_true hdv]; rfl
      have HV := Lib.hid (show pairS (combS (m : Int) coef us) (combE (m : Int) coef us) = .tuple #[.string (strB (Fld.combTo m n (pairs coef us))), .int .i64 0] by
        rw [combS, combE, hcb, if_pos rfl, if_pos rfl, HLEN.out]; rfl)
      rw [HV.out]
      have HDV := Lib.hid hdv
      clear hany hcb hdv
      go_enter Tryd.func41, Tryd.ntmps41
      go_wp2_with fail
      refine HC.out.mono ?_
      rw [HALL.out]
      rintro e w1 ⟨rfl, hb⟩
      have hc0 : w1.cell? ⟨b2, off2, none⟩ = some (.string u0) := by
        have := hb.cell (p := ⟨b2, off2 + 0, none⟩) HB2.out
        exact this.trans HC2.out
      have HB := Lib.hid hb
      clear hb
      go_wp2_with fail
      obtain ⟨w2, hw2⟩ : ∃ W, W = w1.alloc (.cells #[.int .i64 (n : Int)] 3) := ⟨_, rfl⟩
      rw [← hw2]
      have hbw2 : Below w.heap.size w w2 := by rw [hw2]; exact HB.out.alloc HB.out.size _
      have hrn : Row w2 w1.heap.size 3 #[.int .i64 (n : Int)] := by rw [hw2]; exact Row.new w1 _ _
      clear hw2
      refine (fevery_any _ n1 c2 us w1.heap.size n w2 HL2.out hn1 ((HR2.out.below hbw2).more hbw2.size) hrn).mono ?_
      rw [HANY.out]
      rintro e w3 ⟨rfl, hb⟩
      have hcn : w3.cell? ⟨w1.heap.size, 0, none⟩ = some (.int .i64 (n : Int)) := (hrn.below hb hrn.lt).cell 0
      have HB3 := Lib.hid (below_call hbw2 hb)
      clear hb hbw2 hrn
      have hmk := make_bytes n hn8
      go_wp2_with fail
      obtain ⟨w4, hw4⟩ : ∃ W, W = w3.alloc (.cells (madeCells #[.int .u8 0] n) 5) := ⟨_, rfl⟩
      rw [← hw4]
      have HBY4 := Lib.hid (show Byts w4 w3.heap.size (List.replicate n 0) by rw [hw4]; exact byts_made w3 n)
      have HB4 := Lib.hid (show Below w.heap.size w w4 by rw [hw4]; exact HB3.out.alloc HB3.out.size _)
      have hz3 := HB3.out.size
      have hz0 := HT.out.lt
      obtain ⟨g, hg⟩ : ∃ g, w3.heap.size = g := ⟨_, rfl⟩
      rw [hg] at HBY4 hz3 ⊢
      clear hw4 hmk hcn hg
      go_loopw [47] (fun i wr => ∃ k : Nat, k ≤ n1 ∧ i = .int .i64 k ∧ Byts wr g (Fld.combTo m n ((pairs coef us).take k)) ∧ Below w.heap.size w wr) (fun i _ => n1 - (intOf i).toNat)
      case atStart => exact ⟨0, Nat.zero_le _, rfl, HBY4.out, HB4.out⟩
      case round =>
        obtain ⟨k, hk, rfl, hby, hbel⟩ := hrel
        have HBY := Lib.hid hby
        have HBL := Lib.hid hbel
        clear hby hbel
        have hall : ∀ u ∈ us, u.size = n := fun u hu => by
          have := HANY.out
          rw [List.any_eq_false] at this
          have := this u hu
          unfold otherB at this
          simpa using this
        have hlenC : (Fld.combTo m n ((pairs coef us).take k)).length = n := Fld.combTo_length m n _ fun p hp => by
          have h1 := List.mem_of_mem_take hp
          unfold pairs at h1
          have h2 := List.of_mem_zip (show (p.1, p.2) ∈ _ from h1)
          obtain ⟨u, hu, e⟩ := List.mem_map.1 h2.2
          rw [← e, len_data]; exact hall u hu
        by_cases hlt : k < n1
        · obtain ⟨ck, hck⟩ : ∃ c, coef[k]? = some c := ⟨_, List.getElem?_eq_getElem (by rw [HL1.out]; exact hlt)⟩
          obtain ⟨uk, huk⟩ : ∃ u, us[k]? = some u := ⟨_, List.getElem?_eq_getElem (by rw [HL2.out]; exact hlt)⟩
          have HTK := Lib.hid (pairs_take hck huk)
          obtain ⟨m', hm', em, hx⟩ := allB_get HALL.out
          obtain rfl : m = m' := by omega
          obtain ⟨y, rfl, hy⟩ := hx ck (List.mem_of_getElem? hck)
          have hus := hall uk (List.mem_of_getElem? huk)
          obtain ⟨b1, off1, rfl, hb1, hc1⟩ := (HR1.out.below HBL.out) k (.int .i64 (y : Int)) (by rw [ints, List.getElem?_map, hck]; rfl)
          obtain ⟨b3, off3, e3, hb3, hc3⟩ := (HR2.out.below HBL.out) k (.string uk) (by rw [strs, List.getElem?_map, huk]; rfl)
          injection e3 with e3
          injection e3 with e3 e4
          subst e3; subst e4
          have HUS := Lib.hid hus
          have HY := Lib.hid hy
          have HLC := Lib.hid hlenC
          clear hall hlenC hx hck huk hus hy hm' em hc0
          go_wp2_with fail
          refine (accumulate_any m y HM.out HY.out uk g n n _ wr (HT.out.next HBL.out) HBY.out (by omega) HLC.out HUS.out (by rw [HS.out]; exact HDV.out) hn8 (Nat.le_refl _)).mono ?_
          rintro e w5 ⟨⟨v, rfl⟩, hby5, ho5⟩
          have HBY5 := Lib.hid (show Byts w5 g (Fld.combTo m n ((pairs coef us).take (k + 1))) by rw [HTK.out, Fld.combTo_snoc]; exact hby5)
          have HB5 := Lib.hid (HBL.out.trans (ho5.below HBL.out.size (fun k hk => by rw [hk]; exact hz3)))
          clear hby5 ho5 hc1 hc3
          go_wp2
          go_roundw
          case rel => exact ⟨k + 1, by omega, by go_num, HBY5.out, HB5.out⟩
          case measure => simp [intOf]; omega
        · have h1 : k = n1 := by omega
          have hcv := conv_all wr (some ⟨g, 0, none⟩) n n _ HBY.out.rd hlenC
          have HF := Lib.hid (show (pairs coef us).take k = pairs coef us by
            rw [List.take_of_length_le]
            unfold pairs
            rw [List.length_zip, List.length_map, List.length_map, HL1.out, HL2.out]; omega)
          rw [HF.out] at hcv
          clear hall hlenC h1 hc0
          go_wp2
          refine bodyPost_ret (v := .tuple #[.string (strB (Fld.combTo m n (pairs coef us))), .int .i64 0]) ?_ rfl ⟨rfl, HBL.out⟩
          rw [results_tmp2 rfl]; rfl
    | true =>
      have HANY := Lib.hid hany
      have hcb : okC (m : Int) coef us = false := by rw [HOK.out, hany]; simp
      have HV := Lib.hid (show pairS (combS (m : Int) coef us) (combE (m : Int) coef us) = .tuple #[.string ⟨#[]⟩, .int .i64 1] by rw [combS, combE, hcb]; rfl)
      rw [HV.out]
      clear hany hcb hdv
      go_enter Tryd.func41, Tryd.ntmps41
      go_wp2_with fail
      refine HC.out.mono ?_
      rw [HALL.out]
      rintro e w1 ⟨rfl, hb⟩
      have hc0 : w1.cell? ⟨b2, off2, none⟩ = some (.string u0) := by
        have := hb.cell (p := ⟨b2, off2 + 0, none⟩) HB2.out
        exact this.trans HC2.out
      have HB := Lib.hid hb
      clear hb
      go_wp2_with fail
      obtain ⟨w2, hw2⟩ : ∃ W, W = w1.alloc (.cells #[.int .i64 (n : Int)] 3) := ⟨_, rfl⟩
      rw [← hw2]
      have hbw2 : Below w.heap.size w w2 := by rw [hw2]; exact HB.out.alloc HB.out.size _
      have hrn : Row w2 w1.heap.size 3 #[.int .i64 (n : Int)] := by rw [hw2]; exact Row.new w1 _ _
      clear hw2
      refine (fevery_any _ n1 c2 us w1.heap.size n w2 HL2.out hn1 ((HR2.out.below hbw2).more hbw2.size) hrn).mono ?_
      rw [HANY.out]
      rintro e w3 ⟨rfl, hb⟩
      have hcn : w3.cell? ⟨w1.heap.size, 0, none⟩ = some (.int .i64 (n : Int)) := (hrn.below hb hrn.lt).cell 0
      have HB3 := Lib.hid (below_call hbw2 hb)
      clear hb hbw2 hrn
      go_wp2_with fail
      refine bodyPost_ret (v := .tuple #[.string ⟨#[]⟩, .int .i64 1]) ?_ rfl ⟨rfl, HB3.out⟩
      rw [results_tmp2 rfl]; rfl
  · have hbd : ((n : Int) % (S : Int) != 0) = true := by
      have : (n : Int) % (S : Int) = ((n % S : Nat) : Int) := by simp
      rw [this, bne_iff_ne]; omega
    have hcb : okC (m : Int) coef us = false := by rw [HOK.out, decide_eq_false hdv]; rfl
    have HV := Lib.hid (show pairS (combS (m : Int) coef us) (combE (m : Int) coef us) = .tuple #[.string ⟨#[]⟩, .int .i64 1] by rw [combS, combE, hcb]; rfl)
    rw [HV.out]
    clear hcb hdv
    go_enter Tryd.func41, Tryd.ntmps41
    go_wp2_with fail
    refine HC.out.mono ?_
    rw [HALL.out]
    rintro e w1 ⟨rfl, hb⟩
    have hc0 : w1.cell? ⟨b2, off2, none⟩ = some (.string u0) := by
      have := hb.cell (p := ⟨b2, off2 + 0, none⟩) HB2.out
      exact this.trans HC2.out
    have HB := Lib.hid hb
    clear hb
    go_wp2_with fail
    refine bodyPost_ret (v := .tuple #[.string ⟨#[]⟩, .int .i64 1]) ?_ rfl ⟨rfl, HB.out.alloc HB.out.size _⟩
    rw [results_tmp2 rfl]; rfl
end Go.Proofs.YtghinmlpkgcdiaaDoor
