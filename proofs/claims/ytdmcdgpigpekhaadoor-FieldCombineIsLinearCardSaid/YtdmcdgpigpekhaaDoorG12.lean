/- Fields: the iterator over the symbols of a string keeps its contract. -/
import Derived.Test.YtdmcdgpigpekhaaDoorRF
import Derived.Test.YtdmcdgpigpekhaaDoorG10
import Derived.Shelf.Abstract
import Derived.Shelf.RegionOpen
import Derived.WalkKit
import Derived.OwnWalkIn
import Derived.TacticsInMore
import Derived.LoopNIn
import Derived.LoopIn
namespace Go.Proofs.YtdmcdgpigpekhaaDoor
set_option linter.unusedSimpArgs false
set_option linter.unusedVariables false
open Go.RowKit Go.Shelf Go.Lib
attribute [local go_sem] Oper.semAt_some

/-- the number that the first j bytes from I on make -/
def bigV (l : List UInt8) (I : Nat) : Nat → Nat
  | 0 => 0
  | j + 1 => 256 * bigV l I j + (l[I + j]?.getD 0).toNat
theorem bigV_sym {m : Nat} (hm : Fld.IsM m) (l : List UInt8) (I : Nat) : bigV l I (Fld.size m) = Fld.symAt m l I := by
  rcases hm with rfl | rfl
  · show bigV l I 1 = _
    simp [bigV, Fld.symAt]
  · show bigV l I 2 = _
    simp [bigV, Fld.symAt]
theorem i64_or_byte (x : Nat) (b : UInt8) (hx : x < 1099511627776) : bits .or .i64 ((x : Int) * 256) (b.toNat : Int) = ((256 * x + b.toNat : Nat) : Int) := by
  have hb := b.toNat_lt
  have e1 : ((x : Int) * 256) = ((x * 256 : Nat) : Int) := by simp
  rw [e1]
  show IntKind.i64.wrap ((BitVec.ofInt 64 ((x * 256 : Nat) : Int) ||| BitVec.ofInt 64 (b.toNat : Int)).toNat : Int) = _
  rw [BitVec.toNat_or, ofInt64 _ (by omega), ofInt64 _ (by omega), IntKind.wrap_i64]
  have : x * 256 ||| b.toNat = x * 256 + b.toNat := by
    have := Nat.shiftLeft_add_eq_or_of_lt (b := b.toNat) (i := 8) (by omega) x
    rw [Nat.shiftLeft_eq] at this
    exact this.symm
  rw [this]
  omega
theorem bigV_lt (l : List UInt8) (I : Nat) : ∀ j, j ≤ 2 → bigV l I j < 65536
  | 0, _ => by simp [bigV]
  | 1, _ => by have := (l[I]?.getD 0).toNat_lt; simp [bigV]; omega
  | 2, _ => by have := (l[I]?.getD 0).toNat_lt; have := (l[I + 1]?.getD 0).toNat_lt; simp [bigV]; omega
  | n + 3, h => by omega
theorem extract_get (u : ByteArray) (I S j : Nat) (hj : j < S) (h : I + S ≤ u.size) : (u.extract I (I + S)).data.toList[j]?.getD 0 = u.data.toList[I + j]?.getD 0 := by
  rw [ByteArray.data_extract, Array.toList_extract, List.getElem?_take_of_lt (by omega), List.getElem?_drop]
set_option maxRecDepth 100000 in
set_option maxHeartbeats 2000000 in
theorem sym_gives (m : Nat) (hm : Fld.IsM m) (u : ByteArray) (Bm Bu : Nat) (w : World) (h1 : Row w Bm 3 #[.int .i64 (m : Int)]) (h2 : Row w Bu 9 #[.string u]) (hs : u.size ≤ 100000000) :
    Gives Tryd.prog 50 #[.pointer (some ⟨Bm, 0, none⟩), .pointer (some ⟨Bu, 0, none⟩)] (fun p : Nat × Nat => #[Value.int .i64 (p.1 : Int), .int .i64 (p.2 : Int)]) (fun k => k = Bm ∨ k = Bu) (Fld.syms m u.data.toList) w := fun l X J Jx W hW hX hN hJ hJx hY h0 => by
  have h1' := h1.below hW h1.lt
  have h2' := h2.below hW h2.lt
  have hc1 : W.cell? ⟨Bm, 0, none⟩ = some (.int .i64 (m : Int)) := h1'.cell 0
  have H1 := Lib.hid h1'
  have H2 := Lib.hid h2'
  obtain ⟨S, hS⟩ : ∃ S, Fld.size m = S := ⟨_, rfl⟩
  have hSi : (m : Int) / 8 = (S : Int) := by rw [← hS]; unfold Fld.size; omega
  have hS2 : 0 < S ∧ S ≤ 2 := by rw [← hS]; rcases hm with rfl | rfl <;> decide
  obtain ⟨hS0, hS2⟩ := hS2
  have HS := Lib.hid hS
  have HM := Lib.hid hm
  have HY := Lib.hid hY
  have HJ := Lib.hid hJ
  have HN := Lib.hid hN
  have HLD := Lib.hid (len_data u)
  clear h1 h2 h1' h2' hS hm hY hJ hN
  refine callsIn_of_wp Tryd.func50 rfl trivial ?_ rfl
  simp only [Tryd.ntmps50, List.size_toArray, List.length_cons, List.length_nil, Nat.reduceAdd, Nat.reduceSub, Array.replicate_succ, Array.replicate_zero, List.push_toArray, List.append_toArray, List.nil_append, List.cons_append]
  gi_wp2
  gi_loopw [5] (fun i wr => ∃ k I : Nat, k ≤ u.size / S ∧ I = k * S ∧ i = .int .i64 I ∧ J ((Fld.syms m u.data.toList).take k) wr ∧ Row wr Bm 3 #[.int .i64 (m : Int)] ∧ Row wr Bu 9 #[.string u] ∧ W.heap.size ≤ wr.heap.size) (fun i _ => u.size + 1 - (intOf i).toNat)
  case atStart => exact ⟨0, 0, Nat.zero_le _, by omega, rfl, h0, H1.out, H2.out, Nat.le_refl _⟩
  case round =>
    obtain ⟨k, I, hk, hI, rfl, hj, hr1, hr2, hsz⟩ := hrel
    have hcu : wr.cell? ⟨Bu, 0, none⟩ = some (.string u) := hr2.cell 0
    have HI := Lib.hid hI
    have HR1 := Lib.hid hr1
    have HR2 := Lib.hid hr2
    have HJ2 := Lib.hid hj
    have hle : I ≤ u.size := by rw [hI]; exact Nat.le_trans (Nat.mul_le_mul_right S hk) (Nat.div_mul_le_self _ _)
    by_cases hlt : k < u.size / S
    · have hIS : I + S ≤ u.size := by
        rw [hI]
        have := Nat.mul_le_mul_right S (show k + 1 ≤ u.size / S from hlt)
        rw [Nat.add_mul, Nat.one_mul] at this
        exact Nat.le_trans this (Nat.div_mul_le_self _ _)
      clear hr1 hr2 hj hI
      have hd : decide ((I : Int) + (S : Int) ≤ (u.size : Int)) = true := by simp; omega
      obtain ⟨cB, wB, hcv, hbB, hB⟩ := conv_bytes wr (u.extract I (I + S))
      have HB := Lib.hid hbB
      have HR := Lib.hid hB
      clear hbB hB
      have hsl : ∀ w, (Instr.slice 9 (.string u) (some (.int .i64 (I : Int))) (some (.int .i64 ((I : Int) + (S : Int)))) none).run Tryd.prog w = .ok (.string (u.extract I (I + S))) w := fun w => by
        rw [run_slice_string w 9 u .i64 .i64 (I : Int) ((I : Int) + (S : Int)) Tryd.underlying9 (by omega) (by omega) (by omega)]
        congr 2
      have hxs : (u.extract I (I + S)).size = S := by rw [ByteArray.size_extract]; omega
      obtain ⟨E, hE⟩ : ∃ E, u.extract I (I + S) = E := ⟨_, rfl⟩
      have HE := Lib.hid hE
      rw [hE] at hcv hsl hxs HR
      have HXS := Lib.hid hxs
      have HEG := Lib.hid (fun j (hj : j < S) => (show E.data.toList[j]?.getD 0 = u.data.toList[I + j]?.getD 0 by rw [← hE]; exact extract_get u I S j hj hIS))
      clear hE
      gi_wp2
      gi_loop [6, 28] (fun x i => ∃ j : Nat, j ≤ S ∧ i = .int .i64 j ∧ x = .int .i64 (bigV u.data.toList I j : Int)) (fun _ i => S - (intOf i).toNat)
      case atStart => exact ⟨0, Nat.zero_le _, rfl, rfl⟩
      case round =>
        obtain ⟨j, hj, rfl, rfl⟩ := hrel
        by_cases hjl : j < S
        · obtain ⟨hc, hf⟩ := HR.out.cell (k := j) (by rw [len_data, HXS.out]; exact hjl)
          rw [HEG.out j hjl] at hc
          obtain ⟨b, hb⟩ : ∃ b, u.data.toList[I + j]?.getD 0 = b := ⟨_, rfl⟩
          have HV := Lib.hid (show bigV u.data.toList I (j + 1) = 256 * bigV u.data.toList I j + b.toNat by rw [← hb]; rfl)
          rw [hb] at hc
          have hV := bigV_lt u.data.toList I j (by omega)
          obtain ⟨V, hVe⟩ : ∃ V, bigV u.data.toList I j = V := ⟨_, rfl⟩
          rw [hVe] at HV hV ⊢
          have HOR := Lib.hid (i64_or_byte V b (by omega))
          have hbb : (b.toNat : Int) ≤ 255 := by have := b.toNat_lt; omega
          have hd : decide (j < S) = true := by simp; omega
          clear hb hf hVe
          gi_wp2
          go_round
          case rel => exact ⟨j + 1, by omega, by go_num, by rw [HV.out]; exact congrArg (Value.int .i64) HOR.out⟩
          case measure => simp [intOf]; omega
        · have hjS : j = S := by omega
          subst hjS
          obtain ⟨V, hVe⟩ : ∃ V, bigV u.data.toList I j = V := ⟨_, rfl⟩
          have hp : (Fld.syms m u.data.toList).take k ++ [(I, V)] <+: Fld.syms m u.data.toList := by
            have h1 := Fld.syms_take m u.data.toList (k := k) (by rw [HLD.out, HS.out]; exact hlt)
            rw [HS.out, ← HI.out, ← bigV_sym HM.out, HS.out, hVe] at h1
            rw [← h1]; exact List.take_prefix _ _
          have HP := Lib.hid hp
          have HT := Lib.hid (show (Fld.syms m u.data.toList).take (k + 1) = (Fld.syms m u.data.toList).take k ++ [(I, V)] by
            have h1 := Fld.syms_take m u.data.toList (k := k) (by rw [HLD.out, HS.out]; exact hlt)
            rw [HS.out, ← HI.out, ← bigV_sym HM.out, HS.out, hVe] at h1
            exact h1)
          obtain ⟨fn, tmps, assign, body, hy, hR⟩ := HY.out _ _ wB HP.out (Nat.le_trans hsz HB.out.size) (HJ.out _ _ _ hsz HJ2.out (HB.out.mono hsz))
          have HRR := Lib.hid hR
          rw [hVe]
          have hd : decide (j < j) = false := by simp
          clear hR hp hVe
          gi_wp2
          refine (HRR.out _).mono ?_
          rintro e W3 ⟨ho, (⟨rfl, hJ3⟩ | ⟨rfl, hJx3⟩)⟩
          · have hW3 : W.heap.size ≤ W3.heap.size := Nat.le_trans hsz (Nat.le_trans HB.out.size ho.size)
            have HR13 := Lib.hid (ho.row (HR1.out.below HB.out HR1.out.lt) (HN.out Bm (.inl rfl)))
            have HR23 := Lib.hid (ho.row (HR2.out.below HB.out HR2.out.lt) (HN.out Bu (.inr rfl)))
            have hc3 : W3.cell? ⟨Bm, 0, none⟩ = some (.int .i64 (m : Int)) := HR13.out.cell 0
            have HJ3 := Lib.hid (show J ((Fld.syms m u.data.toList).take (k + 1)) W3 by rw [HT.out]; exact hJ3)
            clear ho hJ3 hy hc1
            gi_wp2
            go_roundw
            case rel => exact ⟨k + 1, I + j, by omega, by rw [HI.out, Nat.add_mul, Nat.one_mul], by go_num, HJ3.out, HR13.out, HR23.out, hW3⟩
            case measure => simp [intOf]; omega
          · have HJx3 := Lib.hid hJx3
            clear ho hJx3 hy
            gi_wp2
            refine bodyPost_ret (results_none rfl _ _ _) rfl ?_
            exact ⟨⟨_, rfl⟩, .inr ⟨_, HP.out, HJx3.out⟩⟩
    · have h1 : k = u.size / S := by omega
      have HJ3 := Lib.hid (show J (Fld.syms m u.data.toList) wr by rw [← List.take_of_length_le (l := Fld.syms m u.data.toList) (i := k) (by rw [Fld.syms_length, HLD.out, HS.out, h1]; exact Nat.le_refl _)]; exact hj)
      have hd : decide ((I : Int) + (S : Int) ≤ (u.size : Int)) = false := by
        have h2 := Nat.div_add_mod u.size S
        have h3 := Nat.mod_lt u.size hS0
        have h4 : I = S * (u.size / S) := by rw [hI, h1, Nat.mul_comm]
        simp; omega
      clear hr1 hr2 hj hI h1
      gi_wp2
      go_end0
      exact ⟨⟨_, rfl⟩, .inl HJ3.out⟩
end Go.Proofs.YtdmcdgpigpekhaaDoor
