/- CrcParts: for every list of strings, where what is read is of bulk at most 1048576, the law returns true, and its argument reads as it did. -/
import Derived.Test.YtgnafdpondmjfaaLawCombines
import Derived.Test.YtgnafdpondmjfaaOpenL
namespace Go.Proofs.Ytgnafdpondmjfaa
open Go.ChangeShapes Go.WideShapes Go.ChangeAt Go.RowKit
set_option linter.unusedVariables false

/-- the first k parts, joined -/
def joined (ps : List (Option Addr × Nat × List UInt8)) (k : Nat) : List UInt8 := ((ps.take k).map (·.2.2)).flatten
theorem joined_next {ps : List (Option Addr × Nat × List UInt8)} {k : Nat} (hk : k < ps.length) : joined ps (k + 1) = joined ps k ++ (ps[k]).2.2 := by
  unfold joined
  rw [List.take_succ_eq_append_getElem hk]
  simp only [List.map_append, List.map_cons, List.map_nil, List.flatten_append, List.flatten_cons, List.flatten_nil, List.append_nil]
theorem joined_le (ps : List (Option Addr × Nat × List UInt8)) : ∀ k, (joined ps k).length ≤ total ps := by
  induction ps with
  | nil => intro k; simp [joined, total]
  | cons p ps ih =>
    intro k
    cases k with
    | zero => simp [joined]
    | succ k =>
      have := ih k
      simp only [joined, List.take_succ_cons, List.map_cons, List.flatten_cons, List.length_append, total] at this ⊢
      omega

set_option maxRecDepth 100000 in
theorem walk_CrcParts (a : Option Addr) (len cap : Nat) (ps : List (Option Addr × Nat × List UInt8)) (w : World) (hl : ps.length = len) (hm : len ≤ 9223372036854775807)
    (hrd : Rd w w.heap.size a (ps.map partv)) (hps : ∀ p ∈ ps, Rd w w.heap.size p.1 (p.2.2.map v8)) (hsum : total ps ≤ 1048576) :
    Calls Try.prog 4 #[.slice a len cap] w fun e w' => e = .returned (.bool true) ∧ Below w.heap.size w w' := by
  have HR := Lib.hid hrd
  have HP := Lib.hid hps
  have HL := Lib.hid hl
  have HJ := Lib.hid (joined_le ps)
  clear hrd hl hps
  go_enter Try.func4, Try.ntmps4
  go_wp2_with fail
  refine (of_any none 0 0 0 [] _ rfl (by decide) (Nat.zero_le _) (Rd.nil _ _ _)).mono ?_
  rintro e w1 ⟨rfl, hb⟩
  have H1 := Lib.hid hb
  clear hb
  go_wp2_with fail
  go_loopw [3, 4, 5] (fun c al i wr => ∃ (k c' : Nat) (a' : Option Addr), k ≤ len ∧ i = .int .i64 k ∧ c = v32 (Crc.crc (joined ps k)) ∧ al = .slice a' (joined ps k).length c' ∧
    Own wr w.heap.size 5 a' (joined ps k).length c' ((joined ps k).map v8) ∧ Below w.heap.size w wr) (fun _ _ i _ => len - (intOf i).toNat)
  case atStart => exact ⟨0, 0, none, by omega, rfl, rfl, rfl, Own.nil _ _ _, H1.out⟩
  case round =>
    obtain ⟨k, c', a', hk, rfl, rfl, rfl, ho, hb⟩ := hrel
    have HO := Lib.hid ho
    have HB := Lib.hid hb
    clear ho hb
    obtain ⟨C, hC⟩ : ∃ C, C = Crc.crc (joined ps k) := ⟨_, rfl⟩
    obtain ⟨J, hJ⟩ : ∃ J, J = joined ps k := ⟨_, rfl⟩
    rw [← hC]
    rw [← hJ]
    rw [← hJ] at HO
    have HC := Lib.hid hC
    have HJk := Lib.hid hJ
    have hJl : J.length ≤ total ps := by rw [hJ]; exact HJ.out k
    clear hC hJ
    simp only [v32]
    by_cases hlt : k < len
    · have hkp : k < ps.length := by rw [HL.out]; exact hlt
      obtain ⟨p, hp⟩ : ∃ p, p = ps[k] := ⟨_, rfl⟩
      obtain ⟨b, off, rfl, hbB, hc⟩ := (HR.out.below HB.out) k (partv p) (by rw [List.getElem?_map, List.getElem?_eq_getElem hkp, hp]; rfl)
      have HPk := Lib.hid (HP.out p (by rw [hp]; exact List.getElem_mem hkp))
      have HN := Lib.hid (show joined ps (k + 1) = J ++ p.2.2 by rw [HJk.out, hp]; exact joined_next hkp)
      have hJ2 : J.length + p.2.2.length ≤ total ps := by have := HJ.out (k + 1); rw [HN.out, List.length_append] at this; exact this
      have HbB := Lib.hid hbB
      clear hp hkp hbB
      obtain ⟨pa, pc, pb⟩ := p
      simp only [partv] at hc
      dsimp only at hJ2 HPk HN
      go_wp2_with fail
      refine (extend_any C pa pb.length pc w.heap.size pb _ rfl (by omega) HB.out.size (HPk.out.below HB.out)).mono ?_
      rintro e w2 ⟨rfl, hb⟩
      have HB2 := Lib.hid (below_call HB.out hb)
      have HO2 := Lib.hid (HO.out.below hb)
      have hc2 : w2.cell? ⟨b, off + k, none⟩ = some (.slice pa pb.length pc) := by rw [← hc]; exact hb.cell (p := ⟨b, off + k, none⟩) (Nat.lt_of_lt_of_le HbB.out HB.out.size)
      clear hb
      have hv : v32 (Crc.ext C pb) = v32 (Crc.crc (joined ps (k + 1))) := by
        rw [HC.out, HN.out, ← HJk.out]; exact congrArg v32 (Crc.ext_append _ _ _)
      rw [hv]
      clear hv
      obtain ⟨C2, hC2⟩ : ∃ C2, C2 = Crc.crc (joined ps (k + 1)) := ⟨_, rfl⟩
      rw [← hC2]
      have HC2 := Lib.hid hC2
      clear hC2
      simp only [v32]
      go_wp2_with (refine wpList_app _ rfl (.tmp 19) (.tmp 23) 22 rfl w.heap.size 5 (.int .u8 0) 1 Try.underlying22 elem_u8 rfl a' J.length c' (J.map v8) rfl HO2.out _ pa pb.length pc (pb.map v8) rfl (HPk.out.below HB2.out) (by rw [List.length_map]) (v8_one pb) (by unfold maxLen; omega) (by omega) HB2.out.size ?_; intro a2 c2 w3 ho hg; have HO3 := Lib.hid ho; have HB3 := Lib.hid (below_grown HB2.out hg HO2.out HB2.out.size); clear ho hg)
      go_roundw
      case rel =>
        refine ⟨k + 1, c2, a2, by omega, by go_num, by rw [HC2.out], ?_, ?_, HB3.out⟩
        · rw [HN.out, List.length_append]
        · rw [HN.out, List.length_append, List.map_append]; exact HO3.out
      case measure => simp [intOf]; omega
    · have HE := Lib.hid (show joined ps k = J from HJk.out.symm)
      go_wp2_with fail
      refine (sanity_any _).mono ?_
      rintro e w2 ⟨rfl, hb⟩
      have H2 := Lib.hid (below_call HB.out hb)
      have HO2 := Lib.hid (HO.out.below hb)
      clear hb
      go_wp2_with fail
      refine (of_any a' J.length c' _ J _ rfl (by omega) (Nat.le_refl _) HO2.out.rd).mono ?_
      rintro e w3 ⟨rfl, hb⟩
      have H3 := Lib.hid (below_call H2.out hb)
      clear hb
      rw [HJk.out, ← HC.out]
      simp only [v32]
      go_wp2_with fail
      go_ret
      exact ⟨rfl, H3.out⟩

/-! ### the frame: the arguments opened and shut -/
theorem contract_CrcParts (H : Type) (enc : TypeId × Value → H) (W : World) (base : Nat) (args : Array Value) (ds gs : List (DataW H)) (before : List MemPlace)
    (hval0 : ∀ (j : Nat) t v, Try.f4.params[j]? = some t → args[j]? = some v → Value.okWide Try.prog W .any base t v)
    (hW : DataW.Whole enc Try.prog Try.f4.params.toList Rows.crcPartsSpec.vars false W args.toList ds gs before) (hsz0 : Rows.uptoSmall H (ds ++ gs) = true):
    Calls Try.prog 4 args W fun e W' => ∃ v, e = .returned v ∧ Rows.crcPartsSpec.post enc Try.prog Try.f4 false true false false W args v W' := by
  have hval : ∀ (j : Nat) t v, Try.f4.params[j]? = some t → args[j]? = some v → Value.okWide Try.prog W .any base t v := hval0
  have hW' := hW
  obtain ⟨p, q, hA0, hV, rfl, hfz, hnd⟩ := hW
  have hA : DataW.TrodAll enc Try.prog W 0 (fun _ => true) true Try.f4.params.toList args.toList ds p := hA0
  rw [Try.params4] at hA hval
  obtain ⟨v0, vs0, d0, ds0, p0, q0, hargs, rfl, rfl, h0, r0⟩ := trodAll_cons hA
  obtain ⟨rfl, rfl, rfl⟩ := trodAll_nil r0
  obtain rfl : args = #[v0] := by cases args; simp_all
  obtain ⟨rfl, rfl⟩ := trodVars_none hV
  have hbulk : Rows.uptoBulkAll ([d0]) ≤ 1048576 := of_decide_eq_true hsz0
  simp only [Rows.uptoBulkAll] at hbulk
  have k0 := h0
  have lt0 : ∀ x ∈ p0, x.block < W.heap.size := by obtain ⟨m, hm⟩ := k0; exact DataW.trod_lt m _ _ _ hm
  obtain ⟨a0, len0, cap0, rfl⟩ := okWide_slice Try.underlying30 (hval 0 30 v0 rfl rfl)
  obtain ⟨fuel0, hf0⟩ := h0
  obtain ⟨x0, y0, z0, xs0, es0, hcs0, hbl0, hlc0, hcm0, hrd0, hso0, hbu0, hea0⟩ := open_list Try.underlying30 (by kernel_rfl) hf0
  simp only [Value.cells, List.cons.injEq, Value.slice.injEq, and_true] at hcs0
  obtain ⟨rfl, rfl, rfl⟩ := hcs0
  obtain ⟨ps0, rfl, hpa0, hto0⟩ := each_u8s Try.underlying22 Try.underlying5 (by kernel_rfl) _ _ hea0
  rw [List.length_map] at hbl0
  have hmx0 : len0 ≤ 9223372036854775807 := by unfold maxLen at hcm0; omega
  have hub0 : Rows.uptoBulkAll es0 + 1 ≤ Rows.uptoBulk d0 := hbu0
  refine (walk_CrcParts a0 len0 cap0 ps0 W hbl0 hmx0 hrd0 hpa0 (by have := bulk_one d0; omega)).mono fun e W' ⟨he, bel⟩ => ?_
  subst he
  exact ⟨_, rfl, _, _, _, [], _, [], hW', trodAll_mk1 (shut_bool Try.underlying4 _), (trodAll_cons_mk (Below.trod laidOut (by kernel_rfl) (of_decide_eq_true (by kernel_rfl)) k0 bel lt0) trodAll_mk0), rfl, bel.frame _, fun h => by cases h⟩

set_option maxRecDepth 100000 in
theorem lifted_CrcParts (os : Os) (started : os.Started) (H : Type) (enc : TypeId × Value → H) (F : Stop.Interp) :
    ReturnsInHanded {} Try.checked os 4 .any ((Rows.OpenSpec.upto Rows.crcPartsSpec).pre6 enc Try.prog Try.f4 Rows.crcPartsUptoRow.domain false) (((Rows.OpenSpec.upto Rows.crcPartsSpec).at F).post enc Try.prog Try.f4 false true false false) := by
  refine returnsInHanded_of_cond (C := Try.checked) (s := Rows.OpenSpec.upto Rows.crcPartsSpec) (k := Rows.uptoSmall) rfl own started (by kernel_rfl) Try.func4
    (OpenSpec.witness (enc := enc) (C := Try.checked) (s := Rows.OpenSpec.upto Rows.crcPartsSpec) (k := Rows.uptoSmall) rfl false ⟨#[], #[.slice none 0 0], []⟩ 8 (by kernel_rfl) (by kernel_rfl) (by kernel_rfl)
      (x := ([.nil], [], [])) (by kernel_rfl) rfl (by kernel_rfl)) ?_
  intro W base args ds gs before hval hW _ hk _
  exact contract_CrcParts H enc W base args ds gs before hval hW hk

theorem proved_CrcParts : Rows.CrcPartsUptoSaid :=
  OpenClaim.holds_of_cond 4 Try.f4 rfl rfl rfl rfl rfl rfl rfl ⟨rfl, rfl, rfl, rfl, rfl⟩ rfl rfl rfl rfl rfl (by kernel_rfl) Try.func4 (by kernel_rfl)
    (of_decide_eq_true (by kernel_rfl)) (by unfold Func.isWrapper; first | (rw [if_pos (by decide +kernel)]; kernel_rfl) | (rw [if_neg (by decide +kernel)]; exact ⟨rfl, rfl⟩))
    (fun os started H enc _ F => lifted_CrcParts os started H enc F)
end Go.Proofs.Ytgnafdpondmjfaa
