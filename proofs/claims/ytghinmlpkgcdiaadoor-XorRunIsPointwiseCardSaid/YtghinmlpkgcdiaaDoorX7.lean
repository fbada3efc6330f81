/- Schedules: the program's Sets. -/
import Derived.Test.YtghinmlpkgcdiaaDoorX6
import Derived.Test.YtghinmlpkgcdiaaDoorXG
import Derived.Laws.Bits64b
namespace Go.Proofs.YtghinmlpkgcdiaaDoor
set_option linter.unusedSimpArgs false
set_option linter.unusedVariables false
open Go.RowKit Go.Lib

theorem make_words (m : Nat) (hm : m ≤ 100000) (u : World) : (Instr.makeSlice 80 (.int .i64 (m : Int)) (.int .i64 (m : Int))).run Tryd.prog u =
    .ok (.slice (some ⟨u.heap.size, 0, none⟩) m m) (u.alloc (.cells (madeCells #[.int .u64 0] m) 85)) := by
  obtain ⟨i0, hi, hz0, hz1, hz2⟩ := info_parts (show (Tryd.prog.info? 85).map (fun i => (i.zero, i.size, i.bytes)) = some (some (.int .u64 0), 1, 8) by kernel_rfl)
  have h := run_make (P := Tryd.prog) u 80 85 i0 (.int .u64 0) Tryd.underlying80 hi hz0 .i64 .i64 (m : Int) (m : Int) (by omega) (Int.le_refl _) (by rw [hz2]; omega) (by omega)
  have e : (m : Int).toNat = m := by omega
  rw [e] at h
  simpa [hz1, Value.cells] using h
theorem elem_rows : Elem Tryd.prog 27 (.slice none 0 0) 24 := by unfold Elem; kernel_rfl
theorem make_rows (m : Nat) (hm : m ≤ 100000) (u : World) : (Instr.makeSlice 24 (.int .i64 (m : Int)) (.int .i64 (m : Int))).run Tryd.prog u =
    .ok (.slice (some ⟨u.heap.size, 0, none⟩) m m) (u.alloc (.cells (madeCells #[.slice none 0 0] m) 27)) := by
  obtain ⟨i0, hi, hz0, hz1, hz2⟩ := info_parts (show (Tryd.prog.info? 27).map (fun i => (i.zero, i.size, i.bytes)) = some (some (.slice none 0 0), 1, 24) by kernel_rfl)
  have h := run_make (P := Tryd.prog) u 24 27 i0 (.slice none 0 0) Tryd.underlying24 hi hz0 .i64 .i64 (m : Int) (m : Int) (by omega) (Int.le_refl _) (by rw [hz2]; omega) (by omega)
  have e : (m : Int).toNat = m := by omega
  rw [e] at h
  simpa [hz1, Value.cells] using h

theorem wrap_pow64 {i : Nat} (h : i < 64) : IntKind.u64.wrap ((2 : Int) ^ i) = ((1 <<< i : Nat) : Int) := by
  have h2 : (2 : Nat) ^ i < 2 ^ 64 := Nat.pow_lt_pow_right (by decide) h
  rw [Nat.one_shiftLeft, IntKind.wrap_u64, show (2 : Int) ^ i = ((2 ^ i : Nat) : Int) by simp]
  generalize 2 ^ i = x at h2 ⊢
  omega
theorem bit_test (N x : Nat) : (bits .and .u64 ((Xp.word N (x / 64) : Int) / 2 ^ (x % 64)) 1 != 0) = N.testBit x := by
  have hl := Xp.word_lt N (x / 64)
  have h := Xp.bit_read N x
  have e : ((Xp.word N (x / 64) : Int) / 2 ^ (x % 64)) = ((Xp.word N (x / 64) / 2 ^ (x % 64) : Nat) : Int) := by simp
  have hd : Xp.word N (x / 64) / 2 ^ (x % 64) ≤ Xp.word N (x / 64) := Nat.div_le_self _ _
  generalize Xp.word N (x / 64) / 2 ^ (x % 64) = y at e h hd
  rw [e, show (1 : Int) = ((1 : Nat) : Int) from rfl, bits_and_u64_nat y 1 (by omega) (by omega), Nat.and_one_is_mod, h]
  cases N.testBit x <;> rfl
theorem bit_input {w : World} {WW t : Nat} (h : t / 64 < WW) : Bit (w.alloc (.cells ((madeCells #[.int .u64 0] WW).setIfInBounds (t / 64) (.int .u64 (IntKind.u64.wrap ((2 : Int) ^ (t % 64))))) 85)) WW (.slice (some ⟨w.heap.size, 0, none⟩) WW WW) (1 <<< t) := by
  refine ⟨_, _, rfl, fun _ => ⟨_, _, rfl, Row.new _ _ _, fun p hp => ?_⟩⟩
  have hm : (madeCells #[Value.int .u64 0] WW)[p]? = some (.int .u64 0) := made_get _ _ _ _ (by rw [List.getElem?_replicate, if_pos hp])
  rw [Array.getElem?_setIfInBounds, Xp.word_one, wrap_pow64 (Nat.mod_lt _ (by decide))]
  by_cases e : t / 64 = p
  · subst e
    rw [if_pos rfl, if_pos rfl, if_pos]
    obtain ⟨h1, _⟩ := Array.getElem?_eq_some_iff.1 hm
    exact h1
  · rw [if_neg e, if_neg (fun h => e h.symm), hm]; rfl

theorem fam_app {w w' : World} {B : Nat} {vs : List Value} {ls : List (List Nat)} (h : Fam w B vs ls) {i : Nat} {l : List Nat} {q q' : Option Addr} {k k' L x : Nat} (hl : ls[i]? = some l) (hv : vs[i]? = some (.slice q l.length k)) (hL : l.length = L) (hg : w.grownBy w' (Value.slice q L k).ownBlock) (ho : Own w' B 3 q' (L + 1) k' (nts l ++ [.int .i64 (x : Int)]))
    (hn : q' = q ∨ ∃ g, q' = some ⟨g, 0, none⟩ ∧ w.heap.size ≤ g) : Fam w' B (vs.set i (.slice q' (L + 1) k')) (ls.set i (l ++ [x])) := by
  subst hL
  have e : (l ++ [x]).length = l.length + 1 := by simp
  have := h.set (l' := l ++ [x]) (q' := q') (k' := k') hl hv hg (by rw [e, nts_snoc]; exact ho) hn
  rwa [e] at this
set_option maxRecDepth 100000 in
theorem xsets_no (f d p : Int) (qo : Option Addr) (no ko : Nat) (qx : Option Addr) (nx kx : Nat) (ops : List (Int × Int)) (out : List Int) (w : World) (ht : Tab w) (hno : no ≤ 9223372036854775807)
    (hlo : ops.length = no) (hro : Rd w w.heap.size qo (opsC ops)) (hlx : out.length = nx) (hrx : Rd w w.heap.size qx (ints out)) (h : Xp.okS f d p ops out = false) :
    Calls Tryd.prog 18 #[schV f d p qo no ko qx nx kx] w fun e w' => e = .returned (.tuple #[.slice none 0 0, .int .i64 1]) ∧ Below w.heap.size w w' := by
  have HV := Lib.hid (fun (W : World) (hb : Below w.heap.size w W) => xvalid_any f d p qo no ko qx nx kx ops out W (ht.next hb) hno hlo ((hro.below hb).more hb.size) hlx ((hrx.below hb).more hb.size))
  rw [h] at HV
  unfold schV at HV ⊢
  have HW : Hid (Below w.heap.size w (w.alloc (.cells (schC f d p qo no ko qx nx kx) 30))) := Lib.hid ((Below.refl _ w).alloc (Nat.le_refl _) _)
  clear ht hno hlo hro hlx hrx h
  go_enter Tryd.func18, Tryd.ntmps18
  go_wp2_with fail
  refine (HV.out _ HW.out).mono ?_
  rintro e w1 ⟨rfl, hb⟩
  have HB1 := Lib.hid (below_call HW.out hb)
  clear hb
  go_wp2
  refine bodyPost_ret (v := .tuple #[.slice none 0 0, .int .i64 1]) ?_ rfl ⟨rfl, HB1.out⟩
  rw [results_tmp2 rfl]; rfl

set_option maxRecDepth 100000 in
set_option maxHeartbeats 6400000 in
theorem xsets_yes {m : Nat} (hm : Fld.IsM m) (d p : Int) (qo : Option Addr) (no ko : Nat) (qx : Option Addr) (nx kx n : Nat) (ops : List (Int × Int)) (out : List Int) (w : World) (ht : Tab w) (hno : no ≤ 131072)
    (hlo : ops.length = no) (hro : Rd w w.heap.size qo (opsC ops)) (hlx : out.length = nx) (hrx : Rd w w.heap.size qx (ints out)) (h : Xp.okS m d p ops out = true) (hn : d * (m : Int) = n) (hn1 : 1 ≤ n) (hnn : n ≤ 512) :
    Calls Tryd.prog 18 #[schV m d p qo no ko qx nx kx] w fun e w' => (∃ q k vs, e = .returned (.tuple #[.slice q nx k, .int .i64 0]) ∧ Own w' w.heap.size 27 q nx k vs ∧ Fam w' w.heap.size vs (Xp.sets n (Xp.regs (Xp.inputs n) (natO ops)) out)) ∧ Below w.heap.size w w' := by
  have HV := Lib.hid (fun (W : World) (hb : Below w.heap.size w W) => xvalid_any m d p qo no ko qx nx kx ops out W (ht.next hb) (by omega) hlo ((hro.below hb).more hb.size) hlx ((hrx.below hb).more hb.size))
  rw [h] at HV
  have HIN := Lib.hid (fun (W : World) => inputs_any m d p (.slice qo no ko) (.slice qx nx kx) n (by rw [hn, IntKind.wrap_i64] <;> omega) W)
  obtain ⟨WW, hWW⟩ : ∃ WW, (n + 63) / 64 = WW := ⟨_, rfl⟩
  have hWn : WW ≤ 9 := by omega
  have h' := h
  unfold Xp.okS at h'
  rw [Bool.and_eq_true, Bool.and_eq_true, hn, hlo] at h'
  obtain ⟨⟨hhd, hok⟩, hall⟩ := h'
  have hnx : nx ≤ 512 := by
    unfold Xp.headOk at hhd
    simp only [Bool.and_eq_true, decide_eq_true_eq] at hhd
    obtain ⟨⟨⟨⟨⟨⟨_, h1⟩, h2⟩, h3⟩, h4⟩, _⟩, h5⟩ := hhd
    rw [hlx] at h5
    rcases hm with rfl | rfl <;> omega
  have hout : ∀ x ∈ out, -1 ≤ x ∧ x < (n : Int) + no := fun x hx => by
    have := List.all_eq_true.1 hall x hx
    unfold Xp.outOk at this
    simpa only [Bool.and_eq_true, decide_eq_true_eq] using this
  have HEV := Lib.hid (fun (W : World) (hb : Below w.heap.size w W) (qi : Option Addr) (ki : Nat) (us : List Value) (hri : Rd W W.heap.size qi us) (hrg : RegsOf W WW us (Xp.inputs n)) => eval_any m d p qo no ko qx nx kx ops WW n qi ki us (Xp.inputs n) W (by omega) (by omega) hno hlo ((hro.below hb).more hb.size) hok (Xp.inputs_length n) hri hrg)
  have HRX := Lib.hid hrx
  have HLO := Lib.hid hlo
  have HLX := Lib.hid hlx
  have HOUT := Lib.hid hout
  have hq : ((n : Int) + 64 - 1) / 64 = (WW : Int) := by omega
  have HMK := make_words WW (by omega)
  have HMR := make_rows nx (by omega)
  obtain ⟨R, hR⟩ : ∃ R, Xp.regs (Xp.inputs n) (natO ops) = R := ⟨_, rfl⟩
  obtain ⟨S, hS⟩ : ∃ S, Xp.sets n R out = S := ⟨_, rfl⟩
  rw [hR] at HEV ⊢
  rw [hS]
  have HSL := Lib.hid (show S.length = nx by rw [← hS, Xp.sets, List.length_map, hlx])
  have HSS := Lib.hid hS
  have HRL := Lib.hid (show R.length = n + no by rw [← hR, Xp.regs_length, natO_length, Xp.inputs_length, hlo])
  clear hR hS
  unfold schV at HV HEV ⊢
  have HW : Hid (Below w.heap.size w (w.alloc (.cells (schC m d p qo no ko qx nx kx) 30))) := Lib.hid ((Below.refl _ w).alloc (Nat.le_refl _) _)
  have HR : Hid (Row (w.alloc (.cells (schC m d p qo no ko qx nx kx) 30)) w.heap.size 30 (schC m d p qo no ko qx nx kx)) := Lib.hid (Row.new w _ _)
  have HWW := Lib.hid hWW
  have HT1 := Lib.hid (show 1 ≤ n from hn1)
  clear ht hlo hro hlx hrx h hok hout hWW hn hhd hall
  go_enter Tryd.func18, Tryd.ntmps18
  go_wp2_with fail
  refine (HV.out _ HW.out).mono ?_
  rintro e w1 ⟨rfl, hb⟩
  have hs1 := hb.size
  simp only [size1] at hs1
  have HB1 := Lib.hid (below_call HW.out hb)
  have HR1 := Lib.hid (HR.out.below hb HR.out.lt)
  obtain ⟨c0, c1, c2, c3, c4⟩ := sbox HR1.out
  clear hb HW HR
  go_wp2_with fail
  refine (HIN.out _).mono ?_
  rintro e w2 ⟨rfl, hb⟩
  have HB2 := Lib.hid (below_call HB1.out hb)
  have HR2 := Lib.hid (HR1.out.below hb HR1.out.lt)
  have hs2 := hb.size
  clear hb c0 c1 c2 c3 c4 HB1 HR1
  go_wp2_with fail
  go_loopw [5, 19] (fun s i wr => ∃ (t : Nat) (q : Option Addr) (k : Nat) (vs : List Value), t ≤ n ∧ i = .int .i64 t ∧ s = .slice q t k ∧ Own wr w2.heap.size 80 q t k vs ∧ RegsOf wr WW vs ((Xp.inputs n).take t) ∧ Below w2.heap.size w2 wr) (fun _ i _ => n - (intOf i).toNat)
  case atStart => exact ⟨0, none, 0, [], Nat.zero_le _, rfl, rfl, Own.nil _ _ _, RegsOf.nil _ _, Below.refl _ _⟩
  case round =>
    obtain ⟨t, q, k, vs, ht, rfl, rfl, ho, hg, hb⟩ := hrel
    have HO := Lib.hid ho
    have HG := Lib.hid hg
    have HB := Lib.hid hb
    have hsw := hb.size
    clear ho hg hb
    by_cases hlt : t < n
    · have hd : decide ((t : Int) < n) = true := decide_eq_true (by omega)
      have hmc : (madeCells #[Value.int .u64 0] WW)[t / 64]? = some (.int .u64 0) := made_get _ _ _ _ (by rw [List.getElem?_replicate, if_pos (show t / 64 < WW by have := HWW.out; omega)])
      have HC := Lib.hid (show t / 64 < WW by have := HWW.out; omega)
      have hix : t / 64 < WW := HC.out
      have HO2 := Lib.hid ((HO.out.alloc (.cells ((madeCells #[.int .u64 0] WW).setIfInBounds (t / 64) (.int .u64 (IntKind.u64.wrap ((2 : Int) ^ (t % 64))))) 85)).alloc (.cells #[Value.slice (some ⟨wr.heap.size, 0, none⟩) WW WW] 80))
      have HBI := Lib.hid (bit_input (w := wr) HC.out)
      have HTK := Lib.hid (Xp.inputs_take hlt)
      go_wp2_with (refine wpList_app _ rfl (.tmp 34) (.tmp 36) 76 rfl w2.heap.size 80 (.slice none 0 0) 24 Tryd.underlying76 elem_lists rfl q t k _ rfl HO2.out _ (some ⟨wr.heap.size + 1, 0, none⟩) 1 1 [.slice (some ⟨wr.heap.size, 0, none⟩) WW WW] rfl (by have h9 := Rd.one (wr.alloc (.cells ((madeCells #[.int .u64 0] WW).setIfInBounds (t / 64) (.int .u64 (IntKind.u64.wrap ((2 : Int) ^ (t % 64))))) 85)) 80 (.slice (some ⟨wr.heap.size, 0, none⟩) WW WW); rw [size1] at h9; exact h9) rfl (by intro u hu; simp only [List.mem_singleton] at hu; subst hu; rfl) (by unfold maxLen; omega) (by omega) (by simp; omega) ?_; intro a6 k6 w6 ho6 hg6; have HO6 := Lib.hid ho6; have HB6 := Lib.hid (below_grown2 ((HB.out.alloc (by omega) _).alloc (by simp; omega) _) hg6 HO2.out (by simp; omega) (Nat.le_refl _)); have HG6 := Lib.hid ((((HG.out.keeps ((Keeps.refl 85 wr).alloc _)).snoc HBI.out).keeps ((Keeps.refl 85 _).alloc _)).keeps ((Keeps.refl 85 _).grown HO2.out hg6 (by decide))); rw [← HTK.out] at HG6; clear ho6 hg6)
      go_roundw
      case rel => exact ⟨t + 1, a6, k6, _, by omega, by go_num, rfl, HO6.out, HG6.out, HB6.out⟩
      case measure => simp [intOf]; omega
    · have hd : decide ((t : Int) < n) = false := decide_eq_false (by omega)
      have htn : t = n := by omega
      have HG2 := Lib.hid (show RegsOf wr WW vs (Xp.inputs n) from by
        have := HG.out
        rwa [List.take_of_length_le (by rw [Xp.inputs_length]; omega)] at this)
      subst htn
      have HR3 := Lib.hid (HR2.out.below HB.out HR2.out.lt)
      have HB3 := Lib.hid (below_call HB2.out HB.out)
      obtain ⟨c0, c1, c2, c3, c4⟩ := sbox HR3.out
      go_wp2_with fail
      refine (HEV.out _ HB3.out _ _ _ HO.out.rd HG2.out).mono ?_
      rintro e w3 ⟨⟨q3, k3, vs3, rfl, ho3, hg3⟩, hb3⟩
      have HO3 := Lib.hid ho3
      have HG3 := Lib.hid hg3
      have HB4 := Lib.hid (below_call HB3.out hb3)
      have HR4 := Lib.hid (HR3.out.below hb3 HR3.out.lt)
      have hs3 := hb3.size
      have hz3 : w.heap.size < w3.heap.size := HR4.out.lt
      clear ho3 hg3 hb3 c0 c1 c2 c3 c4 HO HG HG2 HB HB3 HR3
      obtain ⟨c0, c1, c2, c3, c4⟩ := sbox HR4.out
      go_wp2_with fail
      clear c0 c1 c2 c3 c4
      have HO4 := Lib.hid (show Own (w3.alloc (.cells (madeCells #[.slice none 0 0] nx) 27)) w3.heap.size 27 (some ⟨w3.heap.size, 0, none⟩) nx nx (List.replicate nx (.slice none 0 0)) from by
        have h9 := Own.new w3 w3.heap.size 27 (madeCells #[.slice none 0 0] nx) nx (Nat.le_refl _) (by rw [← Array.length_toList, toList_madeCells_one, List.length_replicate]) (by unfold maxLen; omega)
        rwa [toList_madeCells_one] at h9)
      have HF4 := Lib.hid (Fam.empty (w3.alloc (.cells (madeCells #[.slice none 0 0] nx) 27)) w3.heap.size nx)
      go_loopw [49] (fun i wr => ∃ (j : Nat) (vs : List Value), j ≤ nx ∧ i = .int .i64 j ∧ Own wr w3.heap.size 27 (some ⟨w3.heap.size, 0, none⟩) nx nx vs ∧ Fam wr w3.heap.size vs (Xp.lsTo S nx j) ∧ Below w3.heap.size w3 wr) (fun i _ => nx - (intOf i).toNat)
      case atStart => exact ⟨0, _, Nat.zero_le _, rfl, HO4.out, by rw [Xp.lsTo_zero]; exact HF4.out, (Below.refl _ _).alloc (Nat.le_refl _) _⟩
      case round =>
        obtain ⟨j, vs, hj, rfl, ho, hf, hb⟩ := hrel
        have HO5 := Lib.hid ho
        have HF5 := Lib.hid hf
        have HB5 := Lib.hid hb
        have hs5 := hb.size
        clear ho hf hb HO4 HF4
        by_cases hjn : j < nx
        · have hd2 : decide ((j : Int) < nx) = true := decide_eq_true (by omega)
          obtain ⟨r, hr⟩ : ∃ r, out[j]? = some r := ⟨_, List.getElem?_eq_getElem (by rw [HLX.out]; exact hjn)⟩
          have HRR := Lib.hid hr
          obtain ⟨hr1, hr2⟩ := HOUT.out r (List.mem_of_getElem? hr)
          obtain ⟨bx, ox, rfl, hbx, hcr⟩ := ((HRX.out.below HB4.out).below (HB5.out.mono HB4.out.size)) j (.int .i64 r) (by rw [ints, List.getElem?_map, hr]; rfl)
          have HSJ := Lib.hid (show S[j]? = some (Xp.outSet t R r) by rw [← HSS.out, Xp.sets, List.getElem?_map, hr]; rfl)
          clear hr
          rw [Xp.lsTo_at hjn] at HF5
          go_wp2_with fail
          clear hcr
          by_cases hr0 : r < 0
          · have hd3 : decide ((0 : Int) ≤ r) = false := decide_eq_false (by omega)
            have HSE := Lib.hid (show Xp.outSet t R r = [] from if_pos hr0)
            rw [HSE.out] at HSJ
            have HF6 := HF5.out
            rw [Xp.lsTo_step HSJ.out hjn] at HF6
            have HF7 := Lib.hid HF6
            clear HF6 HF5
            go_loopw [55] (fun i wr => ∃ x : Nat, x ≤ t ∧ i = .int .i64 x ∧ Own wr w3.heap.size 27 (some ⟨w3.heap.size, 0, none⟩) nx nx vs ∧ Fam wr w3.heap.size vs (Xp.lsTo S nx (j + 1)) ∧ Below w3.heap.size w3 wr) (fun i _ => t - (intOf i).toNat)
            case atStart => exact ⟨0, Nat.zero_le _, rfl, HO5.out, HF7.out, HB5.out⟩
            case round =>
              obtain ⟨x, hx, rfl, ho, hf, hb⟩ := hrel
              have HO6 := Lib.hid ho
              have HF6 := Lib.hid hf
              have HB6 := Lib.hid hb
              clear ho hf hb
              by_cases hxt : x < t
              · have hd4 : decide ((x : Int) < t) = true := decide_eq_true (by omega)
                go_wp2_with fail
                go_roundw
                case rel => exact ⟨x + 1, by omega, by go_num, HO6.out, HF6.out, HB6.out⟩
                case measure => simp [intOf]; omega
              · have hd4 : decide ((x : Int) < t) = false := decide_eq_false (by omega)
                go_wp2_with fail
                go_roundw
                case rel => exact ⟨j + 1, vs, by omega, by go_num, HO6.out, HF6.out, HB6.out⟩
                case measure => simp [intOf]; omega
          · have hd3 : decide ((0 : Int) ≤ r) = true := decide_eq_true (by omega)
            obtain ⟨rn, rfl⟩ : ∃ rn : Nat, r = rn := ⟨r.toNat, by omega⟩
            have hrn : rn < t + no := by omega
            obtain ⟨N, hN⟩ : ∃ N, R[rn]? = some N := ⟨_, List.getElem?_eq_getElem (by rw [HRL.out]; exact hrn)⟩
            have HSE := Lib.hid (show Xp.outSet t R (rn : Int) = Xp.setTo t N t by
              unfold Xp.outSet
              rw [if_neg (by omega), Int.toNat_natCast, hN]; rfl)
            obtain ⟨v, hv, qr, kr, rfl, hbit⟩ := HG3.out.2 rn N hN
            obtain ⟨g3, hq3, hBg, hgl, hc3, hf3⟩ := HO3.out.at_ hrn
            subst hq3
            rw [hv] at hc3
            have HC3 := Lib.hid (fun (W : World) (h : Below w3.heap.size w3 W) => (h.cell (p := ⟨g3, rn, none⟩) hgl).trans hc3)
            obtain ⟨gr, cs, hqr, hrow, hcs⟩ := hbit (by have := HWW.out; have := HT1.out; omega)
            subst hqr
            have HROW := Lib.hid (fun (W : World) (h : Below w3.heap.size w3 W) => (hrow.below h hrow.lt : Row W gr 85 cs))
            have HCS := Lib.hid hcs
            have HF7 := Lib.hid (show Fam wr w3.heap.size vs (Xp.lsAt S nx j (Xp.setTo t N 0)) from HF5.out)
            clear hN hv hbit hc3 hf3 hrow hcs HF5
            go_loopw [55] (fun i wr => ∃ (x : Nat) (vs : List Value), x ≤ t ∧ i = .int .i64 x ∧ Own wr w3.heap.size 27 (some ⟨w3.heap.size, 0, none⟩) nx nx vs ∧ Fam wr w3.heap.size vs (Xp.lsAt S nx j (Xp.setTo t N x)) ∧ Below w3.heap.size w3 wr) (fun i _ => t - (intOf i).toNat)
            case atStart => exact ⟨0, vs, Nat.zero_le _, rfl, HO5.out, HF7.out, HB5.out⟩
            case round =>
              obtain ⟨x, vs2, hx, rfl, ho, hf, hb⟩ := hrel
              have HO6 := Lib.hid ho
              have HF6 := Lib.hid hf
              have HB6 := Lib.hid hb
              clear ho hf hb
              by_cases hxt : x < t
              · have hd4 : decide ((x : Int) < t) = true := decide_eq_true (by omega)
                have hxw : x / 64 < WW := by have := HWW.out; omega
                have hc4 := HC3.out _ HB6.out
                have hc5 := ((HROW.out _ HB6.out).cell (x / 64)).trans (HCS.out _ hxw)
                obtain ⟨wd, hwd⟩ : ∃ wd, Xp.word N (x / 64) = wd := ⟨_, rfl⟩
                rw [hwd] at hc5
                have HWD := Lib.hid hwd
                clear hwd
                obtain ⟨b, hb⟩ : ∃ b, N.testBit x = b := ⟨_, rfl⟩
                have hbt : (bits .and .u64 ((wd : Int) / 2 ^ (x % 64)) 1 != 0) = b := by rw [← HWD.out, bit_test, hb]
                have HSU := Lib.hid (Xp.setTo_succ t N x)
                rw [hb] at HSU
                clear hb
                cases b
                · rw [if_neg (by decide)] at HSU
                  have HF9 := HF6.out
                  rw [← HSU.out] at HF9
                  have HF8 := Lib.hid HF9
                  clear HF9
                  go_wp2_with fail
                  go_roundw
                  case rel => exact ⟨x + 1, vs2, by omega, by go_num, HO6.out, HF8.out, HB6.out⟩
                  case measure => simp [intOf]; omega
                · rw [if_pos rfl] at HSU
                  have hjS : j ≤ S.length := by rw [HSL.out]; omega
                  obtain ⟨l, hl⟩ : ∃ l, Xp.setTo t N x = l := ⟨_, rfl⟩
                  have hll : l.length ≤ 512 := by have := Xp.setTo_length t N x; rw [hl] at this; omega
                  rw [hl] at HF6 HSU
                  obtain ⟨q, k, hvj, hoj⟩ := HF6.out.own j l (Xp.lsAt_get hjS)
                  have HVJ := Lib.hid hvj
                  have HOJ := Lib.hid (hoj.alloc (.cells #[.int .i64 (x : Int)] 3))
                  have HFA := Lib.hid (HF6.out.keeps ((Keeps.refl 3 wr).alloc (.cells #[.int .i64 (x : Int)] 3)))
                  have HOA := Lib.hid (HO6.out.alloc (.cells #[.int .i64 (x : Int)] 3))
                  have HBA := Lib.hid (HB6.out.alloc HB6.out.size (.cells #[.int .i64 (x : Int)] 3))
                  have hsz := HB6.out.size
                  obtain ⟨L, hL⟩ : ∃ L, l.length = L := ⟨_, rfl⟩
                  have HL := Lib.hid hL
                  obtain ⟨gz, egz, _, _, hcz, hfz⟩ := HO6.out.at_ hjn
                  obtain rfl : w3.heap.size = gz := by injection egz with egz; injection egz
                  rw [hvj, hL] at hcz
                  rw [hL] at HOJ hll
                  clear hl hvj hoj hL egz
                  go_wp2_with (refine wpList_app2 _ rfl (.tmp 80) (.tmp 82) 27 rfl w3.heap.size 3 (.int .i64 0) 8 Tryd.underlying27 elem_ints rfl q L k (nts l) rfl HOJ.out _ (some ⟨wr.heap.size, 0, none⟩) 1 1 [.int .i64 (x : Int)] rfl (Rd.one wr _ _) rfl (by intro u hu; simp only [List.mem_singleton] at hu; subst hu; rfl) (by unfold maxLen; omega) (by omega) (by simp; omega) ?_; intro a6 k6 w6 ho6 hg6 hn6; have HO7 := Lib.hid (HOA.out.keeps_grown hg6 HOJ.out (by decide)); have HB7 := Lib.hid (below_grown2 HBA.out hg6 HOJ.out (by rw [size1]; omega) (Nat.le_refl _)); have HF7 := Lib.hid (fam_app HFA.out (Xp.lsAt_get hjS) HVJ.out HL.out hg6 ho6 hn6); obtain ⟨gz, egz, _, _, hcz2, hfz2⟩ := HO7.out.at_ hjn; (obtain rfl : w3.heap.size = gz := by (injection egz with egz; injection egz)); rw [HVJ.out] at hcz2; clear ho6 hg6 hn6 egz hcz hfz)
                  obtain ⟨cs7, hrow7, _⟩ := HO7.out.row rfl
                  have HO8 := Lib.hid (HO7.out.put hjn (.slice a6 (L + 1) k6))
                  have HF8 := HF7.out.keeps ((Keeps.refl 3 w6).put (p := ⟨w3.heap.size, j, none⟩) hrow7 (by decide) (.slice a6 (L + 1) k6))
                  rw [Xp.lsAt_set hjS, ← HSU.out] at HF8
                  have HF9 := Lib.hid HF8
                  have HB8 := Lib.hid (HB7.out.setCell (p := ⟨w3.heap.size, j, none⟩) (Nat.le_refl _) (.slice a6 (L + 1) k6))
                  clear hrow7 HF8
                  go_roundw
                  case rel => exact ⟨x + 1, _, by omega, by go_num, HO8.out, HF9.out, HB8.out⟩
                  case measure => simp [intOf]; omega
              · have hd4 : decide ((x : Int) < t) = false := decide_eq_false (by omega)
                go_wp2_with fail
                go_roundw
                case rel => exact ⟨j + 1, vs2, by omega, by go_num, HO6.out, by rw [← Xp.lsTo_step HSJ.out hjn, HSE.out]; have hE : x = t := (by omega); exact hE ▸ HF6.out, HB6.out⟩
                case measure => simp [intOf]; omega
        · have hd2 : decide ((j : Int) < nx) = false := decide_eq_false (by omega)
          have hjn2 : j = nx := by omega
          subst hjn2
          rw [Xp.lsTo_end HSL.out] at HF5
          go_wp2_with fail
          refine bodyPost_ret (v := .tuple #[.slice (some ⟨w3.heap.size, 0, none⟩) j j, .int .i64 0]) ?_ rfl ⟨⟨_, _, vs, rfl, HO5.out.mono (by omega), HF5.out.mono (by omega)⟩, HB4.out.trans (HB5.out.mono (by omega))⟩
          rw [results_tmp2 rfl]; rfl
end Go.Proofs.YtghinmlpkgcdiaaDoor
