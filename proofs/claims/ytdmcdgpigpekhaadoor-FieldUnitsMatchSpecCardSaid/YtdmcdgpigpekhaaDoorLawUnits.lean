/- FieldUnitsMatchSpec: the law returns true, and its arguments read as they did. -/
import Derived.Test.YtdmcdgpigpekhaaDoorG17
import Derived.Test.YtdmcdgpigpekhaaDoorG19
import Derived.Test.YtdmcdgpigpekhaaDoorOpenF
import Derived.Test.YtdmcdgpigpekhaaDoorFldT
namespace Go.Proofs.YtdmcdgpigpekhaaDoor
set_option linter.unusedSimpArgs false
set_option linter.unusedVariables false
open Go.ChangeShapes Go.WideShapes Go.ChangeAt Go.RowKit Go.Lib

/-- what is kept while a round runs: the box, the unit, and all that lies below -/
abbrev KU (w : World) (M C : Int) (v3 : Value) (o : ByteArray) (b x : Nat) (u : ByteArray) (wn : World) : Prop :=
  wn.cell? ⟨w.heap.size, 0, none⟩ = some (.int .i64 M) ∧ wn.cell? ⟨w.heap.size, 1, none⟩ = some (.int .i64 C) ∧ wn.cell? ⟨w.heap.size, 3, none⟩ = some v3 ∧ wn.cell? ⟨w.heap.size, 4, none⟩ = some (.string o) ∧ wn.cell? ⟨b, x, none⟩ = some (.string u) ∧ Below w.heap.size w wn
theorem KU.tab {w : World} {M C : Int} {v3 : Value} {o : ByteArray} {b x : Nat} {u : ByteArray} {wn : World} (ht : Tab w) (h : KU w M C v3 o b x u wn) : Tab wn := ht.next h.2.2.2.2.2
theorem KU.drew {w : World} {M C : Int} {v3 : Value} {o : ByteArray} {b x : Nat} {u : ByteArray} {wn : World} (h : KU w M C v3 o b x u wn) : KU w M C v3 o b x u wn.drew := ⟨h.1, h.2.1, h.2.2.1, h.2.2.2.1, h.2.2.2.2.1, h.2.2.2.2.2.drew⟩
theorem KU.next {w : World} {M C : Int} {v3 : Value} {o : ByteArray} {b x : Nat} {u : ByteArray} {wn w' : World} (h : KU w M C v3 o b x u wn) (hb : Below wn.heap.size wn w') : KU w M C v3 o b x u w' := by
  obtain ⟨h0, h1, h2, h3, h4, h5⟩ := h
  have l0 : w.heap.size < wn.heap.size := block_lt_of_cell h0
  have l1 : b < wn.heap.size := block_lt_of_cell h4
  exact ⟨(hb.cell l0).trans h0, (hb.cell l0).trans h1, (hb.cell l0).trans h2, (hb.cell l0).trans h3, (hb.cell l1).trans h4, below_call h5 hb⟩
set_option maxRecDepth 100000 in
set_option maxHeartbeats 3200000 in
theorem walk_FieldUnitsMatchSpec (M C : Int) (a1 : Option Addr) (n1 c1 : Nat) (coef : List Int) (a2 : Option Addr) (n2 c2 : Nat) (us : List ByteArray) (o : ByteArray) (w : World)
    (hl1 : coef.length = n1) (hn1 : n1 ≤ 9223372036854775807) (hr1 : Rd w w.heap.size a1 (ints coef)) (hl2 : us.length = n2) (hn2 : n2 ≤ 9223372036854775807) (hr2 : Rd w w.heap.size a2 (strs us)) (hs : ∀ u ∈ us, u.size ≤ maxLen) (ho : o.size ≤ maxLen) (ht : Tab w) :
    Calls Tryd.prog 3 #[.agg #[.int .i64 M, .int .i64 C, .slice a1 n1 c1, .slice a2 n2 c2, .string o]] w fun e w' => e = .returned (.bool true) ∧ Below w.heap.size w w' := by
  unfold maxLen at hs ho
  have HT := Lib.hid (ht.next ((Below.refl _ w).alloc (Nat.le_refl _) (.cells #[.int .i64 M, .int .i64 C, .slice a1 n1 c1, .slice a2 n2 c2, .string o] 25)))
  have HT0 := Lib.hid ht
  have HR1 := Lib.hid hr1
  have HR2 := Lib.hid hr2
  have HL1 := Lib.hid hl1
  have HL2 := Lib.hid hl2
  have HSZ := Lib.hid hs
  clear ht hr1 hr2 hl1 hl2 hs
  by_cases hbig : 10 < n2 ∨ (n2 ≤ 10 ∧ 10 < n1) ∨ (n2 ≤ 10 ∧ n1 ≤ 10 ∧ 200 < o.size)
  · rcases hbig with h | ⟨h, h1⟩ | ⟨h, h1, h2⟩
    all_goals
      go_enter Tryd.func3, Tryd.ntmps3
      go_wp2_with fail
      refine (sanity_any _ HT.out).mono ?_
      rintro e w1 ⟨rfl, hb⟩
      have HB := Lib.hid (below_call ((Below.refl _ w).alloc (Nat.le_refl _) _) hb)
      have hrow : Row w1 w.heap.size 25 #[.int .i64 M, .int .i64 C, .slice a1 n1 c1, .slice a2 n2 c2, .string o] := (Row.new w _ _).below hb (by simp)
      have q2 := hrow.cell 2
      have q3 := hrow.cell 3
      have q4 := hrow.cell 4
      clear hb hrow
      go_wp2_with fail
      go_ret
      exact ⟨rfl, HB.out⟩
  · have h1 : n2 ≤ 10 := by omega
    have h2 : n1 ≤ 10 := by omega
    have h3 : o.size ≤ 200 := by omega
    clear hbig hn1 hn2 ho
    go_enter Tryd.func3, Tryd.ntmps3
    go_wp2_with fail
    refine (sanity_any _ HT.out).mono ?_
    rintro e w1 ⟨rfl, hb⟩
    have HB := Lib.hid (below_call ((Below.refl _ w).alloc (Nat.le_refl _) _) hb)
    have hrow : Row w1 w.heap.size 25 #[.int .i64 M, .int .i64 C, .slice a1 n1 c1, .slice a2 n2 c2, .string o] := (Row.new w _ _).below hb (by simp)
    have HRW := Lib.hid hrow
    have q2 := hrow.cell 2
    have q3 := hrow.cell 3
    have q4 := hrow.cell 4
    clear hb hrow
    go_wp2_with fail
    clear q2 q3 q4
    go_loopw [4] (fun i wr => ∃ k : Nat, k ≤ n2 ∧ i = .int .i64 k ∧ (∀ (j : Nat) (u : ByteArray), j < k → us[j]? = some u → u.size ≤ 200) ∧ Row wr w.heap.size 25 #[.int .i64 M, .int .i64 C, .slice a1 n1 c1, .slice a2 n2 c2, .string o] ∧ Below w.heap.size w wr) (fun i _ => n2 - (intOf i).toNat)
    case atStart => exact ⟨0, Nat.zero_le _, rfl, fun j _ hj => absurd hj (Nat.not_lt_zero _), HRW.out, HB.out⟩
    case round =>
      obtain ⟨k, hk, rfl, hsm, hrow, hbel⟩ := hrel
      have HSM := Lib.hid hsm
      have HRW2 := Lib.hid hrow
      have HBL := Lib.hid hbel
      have q0 := hrow.cell 0
      have q2 := hrow.cell 2
      have q3 := hrow.cell 3
      clear hsm hrow hbel
      by_cases hlt : k < n2
      · obtain ⟨uk, huk⟩ : ∃ u, us[k]? = some u := ⟨_, List.getElem?_eq_getElem (by rw [HL2.out]; exact hlt)⟩
        obtain ⟨b3, off3, rfl, hb3, hc3⟩ := (HR2.out.below HBL.out) k (.string uk) (by rw [strs, List.getElem?_map, huk]; rfl)
        have HUK := Lib.hid huk
        clear huk hb3
        by_cases hbig : 200 < uk.size
        · go_wp2_with fail
          go_ret
          exact ⟨rfl, HBL.out⟩
        · go_wp2_with fail
          go_roundw
          case rel => exact ⟨k + 1, by omega, by go_num, fun j u hj hu => by
            by_cases hjk : j < k
            · exact HSM.out j u hjk hu
            · obtain rfl : j = k := by omega
              have e1 := HUK.out.symm.trans hu
              injection e1 with e1
              subst e1; omega, HRW2.out, HBL.out⟩
          case measure => simp [intOf]; omega
      · have h4 : k = n2 := by omega
        have HS := Lib.hid (show ∀ u ∈ us, u.size ≤ 200 from fun u hu => by
          obtain ⟨j, hj, e⟩ := List.getElem_of_mem hu
          exact HSM.out j u (by rw [HL2.out] at hj; omega) (by rw [List.getElem?_eq_getElem hj, e]))
        have HCA := Lib.hid (fcomb_any M a1 n1 c1 coef a2 n2 c2 us wr (HT0.out.next HBL.out) HL1.out (by omega) ((HR1.out.below HBL.out).more HBL.out.size) HL2.out (by omega) ((HR2.out.below HBL.out).more HBL.out.size) (fun u hu => Nat.le_trans (HS.out u hu) (by decide)))
        obtain ⟨cs, hcs⟩ : ∃ cs, strB (combS M coef us) = cs := ⟨_, rfl⟩
        obtain ⟨ce, hce⟩ : ∃ ce, combE M coef us = ce := ⟨_, rfl⟩
        have HPV := Lib.hid (show pairS (combS M coef us) (combE M coef us) = .tuple #[.string cs, .int .i64 ce] by rw [← hcs, ← hce]; rfl)
        rw [HPV.out] at HCA
        clear hcs hce h4 HSM
        go_wp2_with fail
        refine HCA.out.mono ?_
        rintro e w2 ⟨rfl, hb⟩
        have hrow : Row w2 w.heap.size 25 #[.int .i64 M, .int .i64 C, .slice a1 n1 c1, .slice a2 n2 c2, .string o] := HRW2.out.below hb HRW2.out.lt
        have HRW3 := Lib.hid hrow
        have HB2 := Lib.hid (below_call HBL.out hb)
        clear hb q0 q2 q3
        have q0 := hrow.cell 0
        have q2 := hrow.cell 2
        have q3 := hrow.cell 3
        clear hrow
        have HCB := Lib.hid (rcomb_any M a1 n1 c1 coef a2 n2 c2 us w2 HL1.out (by omega) ((HR1.out.below HB2.out).more HB2.out.size) HL2.out (by omega) ((HR2.out.below HB2.out).more HB2.out.size) (fun u hu => Nat.le_trans (HS.out u hu) (by decide)))
        rw [HPV.out] at HCB
        go_wp2_with fail
        refine HCB.out.mono ?_
        rintro e w3 ⟨rfl, hb⟩
        have HRW4 := Lib.hid (HRW3.out.below hb HRW3.out.lt)
        have HB3 := Lib.hid (below_call HB2.out hb)
        clear hb q0 q2 q3
        go_wp2_with fail
        clear HRW HRW2 HRW3 HB HBL HB2 HCA HCB HPV
        go_loopw [9] (fun i wr => ∃ k : Nat, k ≤ n2 ∧ i = .int .i64 k ∧ wr.cell? ⟨w.heap.size, 0, none⟩ = some (.int .i64 M) ∧ wr.cell? ⟨w.heap.size, 1, none⟩ = some (.int .i64 C) ∧ wr.cell? ⟨w.heap.size, 3, none⟩ = some (.slice a2 n2 c2) ∧ wr.cell? ⟨w.heap.size, 4, none⟩ = some (.string o) ∧ Below w.heap.size w wr) (fun i _ => n2 - (intOf i).toNat)
        case atStart => exact ⟨0, Nat.zero_le _, rfl, HRW4.out.cell 0, HRW4.out.cell 1, HRW4.out.cell 3, HRW4.out.cell 4, HB3.out⟩
        case round =>
          obtain ⟨k, hk, rfl, q0, q1, q3, q4, hbel⟩ := hrel
          have HBL := Lib.hid hbel
          clear hbel HRW4 HB3 HT
          by_cases hlt : k < n2
          · obtain ⟨uk, huk⟩ : ∃ u, us[k]? = some u := ⟨_, List.getElem?_eq_getElem (by rw [HL2.out]; exact hlt)⟩
            obtain ⟨b3, off3, rfl, hb3, hc3⟩ := (HR2.out.below HBL.out) k (.string uk) (by rw [strs, List.getElem?_map, huk]; rfl)
            have HU := Lib.hid (show uk.size ≤ 100000000 from Nat.le_trans (HS.out uk (List.mem_of_getElem? huk)) (by decide))
            have HO := Lib.hid (show o.size ≤ 100000000 by omega)
            have HS0 : Hid (KU w M C (.slice (some ⟨b3, off3, none⟩) n2 c2) o b3 (off3 + k) uk wr) := Lib.hid ⟨q0, q1, q3, q4, hc3, HBL.out⟩
            obtain ⟨s, hs⟩ : ∃ s, strB (sclS M C uk) = s := ⟨_, rfl⟩
            obtain ⟨e, he⟩ : ∃ e, sclE M C uk.size = e := ⟨_, rfl⟩
            have HSV := Lib.hid (show pairS (sclS M C uk) (sclE M C uk.size) = .tuple #[.string s, .int .i64 e] by rw [← hs, ← he]; rfl)
            obtain ⟨x, hx⟩ : ∃ x, strB (xorS uk o) = x := ⟨_, rfl⟩
            obtain ⟨f, hf⟩ : ∃ f, xorE uk o = f := ⟨_, rfl⟩
            have HXV := Lib.hid (show pairS (xorS uk o) (xorE uk o) = .tuple #[.string x, .int .i64 f] by rw [← hx, ← hf]; rfl)
            clear huk hb3 hc3 hs he hx hf
            go_wp2_with fail
            go_region_held3 (fun wn => wn.cell? ⟨w.heap.size, 0, none⟩ = some (.int .i64 M) ∧ wn.cell? ⟨w.heap.size, 1, none⟩ = some (.int .i64 C) ∧ wn.cell? ⟨w.heap.size, 3, none⟩ = some (.slice (some ⟨b3, off3, none⟩) n2 c2) ∧ wn.cell? ⟨w.heap.size, 4, none⟩ = some (.string o) ∧ wn.cell? ⟨b3, off3 + k, none⟩ = some (.string uk) ∧ Below w.heap.size w wn) (first | exact HS1.out | exact KU.drew HS0.out | assumption) (first
              | (go_at_call 12; ((with_reducible refine (fscale_any M C uk _ (KU.tab HT0.out (by assumption)) HU.out).mono ?_)); rw [HSV.out]; rintro e5 w5 ⟨rfl, hb⟩; have HS1 := Lib.hid (KU.next (by assumption) hb)))
            clear hb q0 q1 q3 q4 HBL 
            replace HS0 := HS1
            clear HS1
            obtain ⟨q0, q1, q3, q4, q5, HBL⟩ := HS0.out
            replace HBL := Lib.hid HBL
            clear q0 q1 q3 q4 q5 HBL
            obtain ⟨q0, q1, q3, q4, q5, hbl⟩ := HS0.out
            have HBL := Lib.hid hbl
            clear hbl
            go_wp2_with fail
            go_region_held3 (fun wn => wn.cell? ⟨w.heap.size, 0, none⟩ = some (.int .i64 M) ∧ wn.cell? ⟨w.heap.size, 1, none⟩ = some (.int .i64 C) ∧ wn.cell? ⟨w.heap.size, 3, none⟩ = some (.slice (some ⟨b3, off3, none⟩) n2 c2) ∧ wn.cell? ⟨w.heap.size, 4, none⟩ = some (.string o) ∧ wn.cell? ⟨b3, off3 + k, none⟩ = some (.string uk) ∧ Below w.heap.size w wn) (first | exact HS1.out | exact KU.drew HS0.out | assumption) (first
              | (go_at_call 13; ((with_reducible refine (rscale_any M C uk _ HU.out).mono ?_)); rw [HSV.out]; rintro e5 w5 ⟨rfl, hb⟩; have HS1 := Lib.hid (KU.next (by assumption) hb)))
            clear hb
            replace HS0 := HS1
            clear HS1
            clear q0 q1 q3 q4 q5 HBL
            obtain ⟨q0, q1, q3, q4, q5, hbl⟩ := HS0.out
            have HBL := Lib.hid hbl
            clear hbl
            go_wp2_with fail
            go_region_held3 (fun wn => wn.cell? ⟨w.heap.size, 0, none⟩ = some (.int .i64 M) ∧ wn.cell? ⟨w.heap.size, 1, none⟩ = some (.int .i64 C) ∧ wn.cell? ⟨w.heap.size, 3, none⟩ = some (.slice (some ⟨b3, off3, none⟩) n2 c2) ∧ wn.cell? ⟨w.heap.size, 4, none⟩ = some (.string o) ∧ wn.cell? ⟨b3, off3 + k, none⟩ = some (.string uk) ∧ Below w.heap.size w wn) (first | exact HS1.out | exact KU.drew HS0.out | assumption) (first
              | (go_at_call 14; ((with_reducible refine (fxor_any uk o _ HU.out HO.out).mono ?_)); rw [HXV.out]; rintro e5 w5 ⟨rfl, hb⟩; have HS1 := Lib.hid (KU.next (by assumption) hb)))
            clear hb
            replace HS0 := HS1
            clear HS1
            clear q0 q1 q3 q4 q5 HBL
            obtain ⟨q0, q1, q3, q4, q5, hbl⟩ := HS0.out
            have HBL := Lib.hid hbl
            clear hbl
            go_wp2_with fail
            go_region_held3 (fun wn => wn.cell? ⟨w.heap.size, 0, none⟩ = some (.int .i64 M) ∧ wn.cell? ⟨w.heap.size, 1, none⟩ = some (.int .i64 C) ∧ wn.cell? ⟨w.heap.size, 3, none⟩ = some (.slice (some ⟨b3, off3, none⟩) n2 c2) ∧ wn.cell? ⟨w.heap.size, 4, none⟩ = some (.string o) ∧ wn.cell? ⟨b3, off3 + k, none⟩ = some (.string uk) ∧ Below w.heap.size w wn) (first | exact HS1.out | exact KU.drew HS0.out | assumption) (first
              | (go_at_call 15; ((with_reducible refine (rxor_any uk o _ HU.out HO.out).mono ?_)); rw [HXV.out]; rintro e5 w5 ⟨rfl, hb⟩; have HS1 := Lib.hid (KU.next (by assumption) hb)))
            clear hb
            replace HS0 := HS1
            clear HS1
            go_wp2_with fail
            go_roundw
            case rel => exact ⟨k + 1, by omega, by go_num, HS0.out.1, HS0.out.2.1, HS0.out.2.2.1, HS0.out.2.2.2.1, HS0.out.2.2.2.2.2⟩
            case measure => simp [intOf]; omega
          · have h4 : k = n2 := by omega
            clear hlt
            go_wp2_with fail
            go_ret
            exact ⟨rfl, HBL.out⟩

/-! ### the frame: the arguments opened and shut -/
theorem contract_FieldUnitsMatchSpec (H : Type) (enc : TypeId × Value → H) (W : World) (base : Nat) (args : Array Value) (ds gs : List (DataW H)) (before : List MemPlace)
    (hval0 : ∀ (j : Nat) t v, Tryd.f3.params[j]? = some t → args[j]? = some v → Value.okWide Tryd.prog W .any base t v)
    (hW : DataW.Whole enc Tryd.prog Tryd.f3.params.toList Rows.fieldUnitsMatchSpecSpec.vars false W args.toList ds gs before) (hL : laidMetH Tryd.prog Rows.fieldUnitsMatchSpecRow.laid W) :
    Calls Tryd.prog 3 args W fun e W' => ∃ v, e = .returned v ∧ Rows.fieldUnitsMatchSpecSpec.post enc Tryd.prog Tryd.f3 false true false false W args v W' := by
  have hval : ∀ (j : Nat) t v, Tryd.f3.params[j]? = some t → args[j]? = some v → Value.okWide Tryd.prog W .any base t v := hval0
  have hW' := hW
  obtain ⟨p, q, hA0, hV, rfl, hfz, hnd⟩ := hW
  have hA : DataW.TrodAll enc Tryd.prog W 0 (fun _ => true) true Tryd.f3.params.toList args.toList ds p := hA0
  rw [Tryd.params3] at hA hval
  obtain ⟨v0, vs0, d0, ds0, p0, q0, hargs, rfl, rfl, h0, r0⟩ := trodAll_cons hA
  obtain ⟨rfl, rfl, rfl⟩ := trodAll_nil r0
  obtain rfl : args = #[v0] := by cases args; simp_all
  obtain ⟨rfl, rfl⟩ := trodVars_none hV
  have k0 := h0
  have lt0 : ∀ x ∈ p0, x.block < W.heap.size := by obtain ⟨m, hm⟩ := k0; exact DataW.trod_lt m _ _ _ hm
  obtain ⟨cs0, rfl, _⟩ := okWide_struct Tryd.underlying25 (hval 0 25 v0 rfl rfl)
  obtain ⟨fuel0, hf0⟩ := h0
  obtain ⟨M0, C0, aa0, na0, ca0, la0, ab0, nb0, cb0, lb0, o0, hcs0, ha0, hb0, hc0, hd0, he0, hff0, hg0, hh0⟩ := open_units hf0
  obtain rfl : cs0 = #[.int .i64 M0, .int .i64 C0, .slice aa0 na0 ca0, .slice ab0 nb0 cb0, .string o0] := by apply Array.toList_inj.1; simpa [Value.cells] using hcs0
  refine (walk_FieldUnitsMatchSpec M0 C0 aa0 na0 ca0 la0 ab0 nb0 cb0 lb0 o0 W ha0 hb0 hc0 hd0 he0 hff0 hg0 hh0 (tab_of hL)).mono fun e W' ⟨he, bel⟩ => ?_
  subst he
  exact ⟨_, rfl, _, _, _, [], _, [], hW', trodAll_mk1 (shut_bool Tryd.underlying4 _), (trodAll_cons_mk (Below.trod laidOut (by kernel_rfl) (of_decide_eq_true (by kernel_rfl)) k0 bel lt0) trodAll_mk0), rfl, bel.frame _, fun h => by cases h⟩
theorem laid_FieldUnitsMatchSpec (os : Os) : laidMet Tryd.prog Rows.fieldUnitsMatchSpecRow.laid ((laidWorld os).forCall (fun _ _ => 0) ⟨#[], #[.agg #[.int .i64 0, .int .i64 0, .slice none 0 0, .slice none 0 0, .string .empty]], []⟩).memory :=
  laidMet_of_run' 8 (by kernel_rfl) (by kernel_rfl)
theorem reads_FieldUnitsMatchSpec (os : Os) {H : Type} (enc : TypeId × Value → H) : ∃ places, DataW.whole enc Tryd.prog ((laidWorld os).forCall (fun _ _ => 0) ⟨#[], #[.agg #[.int .i64 0, .int .i64 0, .slice none 0 0, .slice none 0 0, .string .empty]], []⟩).memory Tryd.f3.params.toList Rows.fieldUnitsMatchSpecSpec.vars false (#[.agg #[.int .i64 0, .int .i64 0, .slice none 0 0, .slice none 0 0, .string .empty]] : Array Value).toList 8 = some ([.agg [.lit (.int .i64 0), .lit (.int .i64 0), .nil, .nil, .lit (.string [])]], [], places) :=
  ⟨[], by kernel_rfl⟩
set_option maxRecDepth 100000 in
theorem lifted_FieldUnitsMatchSpec (os : Os) (started : os.Started) (H : Type) (enc : TypeId × Value → H) (F : Stop.Interp) :
    ReturnsInHanded {} Tryd.checked os 3 .any ((OpenSpec.ofChange Rows.fieldUnitsMatchSpecSpec).preRow enc Tryd.prog Tryd.f3 Rows.fieldUnitsMatchSpecRow.domain false Rows.fieldUnitsMatchSpecRow.laid) (((OpenSpec.ofChange Rows.fieldUnitsMatchSpecSpec).at F).post enc Tryd.prog Tryd.f3 false true false false) := by
  obtain ⟨places, hx⟩ := reads_FieldUnitsMatchSpec os enc
  refine returnsInHanded_of_row (C := Tryd.checked) (s := OpenSpec.ofChange Rows.fieldUnitsMatchSpecSpec) own started (by kernel_rfl) Tryd.func3
    (witness_row_at (enc := enc) (C := Tryd.checked) false (laidWorld os) #[.agg #[.int .i64 0, .int .i64 0, .slice none 0 0, .slice none 0 0, .string .empty]] rfl (by kernel_rfl) (by kernel_rfl) (by kernel_rfl)
      (OpenSpec.preRow_of_cond 8 hx (by kernel_rfl) (fun k hk => by cases hk) (by kernel_rfl) (laid_FieldUnitsMatchSpec os))) ?_
  intro W base args ds gs before hval hW _ hcond _ hL _ _
  exact contract_FieldUnitsMatchSpec H enc W base args ds gs before hval hW hL

theorem said_FieldUnitsMatchSpec : Rows.FieldUnitsMatchSpecSaid :=
  OpenClaim.holds_of_cond 3 Tryd.f3 rfl rfl rfl rfl rfl rfl rfl ⟨rfl, rfl, rfl, rfl, rfl⟩ rfl rfl rfl rfl rfl (by kernel_rfl) Tryd.func3 (by kernel_rfl)
    (of_decide_eq_true (by kernel_rfl)) (by unfold Func.isWrapper; first | (rw [if_pos (by decide +kernel)]; kernel_rfl) | (rw [if_neg (by decide +kernel)]; exact ⟨rfl, rfl⟩))
    (fun os started H enc _ F => by rw [OpenClaim.pre_eq_preRow]; exact lifted_FieldUnitsMatchSpec os started H enc F)
theorem plain_FieldUnitsMatchSpec (f : FuncId) (fn : Func) (hf : Tryd.pinned.checked.prog.funcNamed "solvent/solventlaw05.FieldUnitsMatchSpec" = some f) (hfn : Tryd.pinned.checked.prog.funcs[f]? = some fn) :
    false = Tryd.pinned.checked.prog.looks [] ∧ ∀ (j : Nat) t, fn.params[j]? = some t → Tryd.pinned.checked.prog.wantsStandIn t = false := by
  obtain rfl : f = 3 := Option.some.inj ((show Tryd.prog.funcNamed "solvent/solventlaw05.FieldUnitsMatchSpec" = some 3 by kernel_rfl).symm.trans hf) |>.symm
  obtain rfl : fn = Tryd.f3 := (Option.some.inj (Tryd.func3.symm.trans hfn)).symm
  refine ⟨by kernel_rfl, fun j t ht => ?_⟩
  rw [Tryd.params3] at ht
  have hm := Array.mem_of_getElem? ht
  simp only [List.mem_toArray, List.mem_cons, List.not_mem_nil, or_false] at hm
  subst hm
  exact (show Tryd.prog.wantsStandIn 25 = false by kernel_rfl)
theorem proved_FieldUnitsMatchSpec : Rows.FieldUnitsMatchSpecCardSaid :=
  Claim7.holds_tied_plain_at .later [] _ _ _ _ said_FieldUnitsMatchSpec (fun _ h => by cases h) (by kernel_rfl) (fun _ h => by cases h) fieldUnitsMatchSpec_row_tie rfl ⟨rfl, rfl⟩ (by kernel_rfl) rfl plain_FieldUnitsMatchSpec (by kernel_rfl)
end Go.Proofs.YtdmcdgpigpekhaaDoor
