/- Fields: the reference's combination. -/
import Derived.Test.YtdmcdgpigpekhaaDoorG16
import Derived.Deep.RegionHeld3
namespace Go.Proofs.YtdmcdgpigpekhaaDoor
set_option linter.unusedSimpArgs false
set_option linter.unusedVariables false
open Go.RowKit Go.Lib

/-- what the reference's round asks of the pair at k -/
def okAt (m : Int) (n : Nat) (c : Int) (u : ByteArray) : Bool := sclOk m c u.size && decide (u.size = n)
theorem okC_all {m : Int} {coef : List Int} {us : List ByteArray} (h1 : coef.length ≠ 0) (h2 : coef.length = us.length) :
    okC m coef us = (coef.zip us).all fun p => okAt m (len0 us) p.1 p.2 := by
  rw [Bool.eq_iff_iff, List.all_eq_true]
  have hz : ∀ p, p ∈ coef.zip us → p.1 ∈ coef ∧ p.2 ∈ us := fun p hp => List.of_mem_zip (show (p.1, p.2) ∈ coef.zip us from hp)
  have hc : ∀ c ∈ coef, ∃ u, (c, u) ∈ coef.zip us := fun c hc => by
    obtain ⟨i, hi, e⟩ := List.getElem_of_mem hc
    refine ⟨us[i]'(by omega), ?_⟩
    rw [List.mem_iff_getElem]
    exact ⟨i, by simp; omega, by simp [e]⟩
  have hu : ∀ u ∈ us, ∃ c, (c, u) ∈ coef.zip us := fun u hu => by
    obtain ⟨i, hi, e⟩ := List.getElem_of_mem hu
    refine ⟨coef[i]'(by omega), ?_⟩
    rw [List.mem_iff_getElem]
    exact ⟨i, by simp; omega, by simp [e]⟩
  obtain ⟨u0, r, hus⟩ : ∃ u r, us = u :: r := by
    cases us with
    | nil => simp at h2; exact absurd h2 (by simpa using h1)
    | cons u r => exact ⟨u, r, rfl⟩
  have hl0 : len0 us = u0.size := by rw [hus]; rfl
  have hu0 : u0 ∈ us := by rw [hus]; simp
  constructor
  · intro h p hp
    unfold okC at h
    simp only [Bool.and_eq_true, decide_eq_true_eq, Bool.not_eq_true'] at h
    obtain ⟨⟨⟨⟨g1, _⟩, _⟩, g4⟩, g5⟩ := h
    obtain ⟨p1, p2⟩ := hz p hp
    have hsz : p.2.size = len0 us := by
      rw [List.any_eq_false] at g5
      have := g5 _ p2
      unfold otherB at this
      simpa using this
    obtain ⟨k, hk, rfl, hx⟩ := allB_get g1
    obtain ⟨y, hy, hy2⟩ := hx _ p1
    unfold okAt sclOk
    rw [hy, allB_one hk hy2, hsz, decide_eq_true rfl]
    rcases hk with rfl | rfl
    · rfl
    · have : len0 us % 2 = 0 := g4
      simp [this]
  · intro h
    have hall : ∀ c ∈ coef, allB m [c] = true := fun c hcm => by
      obtain ⟨u, hm⟩ := hc c hcm
      have := h _ hm
      unfold okAt sclOk at this
      simp only [Bool.and_eq_true] at this
      exact this.1.1
    have hsz : ∀ u ∈ us, u.size = len0 us := fun u hum => by
      obtain ⟨c, hm⟩ := hu u hum
      have := h _ hm
      unfold okAt at this
      simp only [Bool.and_eq_true, decide_eq_true_eq] at this
      exact this.2
    obtain ⟨c0, hc0⟩ := hu u0 hu0
    have h0 := h _ hc0
    unfold okAt at h0
    rw [Bool.and_eq_true] at h0
    have h0 := h0.1
    have hm0 := hall c0 (hz _ hc0).1
    obtain ⟨k, hk, rfl, _⟩ := allB_get hm0
    unfold okC
    simp only [Bool.and_eq_true, decide_eq_true_eq, Bool.not_eq_true']
    refine ⟨⟨⟨⟨?_, h1⟩, h2⟩, ?_⟩, ?_⟩
    · unfold allB
      rw [Bool.and_eq_true]
      refine ⟨okM_iff.2 ⟨k, hk, rfl⟩, ?_⟩
      rw [Bool.not_eq_true', List.any_eq_false]
      intro c hcm
      have := hall c hcm
      unfold allB at this
      simp at this
      simp [this.2]
    · rw [hl0]
      unfold sclOk at h0
      rw [hm0, Bool.true_and] at h0
      rcases hk with rfl | rfl
      · exact Nat.mod_one _
      · show u0.size % 2 = 0
        simp at h0
        omega
    · rw [List.any_eq_false]
      intro u hum
      unfold otherB
      simp [hsz u hum]
theorem okC_no {m : Int} {coef : List Int} {us : List ByteArray} (h1 : coef.length ≠ 0) (h2 : coef.length = us.length) {k : Nat} {c : Int} {u : ByteArray} (hc : coef[k]? = some c) (hu : us[k]? = some u) (h : okAt m (len0 us) c u = false) :
    pairS (combS m coef us) (combE m coef us) = .tuple #[.string ⟨#[]⟩, .int .i64 1] := by
  have : okC m coef us = false := by
    rw [okC_all h1 h2, Bool.eq_false_iff]
    intro hall
    rw [List.all_eq_true] at hall
    have hm : (c, u) ∈ coef.zip us := List.mem_of_getElem? (i := k) (by rw [List.getElem?_zip_eq_some]; exact ⟨hc, hu⟩)
    have := hall _ hm
    rw [h] at this
    cases this
  rw [combS, combE, this]; rfl
theorem okC_yes {m : Int} {coef : List Int} {us : List ByteArray} (h1 : coef.length ≠ 0) (h2 : coef.length = us.length) (h : ∀ (k : Nat) (c : Int) (u : ByteArray), coef[k]? = some c → us[k]? = some u → okAt m (len0 us) c u = true) :
    pairS (combS m coef us) (combE m coef us) = .tuple #[.string (strB (Fld.combTo m.toNat (len0 us) (pairs coef us))), .int .i64 0] := by
  have : okC m coef us = true := by
    rw [okC_all h1 h2, List.all_eq_true]
    intro p hp
    obtain ⟨k, hk⟩ := List.getElem?_of_mem hp
    obtain ⟨h3, h4⟩ := (List.getElem?_zip_eq_some).1 (show (coef.zip us)[k]? = some (p.1, p.2) from hk)
    exact h k _ _ h3 h4
  rw [combS, combE, this, if_pos rfl, if_pos rfl]; rfl
theorem RK3 {w wr w5 : World} {p q : Nat} {x y : Nat} {u v : Value} (h : wr.cell? ⟨p, x, none⟩ = some u ∧ wr.cell? ⟨q, y, none⟩ = some v ∧ Below w.heap.size w wr) (h1 : p < w.heap.size) (h2 : q < w.heap.size) (hb : Below wr.heap.size wr w5) :
    w5.cell? ⟨p, x, none⟩ = some u ∧ w5.cell? ⟨q, y, none⟩ = some v ∧ Below w.heap.size w w5 := by
  obtain ⟨a, b, c⟩ := h
  have := c.size
  exact ⟨(hb.cell (p := ⟨p, x, none⟩) (by show p < _; omega)).trans a, (hb.cell (p := ⟨q, y, none⟩) (by show q < _; omega)).trans b, below_call c hb⟩
set_option maxRecDepth 100000 in
set_option maxHeartbeats 3200000 in
theorem rcomb_any (m : Int) (a1 : Option Addr) (n1 c1 : Nat) (coef : List Int) (a2 : Option Addr) (n2 c2 : Nat) (us : List ByteArray) (w : World) (hl1 : coef.length = n1) (hn1 : n1 ≤ 9223372036854775807) (hr1 : Rd w w.heap.size a1 (ints coef))
    (hl2 : us.length = n2) (hn2 : n2 ≤ 9223372036854775807) (hr2 : Rd w w.heap.size a2 (strs us)) (hs : ∀ u ∈ us, u.size ≤ 100000000) :
    Calls Tryd.prog 11 #[.int .i64 m, .slice a1 n1 c1, .slice a2 n2 c2] w fun e w' => e = .returned (pairS (combS m coef us) (combE m coef us)) ∧ Below w.heap.size w w' := by
  by_cases hb : n1 = 0 ∨ n1 ≠ n2
  · have HV := Lib.hid (show pairS (combS m coef us) (combE m coef us) = .tuple #[.string ⟨#[]⟩, .int .i64 1] by
      have : okC m coef us = false := by
        unfold okC
        rcases hb with h | h
        · rw [hl1, decide_eq_false (p := n1 ≠ 0) (by omega)]; simp
        · rw [hl1, hl2, decide_eq_false (p := n1 = n2) h]; simp
      rw [combS, combE, this]; rfl)
    rw [HV.out]
    clear hl1 hr1 hl2 hr2 hs
    by_cases h0 : n1 = 0
    · subst h0
      clear hb
      go_enter Tryd.func11, Tryd.ntmps11
      go_wp2_with fail
      refine bodyPost_ret (v := .tuple #[.string ⟨#[]⟩, .int .i64 1]) ?_ rfl ⟨rfl, Below.refl _ _⟩
      rw [results_tmp2 rfl]; rfl
    · have hb1 : ((n1 : Int) == 0) = false := by rw [beq_eq_false_iff_ne]; omega
      have hb2 : ((n1 : Int) != (n2 : Int)) = true := by rw [bne_iff_ne]; omega
      have hb3 : (n1 != n2) = true := by rw [bne_iff_ne]; omega
      clear hb h0
      go_enter Tryd.func11, Tryd.ntmps11
      go_wp2_with fail
      refine bodyPost_ret (v := .tuple #[.string ⟨#[]⟩, .int .i64 1]) ?_ rfl ⟨rfl, Below.refl _ _⟩
      rw [results_tmp2 rfl]; rfl
  · obtain ⟨hpos, rfl⟩ : 0 < n1 ∧ n1 = n2 := by omega
    have HR1 := Lib.hid hr1
    have HR2 := Lib.hid hr2
    have HL1 := Lib.hid hl1
    have HL2 := Lib.hid hl2
    have HSZ := Lib.hid hs
    have HE1 := Lib.hid (show coef.length ≠ 0 by omega)
    have HE2 := Lib.hid (show coef.length = us.length by omega)
    obtain ⟨u0, hu0⟩ : ∃ u, us[0]? = some u := ⟨_, List.getElem?_eq_getElem (by omega)⟩
    obtain ⟨n, hn⟩ : ∃ n, u0.size = n := ⟨_, rfl⟩
    have HLEN := Lib.hid (show len0 us = n by
      cases us with
      | nil => cases hu0
      | cons u r => simp at hu0; subst hu0; exact hn)
    have hn8 : n ≤ 100000000 := by rw [← hn]; exact hs _ (List.mem_of_getElem? hu0)
    obtain ⟨b2, off2, rfl, hb2, hc2⟩ := hr2 0 (.string u0) (by rw [strs, List.getElem?_map, hu0]; rfl)
    have HB2 := Lib.hid hb2
    have hc0 : w.cell? ⟨b2, off2, none⟩ = some (.string u0) := hc2
    have hq0 : ((n1 : Int) == 0) = false := by rw [beq_eq_false_iff_ne]; omega
    have hmk := make_bytes n hn8
    have hcv : (convert 50 9 (.slice (some ⟨w.heap.size, 0, none⟩) n n)).run Tryd.prog (w.alloc (.cells (madeCells #[.int .u8 0] n) 5)) = .ok (.string (strB (List.replicate n 0))) (w.alloc (.cells (madeCells #[.int .u8 0] n) 5)) :=
      conv_all _ _ n n _ (byts_made w n).rd (by simp)
    clear hr1 hr2 hl1 hl2 hs hu0 hb2 hc2 hb
    go_enter Tryd.func11, Tryd.ntmps11
    go_wp2_with fail
    obtain ⟨w2, hw2⟩ : ∃ W, W = w.alloc (.cells (madeCells #[.int .u8 0] n) 5) := ⟨_, rfl⟩
    rw [← hw2]
    have HB := Lib.hid (show Below w.heap.size w w2 by rw [hw2]; exact (Below.refl _ w).alloc (Nat.le_refl _) _)
    clear hw2 hmk hcv hc0 hn
    go_loopw [8, 9] (fun o i wr => ∃ k : Nat, k ≤ n1 ∧ i = .int .i64 k ∧ o = .string (strB (Fld.combTo m.toNat n ((pairs coef us).take k))) ∧ (Fld.combTo m.toNat n ((pairs coef us).take k)).length = n ∧ (∀ (j : Nat) (c : Int) (u : ByteArray), j < k → coef[j]? = some c → us[j]? = some u → okAt m n c u = true) ∧ Below w.heap.size w wr) (fun _ i _ => n1 - (intOf i).toNat)
    case atStart => exact ⟨0, Nat.zero_le _, rfl, rfl, by simp [Fld.combTo], fun j _ _ hj => absurd hj (Nat.not_lt_zero _), HB.out⟩
    case round =>
      obtain ⟨k, hk, rfl, rfl, hlen, hok, hbel⟩ := hrel
      have HBL := Lib.hid hbel
      have HOK := Lib.hid hok
      obtain ⟨X, hX⟩ : ∃ X, strB (Fld.combTo m.toNat n ((pairs coef us).take k)) = X := ⟨_, rfl⟩
      have HX := Lib.hid hX
      have HXZ := Lib.hid (show X.size = n by rw [← hX, strB_size]; exact hlen)
      rw [hX]
      by_cases hlt : k < n1
      · obtain ⟨ck, hck⟩ : ∃ c, coef[k]? = some c := ⟨_, List.getElem?_eq_getElem (by rw [HL1.out]; exact hlt)⟩
        obtain ⟨uk, huk⟩ : ∃ u, us[k]? = some u := ⟨_, List.getElem?_eq_getElem (by rw [HL2.out]; exact hlt)⟩
        have HTK := Lib.hid (pairs_take hck huk)
        have HUZ := Lib.hid (HSZ.out uk (List.mem_of_getElem? huk))
        obtain ⟨b1, off1, rfl, hb1, hc1⟩ := (HR1.out.below HBL.out) k (.int .i64 ck) (by rw [ints, List.getElem?_map, hck]; rfl)
        obtain ⟨b3, off3, e3, hb3, hc3⟩ := (HR2.out.below HBL.out) k (.string uk) (by rw [strs, List.getElem?_map, huk]; rfl)
        injection e3 with e3
        injection e3 with e3 e4
        subst e3; subst e4
        have HCK := Lib.hid hck
        have HUK := Lib.hid huk
        have HC1 := Lib.hid hb1
        have HC3 := Lib.hid hb3
        have HS0 := Lib.hid (And.intro hc1 (And.intro hc3 HBL.out))
        obtain ⟨s, hs⟩ : ∃ s, strB (sclS m ck uk) = s := ⟨_, rfl⟩
        obtain ⟨e, he⟩ : ∃ e, sclE m ck uk.size = e := ⟨_, rfl⟩
        have HSV := Lib.hid (show pairS (sclS m ck uk) (sclE m ck uk.size) = .tuple #[.string s, .int .i64 e] by rw [← hs, ← he]; rfl)
        clear hlen hok hbel hX hck huk hb1 hb3 hc1 hc3
        obtain ⟨hS1, hS2, hS3⟩ := HS0.out
        go_wp2_with fail
        go_region_held3 (fun wn => wn.cell? ⟨b1, off1 + k, none⟩ = some (.int .i64 ck) ∧ wn.cell? ⟨b2, off2 + k, none⟩ = some (.string uk) ∧ Below w.heap.size w wn) (first | exact HS1.out | exact ⟨hS1, hS2, hS3.drew⟩ | assumption) (first
          | (go_at_call 13; ((with_reducible refine (rscale_any m ck uk _ HUZ.out).mono ?_)); rw [HSV.out]; rintro e5 w5 ⟨rfl, hb⟩; have HS1 := Lib.hid (RK3 HS0.out HC1.out HC3.out (undrew hb))))
        have HS2 := Lib.hid HS1.out.2.2
        clear hS1 hS2 hS3 hb HS0 HS1
        cases hsc : sclOk m ck uk.size with
        | false =>
          obtain rfl : e = 1 := by rw [← he, sclE, hsc]; rfl
          have HF := Lib.hid (okC_no HE1.out HE2.out HCK.out HUK.out (show okAt m (len0 us) ck uk = false by unfold okAt; rw [hsc]; rfl))
          clear hs he HSV hsc
          go_wp2_with fail
          refine bodyPost_ret (v := .tuple #[.string ⟨#[]⟩, .int .i64 1]) ?_ rfl ⟨by rw [HF.out], HS2.out⟩
          rw [results_tmp2 rfl]; rfl
        | true =>
          obtain rfl : e = 0 := by rw [← he, sclE, hsc]; rfl
          have hs' : strB (Fld.scl m.toNat ck.toNat uk.data.toList) = s := by rw [← hs, sclS, hsc]; rfl
          have hsz : s.size = uk.size := by rw [← hs', strB_size, Fld.scl_length, len_data]
          have HSO := Lib.hid hsc
          have HSS := Lib.hid hs'
          have HSZ2 := Lib.hid hsz
          clear hs he HSV hsc hs' hsz
          go_wp2_with fail
          refine (rxor_any X s w5 (by rw [HXZ.out]; exact hn8) (by rw [HSZ2.out]; exact HUZ.out)).mono ?_
          by_cases hq : uk.size = n
          · have hq2 : X.size = s.size := by rw [HXZ.out, HSZ2.out, hq]
            have hX2 : strB (Fld.combTo m.toNat n ((pairs coef us).take (k + 1))) = strB (Fld.xorL X.data.toList s.data.toList) := by
              rw [HTK.out, Fld.combTo_snoc, ← HX.out, ← HSS.out, strB_data, strB_data]
            have HX2 := Lib.hid hX2
            have HL2' := Lib.hid (show (Fld.combTo m.toNat n ((pairs coef us).take (k + 1))).length = n by
              have := congrArg ByteArray.size hX2
              rw [strB_size, strB_size, Fld.xorL_length (by rw [len_data, len_data, hq2]), len_data, HXZ.out] at this
              exact this)
            have HOK2 := Lib.hid (show ∀ (j : Nat) (c : Int) (u : ByteArray), j < k + 1 → coef[j]? = some c → us[j]? = some u → okAt m n c u = true from fun j c u hj h1 h2 => by
              by_cases hjk : j < k
              · exact HOK.out j c u hjk h1 h2
              · obtain rfl : j = k := by omega
                have e1 := HCK.out.symm.trans h1
                have e2 := HUK.out.symm.trans h2
                injection e1 with e1; injection e2 with e2
                subst e1; subst e2
                unfold okAt; rw [HSO.out, hq]; simp)
            obtain ⟨y, hy⟩ : ∃ y, strB (Fld.xorL X.data.toList s.data.toList) = y := ⟨_, rfl⟩
            rw [hy] at HX2
            have HP := Lib.hid (show pairS (xorS X s) (xorE X s) = .tuple #[.string y, .int .i64 0] by rw [xorS, xorE, if_pos hq2, if_pos hq2, ← hy]; rfl)
            rw [HP.out]
            clear hq hq2 hX2 hy HP
            rintro e6 w6 ⟨rfl, hb⟩
            have HB6 := Lib.hid (below_call HS2.out hb)
            clear hb
            go_wp2
            go_roundw
            case rel => exact ⟨k + 1, by omega, by go_num, by rw [HX2.out], HL2'.out, HOK2.out, HB6.out⟩
            case measure => simp [intOf]; omega
          · have hq2 : ¬ X.size = s.size := by rw [HXZ.out, HSZ2.out]; omega
            have HF := Lib.hid (okC_no HE1.out HE2.out HCK.out HUK.out (show okAt m (len0 us) ck uk = false by unfold okAt; rw [HLEN.out, decide_eq_false hq]; simp))
            have HP := Lib.hid (show pairS (xorS X s) (xorE X s) = .tuple #[.string ⟨#[]⟩, .int .i64 1] by rw [xorS, xorE, if_neg hq2, if_neg hq2]; rfl)
            rw [HP.out]
            clear hq hq2 HP
            rintro e6 w6 ⟨rfl, hb⟩
            have HB6 := Lib.hid (below_call HS2.out hb)
            clear hb
            go_wp2_with fail
            refine bodyPost_ret (v := .tuple #[.string ⟨#[]⟩, .int .i64 1]) ?_ rfl ⟨by rw [HF.out], HB6.out⟩
            rw [results_tmp2 rfl]; rfl
      · have h1 : k = n1 := by omega
        have HF := Lib.hid (okC_yes HE1.out HE2.out (show ∀ (j : Nat) (c : Int) (u : ByteArray), coef[j]? = some c → us[j]? = some u → okAt m (len0 us) c u = true from fun j c u h2 h3 => by
          rw [HLEN.out]
          have : j < coef.length := by
            by_cases hj : j < coef.length
            · exact hj
            · rw [List.getElem?_eq_none (by omega)] at h2; cases h2
          exact HOK.out j c u (by rw [HL1.out] at this; omega) h2 h3))
        have HE := Lib.hid (show strB (Fld.combTo m.toNat (len0 us) (pairs coef us)) = X by
          rw [HLEN.out, ← HX.out, List.take_of_length_le]
          unfold pairs
          rw [List.length_zip, List.length_map, List.length_map, HL1.out, HL2.out]; omega)
        rw [HE.out] at HF
        clear hlen hok hbel hX h1
        go_wp2_with fail
        refine bodyPost_ret (v := .tuple #[.string X, .int .i64 0]) ?_ rfl ⟨by rw [HF.out], HBL.out⟩
        rw [results_tmp2 rfl]; rfl
end Go.Proofs.YtdmcdgpigpekhaaDoor
