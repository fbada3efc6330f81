/- Fields: the linear combination of strings, the program's. -/
import Derived.Test.YtdmcdgpigpekhaaDoorG13
import Derived.Test.YtdmcdgpigpekhaaDoorG14
namespace Go.Proofs.YtdmcdgpigpekhaaDoor
set_option linter.unusedSimpArgs false
set_option linter.unusedVariables false
open Go.RowKit Go.Lib

/-- the length of the first string -/
def len0 (us : List ByteArray) : Nat := match us with | [] => 0 | u :: _ => u.size
def okC (m : Int) (coef : List Int) (us : List ByteArray) : Bool :=
  allB m coef && decide (coef.length ≠ 0) && decide (coef.length = us.length) && decide (len0 us % Fld.size m.toNat = 0) && !(us.any (otherB (len0 us)))
def pairs (coef : List Int) (us : List ByteArray) : List (Nat × List UInt8) := (coef.map Int.toNat).zip (us.map fun u => u.data.toList)
def combS (m : Int) (coef : List Int) (us : List ByteArray) : List UInt8 := if okC m coef us then Fld.combTo m.toNat (len0 us) (pairs coef us) else []
def combE (m : Int) (coef : List Int) (us : List ByteArray) : Int := if okC m coef us then 0 else 1
theorem byts_made (w : World) (n : Nat) : Byts (w.alloc (.cells (madeCells #[.int .u8 0] n) 5)) w.heap.size (List.replicate n 0) := by
  unfold Byts
  have : ((List.replicate n (0 : UInt8)).map v8).toArray = madeCells #[.int .u8 0] n := by
    apply Array.toList_inj.1
    rw [toList_madeCells_one]
    simp [v8]
  rw [this]
  exact Row.new w _ _
theorem pairs_take {coef : List Int} {us : List ByteArray} {k : Nat} {c : Int} {u : ByteArray} (hc : coef[k]? = some c) (hu : us[k]? = some u) : (pairs coef us).take (k + 1) = (pairs coef us).take k ++ [(c.toNat, u.data.toList)] := by
  rw [List.take_add_one]
  have : (pairs coef us)[k]? = some (c.toNat, u.data.toList) := by
    unfold pairs
    rw [List.getElem?_zip_eq_some]
    exact ⟨by rw [List.getElem?_map, hc]; rfl, by rw [List.getElem?_map, hu]; rfl⟩
  rw [this]; rfl
set_option maxRecDepth 100000 in
set_option maxHeartbeats 1600000 in
theorem fcomb_no (m : Int) (a1 : Option Addr) (n1 c1 : Nat) (coef : List Int) (a2 : Option Addr) (n2 c2 : Nat) (us : List ByteArray) (w : World) (ht : Tab w) (hl1 : coef.length = n1) (hn1 : n1 ≤ 9223372036854775807) (hr1 : Rd w w.heap.size a1 (ints coef))
    (hl2 : us.length = n2) (hn2 : n2 ≤ 9223372036854775807) (hr2 : Rd w w.heap.size a2 (strs us)) (h : (allB m coef && decide (coef.length ≠ 0) && decide (coef.length = us.length)) = false) :
    Calls Tryd.prog 10 #[.int .i64 m, .slice a1 n1 c1, .slice a2 n2 c2] w fun e w' => e = .returned (pairS [] 1) ∧ Below w.heap.size w w' := by
  have HC := Lib.hid (all_any m a1 n1 c1 coef w ht hl1 hn1 hr1)
  have h' : allB m coef = false ∨ (allB m coef = true ∧ n1 = 0) ∨ (allB m coef = true ∧ n1 ≠ 0 ∧ n1 ≠ n2) := by
    cases hb : allB m coef with
    | false => exact .inl rfl
    | true =>
      rw [hb, hl1, hl2] at h
      simp at h
      by_cases e : n1 = 0
      · exact .inr (.inl ⟨rfl, e⟩)
      · exact .inr (.inr ⟨rfl, e, h e⟩)
  clear ht hl1 hr1 hl2 hr2 h
  rcases h' with h | ⟨h, h0⟩ | ⟨h, h0, hne⟩
  · have H := Lib.hid h
    clear h
    go_enter Tryd.func10, Tryd.ntmps10
    go_wp2_with fail
    refine HC.out.mono ?_
    rw [H.out]
    rintro e w1 ⟨rfl, hb⟩
    have HB := Lib.hid hb
    clear hb
    go_wp2_with fail
    refine bodyPost_ret (v := .tuple #[.string ⟨#[]⟩, .int .i64 1]) ?_ rfl ⟨rfl, HB.out⟩
    rw [results_tmp2 rfl]; rfl
  · have H := Lib.hid h
    subst h0
    clear h
    go_enter Tryd.func10, Tryd.ntmps10
    go_wp2_with fail
    refine HC.out.mono ?_
    rw [H.out]
    rintro e w1 ⟨rfl, hb⟩
    have HB := Lib.hid hb
    clear hb
    go_wp2_with fail
    refine bodyPost_ret (v := .tuple #[.string ⟨#[]⟩, .int .i64 1]) ?_ rfl ⟨rfl, HB.out⟩
    rw [results_tmp2 rfl]; rfl
  · have H := Lib.hid h
    have hb1 : ((n1 : Int) == 0) = false := by rw [beq_eq_false_iff_ne]; omega
    have hb2 : ((n1 : Int) != (n2 : Int)) = true := by rw [bne_iff_ne]; omega
    have hb3 : (n1 != n2) = true := by rw [bne_iff_ne]; omega
    clear h h0 hne
    go_enter Tryd.func10, Tryd.ntmps10
    go_wp2_with fail
    refine HC.out.mono ?_
    rw [H.out]
    rintro e w1 ⟨rfl, hb⟩
    have HB := Lib.hid hb
    clear hb
    go_wp2_with fail
    refine bodyPost_ret (v := .tuple #[.string ⟨#[]⟩, .int .i64 1]) ?_ rfl ⟨rfl, HB.out⟩
    rw [results_tmp2 rfl]; rfl
set_option maxRecDepth 100000 in
set_option maxHeartbeats 3200000 in
theorem fcomb_yes (m : Nat) (hm : Fld.IsM m) (a1 : Option Addr) (n1 c1 : Nat) (coef : List Int) (a2 : Option Addr) (c2 : Nat) (us : List ByteArray) (w : World) (ht : Tab w) (hl1 : coef.length = n1) (hn1 : n1 ≤ 9223372036854775807) (hr1 : Rd w w.heap.size a1 (ints coef))
    (hl2 : us.length = n1) (hr2 : Rd w w.heap.size a2 (strs us)) (hpos : 0 < n1) (hall : allB (m : Int) coef = true) (hs : ∀ u ∈ us, u.size ≤ 100000000) :
    Calls Tryd.prog 10 #[.int .i64 (m : Int), .slice a1 n1 c1, .slice a2 n1 c2] w fun e w' => e = .returned (pairS (combS m coef us) (combE m coef us)) ∧ Below w.heap.size w w' := by
  have HC := Lib.hid (all_any (m : Int) a1 n1 c1 coef w ht hl1 hn1 hr1)
  have HALL := Lib.hid hall
  have HT := Lib.hid ht
  have HM := Lib.hid hm
  have HR1 := Lib.hid hr1
  have HR2 := Lib.hid hr2
  have HL1 := Lib.hid hl1
  have HL2 := Lib.hid hl2
  have HSZ := Lib.hid hs
  obtain ⟨u0, hu0⟩ : ∃ u, us[0]? = some u := ⟨_, List.getElem?_eq_getElem (by omega)⟩
  obtain ⟨n, hn⟩ : ∃ n, u0.size = n := ⟨_, rfl⟩
  have hlen : len0 us = n := by
    cases us with
    | nil => cases hu0
    | cons u r => simp at hu0; subst hu0; exact hn
  have hn8 : n ≤ 100000000 := by rw [← hn]; exact hs _ (List.mem_of_getElem? hu0)
  obtain ⟨S, hS⟩ : ∃ S, Fld.size m = S := ⟨_, rfl⟩
  have hSi : (m : Int) / 8 = (S : Int) := by rw [← hS]; unfold Fld.size; omega
  have hS0 : 0 < S := by rw [← hS]; exact Fld.size_pos hm
  have HS := Lib.hid hS
  have HLEN := Lib.hid hlen
  have HOK := Lib.hid (show okC (m : Int) coef us = (decide (n % S = 0) && !(us.any (otherB n))) by
    unfold okC
    rw [hall, hl1, hl2, hlen, Int.toNat_natCast, hS]
    simp [show n1 ≠ 0 by omega])
  obtain ⟨b2, off2, rfl, hb2, hc2⟩ := hr2 0 (.string u0) (by rw [strs, List.getElem?_map, hu0]; rfl)
  have HB2 := Lib.hid hb2
  have hm16 := m_le hm
  have HC2 := Lib.hid hc2
  have HU0 := Lib.hid hn
  have hq0 : ((n1 : Int) == 0) = false := by rw [beq_eq_false_iff_ne]; omega
  clear ht hm hr1 hr2 hl1 hl2 hs hu0 hlen hS hall hb2 hc2
  by_cases hdv : n % S = 0
  · have hbd : ((n : Int) % (S : Int) != 0) = false := by
      have : (n : Int) % (S : Int) = ((n % S : Nat) : Int) := by simp
      rw [this, hdv]; rfl
    cases hany : us.any (otherB n) with
    | false =>
      have HANY := Lib.hid hany
      have hcb : okC (m : Int) coef us = true := by rw [HOK.out, hany, decide_eq_true hdv]; rfl
      have HV := Lib.hid (show pairS (combS (m : Int) coef us) (combE (m : Int) coef us) = .tuple #[.string (strB (Fld.combTo m n (pairs coef us))), .int .i64 0] by
        rw [combS, combE, hcb, if_pos rfl, if_pos rfl, HLEN.out]; rfl)
      rw [HV.out]
      have HDV := Lib.hid hdv
      clear hany hcb hdv
      go_enter Tryd.func10, Tryd.ntmps10
      go_wp2_with fail
      refine HC.out.mono ?_
      rw [HALL.out]
      rintro e w1 ⟨rfl, hb⟩
      have hc0 : w1.cell? ⟨b2, off2, none⟩ = some (.string u0) := by
        have := hb.cell (p := ⟨b2, off2 + 0, none⟩) HB2.out
        exact this.trans HC2.out
      have HB := Lib.hid hb
      clear hb
      go_wp2_with fail
      obtain ⟨w2, hw2⟩ : ∃ W, W = w1.alloc (.cells #[.int .i64 (n : Int)] 3) := ⟨_, rfl⟩
      rw [← hw2]
      have hbw2 : Below w.heap.size w w2 := by rw [hw2]; exact HB.out.alloc HB.out.size _
      have hrn : Row w2 w1.heap.size 3 #[.int .i64 (n : Int)] := by rw [hw2]; exact Row.new w1 _ _
      clear hw2
      refine (every_any _ n1 c2 us w1.heap.size n w2 HL2.out hn1 ((HR2.out.below hbw2).more hbw2.size) hrn).mono ?_
      rw [HANY.out]
      rintro e w3 ⟨rfl, hb⟩
      have hcn : w3.cell? ⟨w1.heap.size, 0, none⟩ = some (.int .i64 (n : Int)) := (hrn.below hb hrn.lt).cell 0
      have HB3 := Lib.hid (below_call hbw2 hb)
      clear hb hbw2 hrn
      have hmk := make_bytes n hn8
      go_wp2_with fail
      obtain ⟨w4, hw4⟩ : ∃ W, W = w3.alloc (.cells (madeCells #[.int .u8 0] n) 5) := ⟨_, rfl⟩
      rw [← hw4]
      have HBY4 := Lib.hid (show Byts w4 w3.heap.size (List.replicate n 0) by rw [hw4]; exact byts_made w3 n)
      have HB4 := Lib.hid (show Below w.heap.size w w4 by rw [hw4]; exact HB3.out.alloc HB3.out.size _)
      have hz3 := HB3.out.size
      have hz0 := HT.out.lt
      obtain ⟨g, hg⟩ : ∃ g, w3.heap.size = g := ⟨_, rfl⟩
      rw [hg] at HBY4 hz3 ⊢
      clear hw4 hmk hcn hg
      go_loopw [47] (fun i wr => ∃ k : Nat, k ≤ n1 ∧ i = .int .i64 k ∧ Byts wr g (Fld.combTo m n ((pairs coef us).take k)) ∧ Below w.heap.size w wr) (fun i _ => n1 - (intOf i).toNat)
      case atStart => exact ⟨0, Nat.zero_le _, rfl, HBY4.out, HB4.out⟩
      case round =>
        obtain ⟨k, hk, rfl, hby, hbel⟩ := hrel
        have HBY := Lib.hid hby
        have HBL := Lib.hid hbel
        clear hby hbel
        have hall : ∀ u ∈ us, u.size = n := fun u hu => by
          have := HANY.out
          rw [List.any_eq_false] at this
          have := this u hu
          unfold otherB at this
          simpa using this
        have hlenC : (Fld.combTo m n ((pairs coef us).take k)).length = n := Fld.combTo_length m n _ fun p hp => by
          have h1 := List.mem_of_mem_take hp
          unfold pairs at h1
          have h2 := List.of_mem_zip (show (p.1, p.2) ∈ _ from h1)
          obtain ⟨u, hu, e⟩ := List.mem_map.1 h2.2
          rw [← e, len_data]; exact hall u hu
        by_cases hlt : k < n1
        · obtain ⟨ck, hck⟩ : ∃ c, coef[k]? = some c := ⟨_, List.getElem?_eq_getElem (by rw [HL1.out]; exact hlt)⟩
          obtain ⟨uk, huk⟩ : ∃ u, us[k]? = some u := ⟨_, List.getElem?_eq_getElem (by rw [HL2.out]; exact hlt)⟩
          have HTK := Lib.hid (pairs_take hck huk)
          obtain ⟨m', hm', em, hx⟩ := allB_get HALL.out
          obtain rfl : m = m' := by omega
          obtain ⟨y, rfl, hy⟩ := hx ck (List.mem_of_getElem? hck)
          have hus := hall uk (List.mem_of_getElem? huk)
          obtain ⟨b1, off1, rfl, hb1, hc1⟩ := (HR1.out.below HBL.out) k (.int .i64 (y : Int)) (by rw [ints, List.getElem?_map, hck]; rfl)
          obtain ⟨b3, off3, e3, hb3, hc3⟩ := (HR2.out.below HBL.out) k (.string uk) (by rw [strs, List.getElem?_map, huk]; rfl)
          injection e3 with e3
          injection e3 with e3 e4
          subst e3; subst e4
          have HUS := Lib.hid hus
          have HY := Lib.hid hy
          have HLC := Lib.hid hlenC
          clear hall hlenC hx hck huk hus hy hm' em hc0
          go_wp2_with fail
          refine (accumulate_any m y HM.out HY.out uk g n n _ wr (HT.out.next HBL.out) HBY.out (by omega) HLC.out HUS.out (by rw [HS.out]; exact HDV.out) hn8 (Nat.le_refl _)).mono ?_
          rintro e w5 ⟨⟨v, rfl⟩, hby5, ho5⟩
          have HBY5 := Lib.hid (show Byts w5 g (Fld.combTo m n ((pairs coef us).take (k + 1))) by rw [HTK.out, Fld.combTo_snoc]; exact hby5)
          have HB5 := Lib.hid (HBL.out.trans (ho5.below HBL.out.size (fun k hk => by rw [hk]; exact hz3)))
          clear hby5 ho5 hc1 hc3
          go_wp2
          go_roundw
          case rel => exact ⟨k + 1, by omega, by go_num, HBY5.out, HB5.out⟩
          case measure => simp [intOf]; omega
        · have h1 : k = n1 := by omega
          have hcv := conv_all wr (some ⟨g, 0, none⟩) n n _ HBY.out.rd hlenC
          have HF := Lib.hid (show (pairs coef us).take k = pairs coef us by
            rw [List.take_of_length_le]
            unfold pairs
            rw [List.length_zip, List.length_map, List.length_map, HL1.out, HL2.out]; omega)
          rw [HF.out] at hcv
          clear hall hlenC h1 hc0
          go_wp2
          refine bodyPost_ret (v := .tuple #[.string (strB (Fld.combTo m n (pairs coef us))), .int .i64 0]) ?_ rfl ⟨rfl, HBL.out⟩
          rw [results_tmp2 rfl]; rfl
    | true =>
      have HANY := Lib.hid hany
      have hcb : okC (m : Int) coef us = false := by rw [HOK.out, hany]; simp
      have HV := Lib.hid (show pairS (combS (m : Int) coef us) (combE (m : Int) coef us) = .tuple #[.string ⟨#[]⟩, .int .i64 1] by rw [combS, combE, hcb]; rfl)
      rw [HV.out]
      clear hany hcb hdv
      go_enter Tryd.func10, Tryd.ntmps10
      go_wp2_with fail
      refine HC.out.mono ?_
      rw [HALL.out]
      rintro e w1 ⟨rfl, hb⟩
      have hc0 : w1.cell? ⟨b2, off2, none⟩ = some (.string u0) := by
        have := hb.cell (p := ⟨b2, off2 + 0, none⟩) HB2.out
        exact this.trans HC2.out
      have HB := Lib.hid hb
      clear hb
      go_wp2_with fail
      obtain ⟨w2, hw2⟩ : ∃ W, W = w1.alloc (.cells #[.int .i64 (n : Int)] 3) := ⟨_, rfl⟩
      rw [← hw2]
      have hbw2 : Below w.heap.size w w2 := by rw [hw2]; exact HB.out.alloc HB.out.size _
      have hrn : Row w2 w1.heap.size 3 #[.int .i64 (n : Int)] := by rw [hw2]; exact Row.new w1 _ _
      clear hw2
      refine (every_any _ n1 c2 us w1.heap.size n w2 HL2.out hn1 ((HR2.out.below hbw2).more hbw2.size) hrn).mono ?_
      rw [HANY.out]
      rintro e w3 ⟨rfl, hb⟩
      have hcn : w3.cell? ⟨w1.heap.size, 0, none⟩ = some (.int .i64 (n : Int)) := (hrn.below hb hrn.lt).cell 0
      have HB3 := Lib.hid (below_call hbw2 hb)
      clear hb hbw2 hrn
      go_wp2_with fail
      refine bodyPost_ret (v := .tuple #[.string ⟨#[]⟩, .int .i64 1]) ?_ rfl ⟨rfl, HB3.out⟩
      rw [results_tmp2 rfl]; rfl
  · have hbd : ((n : Int) % (S : Int) != 0) = true := by
      have : (n : Int) % (S : Int) = ((n % S : Nat) : Int) := by simp
      rw [this, bne_iff_ne]; omega
    have hcb : okC (m : Int) coef us = false := by rw [HOK.out, decide_eq_false hdv]; rfl
    have HV := Lib.hid (show pairS (combS (m : Int) coef us) (combE (m : Int) coef us) = .tuple #[.string ⟨#[]⟩, .int .i64 1] by rw [combS, combE, hcb]; rfl)
    rw [HV.out]
    clear hcb hdv
    go_enter Tryd.func10, Tryd.ntmps10
    go_wp2_with fail
    refine HC.out.mono ?_
    rw [HALL.out]
    rintro e w1 ⟨rfl, hb⟩
    have hc0 : w1.cell? ⟨b2, off2, none⟩ = some (.string u0) := by
      have := hb.cell (p := ⟨b2, off2 + 0, none⟩) HB2.out
      exact this.trans HC2.out
    have HB := Lib.hid hb
    clear hb
    go_wp2_with fail
    refine bodyPost_ret (v := .tuple #[.string ⟨#[]⟩, .int .i64 1]) ?_ rfl ⟨rfl, HB.out.alloc HB.out.size _⟩
    rw [results_tmp2 rfl]; rfl
end Go.Proofs.YtdmcdgpigpekhaaDoor
