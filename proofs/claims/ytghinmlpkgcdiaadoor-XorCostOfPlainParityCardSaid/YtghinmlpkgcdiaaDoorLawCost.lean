/- XorCostOfPlainParity: for every selection of data units the statement returns true; the arguments read as they did. -/
import Derived.Test.YtghinmlpkgcdiaaDoorPA
import Derived.Test.YtghinmlpkgcdiaaDoorOpenC
import Derived.Test.YtghinmlpkgcdiaaDoorZ1
import Derived.Deep.RegionHeld3
import Derived.Deep.DeepCutAuto
namespace Go.Proofs.YtghinmlpkgcdiaaDoor
set_option linter.unusedSimpArgs false
set_option linter.unusedVariables false
open Go.ChangeShapes Go.WideShapes Go.ChangeAt Go.RowKit Go.Lib Go.Deep

/-- truth values that came in -/
structure BoolIn (w : World) (q : Option Addr) (n k : Nat) (bs : List Bool) : Prop where
  len : bs.length = n
  cap : n ≤ k
  mx : k ≤ maxLen
  rd : Rd w w.heap.size q (bs.map Value.bool)
theorem got_bools {H : Type} {enc : TypeId × Value → H} {w : World} {v : Value} (g : Got enc Tryd.prog w 22 v) : ∃ (q : Option Addr) (n k : Nat) (bs : List Bool), v = .slice q n k ∧ BoolIn w q n k bs := by
  obtain ⟨a, n, k, xs, rfl, h1, h2, h3, h4, h5⟩ := got_list Tryd.underlying22 (by kernel_rfl) g
  obtain ⟨bs, rfl, _⟩ := list_of (f := Value.bool) (p := fun _ => True) fun x hx => by
    obtain ⟨b, rfl⟩ := got_bool Tryd.underlying4 (h5 x hx)
    exact ⟨b, rfl, trivial⟩
  exact ⟨a, n, k, bs, rfl, by simpa using h1, h2, h3, h4⟩
/-- the row of the selection -/
def rowB (bs : List Bool) : List Nat := bs.map fun b => if b then 1 else 0
/-- the row, as far as it is set -/
def rowF (bs : List Bool) (t p : Nat) : Nat := if p < t then (rowB bs)[p]?.getD 0 else 0
theorem rowB_01 (bs : List Bool) : ∀ x ∈ rowB bs, x = 0 ∨ x = 1 := by
  intro x hx
  unfold rowB at hx
  obtain ⟨b, _, rfl⟩ := List.mem_map.1 hx
  cases b
  · exact .inl rfl
  · exact .inr rfl
theorem rowB_get {bs : List Bool} {t : Nat} {b : Bool} (h : bs[t]? = some b) : (rowB bs)[t]? = some (if b then 1 else 0) := by
  unfold rowB; rw [List.getElem?_map, h]; rfl
theorem rowF_step {bs : List Bool} {t : Nat} {b : Bool} (h : bs[t]? = some b) (p : Nat) : rowF bs (t + 1) p = if p = t then (if b then 1 else 0) else rowF bs t p := by
  unfold rowF
  by_cases e : p = t
  · subst e
    rw [if_pos (by omega), if_pos rfl, rowB_get h]; rfl
  · rw [if_neg e]
    by_cases h2 : p < t
    · rw [if_pos (by omega), if_pos h2]
    · rw [if_neg (by omega), if_neg h2]
theorem rowF_false {bs : List Bool} {t : Nat} (h : bs[t]? = some false) (p : Nat) : rowF bs (t + 1) p = rowF bs t p := by
  rw [rowF_step h]
  by_cases e : p = t
  · subst e
    unfold rowF
    simp
  · rw [if_neg e]
theorem rowB_count {bs : List Bool} {t : Nat} {b : Bool} (h : bs[t]? = some b) : ((rowB bs).take (t + 1)).count 1 = ((rowB bs).take t).count 1 + (if b then 1 else 0) := by
  rw [List.take_add_one, rowB_get h, List.count_append]
  cases b <;> rfl
theorem rd_cells {W : World} {g N : Nat} {f : Nat → Nat} {row : List Nat} (h : Cells W g N f) (hl : row.length = N) (hf : ∀ p, p < N → row[p]? = some (f p)) : Rd W W.heap.size (some ⟨g, 0, none⟩) (ints (row.map fun (x : Nat) => (x : Int))) := by
  intro j u hu
  rw [ints, List.getElem?_map, List.getElem?_map] at hu
  by_cases hj : j < N
  · rw [hf j hj] at hu
    injection hu with hu
    subst hu
    exact ⟨g, 0, rfl, h.lt, by rw [Nat.zero_add]; exact h.cell hj⟩
  · rw [List.getElem?_eq_none (by omega)] at hu
    cases hu
section
variable (qb : Option Addr) (nb kb : Nat) (bs : List Bool) (wide : Bool) (w : World)
set_option maxRecDepth 100000 in
set_option maxHeartbeats 3200000 in
theorem cp_0 (ht : Tab w) (h : nb < 1 ∨ 6 < nb) :
    Calls Tryd.prog 3 #[.slice qb nb kb, .bool wide] w fun e w' => e = .returned (.bool true) ∧ Below w.heap.size w w' := by
  have HT := Lib.hid ht
  clear ht
  obtain ⟨b1, h1⟩ : ∃ b, decide ((nb : Int) < 1) = b := ⟨_, rfl⟩
  cases b1
  · have h2 : decide ((6 : Int) < (nb : Int)) = true := decide_eq_true (by have := of_decide_eq_false h1; omega)
    clear h
    go_enter Tryd.func3, Tryd.ntmps3
    go_wp2_with fail
    refine (sanity11_any _ HT.out).mono ?_
    rintro e v1 ⟨rfl, hb⟩
    have HB1 := Lib.hid hb
    clear hb
    go_wp2
    go_ret
    exact ⟨rfl, HB1.out⟩
  · clear h
    go_enter Tryd.func3, Tryd.ntmps3
    go_wp2_with fail
    refine (sanity11_any _ HT.out).mono ?_
    rintro e v1 ⟨rfl, hb⟩
    have HB1 := Lib.hid hb
    clear hb
    go_wp2
    go_ret
    exact ⟨rfl, HB1.out⟩
set_option maxRecDepth 100000 in
set_option maxHeartbeats 12800000 in
theorem cp_1 (ht : Tab w) (hs : BoolIn w qb nb kb bs) (h1 : 1 ≤ nb) (h6 : nb ≤ 6) (m : Nat) (hm : m = if wide then 16 else 8) :
    Calls Tryd.prog 3 #[.slice qb nb kb, .bool wide] w fun e w' => e = .returned (.bool true) ∧ Below w.heap.size w w' := by
  have HT := Lib.hid ht
  have hM : Fld.IsM m := by
    rw [hm]
    cases wide
    · exact .inl rfl
    · exact .inr rfl
  have hm16 : 8 ≤ m ∧ m ≤ 16 := by rcases hM with rfl | rfl <;> omega
  have hmk := make_ints nb (by omega)
  have HL := Lib.hid hs.len
  have HRD := Lib.hid hs.rd
  have hd1 : decide ((nb : Int) < 1) = false := decide_eq_false (by omega)
  have hd2 : decide ((6 : Int) < (nb : Int)) = false := decide_eq_false (by omega)
  obtain ⟨row, hrow⟩ : ∃ row, rowB bs = row := ⟨_, rfl⟩
  have hrl : row.length = nb := by rw [← hrow, rowB, List.length_map, hs.len]
  have h01 : ∀ x ∈ row, x = 0 ∨ x = 1 := by rw [← hrow]; exact rowB_01 bs
  obtain ⟨cnt, hcnt⟩ : ∃ cnt, row.count 1 = cnt := ⟨_, rfl⟩
  have hcn : cnt ≤ nb := by rw [← hcnt, ← hrl]; exact List.count_le_length
  have hok := plain_okC hM h01 (by omega) (by omega)
  rw [hrl, hcnt] at hok
  have HPC := Lib.hid (fun h => plain_comp hM h01 h)
  rw [hrl, hcnt] at HPC
  obtain ⟨b, hb⟩ : ∃ b, Xp.okC m nb (intsOf [row]) = b := ⟨_, rfl⟩
  have hbc : decide (1 ≤ cnt) = b := by rw [← hok, hb]
  rw [hb] at HPC
  have hoks := comp_okS (m : Int) (nb : Int) (intsOf [row])
  rw [hb, show (intsOf [row]).length = 1 by rfl] at hoks
  have HCX := Lib.hid (fun (nm : ByteArray) (qp : Option Addr) (kp : Nat) (W : World) (h : Below w.heap.size w W) (hg : Grid W W.heap.size qp 1 (intsOf [row])) => xcompile_say (nm := .string nm) (kp := kp) (dom := 0) W (ht.next h) hg (by omega) (show in64 (m : Int) by unfold in64; omega) (show in64 (nb : Int) by unfold in64; omega) rfl hb)
  have HCNT := Lib.hid hcnt
  have HROW := Lib.hid hrow
  have HRL := Lib.hid hrl
  clear ht hs hrow hrl h01 hcnt hok hm16 hb
  go_enter Tryd.func3, Tryd.ntmps3
  go_wp2_with fail
  refine (sanity11_any _ HT.out).mono ?_
  rintro e v1 ⟨rfl, hbl⟩
  have HB1 := Lib.hid hbl
  have hz1 := hbl.size
  clear hbl
  go_upto_region 5 with fail
  obtain ⟨g, hg⟩ : ∃ g, v1.heap.size = g := ⟨_, rfl⟩
  obtain ⟨v2, hv2⟩ : ∃ v2, v2 = v1.alloc (.cells #[.string { data := #[] }, .int .i64 8, .int .i64 nb, .slice none 0 0, .int .i64 0] 26) := ⟨_, rfl⟩
  have hb12 : Below v1.heap.size v1 v2 := by rw [hv2]; exact (Below.refl _ v1).alloc (Nat.le_refl _) _
  have HB2 := Lib.hid (below_call HB1.out hb12)
  have HR2 := Lib.hid (show Row v2 g 26 (codC (.string { data := #[] }) 8 nb none 0 0 0) by rw [hv2, ← hg]; exact Row.new _ _ _)
  rw [← hv2, hg]
  have hgw : w.heap.size ≤ g := by omega
  clear hv2 hb12 hg
  have HMM := Lib.hid hm
  have HMS := Lib.hid hM
  clear hm hM
  go_upto_if 27 with fail
  go_cut [27] (fun v wx => v = .bool wide ∧ Row wx g 26 (codC (.string { data := #[] }) m nb none 0 0 0) ∧ Below w.heap.size w wx)
  case first =>
    have hmm := HMM.out
    obtain ⟨c0, c1, c2, c3, c4⟩ := cbox HR2.out
    have hfz := HR2.out.frozen 1
    have hlt := HR2.out.lt
    cases wide
    · obtain rfl : m = 8 := hmm
      go_wp2_with fail
      go_meet
      exact ⟨rfl, HR2.out, HB2.out⟩
    · obtain rfl : m = 16 := hmm
      go_wp2_with fail
      go_meet
      exact ⟨rfl, HR2.out.put 1 _, HB2.out.setCell (p := ⟨g, 1, none⟩) hgw _⟩
  case rest =>
    obtain ⟨rfl, hr, hb⟩ := hcut
    have HR3 := Lib.hid hr
    have HB3 := Lib.hid hb
    have hwc := hb.size
    have hgc := hr.lt
    clear hr hb hz1
    go_wp2_with fail
    clear hmk
    obtain ⟨gR, hgR⟩ : ∃ gR, wc.heap.size = gR := ⟨_, rfl⟩
    obtain ⟨v4, hv4⟩ : ∃ v4, v4 = wc.alloc (.cells (madeCells #[.int .i64 0] nb) 3) := ⟨_, rfl⟩
    have HC4 := Lib.hid (show Cells v4 gR nb (rowF bs 0) from by
      rw [hv4, ← hgR]
      exact (Cells.made (w := wc) rfl nb).congr (fun p _ => by unfold rowF; simp))
    have HR4 := Lib.hid (show Row v4 g 26 (codC (.string { data := #[] }) m nb none 0 0 0) by rw [hv4]; exact HR3.out.alloc _)
    have HB4 := Lib.hid (show Below w.heap.size w v4 by rw [hv4]; exact HB3.out.alloc hwc _)
    rw [← hv4, hgR]
    have hgR2 : w.heap.size ≤ gR := by omega
    have hne : g ≠ gR := by omega
    clear hv4 hgR hwc hgc
    go_loopw [8, 9] (fun s i wr => ∃ t k : Nat, t ≤ nb ∧ i = .int .i64 t ∧ s = .int .i64 k ∧ Hid (k = (row.take t).count 1) ∧ k ≤ t ∧ Cells wr gR nb (rowF bs t) ∧ Row wr g 26 (codC (.string { data := #[] }) m nb none 0 0 0) ∧ Below w.heap.size w wr) (fun _ i _ => nb - (intOf i).toNat)
    case atStart => exact ⟨0, 0, Nat.zero_le _, rfl, rfl, Lib.hid (by simp), Nat.le_refl _, HC4.out, HR4.out, HB4.out⟩
    case round =>
      obtain ⟨t, k, ht, rfl, rfl, hk, hkt, hc, hr, hb⟩ := hrel
      have HK := Lib.hid hk.out
      have HC := Lib.hid hc
      have HR := Lib.hid hr
      have HB := Lib.hid hb
      clear hk hc hr hb HC4 HR4 HB4
      by_cases hlt : t < nb
      · have hd : decide ((t : Int) < nb) = true := decide_eq_true (by omega)
        obtain ⟨bt, hbt⟩ : ∃ b, bs[t]? = some b := ⟨_, List.getElem?_eq_getElem (by rw [HL.out]; exact hlt)⟩
        obtain ⟨bq, oq, rfl, hbq, hcq⟩ := HRD.out t (.bool bt) (by rw [List.getElem?_map, hbt]; rfl)
        have hcell := (HB.out.cell (p := ⟨bq, oq + t, none⟩) hbq).trans hcq
        have HBT := Lib.hid hbt
        have HCN := Lib.hid (show (row.take (t + 1)).count 1 = (row.take t).count 1 + (if bt then 1 else 0) by rw [← HROW.out]; exact rowB_count hbt)
        clear hcq hbt
        cases bt
        · go_wp2_with fail
          go_roundw
          case rel => exact ⟨t + 1, k, by omega, by go_num, rfl, Lib.hid (by rw [HCN.out, ← HK.out]; rfl), by omega, HC.out.congr (fun p _ => (rowF_false HBT.out p).symm), HR.out, HB.out⟩
          case measure => simp [intOf]; omega
        · have hcr := HC.out.cell hlt
          have hfr := HC.out.frozen t
          have hlR := HC.out.lt
          have HC5 := Lib.hid ((HC.out.put hlt 1).congr (f' := rowF bs (t + 1)) (fun p _ => by rw [rowF_step HBT.out]; rfl))
          have HR5 := Lib.hid (HR.out.far (p := ⟨gR, t, none⟩) hne (.int .i64 1))
          have HB5 := Lib.hid (HB.out.setCell (p := ⟨gR, t, none⟩) hgR2 (.int .i64 1))
          go_wp2_with fail
          go_roundw
          case rel => exact ⟨t + 1, k + 1, by omega, by go_num, by go_num, Lib.hid (by rw [HCN.out, ← HK.out]; rfl), by omega, HC5.out, HR5.out, HB5.out⟩
          case measure => simp [intOf]; omega
      · have hd : decide ((t : Int) < nb) = false := decide_eq_false (by omega)
        have hkc : k = cnt := by
          rw [HK.out, List.take_of_length_le (by rw [HRL.out]; omega), HCNT.out]
        have htn : t = nb := by omega
        have HC6 := Lib.hid (show Cells wr gR nb (rowF bs nb) from by have h9 := HC.out; rwa [htn] at h9)
        subst hkc
        obtain ⟨c0, c1, c2, c3, c4⟩ := cbox HR.out
        have hfz := HR.out.frozen 3
        have hlt2 := HR.out.lt
        have hlR := HC.out.lt
        clear htn
        go_upto_region 16 with fail
        obtain ⟨gP, hgP⟩ : ∃ gP, wr.heap.size = gP := ⟨_, rfl⟩
        obtain ⟨v5, hv5⟩ : ∃ v5, v5 = (wr.setCell ⟨g, 3, none⟩ (.slice (some ⟨wr.heap.size, 0, none⟩) 1 1)).alloc (.cells #[.slice (some ⟨gR, 0, none⟩) nb nb] 27) := ⟨_, rfl⟩
        have HR5 := Lib.hid (show Row v5 g 26 (codC (.string { data := #[] }) m nb (some ⟨gP, 0, none⟩) 1 1 0) by
          rw [hv5, hgP]
          exact (HR.out.put 3 _).alloc _)
        have HP5 := Lib.hid (show Row v5 gP 27 #[.slice (some ⟨gR, 0, none⟩) nb nb] by
          rw [hv5, ← hgP]
          exact Row.made _ _ (by simp))
        have HC5 := Lib.hid (show Cells v5 gR nb (rowF bs nb) by
          rw [hv5]
          exact (HC6.out.far (p := ⟨g, 3, none⟩) (fun e => hne e.symm) _).alloc _)
        have HB5 := Lib.hid (show Below w.heap.size w v5 by
          rw [hv5]
          exact (HB.out.setCell (p := ⟨g, 3, none⟩) hgw _).alloc (by have := HB.out.size; rw [size_put]; omega) _)
        rw [← hv5, hgP]
        clear hv5 hgP hlt2 hlR c0 c1 c2 c3 c4 hfz
        have HGR := Lib.hid (show Grid v5 v5.heap.size (some ⟨gP, 0, none⟩) 1 (intsOf [row]) from ⟨rfl, fun i zs hz => by
          have hi : i = 0 := by
            have := (List.getElem?_eq_some_iff.1 hz).1
            simp [intsOf] at this
            omega
          subst hi
          have e : zs = row.map fun (x : Nat) => (x : Int) := by simpa [intsOf] using hz.symm
          subst e
          refine ⟨gP, 0, some ⟨gR, 0, none⟩, nb, rfl, HP5.out.lt, ?_, by rw [List.length_map, HRL.out]; unfold maxLen; omega, rd_cells HC5.out HRL.out (fun p hp => ?_)⟩
          · rw [List.length_map, HRL.out]; exact HP5.out.cell 0
          · have hp2 : p < row.length := by rw [HRL.out]; exact hp
            unfold rowF
            rw [if_pos hp, HROW.out, List.getElem?_eq_getElem hp2]; rfl⟩)
        have HCC := Lib.hid (HCX.out { data := #[] } (some ⟨gP, 0, none⟩) 1 v5 HB5.out HGR.out)
        obtain ⟨O, hO⟩ : ∃ O, Xp.compO (m : Int) (nb : Int) (intsOf [row]) = O := ⟨_, rfl⟩
        obtain ⟨U, hU⟩ : ∃ U, Xp.compU (m : Int) (nb : Int) (intsOf [row]) = U := ⟨_, rfl⟩
        rw [hO, hU] at HCC HPC
        rw [hO, hU] at hoks
        obtain ⟨NO, hNO⟩ : ∃ n, O.length = n := ⟨_, rfl⟩
        obtain ⟨NX, hNX⟩ : ∃ n, U.length = n := ⟨_, rfl⟩
        rw [hNO, hNX] at HCC
        have hgc := HR5.out.lt
        have HNO := Lib.hid hNO
        have HOK := Lib.hid hoks
        clear hO hU hNO hNX hoks
        cases b
        · have hk0 : k = 0 := by have := of_decide_eq_false hbc; omega
          subst hk0
          unfold schV at HCC
          obtain ⟨c0, c1, c2, c3, c4⟩ := cbox HR5.out
          clear hbc
          go_wp2_with fail
          refine HCC.out.mono ?_
          rintro e v6 ⟨⟨qa, ka, qx, kx, rfl, hin⟩, hb⟩
          have HB6 := Lib.hid (below_call HB5.out hb)
          clear hb hin c0 c1 c2 c3 c4
          go_wp2
          go_ret
          exact ⟨rfl, HB6.out.alloc (by have := HB6.out.size; omega) _⟩
        · obtain ⟨hlen, hsame⟩ := HPC.out rfl
          have hk1 : 1 ≤ k := of_decide_eq_true hbc
          have hNO : NO = m * (k - 1) := by rw [← HNO.out, hlen]
          have hm16 : 8 ≤ m ∧ m ≤ 16 := by rcases HMS.out with rfl | rfl <;> omega
          have hNOs : NO ≤ 96 := by
            rw [hNO]
            have := Nat.mul_le_mul hm16.2 (show k - 1 ≤ 6 by omega)
            omega
          have HSH := Lib.hid (fun (qa : Option Addr) (ka : Nat) (qx : Option Addr) (kx : Nat) (W : World) (h : Below w.heap.size w W) (hi : SchIn W m nb 1 qa NO ka qx NX kx O U) => by
            have h9 := xshorten_say W (HT.out.next h) (show NO ≤ 131072 by omega) hi HOK.out
            rw [hsame] at h9
            simp only at h9
            rw [HNO.out] at h9
            exact h9)
          have e1 : Xp.compH true (m : Int) = m := rfl
          have e2 : Xp.compH true (nb : Int) = nb := rfl
          have e3 : Xp.compH true ((1 : Nat) : Int) = 1 := rfl
          rw [e1, e2, e3] at HCC
          unfold schV at HCC HSH
          obtain ⟨c0, c1, c2, c3, c4⟩ := cbox HR5.out
          have hk0 : ((k : Int) == 0) = false := by rw [beq_eq_false_iff_ne]; omega
          have hw1 : IntKind.i64.wrap ((k : Int) - 1) = ((k - 1 : Nat) : Int) := by rw [IntKind.wrap_i64] <;> omega
          have hw2 : IntKind.i64.wrap ((m : Int) * ((k - 1 : Nat) : Int)) = (NO : Int) := by rw [← Int.natCast_mul, ← hNO, IntKind.wrap_i64] <;> omega
          have hkk : (k : Int) - 1 = ((k - 1 : Nat) : Int) := by omega
          clear hbc e1 e2 e3 hNO hlen hsame hm16
          go_wp2_with fail
          refine HCC.out.mono ?_
          rintro e v6 ⟨⟨qa, ka, qx, kx, rfl, hin⟩, hb⟩
          have HB6 := Lib.hid (below_call HB5.out hb)
          have HR6 := Lib.hid (HR5.out.below hb HR5.out.lt)
          have HI6 := Lib.hid hin
          clear hb hin c0 c1 c2 c3 c4
          go_upto_region 17 with fail
          obtain ⟨v7, hv7⟩ : ∃ v7, v7 = v6.alloc (.cells (schC m nb 1 qa NO ka qx NX kx) 30) := ⟨_, rfl⟩
          rw [← hv7]
          have hb67 : Below v6.heap.size v6 v7 := by rw [hv7]; exact (Below.refl _ v6).alloc (Nat.le_refl _) _
          have HB7 := Lib.hid (below_call HB6.out hb67)
          have HR7 := Lib.hid (HR6.out.below hb67 HR6.out.lt)
          have HI7 := Lib.hid (HI6.out.next hb67)
          have HA7 := Lib.hid (show Row v7 v6.heap.size 30 (schC m nb 1 qa NO ka qx NX kx) by rw [hv7]; exact Row.new _ _ _)
          clear hv7 hb67
          obtain ⟨a0, a1, a2, a3, a4⟩ := sbox HA7.out
          have hz7 : v6.heap.size < v7.heap.size := HA7.out.lt
          go_wp2_with fail
          clear a0 a1 a2 a3 a4
          refine (HSH.out _ _ _ _ _ HB7.out HI7.out).mono ?_
          rintro e v8 ⟨⟨qb2, kb2, qxb, kxb, rfl, hin⟩, hb⟩
          have HB8 := Lib.hid (below_call HB7.out hb)
          have HR8 := Lib.hid (HR7.out.below hb HR7.out.lt)
          have HA8 := Lib.hid (HA7.out.below hb HA7.out.lt)
          clear hb hin hz7
          go_upto_region 20 with fail
          obtain ⟨v9, hv9⟩ : ∃ v9, v9 = v8.alloc (.cells (schC m nb 1 qb2 NO kb2 qxb NX kxb) 30) := ⟨_, rfl⟩
          rw [← hv9]
          have hb89 : Below v8.heap.size v8 v9 := by rw [hv9]; exact (Below.refl _ v8).alloc (Nat.le_refl _) _
          have HB9 := Lib.hid (below_call HB8.out hb89)
          have HR9 := Lib.hid (HR8.out.below hb89 HR8.out.lt)
          have HA9 := Lib.hid (HA8.out.below hb89 HA8.out.lt)
          have HZ9 := Lib.hid (show Row v9 v8.heap.size 30 (schC m nb 1 qb2 NO kb2 qxb NX kxb) by rw [hv9]; exact Row.new _ _ _)
          clear hv9 hb89
          obtain ⟨a0, a1, a2, a3, a4⟩ := sbox HA9.out
          obtain ⟨c0, c1, c2, c3, c4⟩ := cbox HR9.out
          obtain ⟨d0, d1, d2, d3, d4⟩ := sbox HZ9.out
          have hz9 : v6.heap.size < v9.heap.size := HA9.out.lt
          have hz9b : v8.heap.size < v9.heap.size := HZ9.out.lt
          have hz9c : g < v9.heap.size := HR9.out.lt
          have hnn : ((NO : Int) == (NO : Int)) = true := by simp
          go_wp2
          go_ret
          exact ⟨rfl, HB9.out⟩
theorem walk_XorCostOfPlainParity (hs : BoolIn w qb nb kb bs) (ht : Tab w) :
    Calls Tryd.prog 3 #[.slice qb nb kb, .bool wide] w fun e w' => e = .returned (.bool true) ∧ Below w.heap.size w w' := by
  by_cases h : nb < 1 ∨ 6 < nb
  · exact cp_0 qb nb kb wide w ht h
  · exact cp_1 qb nb kb bs wide w ht hs (by omega) (by omega) _ rfl
end
set_option maxRecDepth 100000
/-! ### the frame: the arguments opened and shut -/
theorem contract_XorCostOfPlainParity (H : Type) (enc : TypeId × Value → H) (W : World) (base : Nat) (args : Array Value) (ds gs : List (DataW H)) (before : List MemPlace)
    (hval0 : ∀ (j : Nat) t v, Tryd.f3.params[j]? = some t → args[j]? = some v → Value.okWide Tryd.prog W .any base t v)
    (hW : DataW.Whole enc Tryd.prog Tryd.f3.params.toList Rows.xorCostOfPlainParitySpec.vars false W args.toList ds gs before) (hL : laidMetH Tryd.prog Rows.xorCostOfPlainParityRow.laid W) :
    Calls Tryd.prog 3 args W fun e W' => ∃ v, e = .returned v ∧ Rows.xorCostOfPlainParitySpec.post enc Tryd.prog Tryd.f3 false true false false W args v W' := by
  have hval : ∀ (j : Nat) t v, Tryd.f3.params[j]? = some t → args[j]? = some v → Value.okWide Tryd.prog W .any base t v := hval0
  have hW' := hW
  obtain ⟨p, q, hA0, hV, rfl, hfz, hnd⟩ := hW
  have hA : DataW.TrodAll enc Tryd.prog W 0 (fun _ => true) true Tryd.f3.params.toList args.toList ds p := hA0
  rw [Tryd.params3] at hA hval
  obtain ⟨v0, vs0, d0, ds0, p0, q0, hargs, rfl, rfl, h0, r0⟩ := trodAll_cons hA
  obtain ⟨v1, vs1, d1, ds1, p1, q1, rfl, rfl, rfl, h1, r1⟩ := trodAll_cons r0
  obtain ⟨rfl, rfl, rfl⟩ := trodAll_nil r1
  obtain rfl : args = #[v0, v1] := by cases args; simp_all
  obtain ⟨rfl, rfl⟩ := trodVars_none hV
  have k0 := h0
  have lt0 : ∀ x ∈ p0, x.block < W.heap.size := by obtain ⟨m, hm⟩ := k0; exact DataW.trod_lt m _ _ _ hm
  have k1 := h1
  have lt1 : ∀ x ∈ p1, x.block < W.heap.size := by obtain ⟨m, hm⟩ := k1; exact DataW.trod_lt m _ _ _ hm
  obtain ⟨ba0, bn0, bk0, bs0, rfl, hbo0⟩ := got_bools (show Got enc Tryd.prog W 22 v0 from by
    obtain ⟨ga0, gn0, gk0, rfl⟩ := okWide_slice Tryd.underlying22 (hval 0 22 v0 rfl rfl)
    obtain ⟨fuel0, hf0⟩ := h0
    exact ⟨fuel0, _, hf0⟩)
  obtain ⟨n1, rfl, rfl, rfl⟩ := open_bool Tryd.underlying4 (hval 1 4 v1 rfl rfl) h1
  refine (walk_XorCostOfPlainParity ba0 bn0 bk0 bs0 n1 W hbo0 (tab_of hL)).mono fun e W' ⟨he, bel⟩ => ?_
  subst he
  exact ⟨_, rfl, _, _, _, [], _, [], hW', trodAll_mk1 (shut_bool Tryd.underlying4 _), (trodAll_cons_mk (Below.trod laidOut (by kernel_rfl) (of_decide_eq_true (by kernel_rfl)) k0 bel lt0) (trodAll_cons_mk (Below.trod laidOut (by kernel_rfl) (of_decide_eq_true (by kernel_rfl)) k1 bel lt1) trodAll_mk0)), rfl, bel.frame _, fun h => by cases h⟩
theorem laid_XorCostOfPlainParity (os : Os) : laidMet Tryd.prog Rows.xorCostOfPlainParityRow.laid ((laidWorld os).forCall (fun _ _ => 0) ⟨#[], #[.slice none 0 0, .bool false], []⟩).memory :=
  laidMet_of_run' 8 (by kernel_rfl) (by kernel_rfl)
theorem reads_XorCostOfPlainParity (os : Os) {H : Type} (enc : TypeId × Value → H) : ∃ places, DataW.whole enc Tryd.prog ((laidWorld os).forCall (fun _ _ => 0) ⟨#[], #[.slice none 0 0, .bool false], []⟩).memory Tryd.f3.params.toList Rows.xorCostOfPlainParitySpec.vars false (#[.slice none 0 0, .bool false] : Array Value).toList 8 = some ([.nil, .lit (.bool false)], [], places) :=
  ⟨[], by kernel_rfl⟩
set_option maxRecDepth 100000 in
theorem lifted_XorCostOfPlainParity (os : Os) (started : os.Started) (H : Type) (enc : TypeId × Value → H) (F : Stop.Interp) :
    ReturnsInHanded {} Tryd.checked os 3 .any ((OpenSpec.ofChange Rows.xorCostOfPlainParitySpec).preRow enc Tryd.prog Tryd.f3 Rows.xorCostOfPlainParityRow.domain false Rows.xorCostOfPlainParityRow.laid) (((OpenSpec.ofChange Rows.xorCostOfPlainParitySpec).at F).post enc Tryd.prog Tryd.f3 false true false false) := by
  obtain ⟨places, hx⟩ := reads_XorCostOfPlainParity os enc
  refine returnsInHanded_of_row (C := Tryd.checked) (s := OpenSpec.ofChange Rows.xorCostOfPlainParitySpec) own started (by kernel_rfl) Tryd.func3
    (witness_row_at (enc := enc) (C := Tryd.checked) false (laidWorld os) #[.slice none 0 0, .bool false] rfl (by kernel_rfl) (by kernel_rfl) (by kernel_rfl)
      (OpenSpec.preRow_of_cond 8 hx (by kernel_rfl) (fun k hk => by cases hk) (by kernel_rfl) (laid_XorCostOfPlainParity os))) ?_
  intro W base args ds gs before hval hW _ hcond _ hL _ _
  exact contract_XorCostOfPlainParity H enc W base args ds gs before hval hW hL

theorem said_XorCostOfPlainParity : Rows.XorCostOfPlainParitySaid :=
  OpenClaim.holds_of_cond 3 Tryd.f3 rfl rfl rfl rfl rfl rfl rfl ⟨rfl, rfl, rfl, rfl, rfl⟩ rfl rfl rfl rfl rfl (by kernel_rfl) Tryd.func3 (by kernel_rfl)
    (of_decide_eq_true (by kernel_rfl)) (by unfold Func.isWrapper; first | (rw [if_pos (by decide +kernel)]; kernel_rfl) | (rw [if_neg (by decide +kernel)]; exact ⟨rfl, rfl⟩))
    (fun os started H enc _ F => by rw [OpenClaim.pre_eq_preRow]; exact lifted_XorCostOfPlainParity os started H enc F)
theorem plain_XorCostOfPlainParity (f : FuncId) (fn : Func) (hf : Tryd.pinned.checked.prog.funcNamed "solvent/solventlaw11.XorCostOfPlainParity" = some f) (hfn : Tryd.pinned.checked.prog.funcs[f]? = some fn) :
    false = Tryd.pinned.checked.prog.looks [] ∧ ∀ (j : Nat) t, fn.params[j]? = some t → Tryd.pinned.checked.prog.wantsStandIn t = false := by
  obtain rfl : f = 3 := Option.some.inj ((show Tryd.prog.funcNamed "solvent/solventlaw11.XorCostOfPlainParity" = some 3 by kernel_rfl).symm.trans hf) |>.symm
  obtain rfl : fn = Tryd.f3 := (Option.some.inj (Tryd.func3.symm.trans hfn)).symm
  refine ⟨by kernel_rfl, fun j t ht => ?_⟩
  rw [Tryd.params3] at ht
  have hm := Array.mem_of_getElem? ht
  simp only [List.mem_toArray, List.mem_cons, List.not_mem_nil, or_false] at hm
  rcases hm with rfl | rfl
  all_goals first | exact (show Tryd.prog.wantsStandIn 22 = false by kernel_rfl) | exact (show Tryd.prog.wantsStandIn 4 = false by kernel_rfl)
theorem proved_XorCostOfPlainParity : Rows.XorCostOfPlainParityCardSaid :=
  Claim7.holds_tied_plain_at .later [] _ _ _ _ said_XorCostOfPlainParity (fun _ h => by cases h) (by kernel_rfl) (fun _ h => by cases h) xorCostOfPlainParity_row_tie rfl ⟨rfl, rfl⟩ (by kernel_rfl) rfl plain_XorCostOfPlainParity (by kernel_rfl)
end Go.Proofs.YtghinmlpkgcdiaaDoor
