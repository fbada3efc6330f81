/- Schedules: has and replace, the specification's walk. -/
import Derived.Test.YtghinmlpkgcdiaaDoorZ1
import Derived.Deep.Cut
namespace Go.Proofs.YtghinmlpkgcdiaaDoor
set_option linter.unusedSimpArgs false
set_option linter.unusedVariables false
open Go.RowKit Go.Lib Xp

set_option maxRecDepth 100000 in
set_option maxHeartbeats 3200000 in
theorem has_any (q : Option Addr) (n k : Nat) (l : List Nat) (a : Nat) (w : World) (hl : l.length = n) (hn : n ≤ 1000000)
    (hx : ∀ (p x : Nat), l[p]? = some x → ∃ (g2 : Nat) (cs2 : Array Value), q = some ⟨g2, 0, none⟩ ∧ Row w g2 3 cs2 ∧ cs2[p]? = some (.int .i64 (x : Int))) :
    Calls Tryd.prog 81 #[.slice q n k, .int .i64 (a : Int)] w fun e w' => e = .returned (.bool (decide (a ∈ l))) ∧ w' = w := by
  have HX := Lib.hid hx
  have HL := Lib.hid hl
  clear hx hl
  go_enter Tryd.func81, Tryd.ntmps81
  go_wp2_with fail
  go_loopw [5] (fun i wr => ∃ t : Nat, t ≤ n ∧ i = .int .i64 t ∧ Hid (a ∉ l.take t) ∧ wr = w) (fun i _ => n - (intOf i).toNat)
  case atStart => exact ⟨0, Nat.zero_le _, rfl, Lib.hid (by simp), rfl⟩
  case round =>
    obtain ⟨t, ht, rfl, hno, rfl⟩ := hrel
    have HNO := Lib.hid hno.out
    clear hno
    by_cases hlt : t < n
    · have hd : decide ((t : Int) < n) = true := decide_eq_true (by omega)
      obtain ⟨x, hxx⟩ : ∃ x, l[t]? = some x := ⟨_, List.getElem?_eq_getElem (by rw [HL.out]; exact hlt)⟩
      obtain ⟨g2, cs2, rfl, hr2, hc2⟩ := HX.out t x hxx
      have hcx : wr.cell? ⟨g2, t, none⟩ = some (.int .i64 (x : Int)) := (hr2.cell t).trans hc2
      have HXX := Lib.hid hxx
      clear hr2 hc2 hxx
      by_cases hxa : x = a
      · have hd2 : ((x : Int) == (a : Int)) = true := by rw [beq_iff_eq]; omega
        have HIN := Lib.hid (show decide (a ∈ l) = true from decide_eq_true (by rw [← hxa]; exact List.mem_of_getElem? HXX.out))
        clear hxa
        go_wp2
        go_ret
        exact ⟨by rw [HIN.out]; rfl, rfl⟩
      · have hd2 : ((x : Int) == (a : Int)) = false := by rw [beq_eq_false_iff_ne]; omega
        have HN2 := Lib.hid (show a ∉ l.take (t + 1) from by
          rw [List.take_add_one, HXX.out]
          intro h
          rcases List.mem_append.1 h with h | h
          · exact HNO.out h
          · simp at h; omega)
        clear hxa
        go_wp2_with fail
        go_roundw
        case rel => exact ⟨t + 1, by omega, by go_num, Lib.hid HN2.out, trivial⟩
        case measure => simp [intOf]; omega
    · have hd : decide ((t : Int) < n) = false := decide_eq_false (by omega)
      have HIN := Lib.hid (show decide (a ∈ l) = false from decide_eq_false (by
        have h9 := HNO.out
        rwa [List.take_of_length_le (by rw [HL.out]; omega)] at h9))
      go_wp2
      go_ret
      exact ⟨by rw [HIN.out]; rfl, rfl⟩
/-- what stays in a set -/
def keepP (bo : Bool) (a b x : Nat) : Bool := if bo then !(x == a || x == b) else true
theorem repl_both {a b r : Nat} {l : List Nat} (ha : a ∈ l) (hb : b ∈ l) : repl a b r l = l.filter (keepP true a b) ++ [r] := by
  unfold repl
  rw [if_pos ⟨ha, hb⟩]
  rfl
theorem repl_not {a b r : Nat} {l : List Nat} (h : ¬ (a ∈ l ∧ b ∈ l)) : repl a b r l = l.filter (keepP false a b) := by
  unfold repl
  rw [if_neg h]
  exact (show l.filter (keepP false a b) = l from List.filter_eq_self.2 (fun _ _ => rfl)).symm
theorem filter_take_succ {p : Nat → Bool} {l : List Nat} {t x : Nat} (h : l[t]? = some x) : (l.take (t + 1)).filter p = if p x then (l.take t).filter p ++ [x] else (l.take t).filter p := by
  rw [List.take_add_one, h, List.filter_append]
  show _ ++ List.filter p [x] = _
  rw [List.filter_cons]
  cases p x <;> simp
set_option maxRecDepth 100000 in
set_option maxHeartbeats 12800000 in
theorem replace_any (qs : Option Addr) (ns ks : Nat) (ls : List (List Nat)) (a b r : Nat) (w : World) (hs : RowsR w qs ns ls) (hns : ns ≤ 512) (hlen : ∀ l ∈ ls, l.length ≤ 50000) :
    Calls Tryd.prog 59 #[.slice qs ns ks, .int .i64 (a : Int), .int .i64 (b : Int), .int .i64 (r : Int)] w fun e w' => (∃ q k, e = .returned (.slice q ns k) ∧ RowsR w' q ns (ls.map (repl a b r))) ∧ Below w.heap.size w w' := by
  have HS := Lib.hid hs
  have HLS := Lib.hid hs.len
  have HLEN := Lib.hid hlen
  clear hs hlen
  go_enter Tryd.func59, Tryd.ntmps59
  go_wp2_with fail
  go_loopw [9, 10] (fun s i wr => ∃ (t : Nat) (q : Option Addr) (k : Nat) (vs : List Value), t ≤ ns ∧ i = .int .i64 t ∧ s = .slice q t k ∧ Own wr w.heap.size 27 q t k vs ∧ SetsOf wr vs ((ls.take t).map (repl a b r)) ∧ Below w.heap.size w wr) (fun _ i _ => ns - (intOf i).toNat)
  case atStart => exact ⟨0, none, 0, [], Nat.zero_le _, rfl, rfl, Own.nil _ _ _, SetsOf.nil _, Below.refl _ _⟩
  case round =>
    obtain ⟨t, q, k, vs, ht, rfl, rfl, ho, hf, hb⟩ := hrel
    have HO := Lib.hid ho
    have HF := Lib.hid hf
    have HB := Lib.hid hb
    have hsw := hb.size
    obtain ⟨wz, rfl⟩ : ∃ wz : World, wz = wr := ⟨_, rfl⟩
    clear ho hf hb
    by_cases hlt : t < ns
    · have hd : decide ((t : Int) < ns) = true := decide_eq_true (by omega)
      obtain ⟨l, hl⟩ : ∃ l, ls[t]? = some l := ⟨_, List.getElem?_eq_getElem (by rw [HLS.out]; exact hlt)⟩
      obtain ⟨gs, cs, ql, kc, rfl, hrs, hcs, hxl⟩ := HS.out.row t l hl
      have hgs := hrs.lt
      have HCL := Lib.hid (fun (W : World) (h : Below wz.heap.size wz W) => show W.cell? ⟨gs, t, none⟩ = some (.slice ql l.length kc) from ((HB.out.trans (h.mono hsw)).cell (p := ⟨gs, t, none⟩) hgs).trans ((hrs.cell t).trans hcs))
      have HXW := Lib.hid (fun (W : World) (h : Below wz.heap.size wz W) (p x : Nat) (hp : l[p]? = some x) => show ∃ (g2 : Nat) (cs2 : Array Value), ql = some ⟨g2, 0, none⟩ ∧ Row W g2 3 cs2 ∧ cs2[p]? = some (.int .i64 (x : Int)) from by
        obtain ⟨g2, cs2, e, hr, hc⟩ := hxl p x hp
        exact ⟨g2, cs2, e, hr.below (HB.out.trans (h.mono hsw)) hr.lt, hc⟩)
      have HL := Lib.hid hl
      have hll := HLEN.out l (List.mem_of_getElem? hl)
      obtain ⟨L, hL⟩ : ∃ L, l.length = L := ⟨_, rfl⟩
      have HLL := Lib.hid hL
      have HHA := Lib.hid (has_any ql L kc l a wz hL (by omega) (HXW.out _ (Below.refl _ _)))
      have HHB := Lib.hid (has_any ql L kc l b wz hL (by omega) (HXW.out _ (Below.refl _ _)))
      rw [hL] at HCL hll
      have hcl := HCL.out _ (Below.refl _ _)
      clear hl hrs hcs hxl hL
      obtain ⟨ba, hba⟩ : ∃ ba, decide (a ∈ l) = ba := ⟨_, rfl⟩
      obtain ⟨bb, hbb⟩ : ∃ bb, decide (b ∈ l) = bb := ⟨_, rfl⟩
      rw [hba] at HHA
      rw [hbb] at HHB
      obtain ⟨bo, hbo⟩ : ∃ bo, (ba && bb) = bo := ⟨_, rfl⟩
      have HRP := Lib.hid (show repl a b r l = if bo then l.filter (keepP bo a b) ++ [r] else l.filter (keepP bo a b) by
        cases ba
        · obtain rfl : false = bo := by rw [← hbo]; rfl
          rw [repl_not (fun h => (of_decide_eq_false hba) h.1)]; rfl
        · cases bb
          · obtain rfl : false = bo := by rw [← hbo]; rfl
            rw [repl_not (fun h => (of_decide_eq_false hbb) h.2)]; rfl
          · obtain rfl : true = bo := by rw [← hbo]; rfl
            rw [repl_both (of_decide_eq_true hba) (of_decide_eq_true hbb)]; rfl)
      have HTK := Lib.hid (show (ls.take (t + 1)).map (repl a b r) = (ls.take t).map (repl a b r) ++ [repl a b r l] by
        rw [List.take_add_one, HL.out, List.map_append]; rfl)
      clear hba hbb
      go_wp2_with fail
      refine HHA.out.mono ?_
      rintro e w2' ⟨rfl, rfl⟩
      go_wp2_with fail
      refine HHB.out.mono ?_
      rintro e w2' ⟨rfl, rfl⟩
      go_wp2_with fail
      clear hcl
      go_loopw [13, 14] (fun s i wr => ∃ (j L8 : Nat) (q8 : Option Addr) (k8 : Nat), j ≤ L ∧ i = .int .i64 j ∧ s = .slice q8 L8 k8 ∧ Hid (((l.take j).filter (keepP bo a b)).length = L8) ∧ Own wr w2'.heap.size 3 q8 L8 k8 (nts ((l.take j).filter (keepP bo a b))) ∧ Below w2'.heap.size w2' wr) (fun _ i _ => L - (intOf i).toNat)
      case atStart => exact ⟨0, 0, none, 0, Nat.zero_le _, rfl, rfl, Lib.hid rfl, Own.nil _ _ _, Below.refl _ _⟩
      case round =>
        obtain ⟨j, L8, q8, k8, hjL, rfl, rfl, hl8, ho, hb⟩ := hrel
        have HL8 := Lib.hid hl8.out
        have HO8 := Lib.hid ho
        have HB8 := Lib.hid hb
        have hsz8 := hb.size
        have hcl := HCL.out _ hb
        have hL8 : L8 ≤ 50000 := by
          have h1 := List.length_filter_le (keepP bo a b) (l.take j)
          rw [hl8.out, List.length_take] at h1
          omega
        clear hl8 ho hb
        by_cases hjl : j < L
        · have hdj : decide ((j : Int) < L) = true := decide_eq_true (by omega)
          obtain ⟨x, hx⟩ : ∃ x, l[j]? = some x := ⟨_, List.getElem?_eq_getElem (by rw [HLL.out]; exact hjl)⟩
          obtain ⟨g2, cs2, rfl, hr2, hc2⟩ := HXW.out _ HB8.out j x hx
          have hcx : wr.cell? ⟨g2, j, none⟩ = some (.int .i64 (x : Int)) := (hr2.cell j).trans hc2
          obtain ⟨kb, hkb⟩ : ∃ kb, keepP bo a b x = kb := ⟨_, rfl⟩
          have HFT := Lib.hid (show (l.take (j + 1)).filter (keepP bo a b) = if kb then (l.take j).filter (keepP bo a b) ++ [x] else (l.take j).filter (keepP bo a b) by
            rw [filter_take_succ hx, hkb])
          have HKB := Lib.hid hkb
          have HBO := Lib.hid hbo
          obtain ⟨wo, rfl⟩ : ∃ wo : World, wo = wr := ⟨_, rfl⟩
          clear hx hr2 hc2 hkb
          go_upto_region 11 with fail
          go_cut [69] (fun v wx => v = .bool kb ∧ wx = wo)
          case first =>
            have hkk := HKB.out
            have hbo := HBO.out
            cases ba
            · obtain rfl : false = bo := by rw [← hbo]; rfl
              go_wp2_with fail
              go_meet
              exact ⟨by rw [← hkk]; rfl, rfl⟩
            · cases bb
              · obtain rfl : false = bo := by rw [← hbo]; rfl
                go_wp2_with fail
                go_meet
                exact ⟨by rw [← hkk]; rfl, rfl⟩
              · obtain rfl : true = bo := by rw [← hbo]; rfl
                by_cases hxa : x = a
                · have hd2 : ((x : Int) == (a : Int)) = true := by rw [beq_iff_eq]; omega
                  have hd3 : ((x : Int) != (a : Int)) = false := by rw [bne, hd2]; rfl
                  go_wp2_with fail
                  go_meet
                  exact ⟨by rw [← hkk]; simp [keepP, hxa], rfl⟩
                · have hd2 : ((x : Int) == (a : Int)) = false := by rw [beq_eq_false_iff_ne]; omega
                  have hd3 : ((x : Int) != (a : Int)) = true := by rw [bne, hd2]; rfl
                  by_cases hxb : x = b
                  · have hd4 : ((x : Int) == (b : Int)) = true := by rw [beq_iff_eq]; omega
                    have hd5 : ((x : Int) != (b : Int)) = false := by rw [bne, hd4]; rfl
                    go_wp2_with fail
                    go_meet
                    exact ⟨by rw [← hkk]; simp [keepP, hxb], rfl⟩
                  · have hd4 : ((x : Int) == (b : Int)) = false := by rw [beq_eq_false_iff_ne]; omega
                    have hd5 : ((x : Int) != (b : Int)) = true := by rw [bne, hd4]; rfl
                    go_wp2_with fail
                    go_meet
                    exact ⟨by rw [← hkk]; simp [keepP, hxa, hxb], rfl⟩
          case rest =>
            obtain ⟨rfl, rfl⟩ := hcut
            cases kb
            · go_wp2_with fail
              go_roundw
              case rel => exact ⟨j + 1, L8, q8, k8, by omega, by go_num, rfl, Lib.hid (by rw [HFT.out]; exact HL8.out), by rw [HFT.out]; exact HO8.out, HB8.out⟩
              case measure => simp [intOf]; omega
            · have HOJ := Lib.hid (HO8.out.alloc (.cells #[.int .i64 (x : Int)] 3))
              go_wp2_with (refine wpList_app _ rfl (.tmp 70) (.tmp 78) 27 rfl w2'.heap.size 3 (.int .i64 0) 8 Tryd.underlying27 elem_ints rfl q8 L8 k8 _ rfl HOJ.out _ (some ⟨wc.heap.size, 0, none⟩) 1 1 [.int .i64 (x : Int)] rfl (Rd.one wc _ _) rfl (by intro u hu; simp only [List.mem_singleton] at hu; subst hu; rfl) (by unfold maxLen; omega) (by omega) (by rw [size1]; omega) ?_; intro a6 k6 w6 ho6 hg6; have HO6 := Lib.hid ho6; have HB6 := Lib.hid (below_grown2 (HB8.out.alloc hsz8 _) hg6 HOJ.out (by rw [size1]; omega) (Nat.le_refl _)); clear ho6 hg6)
              go_roundw
              case rel => exact ⟨j + 1, L8 + 1, a6, k6, by omega, by go_num, rfl, Lib.hid (by rw [HFT.out, if_pos rfl, List.length_append, HL8.out]; rfl), by rw [HFT.out, if_pos rfl, nts_snoc]; exact HO6.out, HB6.out⟩
              case measure => simp [intOf]; omega
        · have hdj : decide ((j : Int) < L) = false := decide_eq_false (by omega)
          have h9 := HO8.out
          have h8 := HL8.out
          rw [List.take_of_length_le (l := l) (by rw [HLL.out]; omega)] at h9 h8
          obtain ⟨F, hF⟩ : ∃ F, l.filter (keepP bo a b) = F := ⟨_, rfl⟩
          rw [hF] at h9 h8 HRP
          have HFO := Lib.hid h9
          have HFL := Lib.hid h8
          have HBO := Lib.hid hbo
          obtain ⟨wo, rfl⟩ : ∃ wo : World, wo = wr := ⟨_, rfl⟩
          clear h9 h8 hF
          go_upto_region 13 with fail
          go_cut [83] (fun v wx => v = .bool bo ∧ wx = wo)
          case first =>
            have hbo := HBO.out
            cases ba
            · obtain rfl : false = bo := by rw [← hbo]; rfl
              go_wp2_with fail
              go_meet
              exact ⟨rfl, rfl⟩
            · cases bb
              · obtain rfl : false = bo := by rw [← hbo]; rfl
                go_wp2_with fail
                go_meet
                exact ⟨rfl, rfl⟩
              · obtain rfl : true = bo := by rw [← hbo]; rfl
                go_wp2_with fail
                go_meet
                exact ⟨rfl, rfl⟩
          case rest =>
            obtain ⟨rfl, rfl⟩ := hcut
            have HBT := Lib.hid (fun (W : World) (h : Below w2'.heap.size w2' W) => (HB.out.trans (h.mono hsw) : Below w.heap.size w W))
            cases bo
            · have HVX := Lib.hid (show SetV wc (.slice q8 L8 k8) F from by
                have h9 := HFO.out
                rw [← HFL.out] at h9 ⊢
                exact SetV.of_own h9 (by rw [HFL.out]; omega))
              have HOW := Lib.hid ((HO.out.below HB8.out).alloc (.cells #[Value.slice q8 L8 k8] 27))
              have HFW := Lib.hid ((HF.out.keeps (Keeps.of_below HB8.out)).snoc HVX.out)
              have HBW := Lib.hid (HBT.out _ HB8.out)
              have hsW := HBW.out.size
              have HRP2 := Lib.hid (show repl a b r l = F from HRP.out)
              go_wp2_with (refine wpList_app _ rfl (.tmp 88) (.tmp 90) 24 rfl w.heap.size 27 (.slice none 0 0) 24 Tryd.underlying24 elem_rows rfl q t k vs rfl HOW.out _ (some ⟨wc.heap.size, 0, none⟩) 1 1 [.slice q8 L8 k8] rfl (Rd.one wc _ _) rfl (by intro u hu; simp only [List.mem_singleton] at hu; subst hu; rfl) (by unfold maxLen; omega) (by omega) (by rw [size1]; omega) ?_; intro a9 k9 w9 ho9 hg9; have HO9 := Lib.hid ho9; have HB9 := Lib.hid (below_grown2 (HBW.out.alloc hsW _) hg9 HOW.out (by rw [size1]; omega) (Nat.le_refl _)); have HF9 := Lib.hid (HFW.out.keeps (((Keeps.refl 3 wc).alloc _).grown HOW.out hg9 (by decide))); clear ho9 hg9)
              go_roundw
              case rel => exact ⟨t + 1, a9, k9, _, by omega, by go_num, rfl, HO9.out, by rw [HTK.out, HRP2.out]; exact HF9.out, HB9.out⟩
              case measure => simp [intOf]; omega
            · have HOJ := Lib.hid (HFO.out.alloc (.cells #[.int .i64 (r : Int)] 3))
              have HRP2 := Lib.hid (show repl a b r l = F ++ [r] from HRP.out)
              go_upto_region 15 with (refine wpList_app _ rfl (.tmp 84) (.tmp 86) 27 rfl w2'.heap.size 3 (.int .i64 0) 8 Tryd.underlying27 elem_ints rfl q8 L8 k8 _ rfl HOJ.out _ (some ⟨wc.heap.size, 0, none⟩) 1 1 [.int .i64 (r : Int)] rfl (Rd.one wc _ _) rfl (by intro u hu; simp only [List.mem_singleton] at hu; subst hu; rfl) (by unfold maxLen; omega) (by omega) (by rw [size1]; omega) ?_; intro a6 k6 w6 ho6 hg6; have HO6 := Lib.hid ho6; have HB6 := Lib.hid (below_grown2 (HB8.out.alloc hsz8 _) hg6 HOJ.out (by rw [size1]; omega) (Nat.le_refl _)); clear ho6 hg6)
              have HVX := Lib.hid (show SetV w6 (.slice a6 (L8 + 1) k6) (F ++ [r]) from by
                have h9 := HO6.out
                rw [← nts_snoc] at h9
                have e : (F ++ [r]).length = L8 + 1 := by rw [List.length_append, HFL.out]; rfl
                rw [← e] at h9 ⊢
                exact SetV.of_own h9 (by rw [e]; omega))
              have HOW := Lib.hid ((HO.out.below HB6.out).alloc (.cells #[Value.slice a6 (L8 + 1) k6] 27))
              have HFW := Lib.hid ((HF.out.keeps (Keeps.of_below HB6.out)).snoc HVX.out)
              have HBW := Lib.hid (HBT.out _ HB6.out)
              have hsW := HBW.out.size
              go_wp2_with (refine wpList_app _ rfl (.tmp 88) (.tmp 90) 24 rfl w.heap.size 27 (.slice none 0 0) 24 Tryd.underlying24 elem_rows rfl q t k vs rfl HOW.out _ (some ⟨w6.heap.size, 0, none⟩) 1 1 [.slice a6 (L8 + 1) k6] rfl (Rd.one w6 _ _) rfl (by intro u hu; simp only [List.mem_singleton] at hu; subst hu; rfl) (by unfold maxLen; omega) (by omega) (by rw [size1]; omega) ?_; intro a9 k9 w9 ho9 hg9; have HO9 := Lib.hid ho9; have HB9 := Lib.hid (below_grown2 (HBW.out.alloc hsW _) hg9 HOW.out (by rw [size1]; omega) (Nat.le_refl _)); have HF9 := Lib.hid (HFW.out.keeps (((Keeps.refl 3 w6).alloc _).grown HOW.out hg9 (by decide))); clear ho9 hg9)
              go_roundw
              case rel => exact ⟨t + 1, a9, k9, _, by omega, by go_num, rfl, HO9.out, by rw [HTK.out, HRP2.out]; exact HF9.out, HB9.out⟩
              case measure => simp [intOf]; omega
    · have hd : decide ((t : Int) < ns) = false := decide_eq_false (by omega)
      have htn : t = ns := by omega
      have h9 := HF.out
      rw [List.take_of_length_le (by rw [HLS.out]; omega)] at h9
      have HRT := Lib.hid (RowsR.of HO.out h9)
      rw [htn] at HRT
      have HTN := Lib.hid htn
      clear h9 htn
      go_wp2
      go_ret
      exact ⟨⟨q, k, by rw [HTN.out]; rfl, HRT.out⟩, HB.out⟩
end Go.Proofs.YtghinmlpkgcdiaaDoor
