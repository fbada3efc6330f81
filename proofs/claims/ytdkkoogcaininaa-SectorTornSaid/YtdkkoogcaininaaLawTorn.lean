/- SectorTorn: for every place, two generations and payloads, and every number the law returns true, and its arguments read as they did. No condition. -/
import Derived.Test.YtdkkoogcaininaaS18
import Derived.Test.YtdkkoogcaininaaOpenS
import Derived.ChangeMaps5
import Derived.Deep.RegionHeld3
namespace Go.Proofs.Ytdkkoogcaininaa
set_option linter.unusedSimpArgs false
set_option linter.unusedVariables false
open Go.ChangeShapes Go.WideShapes Go.ChangeAt Go.RowKit Go.Lib

theorem seal_gen (d a i e c : Int) (p : ByteArray) : ∃ (S : ByteArray) (f : Int), (∀ w : World, Calls Try.prog 10 #[.agg #[.int .i64 d, .int .i64 a, .int .i64 i], .agg #[.int .i64 e, .int .i64 c], .string p] w fun x w' => x = .returned (.tuple #[.string S, .int .i64 f]) ∧ Below w.heap.size w w') ∧
    (f = 0 ∧ okS d a i e c p = true ∧ S.data.toList = sealOf d.toNat a.toNat i.toNat e.toNat c.toNat p.data.toList ∧ S.size = 64 ∨ f = 1 ∧ okS d a i e c p = false) := by
  cases h : okS d a i e c p with
  | false => exact ⟨_, _, fun w => seal_no d a i e c p w h, .inr ⟨rfl, rfl⟩⟩
  | true => exact ⟨_, _, fun w => seal_yes d a i e c p w h, .inl ⟨rfl, rfl, strB_data _, (okS_size h).1⟩⟩
theorem zero_gen : fE (List.replicate 64 0) = 0 ∧ fC (List.replicate 64 0) = 0 := by decide +kernel
theorem open_gen2 (d a i : Int) (l : List UInt8) (hp : placeB d a i = true) : ∃ (ge gc : Int) (P : ByteArray) (er : Int), opV (opOf d a i l) = .tuple #[.agg #[.int .i64 ge, .int .i64 gc], .string P, .int .i64 er] ∧ (l.length = 64 → labOk l = false → er = 7) := by
  refine ⟨_, _, _, _, rfl, fun hl hk => ?_⟩
  have : labOf l = (0, 0, 0, 0, 0, 7) := by rw [labOf, if_neg (by rw [hl]; simp), hk]; rfl
  rw [opOf, if_neg (by rw [hp]; simp), this]
  rfl
set_option maxRecDepth 100000 in
set_option maxHeartbeats 6400000 in
theorem walk0_SectorTorn (d a i e c : Int) (p : ByteArray) (e2 c2 : Int) (q : ByteArray) (z : Bool) (k : Int) (w : World) :
    Calls Try.prog 8 #[.agg #[.int .i64 d, .int .i64 a, .int .i64 i], .agg #[.int .i64 e, .int .i64 c], .string p, .agg #[.int .i64 e2, .int .i64 c2], .string q, .bool z, .int .i64 k] w fun x w' => x = .returned (.bool true) ∧ Below w.heap.size w w' := by
  obtain ⟨S, f1, hS, hS2⟩ := seal_gen d a i e c p
  obtain ⟨T, f2, hT, hT2⟩ := seal_gen d a i e2 c2 q
  have HS := Lib.hid hS
  have HT := Lib.hid hT
  have HS2 := Lib.hid hS2
  have HT2 := Lib.hid hT2
  clear hS hT hS2 hT2
  have hmk1 : ∀ u : World, (Instr.makeSlice 40 (.int .i64 64) (.int .i64 64)).run Try.prog u = .ok (.slice (some ⟨u.heap.size, 0, none⟩) 64 64) (u.alloc (.cells (madeCells #[.int .u8 0] 64) 5)) := fun u => make_bytes 64 (by decide) u
  have hcv1 := fun u => conv_made 64 (by decide) u
  obtain ⟨ZS, hZS⟩ : ∃ ZS, strB (List.replicate 64 0) = ZS := ⟨_, rfl⟩
  have HZ := Lib.hid (show ZS.data.toList = List.replicate 64 0 by rw [← hZS, strB_data])
  have hzs : ZS.size = 64 := by rw [← len_data, HZ.out]; simp
  rw [hZS] at hcv1
  clear hZS
  go_enter Try.func8, Try.ntmps8
  go_wp2_with fail
  refine (HS.out _).mono ?_
  rintro x w1 ⟨rfl, hb⟩
  have HP := Lib.hid (show Row w1 w.heap.size 23 #[.int .i64 d, .int .i64 a, .int .i64 i] from (((Row.new w _ _).alloc _).alloc _).below hb (by first | (simp; done) | (simp; omega)))
  have HG := Lib.hid (show Row w1 (w.heap.size + 1) 25 #[.int .i64 e, .int .i64 c] from ((Row.made _ _ (by simp)).alloc _).below hb (by first | (simp; done) | (simp; omega)))
  have HA := Lib.hid (show Row w1 (w.heap.size + 1 + 1) 25 #[.int .i64 e2, .int .i64 c2] from (Row.made _ _ (by simp)).below hb (by first | (simp; done) | (simp; omega)))
  have HB := Lib.hid (below_call ((((Below.refl w.heap.size w).alloc (Nat.le_refl _) _).alloc (by simp) _).alloc (by simp; omega) _) hb)
  clear hb
  obtain ⟨p0, p1, p2⟩ := row3 HP.out
  obtain ⟨a0, a1⟩ := row2 HA.out
  have hl1 : w.heap.size < w1.heap.size := HP.out.lt
  go_wp2_with fail
  refine (HT.out _).mono ?_
  rintro x w2 ⟨rfl, hb⟩
  have HP := Lib.hid (HP.out.below hb HP.out.lt)
  have HG := Lib.hid (HG.out.below hb HG.out.lt)
  have HA := Lib.hid (HA.out.below hb HA.out.lt)
  have HB := Lib.hid (below_call HB.out hb)
  clear hb p0 p1 p2 a0 a1 hl1
  obtain ⟨p0, p1, p2⟩ := row3 HP.out
  obtain ⟨a0, a1⟩ := row2 HA.out
  obtain ⟨g0, g1⟩ := row2 HG.out
  have hl1 : w.heap.size < w2.heap.size := HP.out.lt
  have hl2 : w.heap.size + 1 < w2.heap.size := HG.out.lt
  have hl3 : w.heap.size + 1 + 1 < w2.heap.size := HA.out.lt
  rcases HS2.out with ⟨rfl, hok1, hs1, hs2⟩ | ⟨rfl, hok1⟩
  · have HOK := Lib.hid hok1
    have HSD := Lib.hid hs1
    have hpl : placeB d a i = true := by simp only [okS, Bool.and_eq_true] at hok1; exact hok1.1.1
    clear hok1 hs1
    by_cases hk0 : k < 0
    · cases z with
      | false =>
        rcases HT2.out with ⟨rfl, hok2, ht1, ht2⟩ | ⟨rfl, hok2⟩
        · by_cases hgg : e = e2 ∧ c = c2
          · obtain ⟨rfl, rfl⟩ := hgg
            go_wp2_with fail
            all_goals
              refine (sanity_any _).mono ?_
              rintro x w5 ⟨rfl, hb⟩
              first
                | have HF := Lib.hid (below_call HB.out hb)
                | have HF := Lib.hid (below_call (HB.out.alloc HB.out.size _) hb)
              clear hb p0 p1 p2 a0 a1 g0 g1
              go_wp2_with fail
              go_ret
              exact ⟨rfl, HF.out⟩
          ·
            go_wp2_with fail
            all_goals
              refine (sanity_any _).mono ?_
              rintro x w5 ⟨rfl, hb⟩
              first
                | have HF := Lib.hid (below_call HB.out hb)
                | have HF := Lib.hid (below_call (HB.out.alloc HB.out.size _) hb)
              clear hb p0 p1 p2 a0 a1 g0 g1
              go_wp2_with fail
              go_ret
              exact ⟨rfl, HF.out⟩
        ·
          go_wp2_with fail
          all_goals
            refine (sanity_any _).mono ?_
            rintro x w5 ⟨rfl, hb⟩
            first
              | have HF := Lib.hid (below_call HB.out hb)
              | have HF := Lib.hid (below_call (HB.out.alloc HB.out.size _) hb)
            clear hb p0 p1 p2 a0 a1 g0 g1
            go_wp2_with fail
            go_ret
            exact ⟨rfl, HF.out⟩
      | true =>
        go_wp2_with fail
        all_goals
          refine (sanity_any _).mono ?_
          rintro x w5 ⟨rfl, hb⟩
          first
            | have HF := Lib.hid (below_call HB.out hb)
            | have HF := Lib.hid (below_call (HB.out.alloc HB.out.size _) hb)
          clear hb p0 p1 p2 a0 a1 g0 g1
          go_wp2_with fail
          go_ret
          exact ⟨rfl, HF.out⟩
    · by_cases hk1 : 64 < k
      · cases z with
        | false =>
          rcases HT2.out with ⟨rfl, hok2, ht1, ht2⟩ | ⟨rfl, hok2⟩
          · by_cases hgg : e = e2 ∧ c = c2
            · obtain ⟨rfl, rfl⟩ := hgg
              go_wp2_with fail
              all_goals
                refine (sanity_any _).mono ?_
                rintro x w5 ⟨rfl, hb⟩
                first
                  | have HF := Lib.hid (below_call HB.out hb)
                  | have HF := Lib.hid (below_call (HB.out.alloc HB.out.size _) hb)
                clear hb p0 p1 p2 a0 a1 g0 g1
                go_wp2_with fail
                go_ret
                exact ⟨rfl, HF.out⟩
            ·
              go_wp2_with fail
              all_goals
                refine (sanity_any _).mono ?_
                rintro x w5 ⟨rfl, hb⟩
                first
                  | have HF := Lib.hid (below_call HB.out hb)
                  | have HF := Lib.hid (below_call (HB.out.alloc HB.out.size _) hb)
                clear hb p0 p1 p2 a0 a1 g0 g1
                go_wp2_with fail
                go_ret
                exact ⟨rfl, HF.out⟩
          ·
            go_wp2_with fail
            all_goals
              refine (sanity_any _).mono ?_
              rintro x w5 ⟨rfl, hb⟩
              first
                | have HF := Lib.hid (below_call HB.out hb)
                | have HF := Lib.hid (below_call (HB.out.alloc HB.out.size _) hb)
              clear hb p0 p1 p2 a0 a1 g0 g1
              go_wp2_with fail
              go_ret
              exact ⟨rfl, HF.out⟩
        | true =>
          go_wp2_with fail
          all_goals
            refine (sanity_any _).mono ?_
            rintro x w5 ⟨rfl, hb⟩
            first
              | have HF := Lib.hid (below_call HB.out hb)
              | have HF := Lib.hid (below_call (HB.out.alloc HB.out.size _) hb)
            clear hb p0 p1 p2 a0 a1 g0 g1
            go_wp2_with fail
            go_ret
            exact ⟨rfl, HF.out⟩
      · obtain ⟨n, rfl⟩ : ∃ n : Nat, k = n := ⟨k.toNat, by omega⟩
        have hn64 : n ≤ 64 := by omega
        cases z with
        | false =>
          rcases HT2.out with ⟨rfl, hok2, ht1, ht2⟩ | ⟨rfl, hok2⟩
          · have HOK2 := Lib.hid hok2
            have HTD := Lib.hid ht1
            by_cases hgg : e = e2 ∧ c = c2
            · obtain ⟨rfl, rfl⟩ := hgg
              clear hok2 ht1
              go_wp2_with fail
              all_goals
                refine (sanity_any _).mono ?_
                rintro x w5 ⟨rfl, hb⟩
                first
                  | have HF := Lib.hid (below_call HB.out hb)
                  | have HF := Lib.hid (below_call (HB.out.alloc HB.out.size _) hb)
                clear hb p0 p1 p2 a0 a1 g0 g1
                go_wp2_with fail
                go_ret
                exact ⟨rfl, HF.out⟩
            · clear hok2 ht1
              obtain ⟨M, hM⟩ : ∃ M, S.extract 0 n ++ T.extract n 64 = M := ⟨_, rfl⟩
              have hx1 : (S.extract 0 n).size = n := by rw [ByteArray.size_extract]; omega
              have hx2 : (T.extract n 64).size = 64 - n := by rw [ByteArray.size_extract]; omega
              have HMD := Lib.hid (show M.data.toList = S.data.toList.take n ++ T.data.toList.drop n by
                rw [← hM, ByteArray.data_append, Array.toList_append, extract_list, extract_list, List.drop_zero, Nat.sub_zero, List.take_of_length_le (l := T.data.toList.drop n) (by rw [List.length_drop, len_data]; omega)])
              have hml : M.data.toList.length = 64 := by rw [HMD.out, List.length_append, List.length_take, List.length_drop, len_data, len_data]; omega
              have hlaw := torn_law S.data.toList T.data.toList n (by rw [len_data]; exact hs2) (by rw [len_data]; exact ht2) hn64 (by rw [HSD.out]; exact (seal_whole HOK.out).2.1) (by rw [HTD.out]; exact (seal_whole HOK2.out).2.1) (by rw [HSD.out, HTD.out, (seal_whole HOK.out).2.2.2.1, (seal_whole HOK.out).2.2.2.2, (seal_whole HOK2.out).2.2.2.1, (seal_whole HOK2.out).2.2.2.2]; have := (okS_parts HOK.out).1; have := (okS_parts HOK2.out).1; omega) (.inl ⟨fun j h1 h2 => by rw [HSD.out, HTD.out]; exact seal_same _ _ _ _ _ _ _ _ _ j h1 h2, by rw [HTD.out]; exact (seal_whole HOK2.out).2.2.1⟩)
              rw [← HMD.out] at hlaw
              obtain ⟨ge, gc, PP, er, hop, her⟩ := open_gen2 d a i M.data.toList hpl
              have HOP := Lib.hid hop
              obtain ⟨BS, hBS⟩ : ∃ b, (M.toList == S.toList) = b := ⟨_, rfl⟩
              obtain ⟨BT, hBT⟩ : ∃ b, (M.toList == T.toList) = b := ⟨_, rfl⟩
              have HFIN := Lib.hid (show BS = true ∨ BT = true ∨ er = 7 by
                rcases hlaw with h | h | h
                · exact .inl (by rw [← hBS, str_beq, h]; simp)
                · exact .inr (.inl (by rw [← hBT, str_beq, h]; simp))
                · exact .inr (.inr (her hml h)))
              clear hop her hlaw hml
              go_wp2_with fail
              all_goals
                refine wp_region_held_drew (S := fun w' => True) (by kernel_rfl) trivial (fun hHeld => ?_)
                refine wpAnyH_take (i := 0) (v := ?_) rfl (by kernel_rfl) (by kernel_rfl) (by kernel_rfl) (fun _ _ _ h => h) (Or.inl ⟨by kernel_rfl, by intro w hSw; (try dsimp only at hSw); go_simp; first | done | with_reducible rfl⟩) (by assumption) ?_
                try simp only [Act.put, List.getElem_toArray, List.getElem_cons_zero, List.getElem_cons_succ, List.setIfInBounds_toArray, List.set_cons_zero, List.set_cons_succ]
                refine wpAnyH_take (i := 1) (v := ?_) rfl (by kernel_rfl) (by kernel_rfl) (by kernel_rfl) (fun _ _ _ h => h) (Or.inl ⟨by kernel_rfl, by intro w hSw; (try dsimp only at hSw); go_simp; first | done | with_reducible rfl⟩) (by assumption) ?_
                try simp only [Act.put, List.getElem_toArray, List.getElem_cons_zero, List.getElem_cons_succ, List.setIfInBounds_toArray, List.set_cons_zero, List.set_cons_succ]
                refine wpAnyH_take (i := 2) (v := ?_) rfl (by kernel_rfl) (by kernel_rfl) (by kernel_rfl) (fun _ _ _ h => h) (Or.inl ⟨by kernel_rfl, by intro w hSw; (try dsimp only at hSw); go_simp; first | done | with_reducible rfl⟩) (by assumption) ?_
                try simp only [Act.put, List.getElem_toArray, List.getElem_cons_zero, List.getElem_cons_succ, List.setIfInBounds_toArray, List.set_cons_zero, List.set_cons_succ]
                refine wpAnyH_take (i := 3) (v := ?_) rfl (by kernel_rfl) (by kernel_rfl) (by kernel_rfl) (fun _ _ _ h => h) (Or.inl ⟨by kernel_rfl, by intro w hSw; (try dsimp only at hSw); go_simp; first | done | with_reducible rfl⟩) (by assumption) ?_
                try simp only [Act.put, List.getElem_toArray, List.getElem_cons_zero, List.getElem_cons_succ, List.setIfInBounds_toArray, List.set_cons_zero, List.set_cons_succ]
                refine wpAnyH_take (i := 4) (v := ?_) rfl (by kernel_rfl) (by kernel_rfl) (by kernel_rfl) (fun _ _ _ h => h) (Or.inl ⟨by kernel_rfl, by intro w hSw; (try dsimp only at hSw); go_simp; first | done | with_reducible rfl⟩) (by assumption) ?_
                try simp only [Act.put, List.getElem_toArray, List.getElem_cons_zero, List.getElem_cons_succ, List.setIfInBounds_toArray, List.set_cons_zero, List.set_cons_succ]
                refine wpAnyH_take (i := 5) (v := ?_) rfl (by kernel_rfl) (by kernel_rfl) (by kernel_rfl) (fun _ _ _ h => h) (Or.inl ⟨by kernel_rfl, by intro w hSw; (try dsimp only at hSw); go_simp; first | done | with_reducible rfl⟩) (by assumption) ?_
                try simp only [Act.put, List.getElem_toArray, List.getElem_cons_zero, List.getElem_cons_succ, List.setIfInBounds_toArray, List.set_cons_zero, List.set_cons_succ]
                refine wpAnyH_take (i := 6) (v := ?_) rfl (by kernel_rfl) (by kernel_rfl) (by kernel_rfl) (fun _ _ _ h => h) (Or.inl ⟨by kernel_rfl, by intro w hSw; (try dsimp only at hSw); go_simp; first | done | with_reducible rfl⟩) (by assumption) ?_
                try simp only [Act.put, List.getElem_toArray, List.getElem_cons_zero, List.getElem_cons_succ, List.setIfInBounds_toArray, List.set_cons_zero, List.set_cons_succ]
                refine wpAnyH_take (i := 7) (v := ?_) rfl (by kernel_rfl) (by kernel_rfl) (by kernel_rfl) (fun _ _ _ h => h) (Or.inl ⟨by kernel_rfl, by intro w hSw; (try dsimp only at hSw); go_simp; first | done | with_reducible rfl⟩) (by assumption) ?_
                try simp only [Act.put, List.getElem_toArray, List.getElem_cons_zero, List.getElem_cons_succ, List.setIfInBounds_toArray, List.set_cons_zero, List.set_cons_succ]
                refine wpAnyH_done (by kernel_rfl) ?_ _
                go_wp2_with fail
                refine (sopen_any d a i M _).mono ?_
                rintro x w5 ⟨rfl, hb⟩
                rw [HOP.out]
                first
                  | have HF := Lib.hid (below_call (below_drewN HB.out 1) hb)
                  | have HF := Lib.hid (below_call (below_drewN (HB.out.alloc HB.out.size _) 1) hb)
                clear hb p0 p1 p2 a0 a1 g0 g1
                go_wp2_with fail
                refine (sanity_any _).mono ?_
                rintro x w6 ⟨rfl, hb⟩
                have HF2 := Lib.hid (below_call (HF.out.alloc HF.out.size _) hb)
                clear hb
                rcases HFIN.out with h | h | h
                all_goals subst h
                all_goals (try cases BS)
                all_goals (try cases BT)
                all_goals
                  go_wp2_with fail
                  all_goals go_ret
                  all_goals exact ⟨by simp, HF2.out⟩
          ·
            go_wp2_with fail
            all_goals
              refine (sanity_any _).mono ?_
              rintro x w5 ⟨rfl, hb⟩
              first
                | have HF := Lib.hid (below_call HB.out hb)
                | have HF := Lib.hid (below_call (HB.out.alloc HB.out.size _) hb)
              clear hb p0 p1 p2 a0 a1 g0 g1
              go_wp2_with fail
              go_ret
              exact ⟨rfl, HF.out⟩
        | true =>
          obtain ⟨M, hM⟩ : ∃ M, S.extract 0 n ++ ZS.extract n 64 = M := ⟨_, rfl⟩
          have hx1 : (S.extract 0 n).size = n := by rw [ByteArray.size_extract]; omega
          have hx2 : (ZS.extract n 64).size = 64 - n := by rw [ByteArray.size_extract]; omega
          have HMD := Lib.hid (show M.data.toList = S.data.toList.take n ++ ZS.data.toList.drop n by
            rw [← hM, ByteArray.data_append, Array.toList_append, extract_list, extract_list, List.drop_zero, Nat.sub_zero, List.take_of_length_le (l := ZS.data.toList.drop n) (by rw [List.length_drop, len_data]; omega)])
          have hml : M.data.toList.length = 64 := by rw [HMD.out, List.length_append, List.length_take, List.length_drop, len_data, len_data]; omega
          have hlaw := torn_law S.data.toList ZS.data.toList n (by rw [len_data]; exact hs2) (by rw [len_data]; exact hzs) hn64 (by rw [HSD.out]; exact (seal_whole HOK.out).2.1) (by rw [HZ.out]; decide +kernel) (by rw [HSD.out, HZ.out, (seal_whole HOK.out).2.2.2.1, (seal_whole HOK.out).2.2.2.2, zero_gen.1, zero_gen.2]; intro hcc; have hg := (okS_parts HOK.out).2.2.1; rw [hcc.1, hcc.2] at hg; exact absurd hg (by decide)) (.inr (by rw [HZ.out, zero_gen.1, zero_gen.2]; decide))
          rw [← HMD.out] at hlaw
          obtain ⟨ge, gc, PP, er, hop, her⟩ := open_gen2 d a i M.data.toList hpl
          have HOP := Lib.hid hop
          obtain ⟨BS, hBS⟩ : ∃ b, (M.toList == S.toList) = b := ⟨_, rfl⟩
          obtain ⟨BT, hBT⟩ : ∃ b, (M.toList == ZS.toList) = b := ⟨_, rfl⟩
          have HFIN := Lib.hid (show BS = true ∨ BT = true ∨ er = 7 by
            rcases hlaw with h | h | h
            · exact .inl (by rw [← hBS, str_beq, h]; simp)
            · exact .inr (.inl (by rw [← hBT, str_beq, h]; simp))
            · exact .inr (.inr (her hml h)))
          clear hop her hlaw hml
          go_wp2_with fail
          all_goals
            refine wp_region_held_drew (S := fun w' => True) (by kernel_rfl) trivial (fun hHeld => ?_)
            refine wpAnyH_take (i := 0) (v := ?_) rfl (by kernel_rfl) (by kernel_rfl) (by kernel_rfl) (fun _ _ _ h => h) (Or.inl ⟨by kernel_rfl, by intro w hSw; (try dsimp only at hSw); go_simp; first | done | with_reducible rfl⟩) (by assumption) ?_
            try simp only [Act.put, List.getElem_toArray, List.getElem_cons_zero, List.getElem_cons_succ, List.setIfInBounds_toArray, List.set_cons_zero, List.set_cons_succ]
            refine wpAnyH_take (i := 1) (v := ?_) rfl (by kernel_rfl) (by kernel_rfl) (by kernel_rfl) (fun _ _ _ h => h) (Or.inl ⟨by kernel_rfl, by intro w hSw; (try dsimp only at hSw); go_simp; first | done | with_reducible rfl⟩) (by assumption) ?_
            try simp only [Act.put, List.getElem_toArray, List.getElem_cons_zero, List.getElem_cons_succ, List.setIfInBounds_toArray, List.set_cons_zero, List.set_cons_succ]
            refine wpAnyH_take (i := 2) (v := ?_) rfl (by kernel_rfl) (by kernel_rfl) (by kernel_rfl) (fun _ _ _ h => h) (Or.inl ⟨by kernel_rfl, by intro w hSw; (try dsimp only at hSw); go_simp; first | done | with_reducible rfl⟩) (by assumption) ?_
            try simp only [Act.put, List.getElem_toArray, List.getElem_cons_zero, List.getElem_cons_succ, List.setIfInBounds_toArray, List.set_cons_zero, List.set_cons_succ]
            refine wpAnyH_take (i := 3) (v := ?_) rfl (by kernel_rfl) (by kernel_rfl) (by kernel_rfl) (fun _ _ _ h => h) (Or.inl ⟨by kernel_rfl, by intro w hSw; (try dsimp only at hSw); go_simp; first | done | with_reducible rfl⟩) (by assumption) ?_
            try simp only [Act.put, List.getElem_toArray, List.getElem_cons_zero, List.getElem_cons_succ, List.setIfInBounds_toArray, List.set_cons_zero, List.set_cons_succ]
            refine wpAnyH_take (i := 4) (v := ?_) rfl (by kernel_rfl) (by kernel_rfl) (by kernel_rfl) (fun _ _ _ h => h) (Or.inl ⟨by kernel_rfl, by intro w hSw; (try dsimp only at hSw); go_simp; first | done | with_reducible rfl⟩) (by assumption) ?_
            try simp only [Act.put, List.getElem_toArray, List.getElem_cons_zero, List.getElem_cons_succ, List.setIfInBounds_toArray, List.set_cons_zero, List.set_cons_succ]
            refine wpAnyH_take (i := 5) (v := ?_) rfl (by kernel_rfl) (by kernel_rfl) (by kernel_rfl) (fun _ _ _ h => h) (Or.inl ⟨by kernel_rfl, by intro w hSw; (try dsimp only at hSw); go_simp; first | done | with_reducible rfl⟩) (by assumption) ?_
            try simp only [Act.put, List.getElem_toArray, List.getElem_cons_zero, List.getElem_cons_succ, List.setIfInBounds_toArray, List.set_cons_zero, List.set_cons_succ]
            refine wpAnyH_take (i := 6) (v := ?_) rfl (by kernel_rfl) (by kernel_rfl) (by kernel_rfl) (fun _ _ _ h => h) (Or.inl ⟨by kernel_rfl, by intro w hSw; (try dsimp only at hSw); go_simp; first | done | with_reducible rfl⟩) (by assumption) ?_
            try simp only [Act.put, List.getElem_toArray, List.getElem_cons_zero, List.getElem_cons_succ, List.setIfInBounds_toArray, List.set_cons_zero, List.set_cons_succ]
            refine wpAnyH_take (i := 7) (v := ?_) rfl (by kernel_rfl) (by kernel_rfl) (by kernel_rfl) (fun _ _ _ h => h) (Or.inl ⟨by kernel_rfl, by intro w hSw; (try dsimp only at hSw); go_simp; first | done | with_reducible rfl⟩) (by assumption) ?_
            try simp only [Act.put, List.getElem_toArray, List.getElem_cons_zero, List.getElem_cons_succ, List.setIfInBounds_toArray, List.set_cons_zero, List.set_cons_succ]
            refine wpAnyH_done (by kernel_rfl) ?_ _
            go_wp2_with fail
            refine (sopen_any d a i M _).mono ?_
            rintro x w5 ⟨rfl, hb⟩
            rw [HOP.out]
            first
              | have HF := Lib.hid (below_call (below_drewN HB.out 1) hb)
              | have HF := Lib.hid (below_call (below_drewN (HB.out.alloc HB.out.size _) 1) hb)
            clear hb p0 p1 p2 a0 a1 g0 g1
            go_wp2_with fail
            refine (sanity_any _).mono ?_
            rintro x w6 ⟨rfl, hb⟩
            have HF2 := Lib.hid (below_call (HF.out.alloc HF.out.size _) hb)
            clear hb
            rcases HFIN.out with h | h | h
            all_goals subst h
            all_goals (try cases BS)
            all_goals (try cases BT)
            all_goals
              go_wp2_with fail
              all_goals go_ret
              all_goals exact ⟨by simp, HF2.out⟩
  · cases z with
    | false =>
      go_wp2_with fail
      all_goals
        refine (sanity_any _).mono ?_
        rintro x w5 ⟨rfl, hb⟩
        first
          | have HF := Lib.hid (below_call HB.out hb)
          | have HF := Lib.hid (below_call (HB.out.alloc HB.out.size _) hb)
        clear hb p0 p1 p2 a0 a1 g0 g1
        go_wp2_with fail
        go_ret
        exact ⟨rfl, HF.out⟩
    | true =>
      go_wp2_with fail
      all_goals
        refine (sanity_any _).mono ?_
        rintro x w5 ⟨rfl, hb⟩
        first
          | have HF := Lib.hid (below_call HB.out hb)
          | have HF := Lib.hid (below_call (HB.out.alloc HB.out.size _) hb)
        clear hb p0 p1 p2 a0 a1 g0 g1
        go_wp2_with fail
        go_ret
        exact ⟨rfl, HF.out⟩
theorem walk_SectorTorn (d a i e c : Int) (p : ByteArray) (e2 c2 : Int) (q : ByteArray) (z : Bool) (k : Int) (w : World) {A B : Prop} (hw1 : A) (hw2 : B) (hk1 : -9223372036854775808 ≤ k) (hk2 : k ≤ 9223372036854775807) :
    Calls Try.prog 8 #[.agg #[.int .i64 d, .int .i64 a, .int .i64 i], .agg #[.int .i64 e, .int .i64 c], .string p, .agg #[.int .i64 e2, .int .i64 c2], .string q, .bool z, .int .i64 k] w fun x w' => x = .returned (.bool true) ∧ Below w.heap.size w w' := walk0_SectorTorn d a i e c p e2 c2 q z k w

/-! ### the frame: the arguments opened and shut -/
theorem contract_SectorTorn (H : Type) (enc : TypeId × Value → H) (W : World) (base : Nat) (args : Array Value) (ds gs : List (DataW H)) (before : List MemPlace)
    (hval0 : ∀ (j : Nat) t v, Try.f8.params[j]? = some t → args[j]? = some v → Value.okWide Try.prog W .any base t v)
    (hW : DataW.Whole enc Try.prog Try.f8.params.toList Rows.sectorTornSpec.vars false W args.toList ds gs before) :
    Calls Try.prog 8 args W fun e W' => ∃ v, e = .returned v ∧ Rows.sectorTornSpec.post enc Try.prog Try.f8 false true false false W args v W' := by
  have hval : ∀ (j : Nat) t v, Try.f8.params[j]? = some t → args[j]? = some v → Value.okWide Try.prog W .any base t v := hval0
  have hW' := hW
  obtain ⟨p, q, hA0, hV, rfl, hfz, hnd⟩ := hW
  have hA : DataW.TrodAll enc Try.prog W 0 (fun _ => true) true Try.f8.params.toList args.toList ds p := hA0
  rw [Try.params8] at hA hval
  obtain ⟨v0, vs0, d0, ds0, p0, q0, hargs, rfl, rfl, h0, r0⟩ := trodAll_cons hA
  obtain ⟨v1, vs1, d1, ds1, p1, q1, rfl, rfl, rfl, h1, r1⟩ := trodAll_cons r0
  obtain ⟨v2, vs2, d2, ds2, p2, q2, rfl, rfl, rfl, h2, r2⟩ := trodAll_cons r1
  obtain ⟨v3, vs3, d3, ds3, p3, q3, rfl, rfl, rfl, h3, r3⟩ := trodAll_cons r2
  obtain ⟨v4, vs4, d4, ds4, p4, q4, rfl, rfl, rfl, h4, r4⟩ := trodAll_cons r3
  obtain ⟨v5, vs5, d5, ds5, p5, q5, rfl, rfl, rfl, h5, r5⟩ := trodAll_cons r4
  obtain ⟨v6, vs6, d6, ds6, p6, q6, rfl, rfl, rfl, h6, r6⟩ := trodAll_cons r5
  obtain ⟨rfl, rfl, rfl⟩ := trodAll_nil r6
  obtain rfl : args = #[v0, v1, v2, v3, v4, v5, v6] := by cases args; simp_all
  obtain ⟨rfl, rfl⟩ := trodVars_none hV
  have k0 := h0
  have lt0 : ∀ x ∈ p0, x.block < W.heap.size := by obtain ⟨m, hm⟩ := k0; exact DataW.trod_lt m _ _ _ hm
  have k1 := h1
  have lt1 : ∀ x ∈ p1, x.block < W.heap.size := by obtain ⟨m, hm⟩ := k1; exact DataW.trod_lt m _ _ _ hm
  have k2 := h2
  have lt2 : ∀ x ∈ p2, x.block < W.heap.size := by obtain ⟨m, hm⟩ := k2; exact DataW.trod_lt m _ _ _ hm
  have k3 := h3
  have lt3 : ∀ x ∈ p3, x.block < W.heap.size := by obtain ⟨m, hm⟩ := k3; exact DataW.trod_lt m _ _ _ hm
  have k4 := h4
  have lt4 : ∀ x ∈ p4, x.block < W.heap.size := by obtain ⟨m, hm⟩ := k4; exact DataW.trod_lt m _ _ _ hm
  have k5 := h5
  have lt5 : ∀ x ∈ p5, x.block < W.heap.size := by obtain ⟨m, hm⟩ := k5; exact DataW.trod_lt m _ _ _ hm
  have k6 := h6
  have lt6 : ∀ x ∈ p6, x.block < W.heap.size := by obtain ⟨m, hm⟩ := k6; exact DataW.trod_lt m _ _ _ hm
  obtain ⟨cs0, rfl, _⟩ := okWide_struct Try.underlying23 (hval 0 23 v0 rfl rfl)
  obtain ⟨fuel0, hf0⟩ := h0
  obtain ⟨d0x, a0x, j0x, hcs0, hd0x, ha0x, hj0x⟩ := open_place hf0
  obtain rfl : cs0 = #[.int .i64 d0x, .int .i64 a0x, .int .i64 j0x] := by apply Array.toList_inj.1; simpa [Value.cells] using hcs0
  obtain ⟨cs1, rfl, _⟩ := okWide_struct Try.underlying25 (hval 1 25 v1 rfl rfl)
  obtain ⟨fuel1, hf1⟩ := h1
  obtain ⟨e1x, c1x, hcs1, he1x, hc1x⟩ := open_gen hf1
  obtain rfl : cs1 = #[.int .i64 e1x, .int .i64 c1x] := by apply Array.toList_inj.1; simpa [Value.cells] using hcs1
  obtain ⟨n2, rfl, rfl, rfl, w2⟩ := _root_.Go.ChangeMaps.open_string Try.underlying9 (hval 2 9 v2 rfl rfl) h2
  obtain ⟨cs3, rfl, _⟩ := okWide_struct Try.underlying25 (hval 3 25 v3 rfl rfl)
  obtain ⟨fuel3, hf3⟩ := h3
  obtain ⟨e3x, c3x, hcs3, he3x, hc3x⟩ := open_gen hf3
  obtain rfl : cs3 = #[.int .i64 e3x, .int .i64 c3x] := by apply Array.toList_inj.1; simpa [Value.cells] using hcs3
  obtain ⟨n4, rfl, rfl, rfl, w4⟩ := _root_.Go.ChangeMaps.open_string Try.underlying9 (hval 4 9 v4 rfl rfl) h4
  obtain ⟨n5, rfl, rfl, rfl⟩ := open_bool Try.underlying4 (hval 5 4 v5 rfl rfl) h5
  obtain ⟨n6, rfl, rfl, rfl, w6⟩ := open_int Try.underlying3 (hval 6 3 v6 rfl rfl) h6
  refine (walk_SectorTorn d0x a0x j0x e1x c1x n2 e3x c3x n4 n5 n6 W w2 w4 (wf_i64 w6).1 (wf_i64 w6).2).mono fun e W' ⟨he, bel⟩ => ?_
  subst he
  exact ⟨_, rfl, _, _, _, [], _, [], hW', trodAll_mk1 (shut_bool Try.underlying4 _), (trodAll_cons_mk (Below.trod laidOut (by kernel_rfl) (of_decide_eq_true (by kernel_rfl)) k0 bel lt0) (trodAll_cons_mk (Below.trod laidOut (by kernel_rfl) (of_decide_eq_true (by kernel_rfl)) k1 bel lt1) (trodAll_cons_mk (Below.trod laidOut (by kernel_rfl) (of_decide_eq_true (by kernel_rfl)) k2 bel lt2) (trodAll_cons_mk (Below.trod laidOut (by kernel_rfl) (of_decide_eq_true (by kernel_rfl)) k3 bel lt3) (trodAll_cons_mk (Below.trod laidOut (by kernel_rfl) (of_decide_eq_true (by kernel_rfl)) k4 bel lt4) (trodAll_cons_mk (Below.trod laidOut (by kernel_rfl) (of_decide_eq_true (by kernel_rfl)) k5 bel lt5) (trodAll_cons_mk (Below.trod laidOut (by kernel_rfl) (of_decide_eq_true (by kernel_rfl)) k6 bel lt6) trodAll_mk0))))))), rfl, bel.frame _, fun h => by cases h⟩

set_option maxRecDepth 100000 in
theorem lifted_SectorTorn (os : Os) (started : os.Started) (H : Type) (enc : TypeId × Value → H) :
    ReturnsInHanded {} Try.checked os 8 .any (Rows.sectorTornSpec.pre6 enc Try.prog Try.f8 Rows.sectorTornRow.domain false) (Rows.sectorTornSpec.post enc Try.prog Try.f8 false true false false) := by
  refine returnsInHanded_of_change (C := Try.checked) own started (by kernel_rfl) Try.func8
    (ChangeSpec.witness6 (enc := enc) (C := Try.checked) false ⟨#[], #[.agg #[.int .i64 0, .int .i64 0, .int .i64 0], .agg #[.int .i64 0, .int .i64 0], .string .empty, .agg #[.int .i64 0, .int .i64 0], .string .empty, .bool false, .int .i64 0], []⟩ 8 (by kernel_rfl) (by kernel_rfl) (by kernel_rfl) (by kernel_rfl)) ?_
  intro W base args ds gs before hval hW _ _
  exact contract_SectorTorn H enc W base args ds gs before hval hW

theorem proved_SectorTorn : Rows.SectorTornSaid :=
  OpenClaim.holds_of_wide 8 Try.f8 rfl rfl rfl rfl rfl rfl rfl ⟨rfl, rfl, rfl, rfl, rfl⟩ rfl rfl rfl rfl rfl (by kernel_rfl) Try.func8 (by kernel_rfl)
    (of_decide_eq_true (by kernel_rfl)) (by unfold Func.isWrapper; first | (rw [if_pos (by decide +kernel)]; kernel_rfl) | (rw [if_neg (by decide +kernel)]; exact ⟨rfl, rfl⟩))
    (fun os started H enc _ => lifted_SectorTorn os started H enc)
end Go.Proofs.Ytdkkoogcaininaa
