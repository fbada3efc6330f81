/- Schedules: counts, the walk. -/
import Derived.Test.YtghinmlpkgcdiaaDoorY1
import Derived.Deep.DeepCutAuto
namespace Go.Proofs.YtghinmlpkgcdiaaDoor
set_option linter.unusedSimpArgs false
set_option linter.unusedVariables false
open Go.RowKit Go.Lib Go.Maps Xp

section
variable {P : Program} {ops : Array Oper} {o : Oper} {act : Act} {w : World} {K : Act → World → Prop} {Q : Exit → Act → World → Prop} {E : Prop}
theorem step_lookup (hgd : o.guard = none) (m x : Operand) (t : TypeId) (ho : o.op = .lookup t m x false) (M X V : Value) (W' : World) (hm : act.eval m = M) (hx : act.eval x = X) (hrun : (Instr.lookup t M X false).run P w = .ok V W') (h : K (act.put o.dst V) W') :
    if Region.wanted o (yielded ops act.tmps) = true then Oper.wp P o act w K Q else E := by
  have hw : Region.wanted o (yielded ops act.tmps) = true := by simp [Region.wanted, hgd]
  rw [if_pos hw]
  unfold Oper.wp execOp
  simp only [ho, hm, hx, hrun, Sem.run_bind, Sem.run_pure, Result.andThen_ok]
  exact h
theorem step_entry (hgd : o.guard = none) (m x : Operand) (t : TypeId) (ho : o.op = .mapEntry t m x) (M X V : Value) (W' : World) (hm : act.eval m = M) (hx : act.eval x = X) (hrun : (Instr.mapEntry t M X).run P w = .ok V W') (h : K (act.put o.dst V) W') :
    if Region.wanted o (yielded ops act.tmps) = true then Oper.wp P o act w K Q else E := by
  have hw : Region.wanted o (yielded ops act.tmps) = true := by simp [Region.wanted, hgd]
  rw [if_pos hw]
  unfold Oper.wp execOp
  simp only [ho, hm, hx, hrun, Sem.run_bind, Sem.run_pure, Result.andThen_ok]
  exact h
theorem step_put (hgd : o.guard = none) (m s x : Operand) (t : TypeId) (ho : o.op = .entryStore t m s x) (M S X : Value) (W' : World) (hm : act.eval m = M) (hs : act.eval s = S) (hx : act.eval x = X) (hrun : (Instr.entryStore t M S X).run P w = .ok () W') (h : K (act.put o.dst undef) W') :
    if Region.wanted o (yielded ops act.tmps) = true then Oper.wp P o act w K Q else E := by
  have hw : Region.wanted o (yielded ops act.tmps) = true := by simp [Region.wanted, hgd]
  rw [if_pos hw]
  unfold Oper.wp execOp
  simp only [ho, hm, hs, hx, hrun, Sem.run_bind, Sem.run_pure, Result.andThen_ok]
  exact h
end
set_option maxRecDepth 100000 in
set_option maxHeartbeats 12800000 in
theorem counts_any (qs : Option Addr) (ns ks : Nat) (ls : List (List Nat)) (w : World) (hs : RowsT w qs ns ls) (hns : ns ≤ 1000000) (hlen : ∀ l ∈ ls, l.length ≤ 1000000) (hmem : ∀ l ∈ ls, ∀ x ∈ l, x ≤ 1000000000) (hpl : (allPairs ls).length ≤ 1000000000000) :
    Calls Tryd.prog 32 #[.slice qs ns ks] w fun e w' => (∃ n, n ≤ 1000000000000 ∧ e = .returned (.map (some w.heap.size)) ∧ CntM w' w.heap.size n (allPairs ls)) ∧ Below w.heap.size w w' := by
  have hmm := @run_makeMap Tryd.prog
  have HS := Lib.hid hs
  have HLS := Lib.hid hs.len
  have HLEN := Lib.hid hlen
  have HMEM := Lib.hid hmem
  have HPL := Lib.hid (fun (A B : List (Nat × Nat)) (h : ∃ C, allPairs ls = A ++ B ++ C) => show (A ++ B).length ≤ 1000000000000 from by
    obtain ⟨C, e⟩ := h
    rw [e, List.length_append] at hpl
    omega)
  clear hs hlen hmem hpl
  go_enter Tryd.func32, Tryd.ntmps32
  go_wp2_with fail
  go_loopw [13] (fun i wr => ∃ t n : Nat, t ≤ ns ∧ i = .int .i64 t ∧ Hid (n = (allPairs (ls.take t)).length) ∧ CntM wr w.heap.size n (allPairs (ls.take t)) ∧ Below w.heap.size w wr) (fun i _ => ns - (intOf i).toNat)
  case atStart => exact ⟨0, 0, Nat.zero_le _, rfl, Lib.hid rfl, CntM.made w, (Below.refl _ w).alloc (Nat.le_refl _) _⟩
  case round =>
    obtain ⟨t, n, ht, rfl, hn, hc, hb⟩ := hrel
    have HN := Lib.hid hn.out
    have HC := Lib.hid hc
    have HB := Lib.hid hb
    clear hn hc hb
    by_cases hlt : t < ns
    · have hd : decide ((t : Int) < ns) = true := decide_eq_true (by omega)
      obtain ⟨l, hl⟩ : ∃ l, ls[t]? = some l := ⟨_, List.getElem?_eq_getElem (by rw [HLS.out]; exact hlt)⟩
      obtain ⟨gs, cs, ql, kc, rfl, hrs, hcs, hkl, hxl⟩ := HS.out.row t l hl
      have hgs := hrs.lt
      have hcl : wr.cell? ⟨gs, t, none⟩ = some (.slice ql l.length kc) := (HB.out.cell (p := ⟨gs, t, none⟩) hgs).trans ((hrs.cell t).trans hcs)
      have HL := Lib.hid hl
      have HX := Lib.hid hxl
      have hll := HLEN.out l (List.mem_of_getElem? hl)
      obtain ⟨L, hL⟩ : ∃ L, l.length = L := ⟨_, rfl⟩
      have HLL := Lib.hid hL
      rw [hL] at hcl hll hkl
      clear hl hrs hcs hxl hL
      go_wp2_with fail
      clear hcl
      go_loopw [19] (fun i wr => ∃ i2 n : Nat, i2 ≤ L ∧ i = .int .i64 i2 ∧ Hid (n = (allPairs (ls.take t) ++ pairsTo l i2).length) ∧ CntM wr w.heap.size n (allPairs (ls.take t) ++ pairsTo l i2) ∧ Below w.heap.size w wr) (fun i _ => L - (intOf i).toNat)
      case atStart => exact ⟨0, n, Nat.zero_le _, rfl, Lib.hid (by rw [HN.out]; unfold pairsTo; simp), by unfold pairsTo; simpa using HC.out, HB.out⟩
      case round =>
        obtain ⟨i2, n2, hi2, rfl, hn, hc, hb⟩ := hrel
        have HN2 := Lib.hid hn.out
        have HC2 := Lib.hid hc
        have HB2 := Lib.hid hb
        clear hn hc hb
        by_cases hil : i2 < L
        · have hdi : decide ((i2 : Int) < L) = true := decide_eq_true (by omega)
          obtain ⟨x, hx⟩ : ∃ x, l[i2]? = some x := ⟨_, List.getElem?_eq_getElem (by rw [HLL.out]; exact hil)⟩
          obtain ⟨g2, cs2, rfl, hr2, hc2⟩ := HX.out i2 x hx
          have hg2 := hr2.lt
          have hcx : wr.cell? ⟨g2, i2, none⟩ = some (.int .i64 (x : Int)) := (HB2.out.cell (p := ⟨g2, i2, none⟩) hg2).trans ((hr2.cell i2).trans hc2)
          have HXX := Lib.hid hx
          have hxm := HMEM.out l (List.mem_of_getElem? HL.out) x (List.mem_of_getElem? hx)
          obtain ⟨M, hM⟩ : ∃ M, L - (i2 + 1) = M := ⟨_, rfl⟩
          have HMM := Lib.hid hM
          have HROW := Lib.hid (show Row w g2 3 cs2 from hr2)
          have HLM := Lib.hid (show ∀ (j y : Nat), l[j]? = some y → cs2[j]? = some (.int .i64 (y : Int)) from fun j y hy => by
            obtain ⟨g3, cs3, e3, hr3, hc3⟩ := HX.out j y hy
            injection e3 with e3
            injection e3 with e3
            subst e3
            have e4 := hr2.symm.trans hr3
            injection e4 with e4
            injection e4 with e4
            subst e4
            exact hc3)
          clear hx hr2 hc2
          obtain ⟨wo, rfl⟩ : ∃ wo : World, wo = wr := ⟨_, rfl⟩
          go_upto_region 8 with fail
          go_cut [27, 28, 29] (fun a b c wx => ∃ q k, a = .slice q M k ∧ b = .int .i64 M ∧ c = .int .i64 0 ∧ Hid (0 < M → q = some ⟨g2, i2 + 1, none⟩) ∧ wx = wo)
          case first =>
            by_cases hk1 : kc = i2 + 1
            · go_wp2_with fail
              go_meet
              exact ⟨_, _, rfl, rfl, rfl, Lib.hid (fun h => absurd h (by omega)), rfl⟩
            · go_wp2_with fail
              go_meet
              exact ⟨_, _, rfl, rfl, rfl, Lib.hid (fun h => rfl), rfl⟩
          case rest =>
            obtain ⟨q, k, rfl, rfl, rfl, hq, rfl⟩ := hcut
            have HQ := Lib.hid hq.out
            clear hq hcx
            have HHL := Lib.hid (show (headP l i2).length = M by rw [headP_length, HLL.out, HMM.out])
            go_wp2_with fail
            go_loopw [29] (fun i wr => ∃ j n : Nat, j ≤ M ∧ i = .int .i64 j ∧ Hid (n = (allPairs (ls.take t) ++ pairsTo l i2 ++ (headP l i2).take j).length) ∧ CntM wr w.heap.size n (allPairs (ls.take t) ++ pairsTo l i2 ++ (headP l i2).take j) ∧ Below w.heap.size w wr) (fun i _ => M - (intOf i).toNat)
            case atStart => exact ⟨0, n2, Nat.zero_le _, rfl, Lib.hid (by rw [HN2.out, List.take_zero, List.append_nil]), by rw [List.take_zero, List.append_nil]; exact HC2.out, HB2.out⟩
            case round =>
              obtain ⟨j, n3, hj, rfl, hn, hc, hb⟩ := hrel
              have HN3 := Lib.hid hn.out
              have HC3 := Lib.hid hc
              have HB3 := Lib.hid hb
              clear hn hc hb
              by_cases hjl : j < M
              · have hdj : decide ((j : Int) < M) = true := decide_eq_true (by omega)
                obtain rfl : q = some ⟨g2, i2 + 1, none⟩ := HQ.out (by omega)
                obtain ⟨y, hy⟩ : ∃ y, l[i2 + 1 + j]? = some y := ⟨_, List.getElem?_eq_getElem (by rw [HLL.out]; omega)⟩
                have hcy : wr.cell? ⟨g2, i2 + 1 + j, none⟩ = some (.int .i64 (y : Int)) := (HB3.out.cell (p := ⟨g2, i2 + 1 + j, none⟩) hg2).trans ((HROW.out.cell (i2 + 1 + j)).trans (HLM.out _ y hy))
                have hym := HMEM.out l (List.mem_of_getElem? HL.out) y (List.mem_of_getElem? hy)
                have HTK := Lib.hid (show (headP l i2).take (j + 1) = (headP l i2).take j ++ [(x, y)] by
                  rw [List.take_add_one, headP_get HXX.out hy]; rfl)
                obtain ⟨PL, hPL⟩ : ∃ PL, allPairs (ls.take t) ++ pairsTo l i2 ++ (headP l i2).take j = PL := ⟨_, rfl⟩
                have HPE := Lib.hid (show allPairs (ls.take t) ++ pairsTo l i2 ++ (headP l i2).take (j + 1) = PL ++ [(x, y)] by rw [HTK.out, ← List.append_assoc, hPL])
                rw [hPL] at HC3 HN3
                have hplen : PL.length ≤ 1000000000000 := by
                  rw [← hPL]
                  have h8 : pairsOf l = pairsTo l i2 ++ ((headP l i2).take j ++ ((headP l i2).drop j ++ (pairsOf l).drop (pairsTo l (i2 + 1)).length)) := by
                    have h7 : ∃ T, pairsOf l = pairsTo l (i2 + 1) ++ T := by
                      unfold pairsOf pairsTo
                      obtain ⟨r, hr⟩ : ∃ r, l.length = (i2 + 1) + r := ⟨l.length - (i2 + 1), by rw [HLL.out]; omega⟩
                      rw [hr, List.range_add, List.flatMap_append]
                      exact ⟨_, rfl⟩
                    obtain ⟨T, hT⟩ := h7
                    rw [hT, List.drop_left, pairsTo_succ, ← List.append_assoc ((headP l i2).take j), List.take_append_drop, List.append_assoc]
                  refine HPL.out (allPairs (ls.take t) ++ pairsTo l i2) _ ⟨((headP l i2).drop j ++ (pairsOf l).drop (pairsTo l (i2 + 1)).length) ++ allPairs (ls.drop (t + 1)), ?_⟩
                  have h6 : ls = ls.take t ++ l :: ls.drop (t + 1) := by
                    obtain ⟨hh, e⟩ := List.getElem?_eq_some_iff.1 HL.out
                    rw [← e, List.getElem_cons_drop, List.take_append_drop]
                  have h5 : allPairs ls = allPairs (ls.take t) ++ (pairsOf l ++ allPairs (ls.drop (t + 1))) := by
                    conv => lhs; rw [h6]
                    unfold allPairs
                    rw [List.flatMap_append, List.flatMap_cons]
                  conv => lhs; rw [h5, h8]
                  simp only [List.append_assoc]
                have hn3 : n3 < maxLen := by rw [HN3.out]; unfold maxLen; omega
                obtain ⟨hlk, v0, st, w1, hent, hb1, hlk2, hput⟩ := (show CntM wr.drew w.heap.size n3 PL from HC3.out).ops hn3 (by omega) (show x ≤ 4611686018427387904 by omega) (show y ≤ 4611686018427387904 by omega)
                obtain ⟨w2, hst, hb2, hc2⟩ := hput w1 rfl
                have HB1 := Lib.hid (show Below w.heap.size w w1 from HB3.out.drew.trans hb1)
                have HB4 := Lib.hid (show Below w.heap.size w w2 from HB1.out.trans hb2)
                have HC4 := Lib.hid hc2
                have hcnt : PL.count (x, y) ≤ 1000000000000 := Nat.le_trans List.count_le_length hplen
                obtain ⟨C, hC⟩ : ∃ C, PL.count (x, y) = C := ⟨_, rfl⟩
                rw [hC] at hlk hlk2 hst hcnt
                rw [Int.natCast_add, Int.natCast_one] at hst
                rw [← (show IntKind.i64.wrap ((C : Int) + 1) = (C : Int) + 1 by rw [IntKind.wrap_i64] <;> omega)] at hst
                clear hy hPL hput hb1 hb2 hc2 hC
                go_wp2_with fail
                go_region_held3 (fun wn => Below w.heap.size w wn) (first | exact HB4.out | exact HB1.out | exact HB3.out.drew | assumption) (first
                  | (refine step_lookup rfl (.tmp 33) (.tmp 36) 62 rfl _ _ _ _ rfl rfl hlk ?_)
                  | (refine step_lookup rfl (.tmp 33) (.tmp 36) 62 rfl _ _ _ _ rfl rfl hlk2 ?_)
                  | (refine step_entry rfl (.tmp 33) (.tmp 36) 62 rfl _ _ _ _ rfl rfl hent ?_)
                  | (refine step_put rfl (.tmp 33) (.tmp 40) (.tmp 38) 62 rfl _ _ _ _ rfl rfl rfl hst ?_))
                all_goals (
                  go_wp2
                  go_roundw
                  case rel => exact ⟨j + 1, n3 + 1, by omega, by go_num, Lib.hid (by rw [HPE.out, List.length_append, ← HN3.out]; rfl), by rw [HPE.out]; exact HC4.out, HB4.out⟩
                  case measure => simp [intOf]; omega)
              · have hdj : decide ((j : Int) < M) = false := decide_eq_false (by omega)
                have hdj2 : decide (j < M) = false := decide_eq_false (by omega)
                have h9 := HC3.out
                have h8 := HN3.out
                rw [List.take_of_length_le (l := headP l i2) (by rw [HHL.out]; omega), List.append_assoc, ← pairsTo_succ] at h9 h8
                have HC5 := Lib.hid h9
                have HN5 := Lib.hid h8
                clear h9 h8
                go_wp2_with fail
                go_roundw
                case rel => exact ⟨i2 + 1, n3, by omega, by go_num, Lib.hid HN5.out, HC5.out, HB3.out⟩
                case measure => simp [intOf]; omega
        · have hdi : decide ((i2 : Int) < L) = false := decide_eq_false (by omega)
          have hdi2 : decide (i2 < L) = false := decide_eq_false (by omega)
          have HIL := Lib.hid (show allPairs (ls.take t) ++ pairsTo l i2 = allPairs (ls.take (t + 1)) by
            rw [allPairs_take HL.out]; unfold pairsOf; rw [HLL.out, show i2 = L by omega])
          rw [HIL.out] at HC2 HN2
          go_wp2_with fail
          go_roundw
          case rel => exact ⟨t + 1, n2, by omega, by go_num, Lib.hid HN2.out, HC2.out, HB2.out⟩
          case measure => simp [intOf]; omega
    · have hd : decide ((t : Int) < ns) = false := decide_eq_false (by omega)
      have hd2 : decide (t < ns) = false := decide_eq_false (by omega)
      have h9 := HC.out
      have h8 := HN.out
      rw [List.take_of_length_le (by rw [HLS.out]; omega)] at h9 h8
      have hnn : n ≤ 1000000000000 := by
        rw [h8]
        have := HPL.out (allPairs ls) [] ⟨[], by simp⟩
        simpa using this
      have HC5 := Lib.hid h9
      clear h9 h8
      go_wp2
      go_ret
      exact ⟨⟨n, hnn, rfl, HC5.out⟩, HB.out⟩
end Go.Proofs.YtghinmlpkgcdiaaDoor
