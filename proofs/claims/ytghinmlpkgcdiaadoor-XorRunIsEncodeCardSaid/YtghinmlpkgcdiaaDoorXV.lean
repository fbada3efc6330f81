/- Schedules: the specification's finish. -/
import Derived.Test.YtghinmlpkgcdiaaDoorX34
namespace Go.Proofs.YtghinmlpkgcdiaaDoor
set_option linter.unusedSimpArgs false
set_option linter.unusedVariables false
open Go.RowKit Go.Lib

/-- rows of rows of numbers, to be read, whatever their capacity -/
structure RowsR (w : World) (qs : Option Addr) (ns : Nat) (ls : List (List Nat)) : Prop where
  len : ls.length = ns
  row : ∀ (i : Nat) (l : List Nat), ls[i]? = some l → ∃ (g : Nat) (cs : Array Value) (q : Option Addr) (k : Nat), qs = some ⟨g, 0, none⟩ ∧ Row w g 27 cs ∧ cs[i]? = some (.slice q l.length k) ∧
    (∀ (p x : Nat), l[p]? = some x → ∃ (g2 : Nat) (cs2 : Array Value), q = some ⟨g2, 0, none⟩ ∧ Row w g2 3 cs2 ∧ cs2[p]? = some (.int .i64 (x : Int)))
theorem RowsR.of {w : World} {B : Nat} {qs : Option Addr} {ns ks : Nat} {vs : List Value} {ls : List (List Nat)} (ho : Own w B 27 qs ns ks vs) (hf : SetsOf w vs ls) : RowsR w qs ns ls :=
  ⟨by rw [← hf.1, ho.len], fun i l hl => by
    obtain ⟨v, e, h2⟩ := hf.2 i l hl
    obtain ⟨q, k, rfl, _, h3⟩ := h2
    have hi : i < ns := by
      obtain ⟨h, _⟩ := List.getElem?_eq_some_iff.1 hl
      rw [← ho.len, hf.1]; exact h
    obtain ⟨g, eg, _, _, _, _⟩ := ho.at_ hi
    obtain ⟨cs, hr, hc⟩ := ho.row eg
    refine ⟨g, cs, q, k, eg, hr, hc i _ e, fun p x hp => ?_⟩
    have hpl : p < l.length := by obtain ⟨h, _⟩ := List.getElem?_eq_some_iff.1 hp; exact h
    obtain ⟨g2, cs2, eg2, hr2, hc2⟩ := h3 (by omega)
    exact ⟨g2, cs2, eg2, hr2, hc2 p _ (nts_get hp)⟩⟩
set_option maxRecDepth 100000 in
set_option maxHeartbeats 6400000 in
theorem sfinish_any (f d p : Int) (B : Nat) (qo : Option Addr) (no ko : Nat) (ops : List (Int × Int)) (qs : Option Addr) (ns ks : Nat) (ls : List (List Nat)) (n : Int) (w : World)
    (hn : IntKind.i64.wrap (d * f) = n) (hn0 : 0 ≤ n) (hn1 : n ≤ 512) (ho : OpsR w B qo no ko ops) (hB : B ≤ w.heap.size) (hs : RowsR w qs ns ls) (hns : ns ≤ 512) (htot : no + Xp.total ls ≤ 500000) :
    Calls Tryd.prog 50 #[schV f d p qo no ko none 0 0, .slice qs ns ks] w fun e w' => (∃ q k qx kx, e = .returned (schV f d p q (Xp.fin n ops ls).1.length k qx ns kx) ∧ OpsR w' B q (Xp.fin n ops ls).1.length k (Xp.fin n ops ls).1 ∧ Own w' w.heap.size 3 qx ns kx (ints (Xp.fin n ops ls).2) ∧ (∀ g, q = some ⟨g, 0, none⟩ → FinX w qo g)) ∧ Only (FinX w qo) w w' := by
  unfold schV
  have HS := Lib.hid hs
  have HO := Lib.hid ho
  have HLS := Lib.hid hs.len
  have HTOT := Lib.hid (fun k => And.intro (Xp.total_take_le ls k) htot)
  have HLEN := Lib.hid (fun k (hk : k ≤ ls.length) => Xp.fin_length n ops ls k hk)
  have HOL := Lib.hid ho.len
  have HM0 := Lib.hid (show FinM w ((w.alloc (.cells (schC f d p qo no ko none 0 0) 30)).alloc (.cells (schC 0 0 0 none 0 0 none 0 0) 30)) B qo f d p qo no ko ops none 0 0 [] from
    ⟨(Row.new w _ _).alloc _, Row.made _ _ (by simp), ho.keeps (((Keeps.refl _ w).alloc _).alloc _), fun g hg => .inl hg, Own.nil _ _ _, ((Only.refl _ w).alloc _).alloc _⟩)
  clear hs ho htot
  go_enter Tryd.func50, Tryd.ntmps50
  go_wp2_with fail
  go_loopw [5] (fun i wr => ∃ (t : Nat) (q : Option Addr) (n1 k : Nat) (qx : Option Addr) (kx : Nat), t ≤ ns ∧ i = .int .i64 t ∧ FinM w wr B qo f d p q n1 k (Xp.fin n ops (ls.take t)).1 qx t kx (Xp.fin n ops (ls.take t)).2) (fun i _ => ns - (intOf i).toNat)
  case atStart => exact ⟨0, qo, no, ko, none, 0, Nat.zero_le _, rfl, HM0.out⟩
  case round =>
    obtain ⟨t, q, n1, k, qx, kx, ht, rfl, hm⟩ := hrel
    have HM := Lib.hid hm
    obtain ⟨O, hO⟩ : ∃ O, (Xp.fin n ops (ls.take t)).1 = O := ⟨_, rfl⟩
    obtain ⟨U, hU⟩ : ∃ U, (Xp.fin n ops (ls.take t)).2 = U := ⟨_, rfl⟩
    rw [hO, hU] at HM
    have HOO := Lib.hid hO
    have HUU := Lib.hid hU
    clear hm hO hU HM0
    by_cases hlt : t < ns
    · have hd : decide ((t : Int) < ns) = true := decide_eq_true (by omega)
      obtain ⟨l, hl⟩ : ∃ l, ls[t]? = some l := ⟨_, List.getElem?_eq_getElem (by rw [HLS.out]; exact hlt)⟩
      obtain ⟨gs, cs, ql, kl, rfl, hrs, hcs, hxl⟩ := HS.out.row t l hl
      have HCL := Lib.hid (fun (wr2 : World) (q2 : Option Addr) (n2 k2 : Nat) (O2 : List (Int × Int)) (h : FinM w wr2 B qo f d p q2 n2 k2 O2 qx t kx U) => show wr2.cell? ⟨gs, t, none⟩ = some (.slice ql l.length kl) from ((h.rows HO.out (e := 27) (by decide) _ _ hrs).cell t).trans hcs)
      have hbd : n1 + l.length ≤ 500000 := by
        have h1 := (HLEN.out t (by rw [HLS.out]; omega)).1
        have h2 := Xp.total_take hl
        have h3 := HTOT.out (t + 1)
        rw [HOO.out, HM.out.ops.len, HOL.out] at h1
        omega
      have HLL := Lib.hid hl
      have HXL := Lib.hid hxl
      obtain ⟨L, hL⟩ : ∃ L, l.length = L := ⟨_, rfl⟩
      have HL := Lib.hid hL
      rw [hL] at HCL hbd
      clear hl hrs hcs hxl hL
      go_wp2_with fail
      go_loopw [6, 7] (fun r7 i wr => ∃ (j : Nat) (r : Int) (q : Option Addr) (n1 k : Nat) (O2 : List (Int × Int)), j ≤ L ∧ i = .int .i64 j ∧ r7 = .int .i64 r ∧ Hid (Xp.chain n O (l.take j) = (O2, r)) ∧ FinM w wr B qo f d p q n1 k O2 qx t kx U) (fun _ i _ => L - (intOf i).toNat)
      case atStart => exact ⟨0, -1, q, n1, k, O, Nat.zero_le _, rfl, rfl, Lib.hid (by simp [Xp.chain]), HM.out⟩
      case round =>
        obtain ⟨j, r, q2, n2, k2, O2, hj, rfl, rfl, hch, hm⟩ := hrel
        have HC := Lib.hid hch.out
        have HM2 := Lib.hid hm
        clear hch hm
        have hcl := HCL.out _ _ _ _ _ HM2.out
        by_cases hjl : j < L
        · have hd2 : decide ((j : Int) < L) = true := decide_eq_true (by omega)
          obtain ⟨x, hx⟩ : ∃ x, l[j]? = some x := ⟨_, List.getElem?_eq_getElem (by rw [HL.out]; exact hjl)⟩
          obtain ⟨gq, cs2, rfl, hr2, hc2⟩ := HXL.out j x hx
          have hcx := ((HM2.out.rows HO.out (e := 3) (by decide) _ _ hr2).cell j).trans hc2
          have HCS := Lib.hid (show Xp.chain n O (l.take (j + 1)) = Xp.chStep n (O2, r) x by rw [Xp.chain_take hx, HC.out])
          have hn2 : n2 ≤ 500000 := by
            have h1 := Xp.chain_length n O _ (l.take j) rfl
            rw [HC.out, HM2.out.ops.len, HM.out.ops.len, List.length_take] at h1
            omega
          have hlo := HM2.out.ops.len
          clear hx hr2 hc2
          by_cases hr0 : 0 ≤ r
          · have hd3 : decide ((0 : Int) ≤ r) = true := decide_eq_true hr0
            have HCS2 := Lib.hid (show Xp.chain n O (l.take (j + 1)) = (O2 ++ [(r, (x : Int))], n + (n2 : Int)) by
              rw [HCS.out]
              unfold Xp.chStep
              rw [if_pos hr0, hlo])
            have hz := HM2.out.size
            obtain ⟨c0, c1, c2, c3, c4⟩ := sbox HM2.out.box
            have HMA := Lib.hid (HM2.out.below ((Below.refl wr.heap.size wr).alloc (Nat.le_refl _) (.cells #[.int .i64 r, .int .i64 (x : Int)] 66)))
            have HN := Lib.hid (show Row (wr.alloc (.cells #[.int .i64 r, .int .i64 (x : Int)] 66)) wr.heap.size 66 #[.int .i64 r, .int .i64 (x : Int)] from Row.new _ _ _)
            have hsB : B ≤ wr.heap.size := by omega
            clear hlo
            go_upto_region 11 with (refine wpList_op rfl (.tmp 34) (.tmp 38) rfl B q2 n2 k2 O2 rfl HMA.out.ops wr.heap.size 1 r (x : Int) rfl (HN.out.cell 0) (HN.out.cell 1) (by omega) (by rw [size1]; omega) ?_; intro a6 k6 w6 ho6 hg6 hn6; have HF6 := Lib.hid (HMA.out.op ho6 hg6 hn6); obtain ⟨c0, c1, c2, c3, c4⟩ := sbox HF6.out.1; have hfz := HF6.out.1.frozen 3; clear ho6 hg6 hn6)
            obtain ⟨w7, hw7⟩ : ∃ w7, w7 = w6.setCell ⟨w.heap.size, 3, none⟩ (.slice a6 (n2 + 1) k6) := ⟨_, rfl⟩
            have HM7 := Lib.hid (show FinM w w7 B qo f d p a6 (n2 + 1) k6 (O2 ++ [(r, (x : Int))]) qx t kx U by rw [hw7]; exact HF6.out.2)
            rw [← hw7]
            clear hw7 c0 c1 c2 c3 c4 hfz HF6 hcl
            obtain ⟨c0, c1, c2, c3, c4⟩ := sbox HM7.out.box
            have hwr1 : IntKind.i64.wrap (n + ((n2 : Int) + 1)) = n + ((n2 : Int) + 1) := by rw [IntKind.wrap_i64] <;> omega
            have hwr2 : IntKind.i64.wrap (n + ((n2 : Int) + 1) - 1) = n + ((n2 : Int) + 1) - 1 := by rw [IntKind.wrap_i64] <;> omega
            go_wp2_with fail
            go_roundw
            case rel => exact ⟨j + 1, _, a6, n2 + 1, k6, _, by omega, by go_num, rfl, Lib.hid (by rw [HCS2.out]; congr 1; omega), HM7.out⟩
            case measure => simp [intOf]; omega
          · have hd3 : decide ((0 : Int) ≤ r) = false := decide_eq_false hr0
            have HCS2 := Lib.hid (show Xp.chain n O (l.take (j + 1)) = (O2, (x : Int)) by
              rw [HCS.out]
              unfold Xp.chStep
              rw [if_neg hr0])
            clear hlo
            go_wp2_with fail
            go_roundw
            case rel => exact ⟨j + 1, x, q2, n2, k2, O2, by omega, by go_num, rfl, Lib.hid HCS2.out, HM2.out⟩
            case measure => simp [intOf]; omega
        · have hd2 : decide ((j : Int) < L) = false := decide_eq_false (by omega)
          have HC2 := Lib.hid (show Xp.chain n O l = (O2, r) by
            have := HC.out
            rwa [List.take_of_length_le (by rw [HL.out]; omega)] at this)
          have HFT := Lib.hid (show Xp.fin n ops (ls.take (t + 1)) = (O2, U ++ [r]) by
            rw [Xp.fin_take HLL.out]
            unfold Xp.fiStep
            rw [HOO.out, HUU.out, HC2.out])
          have hz := HM2.out.size
          obtain ⟨c0, c1, c2, c3, c4⟩ := sbox HM2.out.box
          have HMA := Lib.hid (HM2.out.below ((Below.refl wr.heap.size wr).alloc (Nat.le_refl _) (.cells #[.int .i64 r] 3)))
          go_wp2_with (refine wpList_app _ rfl (.tmp 53) (.tmp 55) 27 rfl w.heap.size 3 (.int .i64 0) 8 Tryd.underlying27 elem_ints rfl qx t kx (ints U) rfl HMA.out.out _ (some ⟨wr.heap.size, 0, none⟩) 1 1 [.int .i64 r] rfl (Rd.one wr _ _) rfl (by intro u hu; simp only [List.mem_singleton] at hu; subst hu; rfl) (by unfold maxLen; omega) (by omega) (by rw [size1]; omega) ?_; intro a9 k9 w9 ho9 hg9; have HF9 := Lib.hid (HMA.out.app ho9 hg9); (obtain ⟨c0, c1, c2, c3, c4⟩ := sbox HF9.out.1); have hfz := HF9.out.1.frozen 4; clear ho9 hg9)
          have HM9 := Lib.hid HF9.out.2
          clear HF9
          go_roundw
          case rel => exact ⟨t + 1, q2, n2, k2, a9, k9, by omega, by go_num, by rw [HFT.out]; exact HM9.out⟩
          case measure => simp [intOf]; omega
    · have hd : decide ((t : Int) < ns) = false := decide_eq_false (by omega)
      have htn : t = ns := by omega
      have HFA := Lib.hid (show Xp.fin n ops (ls.take t) = Xp.fin n ops ls by rw [List.take_of_length_le (by rw [HLS.out]; omega)])
      rw [HFA.out] at HOO HUU
      have hlo := HM.out.ops.len
      subst htn
      have hz := HM.out.size
      obtain ⟨c0, c1, c2, c3, c4⟩ := sbox HM.out.box
      have HLO := Lib.hid (show n1 = (Xp.fin n ops ls).1.length by rw [HOO.out, hlo])
      clear hlo
      go_wp2_with (refine wpList_store_row rfl _ _ _ rfl (w.heap.size + 1) (schC f d p q n1 k qx t kx) rfl rfl _ _ HM.out.res (by kernel_rfl) rfl (schC_one _ _ _ _ _ _ _ _ _) ?_)
      refine bodyPost_ret (v := .agg (schC f d p q n1 k qx t kx)) ?_ rfl ⟨⟨q, k, qx, kx, by rw [HLO.out], ?_, ?_, HM.out.lies⟩, HM.out.only.whole (.inr (by omega)) _⟩
      · exact results_cell_row rfl _ _ (w.heap.size + 1) _ _ (0, 0) _ rfl (HM.out.res.whole _) Tryd.underlying30 rfl (by kernel_rfl)
      · rw [← HLO.out, HOO.out]
        exact HM.out.ops.kept fun g hg => setRow_other _ _ _ _ (fun e => by
          obtain ⟨_, _, cur, hr⟩ := HM.out.ops.lt hg
          subst e
          exact absurd (hr.type HM.out.res) (by decide))
      · rw [HUU.out]
        exact HM.out.out.kept fun g hg => setRow_other _ _ _ _ (fun e => by
          obtain ⟨cur, hr, _⟩ := HM.out.out.row hg
          subst e
          exact absurd (hr.type HM.out.res) (by decide))
end Go.Proofs.YtghinmlpkgcdiaaDoor
