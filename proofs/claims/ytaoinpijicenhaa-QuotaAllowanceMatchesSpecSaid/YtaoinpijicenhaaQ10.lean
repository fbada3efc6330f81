/- The walk of the reference's Allowance. -/
import Derived.Test.YtaoinpijicenhaaQ9
namespace Go.Proofs.Ytaoinpijicenhaa
set_option linter.unusedSimpArgs false
set_option linter.unusedVariables false
open Go.RowKit

def bOf : Value → Nat
  | .bool true => 1
  | _ => 0

set_option maxHeartbeats 3200000 in
set_option maxRecDepth 100000 in
theorem rallow_ok (a : Option Addr) (len cap B : Nat) (cs : List Cl) (F : Int) (w : World) (hl : cs.length = len) (hm : len ≤ 20) (hB : B ≤ w.heap.size) (hr : Rd w B a (flat cs))
    (hF1 : 0 ≤ F) (hF2 : F ≤ 9223372036854775807) (hok : cs.all okB = true) :
    Calls Try.prog 22 #[.slice a len cap, .int .i64 F] w fun e w' => ∃ a' : Option Addr, e = .returned (.slice a' len len) ∧ Own w' w.heap.size 3 a' len len ((allow cs F).map vi) ∧ Below w.heap.size w w' := by
  have HR := Lib.hid hr
  have HA := Lib.hid (fun c (hc : c ∈ cs) => (List.all_eq_true.1 hok) c hc)
  have HWM := Lib.hid (fun c (hc : c ∈ cs) => wish_le c (HA.out c hc))
  have HMK := Lib.hid (fun u => make_ints len (by omega) u)
  have hd0 : decide (F < 0) = false := by simp; omega
  clear hr hok
  go_enter Try.func22, Try.ntmps22
  go_wp2_with fail
  go_loopw [5] (fun i wr => ∃ j : Nat, j ≤ len ∧ i = .int .i64 j ∧ Below w.heap.size w wr) (fun i _ => len - (intOf i).toNat)
  case atStart => exact ⟨0, by omega, rfl, Below.refl _ _⟩
  case round =>
    obtain ⟨j, hj, rfl, hb⟩ := hrel
    have HB := Lib.hid hb
    clear hb
    by_cases hlt : j < len
    · obtain ⟨c, hget⟩ : ∃ x, cs[j]? = some x := ⟨_, List.getElem?_eq_getElem (by omega)⟩
      have HC := Lib.hid (HA.out c (List.mem_of_getElem? hget))
      obtain ⟨b, off, rfl, hbB, d0, d1, d2, d3, d4, d5⟩ := (HR.out.below (HB.out.mono hB)).claim hget
      obtain ⟨g, s, bu, r, v, n⟩ := c
      simp only at d0 d1 d2 d3 d4 d5
      clear hget
      go_wp2_with fail
      refine (rvalid_any ⟨g, s, bu, r, v, n⟩ _).mono ?_
      rintro e w1 ⟨rfl, hb⟩
      rw [HC.out]
      have HB2 := Lib.hid (below_call HB.out hb)
      clear hb d0 d1 d2 d3 d4 d5
      go_wp2_with fail
      go_roundw
      case rel => exact ⟨j + 1, by omega, by go_num, HB2.out⟩
      case measure => simp [intOf]; omega
    · obtain ⟨w1, rfl⟩ : ∃ w1 : World, w1 = wr := ⟨_, rfl⟩
      have hmk := HMK.out
      go_wp2_with fail
      obtain ⟨W, hW⟩ : ∃ W, W = w1.alloc (.cells (madeCells #[.int .i64 0] len) 3) := ⟨_, rfl⟩
      rw [← hW]
      obtain ⟨g0, hg0⟩ : ∃ g0, g0 = w1.heap.size := ⟨_, rfl⟩
      rw [← hg0]
      have HO := Lib.hid (show Own W w.heap.size 3 (some ⟨g0, 0, none⟩) len len ((zerosI len).map vi) by
        rw [hW, hg0]; exact (own_made w1 len (by omega)).more HB.out.size)
      have HBW := Lib.hid (show Below w.heap.size w W by rw [hW]; exact HB.out.alloc HB.out.size _)
      clear hW hmk HMK hg0 HB hlt hj
      go_loopw [1, 7, 8, 9] (fun f i _ _ wr => ∃ k : Nat, k ≤ 10 ∧ i = .int .i64 k ∧ f = .int .i64 (st cs F k).2 ∧ Own wr w.heap.size 3 (some ⟨g0, 0, none⟩) len len ((st cs F k).1.map vi) ∧ Below w.heap.size w wr) (fun _ i _ _ _ => 10 - (intOf i).toNat)
      case atStart => exact ⟨0, by omega, rfl, rfl, by simp only [st, hl]; exact HO.out, HBW.out⟩
      case round =>
        obtain ⟨k, hk, rfl, rfl, ho, hb⟩ := hrel
        clear HO HBW
        have HO := Lib.hid ho
        have HB := Lib.hid hb
        clear ho hb
        by_cases hlt : k < 10
        · obtain ⟨f, hf⟩ : ∃ f, f = (st cs F k).2 := ⟨_, rfl⟩
          have hf1 := st_nn cs F hF1 k
          have hf2 := st_le cs F hF1 k
          rw [← hf] at hf1 hf2 ⊢
          obtain ⟨o, hoo⟩ : ∃ o, o = (st cs F k).1 := ⟨_, rfl⟩
          rw [← hoo] at HO
          have HOL := Lib.hid (show o.length = cs.length by rw [hoo]; exact st_len cs F k)
          have HZ := Lib.hid (show giveR k cs o 0 0 = o from give_none k cs o HOL.out fun i c hc hp => by rw [hoo]; exact st_zero cs F k i c hc (by omega))
          have HF1 := Lib.hid (show (st cs F (k + 1)).1 = sh k cs o f by rw [hoo, hf]; rfl)
          have HF2 := Lib.hid (show (st cs F (k + 1)).2 = f - min f (totR k cs) by rw [hf]; rfl)
          have hd9 : decide ((k : Int) ≤ 9) = true := by simp; omega
          clear hf hoo
          go_wp2_with fail
          go_loopw [1, 8, 9] (fun fv sv _ wr => ∃ (fr : Int) (S : Bool) (O : List Int), fv = .int .i64 fr ∧ sv = .bool S ∧ 0 ≤ fr ∧ fr ≤ f ∧ Own wr w.heap.size 3 (some ⟨g0, 0, none⟩) len len (O.map vi) ∧ Below w.heap.size w wr ∧
            ((S = true ∧ ∃ t : Int, 0 ≤ t ∧ O = giveR k cs o t 0 ∧ fr = f - costR k cs t) ∨ (O = (st cs F (k + 1)).1 ∧ fr = (st cs F (k + 1)).2 ∧ (S = false ∨ fr = 0)))) (fun fv sv _ _ => 2 * (intOf fv).toNat + bOf sv)
          case atStart => exact ⟨f, true, o, rfl, rfl, hf1, Int.le_refl _, HO.out, HB.out, .inl ⟨rfl, 0, Int.le_refl _, HZ.out.symm, by rw [cost_zero]; omega⟩⟩
          case round =>
            obtain ⟨fr, S, O, rfl, rfl, hfr1, hfr2, ho, hb, hst⟩ := hrel
            clear HO HB
            have HO := Lib.hid ho
            have HB := Lib.hid hb
            clear ho hb
            by_cases hgo : S = true ∧ 0 < fr
            · obtain ⟨rfl, hgo⟩ := hgo
              obtain ⟨t, ht0, hO, hfr⟩ : ∃ t : Int, 0 ≤ t ∧ O = giveR k cs o t 0 ∧ fr = f - costR k cs t := by
                rcases hst with ⟨_, h⟩ | ⟨_, _, h⟩
                · exact h
                · rcases h with h | h
                  · cases h
                  · omega
              clear hst
              obtain ⟨A, hA⟩ : ∃ A, A = giveR k cs o t fr := ⟨_, rfl⟩
              have HAL := Lib.hid (show A.length = O.length by rw [hA, hO, give_len _ _ _ _ _ HOL.out, give_len _ _ _ _ _ HOL.out])
              have HOL2 := Lib.hid (show O.length = cs.length by rw [hO, give_len _ _ _ _ _ HOL.out])
              have HAE := Lib.hid hA
              have HOE := Lib.hid hO
              have HFE := Lib.hid hfr
              have hdg : decide (0 < fr) = true := by simp; omega
              clear hA hO hfr
              go_wp2_with fail
              go_loopw [1, 8, 9] (fun fv sv iv wr => ∃ (i : Nat), i ≤ len ∧ iv = .int .i64 i ∧ fv = .int .i64 (max 0 (fr - cntR k (cs.take i) t)) ∧ sv = .bool (decide (0 < cntR k (cs.take i) t)) ∧
                Own wr w.heap.size 3 (some ⟨g0, 0, none⟩) len len ((mix A O i).map vi) ∧ Below w.heap.size w wr) (fun _ _ iv _ => len - (intOf iv).toNat)
              case atStart => exact ⟨0, by omega, rfl, by simp only [List.take_zero, cntR]; congr 1; omega, by simp [cntR], by rw [mix]; exact HO.out, HB.out⟩
              case round =>
                obtain ⟨i, hi, rfl, rfl, rfl, ho, hb⟩ := hrel
                have HOX := Lib.hid ho
                have HBX := Lib.hid hb
                clear ho hb
                by_cases hlt4 : i < len
                · obtain ⟨c, hget⟩ : ∃ x, cs[i]? = some x := ⟨_, List.getElem?_eq_getElem (by omega)⟩
                  obtain ⟨y, hy⟩ : ∃ y, o[i]? = some y := ⟨_, List.getElem?_eq_getElem (by rw [HOL.out]; omega)⟩
                  have HC := Lib.hid (HA.out c (List.mem_of_getElem? hget))
                  obtain ⟨b, off, rfl, hbB, d0, d1, d2, d3, d4, d5⟩ := (HR.out.below (HBX.out.mono hB)).claim hget
                  have hbX : b < wr.heap.size := by have := HBX.out.size; omega
                  have hgX : g0 < wr.heap.size := (HOX.out.lt rfl).2
                  have hUg := give_get k cs o t 0 i c y hget hy
                  have hAg := give_get k cs o t fr i c y hget hy
                  rw [← HOE.out] at hUg
                  rw [← HAE.out] at hAg
                  have hcnt := cnt_take k cs i c t hget
                  have hN := cnt_nn k (cs.take i) t
                  obtain ⟨N, hNe⟩ : ∃ N, N = cntR k (cs.take i) t := ⟨_, rfl⟩
                  simp only [av, ← hNe] at hUg hAg hcnt hN ⊢
                  obtain ⟨x, hx⟩ : ∃ x, O[i]? = some x := ⟨_, hUg⟩
                  obtain ⟨g', e0, hg0B, _, hc0, hf0⟩ := HOX.out.at_ hlt4
                  injection e0 with e0
                  injection e0 with e0
                  subst e0
                  rw [vi_get _ _ _ (mix_get A O i x HAL.out hx)] at hc0
                  have Hg0B := Lib.hid hg0B
                  have HX := Lib.hid hx
                  have HAG := Lib.hid hAg
                  have HCN := Lib.hid hcnt
                  obtain ⟨FR, hFR⟩ : ∃ FR, FR = max 0 (fr - N) := ⟨_, rfl⟩
                  rw [← hFR]
                  obtain ⟨SB, hSB⟩ : ∃ SB, SB = decide (0 < N) := ⟨_, rfl⟩
                  rw [← hSB]
                  have HSB := Lib.hid hSB
                  obtain ⟨W9, hW9⟩ : ∃ W9, W9 = wish c := ⟨_, rfl⟩
                  have hxe : x = if c.r = k then (if t < W9 then t else W9) else y := by
                    rw [hUg] at hx
                    injection hx with hx
                    rw [← hx, hW9]
                    split
                    · split
                      · rw [if_neg (by omega)]
                      · rfl
                    · rfl
                  rw [← hW9] at HAG HCN
                  have HWS := Lib.hid hW9
                  have hFR2 : FR ≤ 9223372036854775807 := by omega
                  have hFR1 : 0 ≤ FR := by omega
                  clear hget hy hUg hAg hcnt hx hSB hW9 hg0B
                  by_cases hcr : c.r = k
                  · have hq : ((c.r : Int) == (k : Int)) = true := by rw [hcr]; simp
                    rw [if_pos hcr] at hxe HAG
                    by_cases htw : t < W9
                    · rw [if_pos htw] at hxe HAG
                      rw [if_pos ⟨hcr, htw⟩] at HCN
                      have hdx : decide (x < W9) = true := by simp; omega
                      by_cases hnr : N < fr
                      · rw [if_pos hnr] at HAG
                        have hdf : decide (0 < FR) = true := by simp; omega
                        have HFN := Lib.hid (show FR - 1 = max 0 (fr - (N + 1)) by omega)
                        have HSN := Lib.hid (show true = decide (0 < N + 1) by simp; omega)
                        have HMS := Lib.hid (mix_set A O i (t + 1) HAL.out HAG.out)
                        have HXE := Lib.hid hxe
                        have hxb : 0 ≤ x ∧ x ≤ 4000000000000 := by have := wish_le c HC.out; have := HWS.out; omega
                        obtain ⟨g, s, bu, r, v, n⟩ := c
                        simp only at d0 d1 d2 d3 d4 d5 hq
                        clear hxe hcr htw hnr hFR hN hNe
                        go_wp2_with fail
                        refine wp_region_held_drew (S := fun w' => w'.cell? ⟨b, off + i * 6, none⟩ = some (.int .i64 g) ∧ w'.cell? ⟨b, off + i * 6 + 1, none⟩ = some (.int .i64 s) ∧ w'.cell? ⟨b, off + i * 6 + 2, none⟩ = some (.int .i64 bu) ∧ w'.cell? ⟨b, off + i * 6 + 3, none⟩ = some (.int .i64 r) ∧ w'.cell? ⟨b, off + i * 6 + 4, none⟩ = some (.int .i64 v) ∧ w'.cell? ⟨b, off + i * 6 + 5, none⟩ = some (.int .i64 n) ∧ w'.cell? ⟨g0, i, none⟩ = some (.int .i64 x)) (by kernel_rfl) ⟨d0, d1, d2, d3, d4, d5, hc0⟩ (fun hHeld => ?_)
                        refine wpAnyH_take (i := 0) (v := ?_) rfl (by kernel_rfl) (by kernel_rfl) (by kernel_rfl) (fun _ _ _ h => h) (Or.inl ⟨by kernel_rfl, by intro w hSw; (try dsimp only at hSw); go_simp; first | done | with_reducible rfl⟩) (by assumption) ?_
                        try simp only [Act.put, List.setIfInBounds_toArray, List.set_cons_zero, List.set_cons_succ]
                        refine wpAnyH_take (i := 1) (v := ?_) rfl (by kernel_rfl) (by kernel_rfl) (by kernel_rfl) (fun _ _ _ h => h) (Or.inl ⟨by kernel_rfl, by intro w hSw; (try dsimp only at hSw); go_simp; first | done | with_reducible rfl⟩) (by assumption) ?_
                        try simp only [Act.put, List.setIfInBounds_toArray, List.set_cons_zero, List.set_cons_succ]
                        refine wpAnyH_take (i := 2) (v := ?_) rfl (by kernel_rfl) (by kernel_rfl) (by kernel_rfl) (fun _ _ _ h => h) (Or.inl ⟨by kernel_rfl, by intro w hSw; (try dsimp only at hSw); go_simp; first | done | with_reducible rfl⟩) (by assumption) ?_
                        try simp only [Act.put, List.setIfInBounds_toArray, List.set_cons_zero, List.set_cons_succ]
                        refine wpAnyH_take (i := 3) (v := ?_) rfl (by kernel_rfl) (by kernel_rfl) (by kernel_rfl) (fun _ _ _ h => h) (Or.inl ⟨by kernel_rfl, by intro w hSw; (try dsimp only at hSw); go_simp; first | done | with_reducible rfl⟩) (by assumption) ?_
                        try simp only [Act.put, List.setIfInBounds_toArray, List.set_cons_zero, List.set_cons_succ]
                        refine wpAnyH_take (i := 4) (v := ?_) rfl (by kernel_rfl) (by kernel_rfl) (by kernel_rfl) (fun _ _ _ h => h) (Or.inl ⟨by kernel_rfl, by intro w hSw; (try dsimp only at hSw); go_simp; first | done | with_reducible rfl⟩) (by assumption) ?_
                        try simp only [Act.put, List.setIfInBounds_toArray, List.set_cons_zero, List.set_cons_succ]
                        refine wpAnyH_take (i := 5) (v := ?_) rfl (by kernel_rfl) (by kernel_rfl) (by kernel_rfl) (fun _ _ _ h => h) (Or.inl ⟨by kernel_rfl, by intro w hSw; (try dsimp only at hSw); go_simp; first | done | with_reducible rfl⟩) (by assumption) ?_
                        try simp only [Act.put, List.setIfInBounds_toArray, List.set_cons_zero, List.set_cons_succ]
                        refine wpAnyH_take (i := 6) (v := ?_) rfl (by kernel_rfl) (by kernel_rfl) (by kernel_rfl) (fun _ _ _ h => h) (Or.inl ⟨by kernel_rfl, by intro w hSw; (try dsimp only at hSw); go_simp; first | done | with_reducible rfl⟩) (by assumption) ?_
                        try simp only [Act.put, List.setIfInBounds_toArray, List.set_cons_zero, List.set_cons_succ]
                        refine wpAnyH_take (i := 7) (v := ?_) rfl (by kernel_rfl) (by kernel_rfl) (by kernel_rfl) (fun _ _ _ h => h) (Or.inl ⟨by kernel_rfl, by intro w hSw; (try dsimp only at hSw); go_simp; first | done | with_reducible rfl⟩) (by assumption) ?_
                        try simp only [Act.put, List.setIfInBounds_toArray, List.set_cons_zero, List.set_cons_succ]
                        refine wpAnyH_take (i := 8) (v := ?_) rfl (by kernel_rfl) (by kernel_rfl) (by kernel_rfl) (fun _ _ _ h => h) (Or.inl ⟨by kernel_rfl, by intro w hSw; (try dsimp only at hSw); go_simp; first | done | with_reducible rfl⟩) (by assumption) ?_
                        try simp only [Act.put, List.setIfInBounds_toArray, List.set_cons_zero, List.set_cons_succ]
                        refine wpAnyH_take (i := 9) (v := ?_) rfl (by kernel_rfl) (by kernel_rfl) (by kernel_rfl) (fun _ _ _ h => h) (Or.inl ⟨by kernel_rfl, by intro w hSw; (try dsimp only at hSw); go_simp; first | done | with_reducible rfl⟩) (by assumption) ?_
                        try simp only [Act.put, List.setIfInBounds_toArray, List.set_cons_zero, List.set_cons_succ]
                        refine wpAnyH_take (i := 10) (v := ?_) rfl (by kernel_rfl) (by kernel_rfl) (by kernel_rfl) (fun _ _ _ h => h) (Or.inl ⟨by kernel_rfl, by intro w hSw; (try dsimp only at hSw); go_simp; first | done | with_reducible rfl⟩) (by assumption) ?_
                        try simp only [Act.put, List.setIfInBounds_toArray, List.set_cons_zero, List.set_cons_succ]
                        refine wpAnyH_take (i := 11) (v := ?_) rfl (by kernel_rfl) (by kernel_rfl) (by kernel_rfl) (fun _ _ _ h => h) (Or.inl ⟨by kernel_rfl, by intro w hSw; (try dsimp only at hSw); go_simp; first | done | with_reducible rfl⟩) (by assumption) ?_
                        try simp only [Act.put, List.setIfInBounds_toArray, List.set_cons_zero, List.set_cons_succ]
                        refine wpAnyH_take (i := 12) (v := ?_) rfl (by kernel_rfl) (by kernel_rfl) (by kernel_rfl) (fun _ _ _ h => h) (Or.inl ⟨by kernel_rfl, by intro w hSw; (try dsimp only at hSw); go_simp; first | done | with_reducible rfl⟩) (by assumption) ?_
                        try simp only [Act.put, List.setIfInBounds_toArray, List.set_cons_zero, List.set_cons_succ]
                        refine wpAnyH_take (i := 13) (v := ?_) rfl (by kernel_rfl) (by kernel_rfl) (by kernel_rfl) (fun _ _ _ h => h) (Or.inl ⟨by kernel_rfl, by intro w hSw; (try dsimp only at hSw); go_simp; first | done | with_reducible rfl⟩) (by assumption) ?_
                        try simp only [Act.put, List.setIfInBounds_toArray, List.set_cons_zero, List.set_cons_succ]
                        refine wpAnyH_take (i := 14) (v := ?_) rfl (by kernel_rfl) (by kernel_rfl) (by kernel_rfl) (fun _ _ _ h => h) (Or.inl ⟨by kernel_rfl, by intro w hSw; (try dsimp only at hSw); go_simp; first | done | with_reducible rfl⟩) (by assumption) ?_
                        try simp only [Act.put, List.setIfInBounds_toArray, List.set_cons_zero, List.set_cons_succ]
                        refine wpAnyH_take (i := 15) (v := ?_) rfl (by kernel_rfl) (by kernel_rfl) (by kernel_rfl) (fun _ _ _ h => h) (Or.inl ⟨by kernel_rfl, by intro w hSw; (try dsimp only at hSw); go_simp; first | done | with_reducible rfl⟩) (by assumption) ?_
                        try simp only [Act.put, List.setIfInBounds_toArray, List.set_cons_zero, List.set_cons_succ]
                        refine wpAnyH_ready (rs := [16]) (by kernel_rfl) (by simp) ?_
                        refine AllReadyH.cons rfl (fun K hK => ?_) AllReadyH.nil
                        go_simp
                        go_at_call 23
                        with_reducible refine (rwish_any ⟨g, s, bu, r, v, n⟩ _ HC.out).mono ?_
                        rintro e w2 ⟨rfl, hb⟩
                        have HOX := Lib.hid (HOX.out.below (undrew hb))
                        have HBX := Lib.hid (below_call HBX.out (undrew hb))
                        have e0 := (hb.cell (p := ⟨b, off + i * 6, none⟩) hbX).trans d0
                        have e1 := (hb.cell (p := ⟨b, off + i * 6 + 1, none⟩) hbX).trans d1
                        have e2 := (hb.cell (p := ⟨b, off + i * 6 + 2, none⟩) hbX).trans d2
                        have e3 := (hb.cell (p := ⟨b, off + i * 6 + 3, none⟩) hbX).trans d3
                        have e4 := (hb.cell (p := ⟨b, off + i * 6 + 4, none⟩) hbX).trans d4
                        have e5 := (hb.cell (p := ⟨b, off + i * 6 + 5, none⟩) hbX).trans d5
                        have ex := (hb.cell (p := ⟨g0, i, none⟩) hgX).trans hc0
                        have ef := (hb.frozen (p := ⟨g0, i, none⟩) hgX).trans hf0
                        clear hb d0 d1 d2 d3 d4 d5 hc0 hf0
                        rw [← HWS.out]
                        refine hK.out _ _ ⟨e0, e1, e2, e3, e4, e5, ex⟩ (fun hHeld => ?_)
                        clear hK K
                        try simp only [Act.put, List.setIfInBounds_toArray, List.set_cons_zero, List.set_cons_succ]
                        refine wpAnyH_take (i := 17) (v := ?_) rfl (by kernel_rfl) (by kernel_rfl) (by kernel_rfl) (fun _ _ _ h => h) (Or.inl ⟨by kernel_rfl, by intro w hSw; (try dsimp only at hSw); go_simp; first | done | with_reducible rfl⟩) (by assumption) ?_
                        try simp only [Act.put, List.setIfInBounds_toArray, List.set_cons_zero, List.set_cons_succ]
                        refine wpAnyH_take (i := 18) (v := ?_) rfl (by kernel_rfl) (by kernel_rfl) (by kernel_rfl) (fun _ _ _ h => h) (Or.inl ⟨by kernel_rfl, by intro w hSw; (try dsimp only at hSw); go_simp; first | done | with_reducible rfl⟩) (by assumption) ?_
                        try simp only [Act.put, List.setIfInBounds_toArray, List.set_cons_zero, List.set_cons_succ]
                        refine wpAnyH_take (i := 19) (v := ?_) rfl (by kernel_rfl) (by kernel_rfl) (by kernel_rfl) (fun _ _ _ h => h) (Or.inl ⟨by kernel_rfl, by intro w hSw; (try dsimp only at hSw); go_simp; first | done | with_reducible rfl⟩) (by assumption) ?_
                        try simp only [Act.put, List.setIfInBounds_toArray, List.set_cons_zero, List.set_cons_succ]
                        refine wpAnyH_take (i := 20) (v := ?_) rfl (by kernel_rfl) (by kernel_rfl) (by kernel_rfl) (fun _ _ _ h => h) (Or.inl ⟨by kernel_rfl, by intro w hSw; (try dsimp only at hSw); go_simp; first | done | with_reducible rfl⟩) (by assumption) ?_
                        try simp only [Act.put, List.setIfInBounds_toArray, List.set_cons_zero, List.set_cons_succ]
                        refine wpAnyH_take (i := 21) (v := ?_) rfl (by kernel_rfl) (by kernel_rfl) (by kernel_rfl) (fun _ _ _ h => h) (Or.inl ⟨by kernel_rfl, by intro w hSw; (try dsimp only at hSw); go_simp; first | done | with_reducible rfl⟩) (by assumption) ?_
                        try simp only [Act.put, List.setIfInBounds_toArray, List.set_cons_zero, List.set_cons_succ]
                        refine wpAnyH_take (i := 22) (v := ?_) rfl (by kernel_rfl) (by kernel_rfl) (by kernel_rfl) (fun _ _ _ h => h) (Or.inl ⟨by kernel_rfl, by intro w hSw; (try dsimp only at hSw); go_simp; first | done | with_reducible rfl⟩) (by assumption) ?_
                        try simp only [Act.put, List.setIfInBounds_toArray, List.set_cons_zero, List.set_cons_succ]
                        refine wpAnyH_done (by kernel_rfl) ?_ _
                        go_wp2_with fail
                        go_roundw
                        case rel => exact ⟨i + 1, by omega, by go_num, by rw [HCN.out, ← HFN.out], by rw [HCN.out, ← HSN.out], by rw [← HMS.out, List.map_set, ← HXE.out]; exact HOX.out.put hlt4 _, HBX.out.setCell Hg0B.out _⟩
                        case measure => simp [intOf]; omega
                      · rw [if_neg hnr] at HAG
                        have hdf : decide (0 < FR) = false := by simp; omega
                        have HFN := Lib.hid (show FR = max 0 (fr - (N + 1)) by omega)
                        have HSN := Lib.hid (show SB = decide (0 < N + 1) by rw [HSB.out]; simp; omega)
                        have HMS := Lib.hid (mix_skip A O i t HAL.out HAG.out (by rw [← hxe]; exact HX.out))
                        obtain ⟨g, s, bu, r, v, n⟩ := c
                        simp only at d0 d1 d2 d3 d4 d5 hq
                        clear hxe hcr htw hnr hFR hN hNe
                        go_wp2_with fail
                        refine wp_region_held_drew (S := fun w' => w'.cell? ⟨b, off + i * 6, none⟩ = some (.int .i64 g) ∧ w'.cell? ⟨b, off + i * 6 + 1, none⟩ = some (.int .i64 s) ∧ w'.cell? ⟨b, off + i * 6 + 2, none⟩ = some (.int .i64 bu) ∧ w'.cell? ⟨b, off + i * 6 + 3, none⟩ = some (.int .i64 r) ∧ w'.cell? ⟨b, off + i * 6 + 4, none⟩ = some (.int .i64 v) ∧ w'.cell? ⟨b, off + i * 6 + 5, none⟩ = some (.int .i64 n) ∧ w'.cell? ⟨g0, i, none⟩ = some (.int .i64 x)) (by kernel_rfl) ⟨d0, d1, d2, d3, d4, d5, hc0⟩ (fun hHeld => ?_)
                        refine wpAnyH_take (i := 0) (v := ?_) rfl (by kernel_rfl) (by kernel_rfl) (by kernel_rfl) (fun _ _ _ h => h) (Or.inl ⟨by kernel_rfl, by intro w hSw; (try dsimp only at hSw); go_simp; first | done | with_reducible rfl⟩) (by assumption) ?_
                        try simp only [Act.put, List.setIfInBounds_toArray, List.set_cons_zero, List.set_cons_succ]
                        refine wpAnyH_take (i := 1) (v := ?_) rfl (by kernel_rfl) (by kernel_rfl) (by kernel_rfl) (fun _ _ _ h => h) (Or.inl ⟨by kernel_rfl, by intro w hSw; (try dsimp only at hSw); go_simp; first | done | with_reducible rfl⟩) (by assumption) ?_
                        try simp only [Act.put, List.setIfInBounds_toArray, List.set_cons_zero, List.set_cons_succ]
                        refine wpAnyH_take (i := 2) (v := ?_) rfl (by kernel_rfl) (by kernel_rfl) (by kernel_rfl) (fun _ _ _ h => h) (Or.inl ⟨by kernel_rfl, by intro w hSw; (try dsimp only at hSw); go_simp; first | done | with_reducible rfl⟩) (by assumption) ?_
                        try simp only [Act.put, List.setIfInBounds_toArray, List.set_cons_zero, List.set_cons_succ]
                        refine wpAnyH_take (i := 3) (v := ?_) rfl (by kernel_rfl) (by kernel_rfl) (by kernel_rfl) (fun _ _ _ h => h) (Or.inl ⟨by kernel_rfl, by intro w hSw; (try dsimp only at hSw); go_simp; first | done | with_reducible rfl⟩) (by assumption) ?_
                        try simp only [Act.put, List.setIfInBounds_toArray, List.set_cons_zero, List.set_cons_succ]
                        refine wpAnyH_take (i := 4) (v := ?_) rfl (by kernel_rfl) (by kernel_rfl) (by kernel_rfl) (fun _ _ _ h => h) (Or.inl ⟨by kernel_rfl, by intro w hSw; (try dsimp only at hSw); go_simp; first | done | with_reducible rfl⟩) (by assumption) ?_
                        try simp only [Act.put, List.setIfInBounds_toArray, List.set_cons_zero, List.set_cons_succ]
                        refine wpAnyH_take (i := 5) (v := ?_) rfl (by kernel_rfl) (by kernel_rfl) (by kernel_rfl) (fun _ _ _ h => h) (Or.inl ⟨by kernel_rfl, by intro w hSw; (try dsimp only at hSw); go_simp; first | done | with_reducible rfl⟩) (by assumption) ?_
                        try simp only [Act.put, List.setIfInBounds_toArray, List.set_cons_zero, List.set_cons_succ]
                        refine wpAnyH_take (i := 6) (v := ?_) rfl (by kernel_rfl) (by kernel_rfl) (by kernel_rfl) (fun _ _ _ h => h) (Or.inl ⟨by kernel_rfl, by intro w hSw; (try dsimp only at hSw); go_simp; first | done | with_reducible rfl⟩) (by assumption) ?_
                        try simp only [Act.put, List.setIfInBounds_toArray, List.set_cons_zero, List.set_cons_succ]
                        refine wpAnyH_take (i := 7) (v := ?_) rfl (by kernel_rfl) (by kernel_rfl) (by kernel_rfl) (fun _ _ _ h => h) (Or.inl ⟨by kernel_rfl, by intro w hSw; (try dsimp only at hSw); go_simp; first | done | with_reducible rfl⟩) (by assumption) ?_
                        try simp only [Act.put, List.setIfInBounds_toArray, List.set_cons_zero, List.set_cons_succ]
                        refine wpAnyH_take (i := 8) (v := ?_) rfl (by kernel_rfl) (by kernel_rfl) (by kernel_rfl) (fun _ _ _ h => h) (Or.inl ⟨by kernel_rfl, by intro w hSw; (try dsimp only at hSw); go_simp; first | done | with_reducible rfl⟩) (by assumption) ?_
                        try simp only [Act.put, List.setIfInBounds_toArray, List.set_cons_zero, List.set_cons_succ]
                        refine wpAnyH_take (i := 9) (v := ?_) rfl (by kernel_rfl) (by kernel_rfl) (by kernel_rfl) (fun _ _ _ h => h) (Or.inl ⟨by kernel_rfl, by intro w hSw; (try dsimp only at hSw); go_simp; first | done | with_reducible rfl⟩) (by assumption) ?_
                        try simp only [Act.put, List.setIfInBounds_toArray, List.set_cons_zero, List.set_cons_succ]
                        refine wpAnyH_take (i := 10) (v := ?_) rfl (by kernel_rfl) (by kernel_rfl) (by kernel_rfl) (fun _ _ _ h => h) (Or.inl ⟨by kernel_rfl, by intro w hSw; (try dsimp only at hSw); go_simp; first | done | with_reducible rfl⟩) (by assumption) ?_
                        try simp only [Act.put, List.setIfInBounds_toArray, List.set_cons_zero, List.set_cons_succ]
                        refine wpAnyH_take (i := 11) (v := ?_) rfl (by kernel_rfl) (by kernel_rfl) (by kernel_rfl) (fun _ _ _ h => h) (Or.inl ⟨by kernel_rfl, by intro w hSw; (try dsimp only at hSw); go_simp; first | done | with_reducible rfl⟩) (by assumption) ?_
                        try simp only [Act.put, List.setIfInBounds_toArray, List.set_cons_zero, List.set_cons_succ]
                        refine wpAnyH_take (i := 12) (v := ?_) rfl (by kernel_rfl) (by kernel_rfl) (by kernel_rfl) (fun _ _ _ h => h) (Or.inl ⟨by kernel_rfl, by intro w hSw; (try dsimp only at hSw); go_simp; first | done | with_reducible rfl⟩) (by assumption) ?_
                        try simp only [Act.put, List.setIfInBounds_toArray, List.set_cons_zero, List.set_cons_succ]
                        refine wpAnyH_take (i := 13) (v := ?_) rfl (by kernel_rfl) (by kernel_rfl) (by kernel_rfl) (fun _ _ _ h => h) (Or.inl ⟨by kernel_rfl, by intro w hSw; (try dsimp only at hSw); go_simp; first | done | with_reducible rfl⟩) (by assumption) ?_
                        try simp only [Act.put, List.setIfInBounds_toArray, List.set_cons_zero, List.set_cons_succ]
                        refine wpAnyH_take (i := 14) (v := ?_) rfl (by kernel_rfl) (by kernel_rfl) (by kernel_rfl) (fun _ _ _ h => h) (Or.inl ⟨by kernel_rfl, by intro w hSw; (try dsimp only at hSw); go_simp; first | done | with_reducible rfl⟩) (by assumption) ?_
                        try simp only [Act.put, List.setIfInBounds_toArray, List.set_cons_zero, List.set_cons_succ]
                        refine wpAnyH_take (i := 15) (v := ?_) rfl (by kernel_rfl) (by kernel_rfl) (by kernel_rfl) (fun _ _ _ h => h) (Or.inl ⟨by kernel_rfl, by intro w hSw; (try dsimp only at hSw); go_simp; first | done | with_reducible rfl⟩) (by assumption) ?_
                        try simp only [Act.put, List.setIfInBounds_toArray, List.set_cons_zero, List.set_cons_succ]
                        refine wpAnyH_ready (rs := [16]) (by kernel_rfl) (by simp) ?_
                        refine AllReadyH.cons rfl (fun K hK => ?_) AllReadyH.nil
                        go_simp
                        go_at_call 23
                        with_reducible refine (rwish_any ⟨g, s, bu, r, v, n⟩ _ HC.out).mono ?_
                        rintro e w2 ⟨rfl, hb⟩
                        have HOX := Lib.hid (HOX.out.below (undrew hb))
                        have HBX := Lib.hid (below_call HBX.out (undrew hb))
                        have e0 := (hb.cell (p := ⟨b, off + i * 6, none⟩) hbX).trans d0
                        have e1 := (hb.cell (p := ⟨b, off + i * 6 + 1, none⟩) hbX).trans d1
                        have e2 := (hb.cell (p := ⟨b, off + i * 6 + 2, none⟩) hbX).trans d2
                        have e3 := (hb.cell (p := ⟨b, off + i * 6 + 3, none⟩) hbX).trans d3
                        have e4 := (hb.cell (p := ⟨b, off + i * 6 + 4, none⟩) hbX).trans d4
                        have e5 := (hb.cell (p := ⟨b, off + i * 6 + 5, none⟩) hbX).trans d5
                        have ex := (hb.cell (p := ⟨g0, i, none⟩) hgX).trans hc0
                        have ef := (hb.frozen (p := ⟨g0, i, none⟩) hgX).trans hf0
                        clear hb d0 d1 d2 d3 d4 d5 hc0 hf0
                        rw [← HWS.out]
                        refine hK.out _ _ ⟨e0, e1, e2, e3, e4, e5, ex⟩ (fun hHeld => ?_)
                        clear hK K
                        try simp only [Act.put, List.setIfInBounds_toArray, List.set_cons_zero, List.set_cons_succ]
                        refine wpAnyH_take (i := 17) (v := ?_) rfl (by kernel_rfl) (by kernel_rfl) (by kernel_rfl) (fun _ _ _ h => h) (Or.inl ⟨by kernel_rfl, by intro w hSw; (try dsimp only at hSw); go_simp; first | done | with_reducible rfl⟩) (by assumption) ?_
                        try simp only [Act.put, List.setIfInBounds_toArray, List.set_cons_zero, List.set_cons_succ]
                        refine wpAnyH_take (i := 18) (v := ?_) rfl (by kernel_rfl) (by kernel_rfl) (by kernel_rfl) (fun _ _ _ h => h) (Or.inl ⟨by kernel_rfl, by intro w hSw; (try dsimp only at hSw); go_simp; first | done | with_reducible rfl⟩) (by assumption) ?_
                        try simp only [Act.put, List.setIfInBounds_toArray, List.set_cons_zero, List.set_cons_succ]
                        refine wpAnyH_take (i := 19) (v := ?_) rfl (by kernel_rfl) (by kernel_rfl) (by kernel_rfl) (fun _ _ _ h => h) (Or.inl ⟨by kernel_rfl, by intro w hSw; (try dsimp only at hSw); go_simp; first | done | with_reducible rfl⟩) (by assumption) ?_
                        try simp only [Act.put, List.setIfInBounds_toArray, List.set_cons_zero, List.set_cons_succ]
                        refine wpAnyH_take (i := 20) (v := ?_) rfl (by kernel_rfl) (by kernel_rfl) (by kernel_rfl) (fun _ _ _ h => h) (Or.inl ⟨by kernel_rfl, by intro w hSw; (try dsimp only at hSw); go_simp; first | done | with_reducible rfl⟩) (by assumption) ?_
                        try simp only [Act.put, List.setIfInBounds_toArray, List.set_cons_zero, List.set_cons_succ]
                        refine wpAnyH_take (i := 21) (v := ?_) rfl (by kernel_rfl) (by kernel_rfl) (by kernel_rfl) (fun _ _ _ h => h) (Or.inl ⟨by kernel_rfl, by intro w hSw; (try dsimp only at hSw); go_simp; first | done | with_reducible rfl⟩) (by assumption) ?_
                        try simp only [Act.put, List.setIfInBounds_toArray, List.set_cons_zero, List.set_cons_succ]
                        refine wpAnyH_take (i := 22) (v := ?_) rfl (by kernel_rfl) (by kernel_rfl) (by kernel_rfl) (fun _ _ _ h => h) (Or.inl ⟨by kernel_rfl, by intro w hSw; (try dsimp only at hSw); go_simp; first | done | with_reducible rfl⟩) (by assumption) ?_
                        try simp only [Act.put, List.setIfInBounds_toArray, List.set_cons_zero, List.set_cons_succ]
                        refine wpAnyH_done (by kernel_rfl) ?_ _
                        go_wp2_with fail
                        go_roundw
                        case rel => exact ⟨i + 1, by omega, by go_num, by rw [HCN.out, ← HFN.out], by rw [HCN.out, ← HSN.out], by rw [← HMS.out]; exact HOX.out, HBX.out⟩
                        case measure => simp [intOf]; omega
                    · rw [if_neg htw] at hxe HAG
                      rw [if_neg (fun h => htw h.2)] at HCN
                      have hdx : decide (x < W9) = false := by simp; omega
                      have HFN := Lib.hid (show FR = max 0 (fr - (N + 0)) by omega)
                      have HSN := Lib.hid (show SB = decide (0 < N + 0) by rw [HSB.out]; simp)
                      have HMS := Lib.hid (mix_skip A O i W9 HAL.out HAG.out (by rw [← hxe]; exact HX.out))
                      obtain ⟨g, s, bu, r, v, n⟩ := c
                      simp only at d0 d1 d2 d3 d4 d5 hq
                      clear hxe hcr htw hFR hN hNe
                      go_wp2_with fail
                      refine wp_region_held_drew (S := fun w' => w'.cell? ⟨b, off + i * 6, none⟩ = some (.int .i64 g) ∧ w'.cell? ⟨b, off + i * 6 + 1, none⟩ = some (.int .i64 s) ∧ w'.cell? ⟨b, off + i * 6 + 2, none⟩ = some (.int .i64 bu) ∧ w'.cell? ⟨b, off + i * 6 + 3, none⟩ = some (.int .i64 r) ∧ w'.cell? ⟨b, off + i * 6 + 4, none⟩ = some (.int .i64 v) ∧ w'.cell? ⟨b, off + i * 6 + 5, none⟩ = some (.int .i64 n) ∧ w'.cell? ⟨g0, i, none⟩ = some (.int .i64 x)) (by kernel_rfl) ⟨d0, d1, d2, d3, d4, d5, hc0⟩ (fun hHeld => ?_)
                      refine wpAnyH_take (i := 0) (v := ?_) rfl (by kernel_rfl) (by kernel_rfl) (by kernel_rfl) (fun _ _ _ h => h) (Or.inl ⟨by kernel_rfl, by intro w hSw; (try dsimp only at hSw); go_simp; first | done | with_reducible rfl⟩) (by assumption) ?_
                      try simp only [Act.put, List.setIfInBounds_toArray, List.set_cons_zero, List.set_cons_succ]
                      refine wpAnyH_take (i := 1) (v := ?_) rfl (by kernel_rfl) (by kernel_rfl) (by kernel_rfl) (fun _ _ _ h => h) (Or.inl ⟨by kernel_rfl, by intro w hSw; (try dsimp only at hSw); go_simp; first | done | with_reducible rfl⟩) (by assumption) ?_
                      try simp only [Act.put, List.setIfInBounds_toArray, List.set_cons_zero, List.set_cons_succ]
                      refine wpAnyH_take (i := 2) (v := ?_) rfl (by kernel_rfl) (by kernel_rfl) (by kernel_rfl) (fun _ _ _ h => h) (Or.inl ⟨by kernel_rfl, by intro w hSw; (try dsimp only at hSw); go_simp; first | done | with_reducible rfl⟩) (by assumption) ?_
                      try simp only [Act.put, List.setIfInBounds_toArray, List.set_cons_zero, List.set_cons_succ]
                      refine wpAnyH_take (i := 3) (v := ?_) rfl (by kernel_rfl) (by kernel_rfl) (by kernel_rfl) (fun _ _ _ h => h) (Or.inl ⟨by kernel_rfl, by intro w hSw; (try dsimp only at hSw); go_simp; first | done | with_reducible rfl⟩) (by assumption) ?_
                      try simp only [Act.put, List.setIfInBounds_toArray, List.set_cons_zero, List.set_cons_succ]
                      refine wpAnyH_take (i := 4) (v := ?_) rfl (by kernel_rfl) (by kernel_rfl) (by kernel_rfl) (fun _ _ _ h => h) (Or.inl ⟨by kernel_rfl, by intro w hSw; (try dsimp only at hSw); go_simp; first | done | with_reducible rfl⟩) (by assumption) ?_
                      try simp only [Act.put, List.setIfInBounds_toArray, List.set_cons_zero, List.set_cons_succ]
                      refine wpAnyH_take (i := 5) (v := ?_) rfl (by kernel_rfl) (by kernel_rfl) (by kernel_rfl) (fun _ _ _ h => h) (Or.inl ⟨by kernel_rfl, by intro w hSw; (try dsimp only at hSw); go_simp; first | done | with_reducible rfl⟩) (by assumption) ?_
                      try simp only [Act.put, List.setIfInBounds_toArray, List.set_cons_zero, List.set_cons_succ]
                      refine wpAnyH_take (i := 6) (v := ?_) rfl (by kernel_rfl) (by kernel_rfl) (by kernel_rfl) (fun _ _ _ h => h) (Or.inl ⟨by kernel_rfl, by intro w hSw; (try dsimp only at hSw); go_simp; first | done | with_reducible rfl⟩) (by assumption) ?_
                      try simp only [Act.put, List.setIfInBounds_toArray, List.set_cons_zero, List.set_cons_succ]
                      refine wpAnyH_take (i := 7) (v := ?_) rfl (by kernel_rfl) (by kernel_rfl) (by kernel_rfl) (fun _ _ _ h => h) (Or.inl ⟨by kernel_rfl, by intro w hSw; (try dsimp only at hSw); go_simp; first | done | with_reducible rfl⟩) (by assumption) ?_
                      try simp only [Act.put, List.setIfInBounds_toArray, List.set_cons_zero, List.set_cons_succ]
                      refine wpAnyH_take (i := 8) (v := ?_) rfl (by kernel_rfl) (by kernel_rfl) (by kernel_rfl) (fun _ _ _ h => h) (Or.inl ⟨by kernel_rfl, by intro w hSw; (try dsimp only at hSw); go_simp; first | done | with_reducible rfl⟩) (by assumption) ?_
                      try simp only [Act.put, List.setIfInBounds_toArray, List.set_cons_zero, List.set_cons_succ]
                      refine wpAnyH_take (i := 9) (v := ?_) rfl (by kernel_rfl) (by kernel_rfl) (by kernel_rfl) (fun _ _ _ h => h) (Or.inl ⟨by kernel_rfl, by intro w hSw; (try dsimp only at hSw); go_simp; first | done | with_reducible rfl⟩) (by assumption) ?_
                      try simp only [Act.put, List.setIfInBounds_toArray, List.set_cons_zero, List.set_cons_succ]
                      refine wpAnyH_take (i := 10) (v := ?_) rfl (by kernel_rfl) (by kernel_rfl) (by kernel_rfl) (fun _ _ _ h => h) (Or.inl ⟨by kernel_rfl, by intro w hSw; (try dsimp only at hSw); go_simp; first | done | with_reducible rfl⟩) (by assumption) ?_
                      try simp only [Act.put, List.setIfInBounds_toArray, List.set_cons_zero, List.set_cons_succ]
                      refine wpAnyH_take (i := 11) (v := ?_) rfl (by kernel_rfl) (by kernel_rfl) (by kernel_rfl) (fun _ _ _ h => h) (Or.inl ⟨by kernel_rfl, by intro w hSw; (try dsimp only at hSw); go_simp; first | done | with_reducible rfl⟩) (by assumption) ?_
                      try simp only [Act.put, List.setIfInBounds_toArray, List.set_cons_zero, List.set_cons_succ]
                      refine wpAnyH_take (i := 12) (v := ?_) rfl (by kernel_rfl) (by kernel_rfl) (by kernel_rfl) (fun _ _ _ h => h) (Or.inl ⟨by kernel_rfl, by intro w hSw; (try dsimp only at hSw); go_simp; first | done | with_reducible rfl⟩) (by assumption) ?_
                      try simp only [Act.put, List.setIfInBounds_toArray, List.set_cons_zero, List.set_cons_succ]
                      refine wpAnyH_take (i := 13) (v := ?_) rfl (by kernel_rfl) (by kernel_rfl) (by kernel_rfl) (fun _ _ _ h => h) (Or.inl ⟨by kernel_rfl, by intro w hSw; (try dsimp only at hSw); go_simp; first | done | with_reducible rfl⟩) (by assumption) ?_
                      try simp only [Act.put, List.setIfInBounds_toArray, List.set_cons_zero, List.set_cons_succ]
                      refine wpAnyH_take (i := 14) (v := ?_) rfl (by kernel_rfl) (by kernel_rfl) (by kernel_rfl) (fun _ _ _ h => h) (Or.inl ⟨by kernel_rfl, by intro w hSw; (try dsimp only at hSw); go_simp; first | done | with_reducible rfl⟩) (by assumption) ?_
                      try simp only [Act.put, List.setIfInBounds_toArray, List.set_cons_zero, List.set_cons_succ]
                      refine wpAnyH_take (i := 15) (v := ?_) rfl (by kernel_rfl) (by kernel_rfl) (by kernel_rfl) (fun _ _ _ h => h) (Or.inl ⟨by kernel_rfl, by intro w hSw; (try dsimp only at hSw); go_simp; first | done | with_reducible rfl⟩) (by assumption) ?_
                      try simp only [Act.put, List.setIfInBounds_toArray, List.set_cons_zero, List.set_cons_succ]
                      refine wpAnyH_ready (rs := [16]) (by kernel_rfl) (by simp) ?_
                      refine AllReadyH.cons rfl (fun K hK => ?_) AllReadyH.nil
                      go_simp
                      go_at_call 23
                      with_reducible refine (rwish_any ⟨g, s, bu, r, v, n⟩ _ HC.out).mono ?_
                      rintro e w2 ⟨rfl, hb⟩
                      have HOX := Lib.hid (HOX.out.below (undrew hb))
                      have HBX := Lib.hid (below_call HBX.out (undrew hb))
                      have e0 := (hb.cell (p := ⟨b, off + i * 6, none⟩) hbX).trans d0
                      have e1 := (hb.cell (p := ⟨b, off + i * 6 + 1, none⟩) hbX).trans d1
                      have e2 := (hb.cell (p := ⟨b, off + i * 6 + 2, none⟩) hbX).trans d2
                      have e3 := (hb.cell (p := ⟨b, off + i * 6 + 3, none⟩) hbX).trans d3
                      have e4 := (hb.cell (p := ⟨b, off + i * 6 + 4, none⟩) hbX).trans d4
                      have e5 := (hb.cell (p := ⟨b, off + i * 6 + 5, none⟩) hbX).trans d5
                      have ex := (hb.cell (p := ⟨g0, i, none⟩) hgX).trans hc0
                      have ef := (hb.frozen (p := ⟨g0, i, none⟩) hgX).trans hf0
                      clear hb d0 d1 d2 d3 d4 d5 hc0 hf0
                      rw [← HWS.out]
                      refine hK.out _ _ ⟨e0, e1, e2, e3, e4, e5, ex⟩ (fun hHeld => ?_)
                      clear hK K
                      try simp only [Act.put, List.setIfInBounds_toArray, List.set_cons_zero, List.set_cons_succ]
                      refine wpAnyH_take (i := 17) (v := ?_) rfl (by kernel_rfl) (by kernel_rfl) (by kernel_rfl) (fun _ _ _ h => h) (Or.inl ⟨by kernel_rfl, by intro w hSw; (try dsimp only at hSw); go_simp; first | done | with_reducible rfl⟩) (by assumption) ?_
                      try simp only [Act.put, List.setIfInBounds_toArray, List.set_cons_zero, List.set_cons_succ]
                      refine wpAnyH_take (i := 18) (v := ?_) rfl (by kernel_rfl) (by kernel_rfl) (by kernel_rfl) (fun _ _ _ h => h) (Or.inl ⟨by kernel_rfl, by intro w hSw; (try dsimp only at hSw); go_simp; first | done | with_reducible rfl⟩) (by assumption) ?_
                      try simp only [Act.put, List.setIfInBounds_toArray, List.set_cons_zero, List.set_cons_succ]
                      refine wpAnyH_take (i := 19) (v := ?_) rfl (by kernel_rfl) (by kernel_rfl) (by kernel_rfl) (fun _ _ _ h => h) (Or.inl ⟨by kernel_rfl, by intro w hSw; (try dsimp only at hSw); go_simp; first | done | with_reducible rfl⟩) (by assumption) ?_
                      try simp only [Act.put, List.setIfInBounds_toArray, List.set_cons_zero, List.set_cons_succ]
                      refine wpAnyH_take (i := 20) (v := _root_.Go.undef) rfl (by kernel_rfl) (by kernel_rfl) (by kernel_rfl) (fun _ _ _ h => h) (Or.inr ⟨by kernel_rfl, rfl⟩) (by assumption) ?_
                      try simp only [Act.put, List.setIfInBounds_toArray, List.set_cons_zero, List.set_cons_succ]
                      refine wpAnyH_take (i := 21) (v := _root_.Go.undef) rfl (by kernel_rfl) (by kernel_rfl) (by kernel_rfl) (fun _ _ _ h => h) (Or.inr ⟨by kernel_rfl, rfl⟩) (by assumption) ?_
                      try simp only [Act.put, List.setIfInBounds_toArray, List.set_cons_zero, List.set_cons_succ]
                      refine wpAnyH_take (i := 22) (v := ?_) rfl (by kernel_rfl) (by kernel_rfl) (by kernel_rfl) (fun _ _ _ h => h) (Or.inl ⟨by kernel_rfl, by intro w hSw; (try dsimp only at hSw); go_simp; first | done | with_reducible rfl⟩) (by assumption) ?_
                      try simp only [Act.put, List.setIfInBounds_toArray, List.set_cons_zero, List.set_cons_succ]
                      refine wpAnyH_done (by kernel_rfl) ?_ _
                      go_wp2_with fail
                      go_roundw
                      case rel => exact ⟨i + 1, by omega, by go_num, by rw [HCN.out, ← HFN.out], by rw [HCN.out, ← HSN.out], by rw [← HMS.out]; exact HOX.out, HBX.out⟩
                      case measure => simp [intOf]; omega
                  · have hq : ((c.r : Int) == (k : Int)) = false := by rw [beq_eq_false_iff_ne]; exact hcr
                    rw [if_neg hcr] at hxe HAG
                    rw [if_neg (fun h => hcr h.1)] at HCN
                    have HFN := Lib.hid (show FR = max 0 (fr - (N + 0)) by omega)
                    have HSN := Lib.hid (show SB = decide (0 < N + 0) by rw [HSB.out]; simp)
                    have HMS := Lib.hid (mix_skip A O i y HAL.out HAG.out (by rw [← hxe]; exact HX.out))
                    obtain ⟨g, s, bu, r, v, n⟩ := c
                    simp only at d0 d1 d2 d3 d4 d5 hq
                    clear hxe hcr hFR hN hNe
                    go_wp2_with fail
                    go_quiet (fail)
                    go_wp2_with fail
                    go_roundw
                    case rel => exact ⟨i + 1, by omega, by go_num, by rw [HCN.out, ← HFN.out], by rw [HCN.out, ← HSN.out], by rw [← HMS.out]; exact HOX.out.drewN _, below_drewN HBX.out _⟩
                    case measure => simp [intOf]; omega
                · have HTK := Lib.hid (show cs.take i = cs from List.take_of_length_le (by omega))
                  have HMX := Lib.hid (show mix A O i = A by
                    have h1 := HAL.out
                    have h2 := HOL2.out
                    rw [mix, List.take_of_length_le (by omega), List.drop_eq_nil_of_le (by omega), List.append_nil])
                  have HOX2 := Lib.hid (show Own wr w.heap.size 3 (some ⟨g0, 0, none⟩) len len (A.map vi) by rw [← HMX.out]; exact HOX.out)
                  rw [HTK.out]
                  obtain ⟨C, hC⟩ : ∃ C, C = cntR k cs t := ⟨_, rfl⟩
                  rw [← hC]
                  have hCn : 0 ≤ C := by rw [hC]; exact cnt_nn k cs t
                  have HALT := Lib.hid (show (decide (0 < C) = true ∧ ∃ t : Int, 0 ≤ t ∧ A = giveR k cs o t 0 ∧ max 0 (fr - C) = f - costR k cs t) ∨ (A = (st cs F (k + 1)).1 ∧ max 0 (fr - C) = (st cs F (k + 1)).2 ∧ (decide (0 < C) = false ∨ max 0 (fr - C) = 0)) by
                    have hfe := HFE.out
                    have hsu := cost_succ k cs t
                    have hto := cost_tot k cs (t + 1)
                    rw [← hC] at hsu
                    by_cases hC0 : C = 0
                    · right
                      have hz := cnt_zero k cs t (by rw [← hC]; exact hC0)
                      have hca := cost_all k cs t hz
                      refine ⟨?_, ?_, .inl (by simp; omega)⟩
                      · rw [HF1.out, sh_lv k cs o hf1 HWM.out (L := t) ⟨by omega, .inr hz⟩, HAE.out, hfe]
                      · rw [HF2.out]; omega
                    · by_cases hCf : C ≤ fr
                      · left
                        refine ⟨by simp; omega, t + 1, by omega, ?_, by omega⟩
                        rw [HAE.out]; exact give_full k cs o t fr (by omega)
                      · right
                        refine ⟨?_, ?_, .inr (by omega)⟩
                        · rw [HF1.out, sh_lv k cs o hf1 HWM.out (L := t) ⟨by omega, .inl (by omega)⟩, HAE.out, hfe]
                        · rw [HF2.out]; omega)
                  have HME := Lib.hid (show 2 * (max 0 (fr - C)).toNat + bOf (.bool (decide (0 < C))) < 2 * fr.toNat + 1 by
                    by_cases hC0 : 0 < C
                    · rw [decide_eq_true hC0]; simp only [bOf]; omega
                    · rw [decide_eq_false hC0]; simp only [bOf]; omega)
                  obtain ⟨FR, hFR⟩ : ∃ FR, FR = max 0 (fr - C) := ⟨_, rfl⟩
                  rw [← hFR] at HALT HME ⊢
                  obtain ⟨SB, hSB⟩ : ∃ SB, SB = decide (0 < C) := ⟨_, rfl⟩
                  rw [← hSB] at HALT HME ⊢
                  have hFR1 : 0 ≤ FR := by omega
                  have hFR2 : FR ≤ f := by omega
                  clear hC hFR hSB hCn
                  go_wp2_with fail
                  go_roundw
                  case rel => exact ⟨FR, SB, A, rfl, rfl, hFR1, hFR2, HOX2.out, HBX.out, HALT.out⟩
                  case measure => exact HME.out
            · have hfin : O = (st cs F (k + 1)).1 ∧ fr = (st cs F (k + 1)).2 ∧ (S = false ∨ fr = 0) := by
                rcases hst with ⟨hS, t, ht, hO, hfr⟩ | ⟨h1, h2, h3⟩
                · have h0 : fr = 0 := by
                    by_cases h : 0 < fr
                    · exact absurd ⟨hS, h⟩ hgo
                    · omega
                  have hmo := cost_mono k cs (show t ≤ t + 1 by omega)
                  have hto := cost_tot k cs t
                  refine ⟨?_, ?_, .inr h0⟩
                  · rw [HF1.out, sh_lv k cs o hf1 HWM.out (L := t) ⟨by omega, .inl (by omega)⟩, hO, ← hfr, h0]
                  · rw [HF2.out]; omega
                · exact ⟨h1, h2, h3⟩
              obtain ⟨hO, hfr, hS⟩ := hfin
              have HOF := Lib.hid hO
              have HFF := Lib.hid hfr
              clear hst hO hfr hgo
              cases S with
              | false =>
                clear hS
                go_wp2_with fail
                go_roundw
                case rel => exact ⟨k + 1, by omega, by go_num, by rw [HFF.out], by rw [← HOF.out]; exact HO.out, HB.out⟩
                case measure => simp [intOf]; omega
              | true =>
                have hdf : decide (0 < fr) = false := by
                  rcases hS with h | h
                  · cases h
                  · simp; omega
                clear hS
                go_wp2_with fail
                go_roundw
                case rel => exact ⟨k + 1, by omega, by go_num, by rw [HFF.out], by rw [← HOF.out]; exact HO.out, HB.out⟩
                case measure => simp [intOf]; omega
        · obtain rfl : k = 10 := by omega
          go_wp2_with fail
          go_ret
          exact ⟨_, rfl, HO.out, HB.out⟩
end Go.Proofs.Ytaoinpijicenhaa
