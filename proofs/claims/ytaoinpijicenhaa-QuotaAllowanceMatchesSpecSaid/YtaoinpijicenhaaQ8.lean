/- The walk of quota's Allowance. -/
import Derived.Test.YtaoinpijicenhaaQ7
namespace Go.Proofs.Ytaoinpijicenhaa
set_option linter.unusedSimpArgs false
set_option linter.unusedVariables false
open Go.RowKit

theorem elem_int : Elem Try.prog 3 (.int .i64 0) 8 := by unfold Elem; exact info_int
def allowV (l : List Cl) (F : Int) : List Int := if 0 ≤ F ∧ l.all okB = true then allow l F else []
theorem ws_take_eq (p : Int) (cs : List Cl) (j : Nat) (c : Cl) (h : cs[j]? = some c) (hc : c.r = p) : wsR p (cs.take (j + 1)) = wsR p (cs.take j) ++ [wish c] ∧ posR p (cs.take (j + 1)) 0 = posR p (cs.take j) 0 ++ [j] := by
  obtain ⟨hj, e⟩ := List.getElem?_eq_some_iff.1 h
  rw [List.take_succ_eq_append_getElem hj, e, wsR_app, posR_app]
  have : (cs.take j).length = j := by rw [List.length_take]; omega
  simp [wsR, posR, hc, this]
theorem ws_take_ne (p : Int) (cs : List Cl) (j : Nat) (c : Cl) (h : cs[j]? = some c) (hc : c.r ≠ p) : wsR p (cs.take (j + 1)) = wsR p (cs.take j) ∧ posR p (cs.take (j + 1)) 0 = posR p (cs.take j) 0 := by
  obtain ⟨hj, e⟩ := List.getElem?_eq_some_iff.1 h
  rw [List.take_succ_eq_append_getElem hj, e, wsR_app, posR_app]
  simp [wsR, posR, hc]
theorem Two.start (w0 : World) (e : TypeId) : Two w0 w0 e none 0 0 [] none 0 0 [] [] :=
  ⟨Own.nil _ _ _, Own.nil _ _ _, (by intro g h; cases h), Below.refl _ _, (by intro q hq; cases hq)⟩
theorem Two.forget {w0 w : World} {e : TypeId} {a1 a2 : Option Addr} {n1 c1 n2 c2 : Nat} {xs1 xs2 : List Value} {qs : List (Nat × TypeId × Array Value)} (h : Two w0 w e a1 n1 c1 xs1 a2 n2 c2 xs2 qs) : Two w0 w e a1 n1 c1 xs1 a2 n2 c2 xs2 [] :=
  ⟨h.o1, h.o2, h.ne, h.bel, (by intro q hq; cases hq)⟩
def vp (n : Nat) : Value := .int .i64 (n : Int)

set_option maxHeartbeats 3200000 in
set_option maxRecDepth 100000 in
theorem qallow_ok (a : Option Addr) (len cap B : Nat) (cs : List Cl) (F : Int) (w : World) (hl : cs.length = len) (hm : len ≤ 20) (hB : B ≤ w.heap.size) (hr : Rd w B a (flat cs))
    (hF1 : 0 ≤ F) (hF2 : F ≤ 9223372036854775807) (hok : cs.all okB = true) :
    Calls Try.prog 20 #[.slice a len cap, .int .i64 F] w fun e w' => ∃ a' : Option Addr, e = .returned (.slice a' len len) ∧ Own w' w.heap.size 3 a' len len ((allow cs F).map vi) ∧ Below w.heap.size w w' := by
  have HR := Lib.hid hr
  have HK := Lib.hid hok
  have HA := Lib.hid (fun c (hc : c ∈ cs) => (List.all_eq_true.1 hok) c hc)
  have hmk := fun u => make_ints len (by omega) u
  have hd0 : decide (F < 0) = false := by simp; omega
  clear hr hok
  go_enter Try.func20, Try.ntmps20
  go_wp2_with fail
  refine (cont2_any a len cap B cs _ hl (by omega) hB HR.out).mono ?_
  rintro e w1 ⟨rfl, hb⟩
  rw [HK.out]
  simp only [Bool.not_true]
  have HB1 := Lib.hid hb
  clear hb
  go_wp2_with fail
  obtain ⟨W, hW⟩ : ∃ W, W = w1.alloc (.cells (madeCells #[.int .i64 0] len) 3) := ⟨_, rfl⟩
  rw [← hW]
  obtain ⟨g0, hg0⟩ : ∃ g0, g0 = w1.heap.size := ⟨_, rfl⟩
  rw [← hg0]
  have HO := Lib.hid (show Own W w.heap.size 3 (some ⟨g0, 0, none⟩) len len ((zerosI len).map vi) by
    rw [hW, hg0]; exact (own_made w1 len (by omega)).more HB1.out.size)
  have HB := Lib.hid (show Below w.heap.size w W by rw [hW]; exact HB1.out.alloc HB1.out.size _)
  clear hW hmk hg0 HB1
  go_loopw [1, 6, 7, 8, 9, 10, 11, 12, 22] (fun f _ _ _ _ _ _ _ i wr => ∃ k : Nat, k ≤ 10 ∧ i = .int .i64 k ∧ f = .int .i64 (st cs F k).2 ∧ Own wr w.heap.size 3 (some ⟨g0, 0, none⟩) len len ((st cs F k).1.map vi) ∧ Below w.heap.size w wr) (fun _ _ _ _ _ _ _ _ i _ => 10 - (intOf i).toNat)
  case atStart => exact ⟨0, by omega, rfl, rfl, by simp only [st, hl]; exact HO.out, HB.out⟩
  case round =>
    obtain ⟨k, hk, rfl, rfl, ho, hb⟩ := hrel
    clear HO HB
    have HO := Lib.hid ho
    have HB := Lib.hid hb
    clear ho hb
    by_cases hlt : k < 10
    · obtain ⟨wo, rfl⟩ : ∃ wo : World, wo = wr := ⟨_, rfl⟩
      obtain ⟨f, hf⟩ : ∃ f, f = (st cs F k).2 := ⟨_, rfl⟩
      have hf1 := st_nn cs F hF1 k
      have hf2 := st_le cs F hF1 k
      rw [← hf] at hf1 hf2 ⊢
      obtain ⟨o, hoo⟩ : ∃ o, o = (st cs F k).1 := ⟨_, rfl⟩
      rw [← hoo] at HO
      have Hf := Lib.hid hf
      have Ho := Lib.hid hoo
      have HOL := Lib.hid (show o.length = cs.length by rw [hoo]; exact st_len cs F k)
      clear hf hoo hd0
      have hd9 : decide ((k : Int) < 10) = true := by simp; omega
      go_wp2_with fail
      go_loopw [7, 8, 9, 10, 27] (fun av wv _ _ i wr => ∃ (j c1 c2 : Nat) (a1 a2 : Option Addr), j ≤ len ∧ i = .int .i64 j ∧ av = .slice a1 (wsR k (cs.take j)).length c1 ∧ wv = .slice a2 (wsR k (cs.take j)).length c2 ∧
        Two wo wr 3 a1 (wsR k (cs.take j)).length c1 ((posR k (cs.take j) 0).map vp) a2 (wsR k (cs.take j)).length c2 ((wsR k (cs.take j)).map vi) []) (fun _ _ _ _ i _ => len - (intOf i).toNat)
      case atStart => exact ⟨0, 0, 0, none, none, by omega, rfl, rfl, rfl, Two.start wo 3⟩
      case round =>
        obtain ⟨j, c1, c2, a1, a2, hj, rfl, rfl, rfl, ht⟩ := hrel
        have HT := Lib.hid ht
        clear ht
        by_cases hlt2 : j < len
        · obtain ⟨c, hget⟩ : ∃ x, cs[j]? = some x := ⟨_, List.getElem?_eq_getElem (by omega)⟩
          have HC := Lib.hid (HA.out c (List.mem_of_getElem? hget))
          obtain ⟨b, off, rfl, hbB, d0, d1, d2, d3, d4, d5⟩ := (((HR.out.below (HB.out.mono hB)).below (HT.out.bel.mono (by have := HB.out.size; omega)))).claim hget
          obtain ⟨m, hmm⟩ : ∃ m, m = (wsR k (cs.take j)).length := ⟨_, rfl⟩
          have hm20 : m ≤ 20 := by rw [hmm]; have := ws_len k (cs.take j); rw [List.length_take] at this; omega
          rw [← hmm] at HT ⊢
          by_cases hcr : c.r = k
          · have HN := Lib.hid (ws_take_eq k cs j c hget hcr)
            have hq : ((c.r : Int) == (k : Int)) = true := by rw [hcr]; simp
            obtain ⟨g, s, bu, r, v, n⟩ := c
            simp only at d0 d1 d2 d3 d4 d5 hq
            have HL1 := Lib.hid (show (wsR k (cs.take (j + 1))).length = m + 1 by rw [HN.out.1, List.length_append, ← hmm]; rfl)
            obtain ⟨mx, hmx⟩ : ∃ mx, mx = wish ⟨g, s, bu, r, v, n⟩ := ⟨_, rfl⟩
            have HP := Lib.hid (show (posR k (cs.take (j + 1)) 0).map vp = (posR k (cs.take j) 0).map vp ++ [.int .i64 (j : Int)] by rw [HN.out.2, List.map_append]; rfl)
            have HW := Lib.hid (show (wsR k (cs.take (j + 1))).map vi = (wsR k (cs.take j)).map vi ++ [.int .i64 mx] by rw [HN.out.1, List.map_append, hmx]; rfl)
            obtain ⟨E, hE⟩ : ∃ E, E = exc ⟨g, s, bu, r, v, n⟩ := ⟨_, rfl⟩
            have HE := Lib.hid hE
            obtain ⟨q, hqe⟩ : ∃ q, q = bu - E := ⟨_, rfl⟩
            have hbd := exc_bd _ HC.out
            have hbu := (okB_iff.1 HC.out).2.2.1
            simp only at hbu
            rw [← hE] at hbd
            have hw : IntKind.i64.wrap (bu - E) = q := by rw [hqe]; exact IntWalk.i64_in _ (by omega)
            have hmx2 : mx = max 0 q := by rw [hmx, hqe, hE]; rfl
            clear hget hmm hcr hmx hE hqe hbd hbu
            go_wp2_with fail
            obtain ⟨gb, hgb⟩ : ∃ gb, gb = wr.heap.size := ⟨_, rfl⟩
            rw [← hgb]
            obtain ⟨W0, hW0⟩ : ∃ W0, W0 = wr.alloc (.cells #[.int .i64 g, .int .i64 s, .int .i64 bu, .int .i64 r, .int .i64 v, .int .i64 n] 23) := ⟨_, rfl⟩
            rw [← hW0]
            have HT := Lib.hid (show Two wo W0.drew 3 a1 m c1 _ a2 m c2 _ [(gb, 23, #[.int .i64 g, .int .i64 s, .int .i64 bu, .int .i64 r, .int .i64 v, .int .i64 n])] by rw [hW0, hgb]; exact (HT.out.alloc _ _).drew)
            clear hW0 hgb d0 d1 d2 d3 d4 d5
            by_cases hq0 : 0 < q
            · obtain rfl : mx = q := by omega
              clear hmx2
              refine wp_region_held_drew (S := fun w' => w'.cell? ⟨gb, 0, none⟩ = some (.int .i64 g) ∧ w'.cell? ⟨gb, 1, none⟩ = some (.int .i64 s) ∧ w'.cell? ⟨gb, 2, none⟩ = some (.int .i64 bu) ∧ w'.cell? ⟨gb, 3, none⟩ = some (.int .i64 r) ∧ w'.cell? ⟨gb, 4, none⟩ = some (.int .i64 v) ∧ w'.cell? ⟨gb, 5, none⟩ = some (.int .i64 n)) (by kernel_rfl) (row6 (HT.out.kept _ (List.Mem.head _)).1) (fun hHeld => ?_)
              refine wpAnyH_take (i := 0) (v := ?_) rfl (by kernel_rfl) (by kernel_rfl) (by kernel_rfl) (fun _ _ _ h => h) (Or.inl ⟨by kernel_rfl, by intro w hSw; (try dsimp only at hSw); go_simp; first | done | with_reducible rfl⟩) (by assumption) ?_
              try simp only [Act.put, List.setIfInBounds_toArray, List.set_cons_zero, List.set_cons_succ]
              refine wpAnyH_take (i := 1) (v := ?_) rfl (by kernel_rfl) (by kernel_rfl) (by kernel_rfl) (fun _ _ _ h => h) (Or.inl ⟨by kernel_rfl, by intro w hSw; (try dsimp only at hSw); go_simp; first | done | with_reducible rfl⟩) (by assumption) ?_
              try simp only [Act.put, List.setIfInBounds_toArray, List.set_cons_zero, List.set_cons_succ]
              refine wpAnyH_take (i := 4) (v := ?_) rfl (by kernel_rfl) (by kernel_rfl) (by kernel_rfl) (fun _ _ _ h => h) (Or.inl ⟨by kernel_rfl, by intro w hSw; (try dsimp only at hSw); go_simp; first | done | with_reducible rfl⟩) (by assumption) ?_
              try simp only [Act.put, List.setIfInBounds_toArray, List.set_cons_zero, List.set_cons_succ]
              refine wpAnyH_take (i := 5) (v := ?_) rfl (by kernel_rfl) (by kernel_rfl) (by kernel_rfl) (fun _ _ _ h => h) (Or.inl ⟨by kernel_rfl, by intro w hSw; (try dsimp only at hSw); go_simp; first | done | with_reducible rfl⟩) (by assumption) ?_
              try simp only [Act.put, List.setIfInBounds_toArray, List.set_cons_zero, List.set_cons_succ]
              refine wpAnyH_take (i := 6) (v := ?_) rfl (by kernel_rfl) (by kernel_rfl) (by kernel_rfl) (fun _ _ _ h => h) (Or.inl ⟨by kernel_rfl, by intro w hSw; (try dsimp only at hSw); go_simp; first | done | with_reducible rfl⟩) (by assumption) ?_
              try simp only [Act.put, List.setIfInBounds_toArray, List.set_cons_zero, List.set_cons_succ]
              refine wpAnyH_take (i := 7) (v := ?_) rfl (by kernel_rfl) (by kernel_rfl) (by kernel_rfl) (fun _ _ _ h => h) (Or.inl ⟨by kernel_rfl, by intro w hSw; (try dsimp only at hSw); go_simp; first | done | with_reducible rfl⟩) (by assumption) ?_
              try simp only [Act.put, List.setIfInBounds_toArray, List.set_cons_zero, List.set_cons_succ]
              refine wpAnyH_ready (rs := [2]) (by kernel_rfl) (by simp) ?_
              refine AllReadyH.cons rfl (fun K hK => ?_) AllReadyH.nil
              go_simp
              have HT := Lib.hid (HT.out.alloc #[.int .i64 j] 3)
              refine hK.out _ _ (row6 (HT.out.kept (gb, 23, #[.int .i64 g, .int .i64 s, .int .i64 bu, .int .i64 r, .int .i64 v, .int .i64 n]) (List.Mem.tail _ (List.Mem.head _))).1) (fun hHeld => ?_)
              clear hK K
              try simp only [Act.put, List.setIfInBounds_toArray, List.set_cons_zero, List.set_cons_succ]
              refine wpAnyH_ready (rs := [3]) (by kernel_rfl) (by simp) ?_
              refine AllReadyH.cons rfl (fun K hK => ?_) AllReadyH.nil
              refine step_lies rfl (.tmp 36) (.tmp 38) 37 rfl wo.heap.size 3 (.int .i64 0) 8 Try.underlying37 elem_int rfl _ m _ _ rfl HT.out.o1 _ 1 (.int .i64 j) rfl 3 (by have h := (HT.out.kept _ (List.Mem.head _)).1; (try simp only [size1] at h); exact h) rfl (by unfold maxLen; omega) (by omega) HT.out.bel.size ?_
              intro gx cx wx ho hg hl
              have HT := Lib.hid (HT.out.app1 ho hg hl)
              clear ho hg hl
              refine hK.out _ _ (row6 (HT.out.kept (gb, 23, #[.int .i64 g, .int .i64 s, .int .i64 bu, .int .i64 r, .int .i64 v, .int .i64 n]) (List.Mem.tail _ (List.Mem.head _))).1) (fun hHeld => ?_)
              clear hK K
              try simp only [Act.put, List.setIfInBounds_toArray, List.set_cons_zero, List.set_cons_succ]
              refine wpAnyH_ready (rs := [8]) (by kernel_rfl) (by simp) ?_
              refine AllReadyH.cons rfl (fun K hK => ?_) AllReadyH.nil
              go_simp
              go_at_call 25
              with_reducible refine (qexcess_any ⟨g, s, bu, r, v, n⟩ _ (okB_mid HC.out)).mono ?_
              rintro e wB ⟨rfl, hb⟩
              have HT := Lib.hid (HT.out.below hb)
              clear hb
              rw [← HE.out]
              refine hK.out _ _ (row6 (HT.out.kept (gb, 23, #[.int .i64 g, .int .i64 s, .int .i64 bu, .int .i64 r, .int .i64 v, .int .i64 n]) (List.Mem.tail _ (List.Mem.head _))).1) (fun hHeld => ?_)
              clear hK K
              try simp only [Act.put, List.setIfInBounds_toArray, List.set_cons_zero, List.set_cons_succ]
              refine wpAnyH_take (i := 9) (v := ?_) rfl (by kernel_rfl) (by kernel_rfl) (by kernel_rfl) (fun _ _ _ h => h) (Or.inl ⟨by kernel_rfl, by intro w hSw; (try dsimp only at hSw); go_simp; first | done | with_reducible rfl⟩) (by assumption) ?_
              try simp only [Act.put, List.setIfInBounds_toArray, List.set_cons_zero, List.set_cons_succ]
              refine wpAnyH_take (i := 10) (v := ?_) rfl (by kernel_rfl) (by kernel_rfl) (by kernel_rfl) (fun _ _ _ h => h) (Or.inl ⟨by kernel_rfl, by intro w hSw; (try dsimp only at hSw); go_simp; first | done | with_reducible rfl⟩) (by assumption) ?_
              try simp only [Act.put, List.setIfInBounds_toArray, List.set_cons_zero, List.set_cons_succ]
              refine wpAnyH_ready (rs := [11]) (by kernel_rfl) (by simp) ?_
              refine AllReadyH.cons rfl (fun K hK => ?_) AllReadyH.nil
              go_simp
              have HT := Lib.hid (HT.out.alloc #[.int .i64 mx] 3)
              refine hK.out _ _ (row6 (HT.out.kept (gb, 23, #[.int .i64 g, .int .i64 s, .int .i64 bu, .int .i64 r, .int .i64 v, .int .i64 n]) (List.Mem.tail _ (List.Mem.tail _ (List.Mem.head _)))).1) (fun hHeld => ?_)
              clear hK K
              try simp only [Act.put, List.setIfInBounds_toArray, List.set_cons_zero, List.set_cons_succ]
              refine wpAnyH_ready (rs := [12]) (by kernel_rfl) (by simp) ?_
              refine AllReadyH.cons rfl (fun K hK => ?_) AllReadyH.nil
              refine step_lies rfl (.tmp 40) (.tmp 47) 37 rfl wo.heap.size 3 (.int .i64 0) 8 Try.underlying37 elem_int rfl _ m _ _ rfl HT.out.swap.o1 _ 1 (.int .i64 mx) rfl 3 (by have h := (HT.out.kept _ (List.Mem.head _)).1; (try simp only [size1] at h); exact h) rfl (by unfold maxLen; omega) (by omega) HT.out.bel.size ?_
              intro gx cx wx ho hg hl
              have HT := Lib.hid ((HT.out.swap.app1 ho hg hl).swap)
              clear ho hg hl
              refine hK.out _ _ (row6 (HT.out.kept (gb, 23, #[.int .i64 g, .int .i64 s, .int .i64 bu, .int .i64 r, .int .i64 v, .int .i64 n]) (List.Mem.tail _ (List.Mem.tail _ (List.Mem.head _)))).1) (fun hHeld => ?_)
              clear hK K
              try simp only [Act.put, List.setIfInBounds_toArray, List.set_cons_zero, List.set_cons_succ]
              refine wpAnyH_take (i := 13) (v := ?_) rfl (by kernel_rfl) (by kernel_rfl) (by kernel_rfl) (fun _ _ _ h => h) (Or.inl ⟨by kernel_rfl, by intro w hSw; (try dsimp only at hSw); go_simp; first | done | with_reducible rfl⟩) (by assumption) ?_
              try simp only [Act.put, List.setIfInBounds_toArray, List.set_cons_zero, List.set_cons_succ]
              refine wpAnyH_take (i := 14) (v := ?_) rfl (by kernel_rfl) (by kernel_rfl) (by kernel_rfl) (fun _ _ _ h => h) (Or.inl ⟨by kernel_rfl, by intro w hSw; (try dsimp only at hSw); go_simp; first | done | with_reducible rfl⟩) (by assumption) ?_
              try simp only [Act.put, List.setIfInBounds_toArray, List.set_cons_zero, List.set_cons_succ]
              refine wpAnyH_done (by kernel_rfl) ?_ _
              go_wp2_with fail
              go_roundw
              case rel => exact ⟨j + 1, _, _, _, _, by omega, by go_num, by rw [HL1.out], by rw [HL1.out], by rw [HL1.out, HP.out, HW.out]; exact HT.out.forget⟩
              case measure => simp [intOf]; omega
            · obtain rfl : mx = 0 := by omega
              clear hmx2
              refine wp_region_held_drew (S := fun w' => w'.cell? ⟨gb, 0, none⟩ = some (.int .i64 g) ∧ w'.cell? ⟨gb, 1, none⟩ = some (.int .i64 s) ∧ w'.cell? ⟨gb, 2, none⟩ = some (.int .i64 bu) ∧ w'.cell? ⟨gb, 3, none⟩ = some (.int .i64 r) ∧ w'.cell? ⟨gb, 4, none⟩ = some (.int .i64 v) ∧ w'.cell? ⟨gb, 5, none⟩ = some (.int .i64 n)) (by kernel_rfl) (row6 (HT.out.kept _ (List.Mem.head _)).1) (fun hHeld => ?_)
              refine wpAnyH_take (i := 0) (v := ?_) rfl (by kernel_rfl) (by kernel_rfl) (by kernel_rfl) (fun _ _ _ h => h) (Or.inl ⟨by kernel_rfl, by intro w hSw; (try dsimp only at hSw); go_simp; first | done | with_reducible rfl⟩) (by assumption) ?_
              try simp only [Act.put, List.setIfInBounds_toArray, List.set_cons_zero, List.set_cons_succ]
              refine wpAnyH_take (i := 1) (v := ?_) rfl (by kernel_rfl) (by kernel_rfl) (by kernel_rfl) (fun _ _ _ h => h) (Or.inl ⟨by kernel_rfl, by intro w hSw; (try dsimp only at hSw); go_simp; first | done | with_reducible rfl⟩) (by assumption) ?_
              try simp only [Act.put, List.setIfInBounds_toArray, List.set_cons_zero, List.set_cons_succ]
              refine wpAnyH_take (i := 4) (v := ?_) rfl (by kernel_rfl) (by kernel_rfl) (by kernel_rfl) (fun _ _ _ h => h) (Or.inl ⟨by kernel_rfl, by intro w hSw; (try dsimp only at hSw); go_simp; first | done | with_reducible rfl⟩) (by assumption) ?_
              try simp only [Act.put, List.setIfInBounds_toArray, List.set_cons_zero, List.set_cons_succ]
              refine wpAnyH_take (i := 5) (v := ?_) rfl (by kernel_rfl) (by kernel_rfl) (by kernel_rfl) (fun _ _ _ h => h) (Or.inl ⟨by kernel_rfl, by intro w hSw; (try dsimp only at hSw); go_simp; first | done | with_reducible rfl⟩) (by assumption) ?_
              try simp only [Act.put, List.setIfInBounds_toArray, List.set_cons_zero, List.set_cons_succ]
              refine wpAnyH_take (i := 6) (v := ?_) rfl (by kernel_rfl) (by kernel_rfl) (by kernel_rfl) (fun _ _ _ h => h) (Or.inl ⟨by kernel_rfl, by intro w hSw; (try dsimp only at hSw); go_simp; first | done | with_reducible rfl⟩) (by assumption) ?_
              try simp only [Act.put, List.setIfInBounds_toArray, List.set_cons_zero, List.set_cons_succ]
              refine wpAnyH_take (i := 7) (v := ?_) rfl (by kernel_rfl) (by kernel_rfl) (by kernel_rfl) (fun _ _ _ h => h) (Or.inl ⟨by kernel_rfl, by intro w hSw; (try dsimp only at hSw); go_simp; first | done | with_reducible rfl⟩) (by assumption) ?_
              try simp only [Act.put, List.setIfInBounds_toArray, List.set_cons_zero, List.set_cons_succ]
              refine wpAnyH_ready (rs := [2]) (by kernel_rfl) (by simp) ?_
              refine AllReadyH.cons rfl (fun K hK => ?_) AllReadyH.nil
              go_simp
              have HT := Lib.hid (HT.out.alloc #[.int .i64 j] 3)
              refine hK.out _ _ (row6 (HT.out.kept (gb, 23, #[.int .i64 g, .int .i64 s, .int .i64 bu, .int .i64 r, .int .i64 v, .int .i64 n]) (List.Mem.tail _ (List.Mem.head _))).1) (fun hHeld => ?_)
              clear hK K
              try simp only [Act.put, List.setIfInBounds_toArray, List.set_cons_zero, List.set_cons_succ]
              refine wpAnyH_ready (rs := [3]) (by kernel_rfl) (by simp) ?_
              refine AllReadyH.cons rfl (fun K hK => ?_) AllReadyH.nil
              refine step_lies rfl (.tmp 36) (.tmp 38) 37 rfl wo.heap.size 3 (.int .i64 0) 8 Try.underlying37 elem_int rfl _ m _ _ rfl HT.out.o1 _ 1 (.int .i64 j) rfl 3 (by have h := (HT.out.kept _ (List.Mem.head _)).1; (try simp only [size1] at h); exact h) rfl (by unfold maxLen; omega) (by omega) HT.out.bel.size ?_
              intro gx cx wx ho hg hl
              have HT := Lib.hid (HT.out.app1 ho hg hl)
              clear ho hg hl
              refine hK.out _ _ (row6 (HT.out.kept (gb, 23, #[.int .i64 g, .int .i64 s, .int .i64 bu, .int .i64 r, .int .i64 v, .int .i64 n]) (List.Mem.tail _ (List.Mem.head _))).1) (fun hHeld => ?_)
              clear hK K
              try simp only [Act.put, List.setIfInBounds_toArray, List.set_cons_zero, List.set_cons_succ]
              refine wpAnyH_ready (rs := [8]) (by kernel_rfl) (by simp) ?_
              refine AllReadyH.cons rfl (fun K hK => ?_) AllReadyH.nil
              go_simp
              go_at_call 25
              with_reducible refine (qexcess_any ⟨g, s, bu, r, v, n⟩ _ (okB_mid HC.out)).mono ?_
              rintro e wB ⟨rfl, hb⟩
              have HT := Lib.hid (HT.out.below hb)
              clear hb
              rw [← HE.out]
              refine hK.out _ _ (row6 (HT.out.kept (gb, 23, #[.int .i64 g, .int .i64 s, .int .i64 bu, .int .i64 r, .int .i64 v, .int .i64 n]) (List.Mem.tail _ (List.Mem.head _))).1) (fun hHeld => ?_)
              clear hK K
              try simp only [Act.put, List.setIfInBounds_toArray, List.set_cons_zero, List.set_cons_succ]
              refine wpAnyH_take (i := 9) (v := ?_) rfl (by kernel_rfl) (by kernel_rfl) (by kernel_rfl) (fun _ _ _ h => h) (Or.inl ⟨by kernel_rfl, by intro w hSw; (try dsimp only at hSw); go_simp; first | done | with_reducible rfl⟩) (by assumption) ?_
              try simp only [Act.put, List.setIfInBounds_toArray, List.set_cons_zero, List.set_cons_succ]
              refine wpAnyH_take (i := 10) (v := ?_) rfl (by kernel_rfl) (by kernel_rfl) (by kernel_rfl) (fun _ _ _ h => h) (Or.inl ⟨by kernel_rfl, by intro w hSw; (try dsimp only at hSw); go_simp; first | done | with_reducible rfl⟩) (by assumption) ?_
              try simp only [Act.put, List.setIfInBounds_toArray, List.set_cons_zero, List.set_cons_succ]
              refine wpAnyH_ready (rs := [11]) (by kernel_rfl) (by simp) ?_
              refine AllReadyH.cons rfl (fun K hK => ?_) AllReadyH.nil
              go_simp
              have HT := Lib.hid (HT.out.alloc #[.int .i64 0] 3)
              refine hK.out _ _ (row6 (HT.out.kept (gb, 23, #[.int .i64 g, .int .i64 s, .int .i64 bu, .int .i64 r, .int .i64 v, .int .i64 n]) (List.Mem.tail _ (List.Mem.tail _ (List.Mem.head _)))).1) (fun hHeld => ?_)
              clear hK K
              try simp only [Act.put, List.setIfInBounds_toArray, List.set_cons_zero, List.set_cons_succ]
              refine wpAnyH_ready (rs := [12]) (by kernel_rfl) (by simp) ?_
              refine AllReadyH.cons rfl (fun K hK => ?_) AllReadyH.nil
              refine step_lies rfl (.tmp 40) (.tmp 47) 37 rfl wo.heap.size 3 (.int .i64 0) 8 Try.underlying37 elem_int rfl _ m _ _ rfl HT.out.swap.o1 _ 1 (.int .i64 0) rfl 3 (by have h := (HT.out.kept _ (List.Mem.head _)).1; (try simp only [size1] at h); exact h) rfl (by unfold maxLen; omega) (by omega) HT.out.bel.size ?_
              intro gx cx wx ho hg hl
              have HT := Lib.hid ((HT.out.swap.app1 ho hg hl).swap)
              clear ho hg hl
              refine hK.out _ _ (row6 (HT.out.kept (gb, 23, #[.int .i64 g, .int .i64 s, .int .i64 bu, .int .i64 r, .int .i64 v, .int .i64 n]) (List.Mem.tail _ (List.Mem.tail _ (List.Mem.head _)))).1) (fun hHeld => ?_)
              clear hK K
              try simp only [Act.put, List.setIfInBounds_toArray, List.set_cons_zero, List.set_cons_succ]
              refine wpAnyH_take (i := 13) (v := ?_) rfl (by kernel_rfl) (by kernel_rfl) (by kernel_rfl) (fun _ _ _ h => h) (Or.inl ⟨by kernel_rfl, by intro w hSw; (try dsimp only at hSw); go_simp; first | done | with_reducible rfl⟩) (by assumption) ?_
              try simp only [Act.put, List.setIfInBounds_toArray, List.set_cons_zero, List.set_cons_succ]
              refine wpAnyH_take (i := 14) (v := ?_) rfl (by kernel_rfl) (by kernel_rfl) (by kernel_rfl) (fun _ _ _ h => h) (Or.inl ⟨by kernel_rfl, by intro w hSw; (try dsimp only at hSw); go_simp; first | done | with_reducible rfl⟩) (by assumption) ?_
              try simp only [Act.put, List.setIfInBounds_toArray, List.set_cons_zero, List.set_cons_succ]
              refine wpAnyH_done (by kernel_rfl) ?_ _
              go_wp2_with fail
              go_roundw
              case rel => exact ⟨j + 1, _, _, _, _, by omega, by go_num, by rw [HL1.out], by rw [HL1.out], by rw [HL1.out, HP.out, HW.out]; exact HT.out.forget⟩
              case measure => simp [intOf]; omega
          · have HN := Lib.hid (ws_take_ne k cs j c hget hcr)
            have hq : ((c.r : Int) == (k : Int)) = false := by rw [beq_eq_false_iff_ne]; exact hcr
            obtain ⟨g, s, bu, r, v, n⟩ := c
            simp only at d0 d1 d2 d3 d4 d5 hq
            have HL1 := Lib.hid (show (wsR k (cs.take (j + 1))).length = m by rw [HN.out.1, ← hmm])
            clear hget hmm hcr
            go_wp2_with fail
            go_roundw
            case rel => exact ⟨j + 1, _, _, _, _, by omega, by go_num, by rw [HL1.out], by rw [HL1.out], by rw [HL1.out, HN.out.1, HN.out.2]; exact (HT.out.alloc _ _).forget⟩
            case measure => simp [intOf]; omega
        · have HTK := Lib.hid (show cs.take j = cs from List.take_of_length_le (by omega))
          rw [HTK.out] at HT ⊢
          clear HTK
          obtain ⟨m, hmm⟩ : ∃ m, m = (wsR k cs).length := ⟨_, rfl⟩
          have hm20 : m ≤ 20 := by rw [hmm]; have := ws_len k cs; omega
          rw [← hmm] at HT ⊢
          have HM := Lib.hid hmm
          have HWB := Lib.hid (ws_bd k cs HA.out)
          clear hmm
          go_wp2_with fail
          refine (share_any (wsR k cs) f a2 m c2 wr.heap.size wr HM.out.symm hm20 HWB.out hf1 (by omega) (Nat.le_refl _) HT.out.o2.rd).mono ?_
          rintro e w3 ⟨a3, rfl, ho3, hb3⟩
          obtain ⟨vs, hvs⟩ : ∃ vs, vs = shL (wsR k cs) f := ⟨_, rfl⟩
          rw [← hvs] at ho3
          have HV := Lib.hid hvs
          have HVL := Lib.hid (show vs.length = m by rw [hvs, shL_len, HM.out])
          have HVB := Lib.hid (show ∀ v ∈ vs, 0 ≤ v ∧ v ≤ 1099511627776 by rw [hvs]; exact shL_bd _ f HWB.out hf1)
          have HPL := Lib.hid (show (posR k cs 0).length = m by rw [pos_ws_len, HM.out])
          have HO3 := Lib.hid ho3
          have HP3 := Lib.hid (HT.out.o1.below hb3)
          have HB3 := Lib.hid (below_call HB.out ((HT.out.bel).trans (hb3.mono HT.out.bel.size)))
          have HOW := Lib.hid ((HO.out.below HT.out.bel).below hb3)
          have HG0 := Lib.hid (HO.out.lt rfl)
          have HSZ := Lib.hid HT.out.bel.size
          clear hvs ho3 hb3 HT
          go_wp2_with fail
          go_loopw [1, 11, 12, 54] (fun fv _ _ i wx => ∃ (j : Nat), j ≤ m ∧ i = .int .i64 j ∧ fv = .int .i64 (f - sumL (vs.take j)) ∧
            Own wx w.heap.size 3 (some ⟨g0, 0, none⟩) len len ((scat ((posR k cs 0).take j) (vs.take j) o).map vi) ∧ Own wx wo.heap.size 3 a1 m c1 ((posR k cs 0).map vp) ∧ Own wx wr.heap.size 3 a3 m m (vs.map vi) ∧ Below w.heap.size w wx) (fun _ _ _ i _ => m - (intOf i).toNat)
          case atStart => exact ⟨0, by omega, rfl, by simp [sumL], HOW.out, HP3.out, HO3.out, HB3.out⟩
          case round =>
            obtain ⟨i, hi, rfl, rfl, ho, h1, h3, hb⟩ := hrel
            have HOX := Lib.hid ho
            have H1 := Lib.hid h1
            have H3 := Lib.hid h3
            have HBX := Lib.hid hb
            clear ho h1 h3 hb
            have hpl := HPL.out
            have hvl := HVL.out
            by_cases hlt3 : i < m
            · obtain ⟨v, hv⟩ : ∃ v, vs[i]? = some v := ⟨_, List.getElem?_eq_getElem (by omega)⟩
              obtain ⟨p, hp⟩ : ∃ p, (posR k cs 0)[i]? = some p := ⟨_, List.getElem?_eq_getElem (by omega)⟩
              have hpl2 : p < len := by have := pos_lt k cs 0 p (List.mem_of_getElem? hp); omega
              have hvb := HVB.out v (List.mem_of_getElem? hv)
              obtain ⟨b3, e3, hb3, _, hc3, _⟩ := H3.out.at_ hlt3
              subst e3
              obtain ⟨b1, e1, hb1, _, hc1, _⟩ := H1.out.at_ hlt3
              subst e1
              obtain ⟨b0, e0, _, _, hc0, hf0⟩ := HOX.out.at_ hpl2
              injection e0 with e0
              injection e0 with e0
              subst e0
              rw [vi_get _ _ _ hv] at hc3
              have hc1' : wr.cell? ⟨b1, i, none⟩ = some (.int .i64 (p : Int)) := by rw [hc1, List.getElem?_map, hp]; rfl
              obtain ⟨x0, hx0⟩ : ∃ x0, (scat ((posR k cs 0).take i) (vs.take i) o)[p]? = some x0 := ⟨_, List.getElem?_eq_getElem (by rw [scat_len, HOL.out, hl]; exact hpl2)⟩
              rw [vi_get _ _ _ hx0] at hc0
              have hsb := sumL_bd (vs.take i) (fun y hy => HVB.out y (List.mem_of_mem_take hy))
              rw [List.length_take] at hsb
              obtain ⟨S, hS⟩ : ∃ S, S = sumL (vs.take i) := ⟨_, rfl⟩
              rw [← hS] at hsb ⊢
              have hS2 : 0 ≤ S ∧ S ≤ 21990232555520 := by omega
              have hw : IntKind.i64.wrap (f - S - v) = f - S - v := IntWalk.i64_in _ (by omega)
              obtain ⟨hig, hiv⟩ := List.getElem?_eq_some_iff.1 hv
              obtain ⟨hig2, hip⟩ := List.getElem?_eq_some_iff.1 hp
              have HSV := Lib.hid (show sumL (vs.take (i + 1)) = S + v by rw [hS, List.take_succ_eq_append_getElem hig, sumL_app, hiv]; simp [sumL])
              have HSC := Lib.hid (show scat ((posR k cs 0).take (i + 1)) (vs.take (i + 1)) o = (scat ((posR k cs 0).take i) (vs.take i) o).set p v by
                rw [List.take_succ_eq_append_getElem hig, List.take_succ_eq_append_getElem hig2, hiv, hip]
                exact scat_app _ _ _ _ _ (by rw [List.length_take, List.length_take, hpl, hvl]))
              have HN1 := Lib.hid (show b1 ≠ g0 by have := HG0.out; omega)
              have HN3 := Lib.hid (show b3 ≠ g0 by have := HG0.out; have := HSZ.out; omega)
              clear hv hp hc1 hx0 hsb hS hig hiv hig2 hip hb1 hb3
              go_wp2_with fail
              go_roundw
              case rel => exact ⟨i + 1, by omega, by go_num, by rw [HSV.out]; congr 1; omega, by rw [HSC.out, List.map_set]; exact HOX.out.put hpl2 _, H1.out.far (by intro q hq; injection hq with hq; injection hq with hq; subst hq; exact HN1.out) _, H3.out.far (by intro q hq; injection hq with hq; injection hq with hq; subst hq; exact HN3.out) _, HBX.out.setCell HG0.out.1 _⟩
              case measure => simp [intOf]; omega
            · obtain rfl : i = m := by omega
              have HF1 := Lib.hid (show f - sumL (vs.take i) = (st cs F (k + 1)).2 by
                rw [List.take_of_length_le (by omega), HV.out, sum_sh _ f HWB.out hf1, sum_ws, Hf.out]; rfl)
              have HF2 := Lib.hid (show scat ((posR k cs 0).take i) (vs.take i) o = (st cs F (k + 1)).1 by
                rw [List.take_of_length_le (by omega), List.take_of_length_le (by omega), HV.out, scat_sh k cs o f HOL.out, Ho.out, Hf.out]; rfl)
              rw [HF1.out]
              rw [HF2.out] at HOX
              go_wp2_with fail
              go_roundw
              case rel => exact ⟨k + 1, by omega, by go_num, rfl, HOX.out, HBX.out⟩
              case measure => simp [intOf]; omega
    · obtain rfl : k = 10 := by omega
      go_wp2_with fail
      go_ret
      exact ⟨_, rfl, HO.out, HB.out⟩
end Go.Proofs.Ytaoinpijicenhaa
