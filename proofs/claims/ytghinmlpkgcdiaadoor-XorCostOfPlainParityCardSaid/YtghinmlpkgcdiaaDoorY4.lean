/- Schedules: the best pair, the walk. -/
import Derived.Test.YtghinmlpkgcdiaaDoorY3
import Derived.Deep.DeepCutAuto
namespace Go.Proofs.YtghinmlpkgcdiaaDoor
set_option linter.unusedSimpArgs false
set_option linter.unusedVariables false
open Go.RowKit Go.Lib Go.Maps Xp

/-- what is known of the pairs that have come: N the greatest number, at least 1, p the first pair of that number -/
def SeenB (PL : List (Nat × Nat)) (done : Int → Int → Prop) (N : Nat) (X Y : Int) : Prop :=
  in64 X ∧ in64 Y ∧ ((N = 1 ∧ ∀ A B, in64 A → in64 B → done A B → cI PL A B ≤ 1) ∨
  (2 ≤ N ∧ cI PL X Y = N ∧ ∀ A B, in64 A → in64 B → done A B → cI PL A B ≤ N ∧ (cI PL A B = N → X < A ∨ (X = A ∧ Y ≤ B))))
theorem cmp2_neg {A B X Y : Int} : cmp2 A B X Y < 0 ↔ A < X ∨ (A = X ∧ B < Y) := by
  unfold cmp2
  by_cases h : A = X
  · rw [if_pos (cmp1_zero.2 h)]
    unfold cmp1
    repeat' split
    all_goals omega
  · rw [if_neg (fun e => h (cmp1_zero.1 e))]
    unfold cmp1
    repeat' split
    all_goals omega
theorem cI_mem {PL : List (Nat × Nat)} {A B : Int} (h : 0 < cI PL A B) : ∃ a b : Nat, A = a ∧ B = b := by
  unfold cI at h
  obtain ⟨p, _, hp⟩ := List.countP_pos_iff.1 h
  simp only [Bool.and_eq_true, decide_eq_true_eq] at hp
  exact ⟨p.1, p.2, hp.1.symm, hp.2.symm⟩
theorem seen_best {PL : List (Nat × Nat)} {done : Int → Int → Prop} {N : Nat} {X Y : Int} (h : SeenB PL done N X Y) (hd : ∀ A B, in64 A → in64 B → done A B) (hs : ∀ p ∈ PL, p.1 ≤ 1000000000 ∧ p.2 ≤ 1000000000) :
    ∃ r : Option (Nat × Nat), IsBest PL r ∧ (decide (1 < N) = r.isSome) ∧ ∀ p, r = some p → X = (p.1 : Int) ∧ Y = (p.2 : Int) := by
  obtain ⟨hX, hY, h⟩ := h
  have hin : ∀ q : Nat × Nat, 0 < PL.count q → in64 (q.1 : Int) ∧ in64 (q.2 : Int) := fun q hq => by
    have := hs q (List.count_pos_iff.1 hq)
    unfold in64; omega
  rcases h with ⟨rfl, h⟩ | ⟨h2, hc, h⟩
  · refine ⟨none, fun q => ?_, rfl, fun p hp => by cases hp⟩
    by_cases hq : 0 < PL.count q
    · have h9 := h q.1 q.2 (hin q hq).1 (hin q hq).2 (hd _ _ (hin q hq).1 (hin q hq).2)
      rwa [cI_nat] at h9
    · omega
  · obtain ⟨a, b, rfl, rfl⟩ := cI_mem (PL := PL) (A := X) (B := Y) (by omega)
    rw [cI_nat] at hc
    refine ⟨some (a, b), ⟨by omega, fun q => ?_⟩, by rw [decide_eq_true (by omega)]; rfl, fun p hp => by injection hp with hp; subst hp; exact ⟨rfl, rfl⟩⟩
    by_cases hq : 0 < PL.count q
    · have h9 := h q.1 q.2 (hin q hq).1 (hin q hq).2 (hd _ _ (hin q hq).1 (hin q hq).2)
      rw [cI_nat] at h9
      refine ⟨by rw [hc]; exact h9.1, fun e => ?_⟩
      have h8 := h9.2 (by rw [hc] at e; exact e)
      unfold ple
      show a < q.1 ∨ (a = q.1 ∧ b ≤ q.2)
      omega
    · exact ⟨by omega, fun e => by omega⟩
theorem seen_skip {PL : List (Nat × Nat)} {done done' : Int → Int → Prop} {N : Nat} {X Y A B : Int} (h : SeenB PL done N X Y) (hd : ∀ A' B', in64 A' → in64 B' → done' A' B' → done A' B' ∨ (A' = A ∧ B' = B))
    (hno : ¬ (N < cI PL A B ∨ (cI PL A B = N ∧ 1 < N ∧ cmp2 A B X Y < 0))) : SeenB PL done' N X Y := by
  obtain ⟨hX, hY, h⟩ := h
  refine ⟨hX, hY, ?_⟩
  rw [cmp2_neg] at hno
  rcases h with ⟨rfl, h⟩ | ⟨h2, hc, h⟩
  · refine .inl ⟨rfl, fun A' B' hA hB hd' => ?_⟩
    rcases hd A' B' hA hB hd' with h9 | ⟨rfl, rfl⟩
    · exact h A' B' hA hB h9
    · omega
  · refine .inr ⟨h2, hc, fun A' B' hA hB hd' => ?_⟩
    rcases hd A' B' hA hB hd' with h9 | ⟨rfl, rfl⟩
    · exact h A' B' hA hB h9
    · refine ⟨by omega, fun e => ?_⟩
      have : ¬ (A' < X ∨ (A' = X ∧ B' < Y)) := fun h' => hno (.inr ⟨e, by omega, h'⟩)
      omega
theorem seen_take {PL : List (Nat × Nat)} {done done' : Int → Int → Prop} {N : Nat} {X Y A B : Int} (h : SeenB PL done N X Y) (hA : in64 A) (hB : in64 B) (hd : ∀ A' B', in64 A' → in64 B' → done' A' B' → done A' B' ∨ (A' = A ∧ B' = B))
    (hyes : N < cI PL A B ∨ (cI PL A B = N ∧ 1 < N ∧ cmp2 A B X Y < 0)) : SeenB PL done' (cI PL A B) A B := by
  obtain ⟨hX, hY, h⟩ := h
  rw [cmp2_neg] at hyes
  refine ⟨hA, hB, .inr ⟨?_, rfl, fun A' B' hA' hB' hd' => ?_⟩⟩
  · rcases h with ⟨rfl, h⟩ | ⟨h2, hc, h⟩ <;> omega
  · rcases hd A' B' hA' hB' hd' with h9 | ⟨rfl, rfl⟩
    · rcases h with ⟨rfl, h⟩ | ⟨h2, hc, h⟩
      · have h8 := h A' B' hA' hB' h9
        exact ⟨by omega, fun e => by omega⟩
      · have h8 := h A' B' hA' hB' h9
        exact ⟨by omega, fun e => by omega⟩
    · exact ⟨Nat.le_refl _, fun _ => by omega⟩
theorem pk_one (a b : Int) : (#[.int .i64 a, .int .i64 b] : Array Value).all (·.oneCell') = true := by simp [Value.oneCell']
abbrev pkC (a b : Int) : Array Value := #[.int .i64 a, .int .i64 b]
theorem pbox {w : World} {g : Nat} {t : TypeId} {a b : Int} (h : Row w g t (pkC a b)) : w.cell? ⟨g, 0, none⟩ = some (.int .i64 a) ∧ w.cell? ⟨g, 1, none⟩ = some (.int .i64 b) := ⟨h.cell 0, h.cell 1⟩
theorem grown_setRow {w : World} {g : Nat} (cs : Array Value) : w.grownBy (w.setRow g cs) (some g) :=
  ⟨rfl, rfl, rfl, by simp [World.setRow], fun i _ hne => setRow_other _ _ _ _ (fun e => hne (by rw [e]))⟩
set_option maxRecDepth 100000 in
set_option maxHeartbeats 12800000 in
theorem best_any (b n : Nat) (PL : List (Nat × Nat)) (w : World) (hc : CntM w b n PL) (hs : ∀ p ∈ PL, p.1 ≤ 1000000000 ∧ p.2 ≤ 1000000000) (hPL : PL.length ≤ 1000000000000) :
    Calls Tryd.prog 31 #[.map (some b)] w fun e w' => (∃ (r : Option (Nat × Nat)) (X Y : Int), e = .returned (.tuple #[.agg (pkC X Y), .bool r.isSome]) ∧ IsBest PL r ∧ ∀ p, r = some p → X = (p.1 : Int) ∧ Y = (p.2 : Int)) ∧ Below w.heap.size w w' := by
  have HBL := Lib.hid hc.lt
  obtain ⟨D, hown, hD⟩ := hc
  have HD := Lib.hid hD
  have HS := Lib.hid hs
  obtain ⟨w2, hw2⟩ : ∃ w2, w2 = (w.alloc (.cells (pkC 0 0) 59)).alloc (.cells (pkC 0 0) 59) := ⟨_, rfl⟩
  have HB2 := Lib.hid (show Below w.heap.size w w2 by rw [hw2]; exact ((Below.refl _ w).alloc (Nat.le_refl _) _).alloc (by simp) _)
  have HR0 := Lib.hid (show Row w2 w.heap.size 59 (pkC 0 0) by rw [hw2]; exact (Row.new w _ _).alloc _)
  have HR1 := Lib.hid (show Row w2 (w.heap.size + 1) 59 (pkC 0 0) by rw [hw2]; exact Row.made _ _ (by simp))
  have HOW := Lib.hid (show w2.ownsMap Tryd.prog 59 (plainElem (H := Unit) Tryd.prog 3) b n D by rw [hw2]; exact (hown.alloc _).alloc _)
  have HKD := Lib.hid pairK
  clear hs hD hown
  go_enter Tryd.func31, Tryd.ntmps31
  go_upto_region 2 with fail
  rw [← hw2]
  clear hw2
  have hz2 : w.heap.size + 1 < w2.heap.size := HR1.out.lt
  go_wp2_with (at_range; refine wpList_range_own _ rfl _ 62 rfl 59 3 HKD.out Tryd.underlying62 _ b n _ rfl HOW.out ?_; intro w0 hrg0 hg0 hs0)
  go_frame
  have HRA0 := Lib.hid (show Row w0 w.heap.size 59 (pkC 0 0) from (hg0.block _ HR0.out.lt (by simp)).trans HR0.out)
  have HRA1 := Lib.hid (show Row w0 (w.heap.size + 1) 59 (pkC 0 0) from (hg0.block _ HR1.out.lt (by simp)).trans HR1.out)
  have HBA := Lib.hid (show Below w.heap.size w w0 from HB2.out.grown hg0 HB2.out.size (fun k hk => by cases hk))
  have HRG0 := Lib.hid hrg0
  have HSE0 := Lib.hid (show SeenB PL (fun A B => Maps.has D (kl A B) = false) 1 0 0 from by
    refine ⟨by unfold in64; omega, by unfold in64; omega, .inl ⟨rfl, fun A B hA hB hd => ?_⟩⟩
    have h9 := HD.out A B hA hB
    rw [atKey_of_not_has hd] at h9
    have := lit_inj h9
    omega)
  clear hrg0 hg0 hs0
  go_loopw [5] (fun nn wr => ∃ (left : Lit → Bool) (cnt N : Nat) (X Y : Int), nn = .int .i64 N ∧ N ≤ 1000000000000 ∧ wr.ranges Tryd.prog 59 (plainElem (H := Unit) Tryd.prog 3) b w2.heap.size n D left cnt ∧ Row wr w.heap.size 59 (pkC 0 0) ∧ Row wr (w.heap.size + 1) 59 (pkC X Y) ∧ Below w.heap.size w wr ∧ Hid (SeenB PL (fun A B => left (kl A B) = false) N X Y)) (fun _ wr => wr.rangeLeft b w2.heap.size)
  case atStart => exact ⟨_, _, 1, 0, 0, rfl, by omega, HRG0.out, HRA0.out, HRA1.out, HBA.out, Lib.hid HSE0.out⟩
  case round =>
    obtain ⟨left, cnt, N, X, Y, rfl, hN, hrg, hr0, hr1, hb, hseen⟩ := hrel
    have HRG := Lib.hid hrg
    have HP0 := Lib.hid hr0
    have HP1 := Lib.hid hr1
    have HB := Lib.hid hb
    have HSE := Lib.hid hseen.out
    clear hrg hr0 hr1 hb hseen HRG0 HRA0 HRA1 HBA HSE0
    go_wp2_with (at_next; refine wpList_next_ranges _ rfl _ rfl 59 HKD.out _ (fun p : Int × Int => pk p.1 p.2) (Value.int .i64) (fun key kl' hk => by obtain ⟨x, y, rfl, _⟩ := pk_inv hk; exact ⟨(x, y), rfl⟩) (fun v y hv => by obtain ⟨c, rfl, _⟩ := plainElem_int_inv Tryd.underlying3 hv; exact ⟨c, rfl⟩) b w2.heap.size n _ _ _ rfl HRG.out ?_ ?_)
    · intro _ hl0
      obtain ⟨r, hbest, hsome, hpp⟩ := seen_best HSE.out (fun A B _ _ => hl0 _) HS.out
      have HBE := Lib.hid hbest
      have HPP := Lib.hid hpp
      have HSO := Lib.hid (show decide ((1 : Int) < (N : Int)) = r.isSome by rw [← hsome, decide_eq_decide]; omega)
      clear hbest hsome hpp hl0
      have hzr := HP1.out.lt
      obtain ⟨d0, d1⟩ := pbox HP1.out
      go_wp2_with (refine wpList_store_row rfl _ _ _ rfl w.heap.size (pkC X Y) rfl rfl _ _ HP0.out (by kernel_rfl) rfl (pk_one X Y) ?_)
      refine bodyPost_ret (v := .tuple #[.agg (pkC X Y), .bool r.isSome]) ?_ rfl ⟨⟨r, X, Y, rfl, HBE.out, HPP.out⟩, below_whole HB.out (Nat.le_refl _) _⟩
      rw [← HSO.out]
      exact results_row_tmp rfl _ _ w.heap.size _ _ _ _ rfl rfl (HP0.out.whole _) Tryd.underlying59 (by rfl) (by kernel_rfl)
    · intro A B c kl' y1 y2 w1 cnt1 hk hlx hv hat hrg1 hlt hg1 hs1 hen
      obtain ⟨A', B', e1, rfl, hA, hB⟩ := pk_inv hk
      obtain ⟨rfl, rfl⟩ : A = A' ∧ B = B' := by
        injection e1 with e1
        have h2 := congrArg (fun x : Array Value => x[0]?) e1
        have h3 := congrArg (fun x : Array Value => x[1]?) e1
        simp at h2 h3
        exact ⟨h2, h3⟩
      obtain ⟨c', ec, ey, hwc⟩ := plainElem_int_inv Tryd.underlying3 hv
      have hcc : c = c' := val_inj ec
      subst hcc
      have hy1 : y1 = .lit (.int .i64 c) := congrArg Prod.fst ey
      subst hy1
      have hce : c = ((cI PL A B : Nat) : Int) := by
        have h9 := HD.out A B hA hB
        rw [hat] at h9
        exact lit_inj h9
      obtain ⟨C, hC⟩ : ∃ C, cI PL A B = C := ⟨_, rfl⟩
      have HCC := Lib.hid hC
      rw [hC] at hce
      subst hce
      have hCP : C ≤ 1000000000000 := by
        rw [← hC]; unfold cI; exact Nat.le_trans (List.countP_le_length) hPL
      have HQ := Lib.hid (show Row (w1.alloc (.cells (pkC A B) 59)) w1.heap.size 59 (pkC A B) from Row.new _ _ _)
      have HRG1 := Lib.hid (hrg1.alloc (.cells (pkC A B) 59))
      have HA0 := Lib.hid (show Row (w1.alloc (.cells (pkC A B) 59)) w.heap.size 59 (pkC 0 0) from (show Row w1 w.heap.size 59 (pkC 0 0) from (hg1.block _ HP0.out.lt (by intro e; injection e with e; omega)).trans HP0.out).alloc _)
      have HA1 := Lib.hid (show Row (w1.alloc (.cells (pkC A B) 59)) (w.heap.size + 1) 59 (pkC X Y) from (show Row w1 (w.heap.size + 1) 59 (pkC X Y) from (hg1.block _ HP1.out.lt (by intro e; injection e with e; omega)).trans HP1.out).alloc _)
      have hb1 : Below w.heap.size w w1 := HB.out.grown hg1 HB.out.size (fun k hk => by injection hk with hk; subst hk; omega)
      have HB1 := Lib.hid (hb1.alloc hb1.size (.cells (pkC A B) 59))
      have HAI := Lib.hid hA
      have HBI := Lib.hid hB
      have HDN := Lib.hid (show ∀ A' B', in64 A' → in64 B' → (left (kl A' B') && !(kl A' B').sameKey (kl A B)) = false → left (kl A' B') = false ∨ (A' = A ∧ B' = B) from fun A' B' hA' hB' h => by
        rw [Bool.and_eq_false_iff] at h
        rcases h with h | h
        · exact .inl h
        · refine .inr (kl_inj hA' hB' hA hB (WideAt.sameKey_eq ?_))
          simpa using h)
      have HLT := Lib.hid hlt
      have HC2 := Lib.hid (fun (W : World) (ha : W.cell? ⟨w1.heap.size, 0, none⟩ = some (.int .i64 A)) (hb : W.cell? ⟨w1.heap.size, 1, none⟩ = some (.int .i64 B)) (hc : W.cell? ⟨w.heap.size + 1, 0, none⟩ = some (.int .i64 X)) (hd : W.cell? ⟨w.heap.size + 1, 1, none⟩ = some (.int .i64 Y)) => comp2_any w1.heap.size (w.heap.size + 1) A B X Y W ha hb hc hd)
      clear hk hlx hv hat hrg1 hlt hg1 hs1 hA hB hb1 hC e1 ec hwc ey
      go_upto_region 6 with fail
      obtain ⟨w3, hw3⟩ : ∃ w3, w3 = w1.alloc (.cells (pkC A B) 59) := ⟨_, rfl⟩
      rw [← hw3] at HQ HRG1 HA0 HA1 HB1 ⊢
      clear hw3 hen
      obtain ⟨tk, htk⟩ : ∃ tk, decide (N < C ∨ (C = N ∧ 1 < N ∧ cmp2 A B X Y < 0)) = tk := ⟨_, rfl⟩
      have HTK := Lib.hid htk
      obtain ⟨a0, a1⟩ := pbox HQ.out
      obtain ⟨d0, d1⟩ := pbox HA1.out
      have hzz := HQ.out.lt
      have hzz1 := HA1.out.lt
      obtain ⟨Z, hZ⟩ : ∃ Z, cmp2 A B X Y = Z := ⟨_, rfl⟩
      rw [hZ] at HC2 HTK
      have HZ := Lib.hid hZ
      clear htk hZ
      go_cut [32] (fun v wx => v = .bool tk ∧ ∃ nq, wx = w3.drewN nq)
      case first =>
        have HC3 := Lib.hid (fun (j : Nat) => HC2.out (w3.drewN j) a0 a1 d0 d1)
        by_cases hg : N < C
        · have hd : decide ((N : Int) < (C : Int)) = true := decide_eq_true (by omega)
          have hd' : decide (N < C) = true := decide_eq_true hg
          have HT := Lib.hid (show tk = true by rw [← HTK.out]; exact decide_eq_true (.inl hg))
          clear hg
          go_quiet (fail)
          go_wp2_with fail
          go_meet
          exact ⟨by rw [HT.out], nq, rfl⟩
        · have hd : decide ((N : Int) < (C : Int)) = false := decide_eq_false (by omega)
          have hd' : decide (N < C) = false := decide_eq_false hg
          by_cases he : C = N
          · have hee : ((C : Int) == (N : Int)) = true := by rw [he]; simp
            have hee' : (C == N) = true := by rw [he]; simp
            by_cases h1 : 1 < N
            · have hd1 : decide ((1 : Int) < (N : Int)) = true := decide_eq_true (by omega)
              have hd1' : decide (1 < N) = true := decide_eq_true h1
              obtain ⟨bz, hbz⟩ : ∃ bz, decide (Z < 0) = bz := ⟨_, rfl⟩
              have HT := Lib.hid (show tk = bz by
                rw [← HTK.out, ← hbz, decide_eq_decide]
                exact ⟨fun h => by
                  rcases h with h | h
                  · exact absurd h hg
                  · exact h.2.2, fun h => .inr ⟨he, h1, h⟩⟩)
              clear hg he h1
              go_quiet ((go_at_call 67; exact Calls.quiet_of_same (HC3.out _)))
              go_wp2_with fail
              go_meet
              exact ⟨by rw [HT.out], nq, rfl⟩
            · have hd1 : decide ((1 : Int) < (N : Int)) = false := decide_eq_false (by omega)
              have hd1' : decide (1 < N) = false := decide_eq_false h1
              have HT := Lib.hid (show tk = false by
                rw [← HTK.out]
                exact decide_eq_false (fun h => by
                  rcases h with h | h
                  · exact hg h
                  · exact h1 h.2.1))
              clear hg he h1
              go_quiet (fail)
              go_wp2_with fail
              go_meet
              exact ⟨by rw [HT.out], nq, rfl⟩
          · have hee : ((C : Int) == (N : Int)) = false := by rw [beq_eq_false_iff_ne]; omega
            have hee' : (C == N) = false := by rw [beq_eq_false_iff_ne]; exact he
            have HT := Lib.hid (show tk = false by
              rw [← HTK.out]
              exact decide_eq_false (fun h => by
                rcases h with h | h
                · exact hg h
                · exact he h.1))
            clear hg he
            go_quiet (fail)
            go_wp2_with fail
            go_meet
            exact ⟨by rw [HT.out], nq, rfl⟩
      case rest =>
        obtain ⟨rfl, nq, hwc⟩ := hcut
        have HRG2 := Lib.hid (show wc.ranges Tryd.prog 59 (plainElem (H := Unit) Tryd.prog 3) b w2.heap.size n D (fun z => left z && !z.sameKey (kl A B)) cnt1 by rw [hwc]; exact HRG1.out)
        have HQ2 := Lib.hid (show Row wc w1.heap.size 59 (pkC A B) by rw [hwc]; exact HQ.out)
        have HA02 := Lib.hid (show Row wc w.heap.size 59 (pkC 0 0) by rw [hwc]; exact HA0.out)
        have HA12 := Lib.hid (show Row wc (w.heap.size + 1) 59 (pkC X Y) by rw [hwc]; exact HA1.out)
        have HB2 := Lib.hid (show Below w.heap.size w wc by rw [hwc]; exact below_drewN HB1.out nq)
        clear hwc a0 a1 d0 d1 hzz hzz1
        cases tk
        · have HSN := Lib.hid (seen_skip HSE.out HDN.out (by
            have h9 := of_decide_eq_false HTK.out
            rw [HCC.out, HZ.out]
            exact h9))
          go_wp2_with fail
          go_roundw
          case rel => exact ⟨_, cnt1, N, X, Y, rfl, hN, HRG2.out, HA02.out, HA12.out, HB2.out, Lib.hid HSN.out⟩
          case measure => rw [HRG2.out.left_eq, HRG.out.left_eq]; exact HLT.out
        · have HSY := Lib.hid (seen_take HSE.out HAI.out HBI.out HDN.out (by
            have h9 := of_decide_eq_true HTK.out
            rw [HCC.out, HZ.out]
            exact h9))
          rw [HCC.out] at HSY
          obtain ⟨a0, a1⟩ := pbox HQ2.out
          have hzz := HQ2.out.lt
          go_wp2_with (refine wpList_store_row rfl _ _ _ rfl (w.heap.size + 1) (pkC A B) rfl rfl _ _ HA12.out (by kernel_rfl) rfl (pk_one A B) ?_)
          have HRG3 := Lib.hid (HRG2.out.kept (grown_setRow (g := w.heap.size + 1) (pkC A B)) (by intro e; injection e with e; have := HBL.out; omega) (by intro e; injection e with e; omega))
          go_roundw
          case rel => exact ⟨_, cnt1, C, A, B, rfl, hCP, HRG3.out, HA02.out.apart (by omega) _, HA12.out.whole _, below_whole HB2.out (by omega) _, Lib.hid HSY.out⟩
          case measure => rw [HRG3.out.left_eq, HRG.out.left_eq]; exact HLT.out
end Go.Proofs.YtghinmlpkgcdiaaDoor
