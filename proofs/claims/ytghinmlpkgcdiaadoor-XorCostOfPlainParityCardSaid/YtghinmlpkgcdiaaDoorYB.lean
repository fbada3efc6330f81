/- Schedules: the best pair, the walk. Schedules: deleting a pair from a set. Schedules: copies of rows of numbers and of operations. Schedules: Shorten, what stands in memory. -/
import Derived.Test.YtghinmlpkgcdiaaDoorYA
import Derived.Deep.DeepCutAuto
import Derived.Lib.SliceRun
import Derived.Maps.AppendAt
/-! Schedules: the best pair, the walk. -/
namespace Go.Proofs.YtghinmlpkgcdiaaDoor
set_option linter.unusedSimpArgs false
set_option linter.unusedVariables false
open Go.RowKit Go.Lib Go.Maps Xp

/-- what is known of the pairs that have come: N the greatest number, at least 1, p the first pair of that number -/
def SeenB (PL : List (Nat × Nat)) (done : Int → Int → Prop) (N : Nat) (X Y : Int) : Prop :=
  in64 X ∧ in64 Y ∧ ((N = 1 ∧ ∀ A B, in64 A → in64 B → done A B → cI PL A B ≤ 1) ∨
  (2 ≤ N ∧ cI PL X Y = N ∧ ∀ A B, in64 A → in64 B → done A B → cI PL A B ≤ N ∧ (cI PL A B = N → X < A ∨ (X = A ∧ Y ≤ B))))
theorem cmp2_neg {A B X Y : Int} : cmp2 A B X Y < 0 ↔ A < X ∨ (A = X ∧ B < Y) := by
  unfold cmp2
  by_cases h : A = X
  · rw [if_pos (cmp1_zero.2 h)]
    unfold cmp1
    repeat' split
    all_goals omega
  · rw [if_neg (fun e => h (cmp1_zero.1 e))]
    unfold cmp1
    repeat' split
    all_goals omega
theorem cI_mem {PL : List (Nat × Nat)} {A B : Int} (h : 0 < cI PL A B) : ∃ a b : Nat, A = a ∧ B = b := by
  unfold cI at h
  obtain ⟨p, _, hp⟩ := List.countP_pos_iff.1 h
  simp only [Bool.and_eq_true, decide_eq_true_eq] at hp
  exact ⟨p.1, p.2, hp.1.symm, hp.2.symm⟩
theorem seen_best {PL : List (Nat × Nat)} {done : Int → Int → Prop} {N : Nat} {X Y : Int} (h : SeenB PL done N X Y) (hd : ∀ A B, in64 A → in64 B → done A B) (hs : ∀ p ∈ PL, p.1 ≤ 1000000000 ∧ p.2 ≤ 1000000000) :
    ∃ r : Option (Nat × Nat), IsBest PL r ∧ (decide (1 < N) = r.isSome) ∧ ∀ p, r = some p → X = (p.1 : Int) ∧ Y = (p.2 : Int) := by
  obtain ⟨hX, hY, h⟩ := h
  have hin : ∀ q : Nat × Nat, 0 < PL.count q → in64 (q.1 : Int) ∧ in64 (q.2 : Int) := fun q hq => by
    have := hs q (List.count_pos_iff.1 hq)
    unfold in64; omega
  rcases h with ⟨rfl, h⟩ | ⟨h2, hc, h⟩
  · refine ⟨none, fun q => ?_, rfl, fun p hp => by cases hp⟩
    by_cases hq : 0 < PL.count q
    · have h9 := h q.1 q.2 (hin q hq).1 (hin q hq).2 (hd _ _ (hin q hq).1 (hin q hq).2)
      rwa [cI_nat] at h9
    · omega
  · obtain ⟨a, b, rfl, rfl⟩ := cI_mem (PL := PL) (A := X) (B := Y) (by omega)
    rw [cI_nat] at hc
    refine ⟨some (a, b), ⟨by omega, fun q => ?_⟩, by rw [decide_eq_true (by omega)]; rfl, fun p hp => by injection hp with hp; subst hp; exact ⟨rfl, rfl⟩⟩
    by_cases hq : 0 < PL.count q
    · have h9 := h q.1 q.2 (hin q hq).1 (hin q hq).2 (hd _ _ (hin q hq).1 (hin q hq).2)
      rw [cI_nat] at h9
      refine ⟨by rw [hc]; exact h9.1, fun e => ?_⟩
      have h8 := h9.2 (by rw [hc] at e; exact e)
      unfold ple
      show a < q.1 ∨ (a = q.1 ∧ b ≤ q.2)
      omega
    · exact ⟨by omega, fun e => by omega⟩
theorem seen_skip {PL : List (Nat × Nat)} {done done' : Int → Int → Prop} {N : Nat} {X Y A B : Int} (h : SeenB PL done N X Y) (hd : ∀ A' B', in64 A' → in64 B' → done' A' B' → done A' B' ∨ (A' = A ∧ B' = B))
    (hno : ¬ (N < cI PL A B ∨ (cI PL A B = N ∧ 1 < N ∧ cmp2 A B X Y < 0))) : SeenB PL done' N X Y := by
  obtain ⟨hX, hY, h⟩ := h
  refine ⟨hX, hY, ?_⟩
  rw [cmp2_neg] at hno
  rcases h with ⟨rfl, h⟩ | ⟨h2, hc, h⟩
  · refine .inl ⟨rfl, fun A' B' hA hB hd' => ?_⟩
    rcases hd A' B' hA hB hd' with h9 | ⟨rfl, rfl⟩
    · exact h A' B' hA hB h9
    · omega
  · refine .inr ⟨h2, hc, fun A' B' hA hB hd' => ?_⟩
    rcases hd A' B' hA hB hd' with h9 | ⟨rfl, rfl⟩
    · exact h A' B' hA hB h9
    · refine ⟨by omega, fun e => ?_⟩
      have : ¬ (A' < X ∨ (A' = X ∧ B' < Y)) := fun h' => hno (.inr ⟨e, by omega, h'⟩)
      omega
theorem seen_take {PL : List (Nat × Nat)} {done done' : Int → Int → Prop} {N : Nat} {X Y A B : Int} (h : SeenB PL done N X Y) (hA : in64 A) (hB : in64 B) (hd : ∀ A' B', in64 A' → in64 B' → done' A' B' → done A' B' ∨ (A' = A ∧ B' = B))
    (hyes : N < cI PL A B ∨ (cI PL A B = N ∧ 1 < N ∧ cmp2 A B X Y < 0)) : SeenB PL done' (cI PL A B) A B := by
  obtain ⟨hX, hY, h⟩ := h
  rw [cmp2_neg] at hyes
  refine ⟨hA, hB, .inr ⟨?_, rfl, fun A' B' hA' hB' hd' => ?_⟩⟩
  · rcases h with ⟨rfl, h⟩ | ⟨h2, hc, h⟩ <;> omega
  · rcases hd A' B' hA' hB' hd' with h9 | ⟨rfl, rfl⟩
    · rcases h with ⟨rfl, h⟩ | ⟨h2, hc, h⟩
      · have h8 := h A' B' hA' hB' h9
        exact ⟨by omega, fun e => by omega⟩
      · have h8 := h A' B' hA' hB' h9
        exact ⟨by omega, fun e => by omega⟩
    · exact ⟨Nat.le_refl _, fun _ => by omega⟩
theorem pk_one (a b : Int) : (#[.int .i64 a, .int .i64 b] : Array Value).all (·.oneCell') = true := by simp [Value.oneCell']
abbrev pkC (a b : Int) : Array Value := #[.int .i64 a, .int .i64 b]
theorem pbox {w : World} {g : Nat} {t : TypeId} {a b : Int} (h : Row w g t (pkC a b)) : w.cell? ⟨g, 0, none⟩ = some (.int .i64 a) ∧ w.cell? ⟨g, 1, none⟩ = some (.int .i64 b) := ⟨h.cell 0, h.cell 1⟩
theorem grown_setRow {w : World} {g : Nat} (cs : Array Value) : w.grownBy (w.setRow g cs) (some g) :=
  ⟨rfl, rfl, rfl, by simp [World.setRow], fun i _ hne => setRow_other _ _ _ _ (fun e => hne (by rw [e]))⟩
set_option maxRecDepth 100000 in
set_option maxHeartbeats 12800000 in
theorem best_any (b n : Nat) (PL : List (Nat × Nat)) (w : World) (hc : CntM w b n PL) (hs : ∀ p ∈ PL, p.1 ≤ 1000000000 ∧ p.2 ≤ 1000000000) (hPL : PL.length ≤ 1000000000000) :
    Calls Tryd.prog 31 #[.map (some b)] w fun e w' => (∃ (r : Option (Nat × Nat)) (X Y : Int), e = .returned (.tuple #[.agg (pkC X Y), .bool r.isSome]) ∧ IsBest PL r ∧ ∀ p, r = some p → X = (p.1 : Int) ∧ Y = (p.2 : Int)) ∧ Below w.heap.size w w' := by
  have HBL := Lib.hid hc.lt
  obtain ⟨D, hown, hD⟩ := hc
  have HD := Lib.hid hD
  have HS := Lib.hid hs
  obtain ⟨w2, hw2⟩ : ∃ w2, w2 = (w.alloc (.cells (pkC 0 0) 59)).alloc (.cells (pkC 0 0) 59) := ⟨_, rfl⟩
  have HB2 := Lib.hid (show Below w.heap.size w w2 by rw [hw2]; exact ((Below.refl _ w).alloc (Nat.le_refl _) _).alloc (by simp) _)
  have HR0 := Lib.hid (show Row w2 w.heap.size 59 (pkC 0 0) by rw [hw2]; exact (Row.new w _ _).alloc _)
  have HR1 := Lib.hid (show Row w2 (w.heap.size + 1) 59 (pkC 0 0) by rw [hw2]; exact Row.made _ _ (by simp))
  have HOW := Lib.hid (show w2.ownsMap Tryd.prog 59 (plainElem (H := Unit) Tryd.prog 3) b n D by rw [hw2]; exact (hown.alloc _).alloc _)
  have HKD := Lib.hid pairK
  clear hs hD hown
  go_enter Tryd.func31, Tryd.ntmps31
  go_upto_region 2 with fail
  rw [← hw2]
  clear hw2
  have hz2 : w.heap.size + 1 < w2.heap.size := HR1.out.lt
  go_wp2_with (at_range; refine wpList_range_own _ rfl _ 62 rfl 59 3 HKD.out Tryd.underlying62 _ b n _ rfl HOW.out ?_; intro w0 hrg0 hg0 hs0)
  go_frame
  have HRA0 := Lib.hid (show Row w0 w.heap.size 59 (pkC 0 0) from (hg0.block _ HR0.out.lt (by simp)).trans HR0.out)
  have HRA1 := Lib.hid (show Row w0 (w.heap.size + 1) 59 (pkC 0 0) from (hg0.block _ HR1.out.lt (by simp)).trans HR1.out)
  have HBA := Lib.hid (show Below w.heap.size w w0 from HB2.out.grown hg0 HB2.out.size (fun k hk => by cases hk))
  have HRG0 := Lib.hid hrg0
  have HSE0 := Lib.hid (show SeenB PL (fun A B => Maps.has D (kl A B) = false) 1 0 0 from by
    refine ⟨by unfold in64; omega, by unfold in64; omega, .inl ⟨rfl, fun A B hA hB hd => ?_⟩⟩
    have h9 := HD.out A B hA hB
    rw [atKey_of_not_has hd] at h9
    have := lit_inj h9
    omega)
  clear hrg0 hg0 hs0
  go_loopw [5] (fun nn wr => ∃ (left : Lit → Bool) (cnt N : Nat) (X Y : Int), nn = .int .i64 N ∧ N ≤ 1000000000000 ∧ wr.ranges Tryd.prog 59 (plainElem (H := Unit) Tryd.prog 3) b w2.heap.size n D left cnt ∧ Row wr w.heap.size 59 (pkC 0 0) ∧ Row wr (w.heap.size + 1) 59 (pkC X Y) ∧ Below w.heap.size w wr ∧ Hid (SeenB PL (fun A B => left (kl A B) = false) N X Y)) (fun _ wr => wr.rangeLeft b w2.heap.size)
  case atStart => exact ⟨_, _, 1, 0, 0, rfl, by omega, HRG0.out, HRA0.out, HRA1.out, HBA.out, Lib.hid HSE0.out⟩
  case round =>
    obtain ⟨left, cnt, N, X, Y, rfl, hN, hrg, hr0, hr1, hb, hseen⟩ := hrel
    have HRG := Lib.hid hrg
    have HP0 := Lib.hid hr0
    have HP1 := Lib.hid hr1
    have HB := Lib.hid hb
    have HSE := Lib.hid hseen.out
    clear hrg hr0 hr1 hb hseen HRG0 HRA0 HRA1 HBA HSE0
    go_wp2_with (at_next; refine wpList_next_ranges _ rfl _ rfl 59 HKD.out _ (fun p : Int × Int => pk p.1 p.2) (Value.int .i64) (fun key kl' hk => by obtain ⟨x, y, rfl, _⟩ := pk_inv hk; exact ⟨(x, y), rfl⟩) (fun v y hv => by obtain ⟨c, rfl, _⟩ := plainElem_int_inv Tryd.underlying3 hv; exact ⟨c, rfl⟩) b w2.heap.size n _ _ _ rfl HRG.out ?_ ?_)
    · intro _ hl0
      obtain ⟨r, hbest, hsome, hpp⟩ := seen_best HSE.out (fun A B _ _ => hl0 _) HS.out
      have HBE := Lib.hid hbest
      have HPP := Lib.hid hpp
      have HSO := Lib.hid (show decide ((1 : Int) < (N : Int)) = r.isSome by rw [← hsome, decide_eq_decide]; omega)
      clear hbest hsome hpp hl0
      have hzr := HP1.out.lt
      obtain ⟨d0, d1⟩ := pbox HP1.out
      go_wp2_with (refine wpList_store_row rfl _ _ _ rfl w.heap.size (pkC X Y) rfl rfl _ _ HP0.out (by kernel_rfl) rfl (pk_one X Y) ?_)
      refine bodyPost_ret (v := .tuple #[.agg (pkC X Y), .bool r.isSome]) ?_ rfl ⟨⟨r, X, Y, rfl, HBE.out, HPP.out⟩, below_whole HB.out (Nat.le_refl _) _⟩
      rw [← HSO.out]
      exact results_row_tmp rfl _ _ w.heap.size _ _ _ _ rfl rfl (HP0.out.whole _) Tryd.underlying59 (by rfl) (by kernel_rfl)
    · intro A B c kl' y1 y2 w1 cnt1 hk hlx hv hat hrg1 hlt hg1 hs1 hen
      obtain ⟨A', B', e1, rfl, hA, hB⟩ := pk_inv hk
      obtain ⟨rfl, rfl⟩ : A = A' ∧ B = B' := by
        injection e1 with e1
        have h2 := congrArg (fun x : Array Value => x[0]?) e1
        have h3 := congrArg (fun x : Array Value => x[1]?) e1
        simp at h2 h3
        exact ⟨h2, h3⟩
      obtain ⟨c', ec, ey, hwc⟩ := plainElem_int_inv Tryd.underlying3 hv
      have hcc : c = c' := val_inj ec
      subst hcc
      have hy1 : y1 = .lit (.int .i64 c) := congrArg Prod.fst ey
      subst hy1
      have hce : c = ((cI PL A B : Nat) : Int) := by
        have h9 := HD.out A B hA hB
        rw [hat] at h9
        exact lit_inj h9
      obtain ⟨C, hC⟩ : ∃ C, cI PL A B = C := ⟨_, rfl⟩
      have HCC := Lib.hid hC
      rw [hC] at hce
      subst hce
      have hCP : C ≤ 1000000000000 := by
        rw [← hC]; unfold cI; exact Nat.le_trans (List.countP_le_length) hPL
      have HQ := Lib.hid (show Row (w1.alloc (.cells (pkC A B) 59)) w1.heap.size 59 (pkC A B) from Row.new _ _ _)
      have HRG1 := Lib.hid (hrg1.alloc (.cells (pkC A B) 59))
      have HA0 := Lib.hid (show Row (w1.alloc (.cells (pkC A B) 59)) w.heap.size 59 (pkC 0 0) from (show Row w1 w.heap.size 59 (pkC 0 0) from (hg1.block _ HP0.out.lt (by intro e; injection e with e; omega)).trans HP0.out).alloc _)
      have HA1 := Lib.hid (show Row (w1.alloc (.cells (pkC A B) 59)) (w.heap.size + 1) 59 (pkC X Y) from (show Row w1 (w.heap.size + 1) 59 (pkC X Y) from (hg1.block _ HP1.out.lt (by intro e; injection e with e; omega)).trans HP1.out).alloc _)
      have hb1 : Below w.heap.size w w1 := HB.out.grown hg1 HB.out.size (fun k hk => by injection hk with hk; subst hk; omega)
      have HB1 := Lib.hid (hb1.alloc hb1.size (.cells (pkC A B) 59))
      have HAI := Lib.hid hA
      have HBI := Lib.hid hB
      have HDN := Lib.hid (show ∀ A' B', in64 A' → in64 B' → (left (kl A' B') && !(kl A' B').sameKey (kl A B)) = false → left (kl A' B') = false ∨ (A' = A ∧ B' = B) from fun A' B' hA' hB' h => by
        rw [Bool.and_eq_false_iff] at h
        rcases h with h | h
        · exact .inl h
        · refine .inr (kl_inj hA' hB' hA hB (WideAt.sameKey_eq ?_))
          simpa using h)
      have HLT := Lib.hid hlt
      have HC2 := Lib.hid (fun (W : World) (ha : W.cell? ⟨w1.heap.size, 0, none⟩ = some (.int .i64 A)) (hb : W.cell? ⟨w1.heap.size, 1, none⟩ = some (.int .i64 B)) (hc : W.cell? ⟨w.heap.size + 1, 0, none⟩ = some (.int .i64 X)) (hd : W.cell? ⟨w.heap.size + 1, 1, none⟩ = some (.int .i64 Y)) => comp2_any w1.heap.size (w.heap.size + 1) A B X Y W ha hb hc hd)
      clear hk hlx hv hat hrg1 hlt hg1 hs1 hA hB hb1 hC e1 ec hwc ey
      go_upto_region 6 with fail
      obtain ⟨w3, hw3⟩ : ∃ w3, w3 = w1.alloc (.cells (pkC A B) 59) := ⟨_, rfl⟩
      rw [← hw3] at HQ HRG1 HA0 HA1 HB1 ⊢
      clear hw3 hen
      obtain ⟨tk, htk⟩ : ∃ tk, decide (N < C ∨ (C = N ∧ 1 < N ∧ cmp2 A B X Y < 0)) = tk := ⟨_, rfl⟩
      have HTK := Lib.hid htk
      obtain ⟨a0, a1⟩ := pbox HQ.out
      obtain ⟨d0, d1⟩ := pbox HA1.out
      have hzz := HQ.out.lt
      have hzz1 := HA1.out.lt
      obtain ⟨Z, hZ⟩ : ∃ Z, cmp2 A B X Y = Z := ⟨_, rfl⟩
      rw [hZ] at HC2 HTK
      have HZ := Lib.hid hZ
      clear htk hZ
      go_cut [32] (fun v wx => v = .bool tk ∧ ∃ nq, wx = w3.drewN nq)
      case first =>
        have HC3 := Lib.hid (fun (j : Nat) => HC2.out (w3.drewN j) a0 a1 d0 d1)
        by_cases hg : N < C
        · have hd : decide ((N : Int) < (C : Int)) = true := decide_eq_true (by omega)
          have hd' : decide (N < C) = true := decide_eq_true hg
          have HT := Lib.hid (show tk = true by rw [← HTK.out]; exact decide_eq_true (.inl hg))
          clear hg
          go_quiet (fail)
          go_wp2_with fail
          go_meet
          exact ⟨by rw [HT.out], nq, rfl⟩
        · have hd : decide ((N : Int) < (C : Int)) = false := decide_eq_false (by omega)
          have hd' : decide (N < C) = false := decide_eq_false hg
          by_cases he : C = N
          · have hee : ((C : Int) == (N : Int)) = true := by rw [he]; simp
            have hee' : (C == N) = true := by rw [he]; simp
            by_cases h1 : 1 < N
            · have hd1 : decide ((1 : Int) < (N : Int)) = true := decide_eq_true (by omega)
              have hd1' : decide (1 < N) = true := decide_eq_true h1
              obtain ⟨bz, hbz⟩ : ∃ bz, decide (Z < 0) = bz := ⟨_, rfl⟩
              have HT := Lib.hid (show tk = bz by
                rw [← HTK.out, ← hbz, decide_eq_decide]
                exact ⟨fun h => by
                  rcases h with h | h
                  · exact absurd h hg
                  · exact h.2.2, fun h => .inr ⟨he, h1, h⟩⟩)
              clear hg he h1
              go_quiet ((go_at_call 67; exact Calls.quiet_of_same (HC3.out _)))
              go_wp2_with fail
              go_meet
              exact ⟨by rw [HT.out], nq, rfl⟩
            · have hd1 : decide ((1 : Int) < (N : Int)) = false := decide_eq_false (by omega)
              have hd1' : decide (1 < N) = false := decide_eq_false h1
              have HT := Lib.hid (show tk = false by
                rw [← HTK.out]
                exact decide_eq_false (fun h => by
                  rcases h with h | h
                  · exact hg h
                  · exact h1 h.2.1))
              clear hg he h1
              go_quiet (fail)
              go_wp2_with fail
              go_meet
              exact ⟨by rw [HT.out], nq, rfl⟩
          · have hee : ((C : Int) == (N : Int)) = false := by rw [beq_eq_false_iff_ne]; omega
            have hee' : (C == N) = false := by rw [beq_eq_false_iff_ne]; exact he
            have HT := Lib.hid (show tk = false by
              rw [← HTK.out]
              exact decide_eq_false (fun h => by
                rcases h with h | h
                · exact hg h
                · exact he h.1))
            clear hg he
            go_quiet (fail)
            go_wp2_with fail
            go_meet
            exact ⟨by rw [HT.out], nq, rfl⟩
      case rest =>
        obtain ⟨rfl, nq, hwc⟩ := hcut
        have HRG2 := Lib.hid (show wc.ranges Tryd.prog 59 (plainElem (H := Unit) Tryd.prog 3) b w2.heap.size n D (fun z => left z && !z.sameKey (kl A B)) cnt1 by rw [hwc]; exact HRG1.out)
        have HQ2 := Lib.hid (show Row wc w1.heap.size 59 (pkC A B) by rw [hwc]; exact HQ.out)
        have HA02 := Lib.hid (show Row wc w.heap.size 59 (pkC 0 0) by rw [hwc]; exact HA0.out)
        have HA12 := Lib.hid (show Row wc (w.heap.size + 1) 59 (pkC X Y) by rw [hwc]; exact HA1.out)
        have HB2 := Lib.hid (show Below w.heap.size w wc by rw [hwc]; exact below_drewN HB1.out nq)
        clear hwc a0 a1 d0 d1 hzz hzz1
        cases tk
        · have HSN := Lib.hid (seen_skip HSE.out HDN.out (by
            have h9 := of_decide_eq_false HTK.out
            rw [HCC.out, HZ.out]
            exact h9))
          go_wp2_with fail
          go_roundw
          case rel => exact ⟨_, cnt1, N, X, Y, rfl, hN, HRG2.out, HA02.out, HA12.out, HB2.out, Lib.hid HSN.out⟩
          case measure => rw [HRG2.out.left_eq, HRG.out.left_eq]; exact HLT.out
        · have HSY := Lib.hid (seen_take HSE.out HAI.out HBI.out HDN.out (by
            have h9 := of_decide_eq_true HTK.out
            rw [HCC.out, HZ.out]
            exact h9))
          rw [HCC.out] at HSY
          obtain ⟨a0, a1⟩ := pbox HQ2.out
          have hzz := HQ2.out.lt
          go_wp2_with (refine wpList_store_row rfl _ _ _ rfl (w.heap.size + 1) (pkC A B) rfl rfl _ _ HA12.out (by kernel_rfl) rfl (pk_one A B) ?_)
          have HRG3 := Lib.hid (HRG2.out.kept (grown_setRow (g := w.heap.size + 1) (pkC A B)) (by intro e; injection e with e; have := HBL.out; omega) (by intro e; injection e with e; omega))
          go_roundw
          case rel => exact ⟨_, cnt1, C, A, B, rfl, hCP, HRG3.out, HA02.out.apart (by omega) _, HA12.out.whole _, below_whole HB2.out (by omega) _, Lib.hid HSY.out⟩
          case measure => rw [HRG3.out.left_eq, HRG.out.left_eq]; exact HLT.out
end Go.Proofs.YtghinmlpkgcdiaaDoor
/-! Schedules: deleting a pair from a set. -/
namespace Go.Proofs.YtghinmlpkgcdiaaDoor
set_option linter.unusedSimpArgs false
set_option linter.unusedVariables false
open Go.RowKit Go.Lib

theorem own_take {w : World} {B : Nat} {e : TypeId} {g n c m : Nat} {xs : List Value} (h : Own w B e (some ⟨g, 0, none⟩) n c xs) (hm : m ≤ n) : Own w B e (some ⟨g, 0, none⟩) m c (xs.take m) := by
  have hl := h.len
  refine ⟨by rw [List.length_take]; omega, .inr ?_⟩
  rcases h.2 with ⟨hv, _⟩ | ⟨g1, cap, cur, hv, hb, hg, hn, hc, hs, ht⟩
  · injection hv with e1; cases e1
  · injection hv with e1 _ e3
    injection e1 with e1
    injection e1 with e1
    subst e1; subst e3
    refine ⟨g, c, cur, rfl, hb, hg, by omega, hc, hs, ?_⟩
    rw [← ht, List.take_take]
    congr 1
    omega
theorem own_clear {B : Nat} {e : TypeId} {g n c : Nat} : ∀ (vs : List Value) (i : Nat) (w : World) (xs : List Value), Own w B e (some ⟨g, 0, none⟩) n c xs → i + vs.length ≤ n →
    (∃ xs', Own (w.setCells g i vs) B e (some ⟨g, 0, none⟩) n c xs' ∧ xs'.take i = xs.take i) ∧ Only (fun k => k = g) w (w.setCells g i vs)
  | [], i, w, xs, h, _ => ⟨⟨xs, h, rfl⟩, Only.refl _ _⟩
  | v :: vs, i, w, xs, h, hi => by
    simp only [List.length_cons] at hi
    have h1 := h.put (k := i) (by omega) v
    obtain ⟨⟨xs', h2, h3⟩, h4⟩ := own_clear vs (i + 1) _ _ h1 (by omega)
    refine ⟨⟨xs', h2, ?_⟩, Only.trans (X := fun k => k = g) (Only.setCell (Only.refl (fun k => k = g) w) (p := ⟨g, i, none⟩) rfl v) h4⟩
    have h5 := congrArg (List.take i) h3
    rw [List.take_take, List.take_take, Nat.min_eq_left (by omega), List.take_set_of_le (Nat.le_refl _)] at h5
    exact h5
theorem shc_any (g : Nat) (a b x : Nat) (w : World) (hg : Row w g 59 (pkC a b)) :
    Calls Tryd.prog 36 #[.int .i64 (x : Int), .pointer (some ⟨g, 0, none⟩)] w fun e w' => e = .returned (.bool (x == a || x == b)) ∧ w' = w := by
  obtain ⟨c0, c1⟩ := pbox hg
  have hlt := hg.lt
  clear hg
  obtain ⟨b1, h1⟩ : ∃ b1, (x == a) = b1 := ⟨_, rfl⟩
  obtain ⟨b2, h2⟩ : ∃ b2, (x == b) = b2 := ⟨_, rfl⟩
  have h1' : ((x : Int) == (a : Int)) = b1 := by rw [← h1, Bool.eq_iff_iff, beq_iff_eq, beq_iff_eq]; omega
  have h2' : ((x : Int) == (b : Int)) = b2 := by rw [← h2, Bool.eq_iff_iff, beq_iff_eq, beq_iff_eq]; omega
  rw [h1, h2]
  clear h1 h2
  cases b1
  · go_enter Tryd.func36, Tryd.ntmps36
    go_wp2
    go_ret
    exact ⟨rfl, rfl⟩
  · go_enter Tryd.func36, Tryd.ntmps36
    go_wp2
    go_ret
    exact ⟨rfl, rfl⟩
/-- what stays when a and b go -/
abbrev keepAB (a b : Nat) (x : Nat) : Bool := !(x == a || x == b)
set_option maxRecDepth 100000 in
set_option maxHeartbeats 1600000 in
theorem shix_any (g : Nat) (a b : Nat) (q : Option Addr) (n k : Nat) (l : List Nat) (w : World) (hg : Row w g 59 (pkC a b)) (hl : l.length = n) (hn : n ≤ 1000000) (hr : Rd w w.heap.size q (nts l)) (hm : a ∈ l) :
    Calls Tryd.prog 69 #[.slice q n k, .func (.func 36) #[] #[.pointer (some ⟨g, 0, none⟩)]] w fun e w' => (∃ i : Nat, e = .returned (.int .i64 i) ∧ i < n ∧ (l.take i).filter (keepAB a b) = l.take i ∧ ∃ y, l[i]? = some y ∧ keepAB a b y = false) ∧ w' = w := by
  have HR := Lib.hid hr
  have HL := Lib.hid hl
  have HF := Lib.hid (fun (x : Nat) => shc_any g a b x w hg)
  have HM := Lib.hid hm
  clear hr hl hg hm
  go_enter Tryd.func69, Tryd.ntmps69
  go_wp2
  go_loop [8] (fun i => ∃ k : Nat, k ≤ n ∧ i = .int .i64 k ∧ Hid (∀ x ∈ l.take k, keepAB a b x = true)) (fun i => n - (intOf i).toNat)
  case atStart => exact ⟨0, by omega, rfl, Lib.hid (by simp)⟩
  case round =>
    obtain ⟨t, ht, rfl, ha⟩ := hrel
    have HA := Lib.hid ha.out
    clear ha
    by_cases hlt : t < n
    · obtain ⟨x, hx⟩ : ∃ x, l[t]? = some x := ⟨_, List.getElem?_eq_getElem (by rw [HL.out]; exact hlt)⟩
      obtain ⟨b', off, rfl, hb, hc⟩ := HR.out t (.int .i64 (x : Int)) (nts_get hx)
      have HX := Lib.hid hx
      clear hx
      obtain ⟨bx, hbx⟩ : ∃ bx, (x == a || x == b) = bx := ⟨_, rfl⟩
      have HC := Lib.hid (HF.out x)
      rw [hbx] at HC
      have HBX := Lib.hid hbx
      clear hbx
      go_wp2_with fail
      refine HC.out.mono ?_
      rintro e w1 ⟨rfl, rfl⟩
      cases bx
      · have HA2 := Lib.hid (show ∀ y ∈ l.take (t + 1), keepAB a b y = true from fun y hy => by
          rw [List.take_add_one, HX.out] at hy
          rcases List.mem_append.1 hy with hy | hy
          · exact HA.out y hy
          · have : y = x := by simpa using hy
            subst this
            unfold keepAB
            rw [HBX.out]; rfl)
        go_wp2
        go_round
        case rel => exact ⟨t + 1, by omega, by go_num, Lib.hid HA2.out⟩
        case measure => simp [intOf]; omega
      · have HFI := Lib.hid (show (l.take t).filter (keepAB a b) = l.take t from List.filter_eq_self.2 HA.out)
        go_wp2
        go_ret
        exact ⟨⟨t, rfl, hlt, HFI.out, x, HX.out, by unfold keepAB; rw [HBX.out]; rfl⟩, rfl⟩
    · exfalso
      have h9 := HA.out a (by rw [List.take_of_length_le (by rw [HL.out]; omega)]; exact HM.out)
      unfold keepAB at h9
      simp at h9
set_option maxRecDepth 100000 in
set_option maxHeartbeats 6400000 in
theorem delete_any (gp a b B g n k : Nat) (l : List Nat) (w : World) (hp : Row w gp 59 (pkC a b)) (hl : l.length = n) (hn : n ≤ 1000000) (ho : Own w B 3 (some ⟨g, 0, none⟩) n k (nts l)) (ha : a ∈ l) :
    Calls Tryd.prog 35 #[.slice (some ⟨g, 0, none⟩) n k, .func (.func 36) #[] #[.pointer (some ⟨gp, 0, none⟩)]] w fun e w' => e = .returned (.slice (some ⟨g, 0, none⟩) (l.filter (keepAB a b)).length k) ∧ Own w' B 3 (some ⟨g, 0, none⟩) (l.filter (keepAB a b)).length k (nts (l.filter (keepAB a b))) ∧ Only (fun k => k = g) w w' := by
  have HIX := Lib.hid (shix_any gp a b (some ⟨g, 0, none⟩) n k l w hp hl hn ho.rd ha)
  have hgg : gp ≠ g := fun e => by
    subst e
    obtain ⟨cs, hr, _⟩ := ho.row rfl
    exact absurd (hr.type hp) (by decide)
  have HSC := Lib.hid (fun (x : Nat) (W : World) (h : Only (fun k => k = g) w W) => shc_any gp a b x W (h.row hp (fun e => hgg e)))
  have HO := Lib.hid ho
  have HL := Lib.hid hl
  have HCAP := Lib.hid ho.cap
  clear hp hl ho ha
  go_enter Tryd.func35, Tryd.ntmps35
  go_wp2_with fail
  refine HIX.out.mono ?_
  rintro e w1 ⟨⟨i0, rfl, hi0, hfl, y0, hy0, hk0⟩, rfl⟩
  have HFL := Lib.hid (show (l.take (i0 + 1)).filter (keepAB a b) = l.take i0 by rw [List.take_add_one, hy0, List.filter_append, hfl]; simp [hk0])
  have hne : ((i0 : Int) == -1) = false := by rw [beq_eq_false_iff_ne]; omega
  clear hfl hy0 hk0
  go_wp2_with fail
  go_loopw [5, 6] (fun i5 j6 wr => ∃ (i j : Nat) (zs : List Value), i < j ∧ j ≤ n ∧ i5 = .int .i64 i ∧ j6 = .int .i64 j ∧ Hid (((l.take j).filter (keepAB a b)).length = i) ∧ Own wr B 3 (some ⟨g, 0, none⟩) n k zs ∧ Hid (zs.take i = nts ((l.take j).filter (keepAB a b)) ∧ zs.drop j = (nts l).drop j) ∧ Only (fun k => k = g) w1 wr) (fun _ j _ => n - (intOf j).toNat)
  case atStart =>
    refine ⟨i0, i0 + 1, nts l, by omega, by omega, rfl, by go_num, Lib.hid ?_, HO.out, Lib.hid ⟨?_, rfl⟩, Only.refl _ _⟩
    · rw [HFL.out, List.length_take, HL.out]; omega
    · rw [HFL.out]; unfold nts; rw [List.map_take]
  case round =>
    obtain ⟨i, j, zs, hij, hj, rfl, rfl, hfi, ho, hzs, hon⟩ := hrel
    have HFI := Lib.hid hfi.out
    have HOW := Lib.hid ho
    have HZ := Lib.hid hzs.out
    have HON := Lib.hid hon
    clear hfi ho hzs hon
    by_cases hjl : j < n
    · have hd : decide ((j : Int) < n) = true := decide_eq_true (by omega)
      obtain ⟨y, hy⟩ : ∃ y, l[j]? = some y := ⟨_, List.getElem?_eq_getElem (by rw [HL.out]; exact hjl)⟩
      obtain ⟨g1, eg1, _, hglt, hcj, _⟩ := HOW.out.at_ hjl
      obtain rfl : g = g1 := by injection eg1 with eg1; injection eg1
      have hzj : zs[j]? = some (.int .i64 (y : Int)) := by
        have h9 := congrArg (fun L : List Value => L[0]?) HZ.out.2
        simp only [List.getElem?_drop, Nat.add_zero] at h9
        rw [h9]; exact nts_get hy
      rw [hzj] at hcj
      have HY := Lib.hid hy
      obtain ⟨bx, hbx⟩ : ∃ bx, (y == a || y == b) = bx := ⟨_, rfl⟩
      have HC := Lib.hid (HSC.out y wr HON.out)
      rw [hbx] at HC
      have HBX := Lib.hid hbx
      have HDR := Lib.hid (show zs.drop (j + 1) = (nts l).drop (j + 1) from by
        have h9 := congrArg (List.drop 1) HZ.out.2
        simpa [List.drop_drop, Nat.add_comm] using h9)
      clear hy eg1 hzj hbx
      go_wp2_with fail
      refine HC.out.mono ?_
      rintro e w2 ⟨rfl, rfl⟩
      cases bx
      · obtain ⟨g2, eg2, _, _, hci, hfz⟩ := HOW.out.at_ (k := i) (by omega)
        obtain rfl : g = g2 := by injection eg2 with eg2; injection eg2
        obtain ⟨u, hu⟩ : ∃ u, zs[i]? = some u := ⟨_, List.getElem?_eq_getElem (by rw [HOW.out.len]; omega)⟩
        rw [hu] at hci
        have HFT := Lib.hid (show (l.take (j + 1)).filter (keepAB a b) = (l.take j).filter (keepAB a b) ++ [y] by
          rw [List.take_add_one, HY.out, List.filter_append]
          congr 1
          show [y].filter (keepAB a b) = [y]
          have : keepAB a b y = true := by unfold keepAB; rw [HBX.out]; rfl
          simp [this])
        have HOW2 := Lib.hid (HOW.out.put (k := i) (by omega) (.int .i64 (y : Int)))
        have HLZ := Lib.hid HOW.out.len
        have HIX' := Lib.hid (show i < n by omega)
        clear eg2 hu
        have hin : i < n := HIX'.out
        go_wp2_with fail
        go_roundw
        case rel =>
          refine ⟨i + 1, j + 1, zs.set i (.int .i64 (y : Int)), by omega, by omega, by go_num, by go_num, Lib.hid ?_, HOW2.out, Lib.hid ⟨?_, ?_⟩, HON.out.setCell (p := ⟨g, i, none⟩) rfl _⟩
          · rw [HFT.out, List.length_append, HFI.out]; rfl
          · rw [HFT.out, nts_snoc, ← HZ.out.1, List.take_add_one, List.getElem?_set_self (by rw [HLZ.out]; omega), List.take_set_of_le (Nat.le_refl _)]; rfl
          · rw [List.drop_set_of_lt (by omega)]; exact HDR.out
        case measure => simp [intOf]; omega
      · have HFT := Lib.hid (show (l.take (j + 1)).filter (keepAB a b) = (l.take j).filter (keepAB a b) by
          rw [List.take_add_one, HY.out, List.filter_append]
          have : keepAB a b y = false := by unfold keepAB; rw [HBX.out]; rfl
          simp [this])
        go_wp2_with fail
        go_roundw
        case rel => exact ⟨i, j + 1, zs, by omega, by omega, rfl, by go_num, Lib.hid (by rw [HFT.out]; exact HFI.out), HOW.out, Lib.hid ⟨by rw [HFT.out]; exact HZ.out.1, HDR.out⟩, HON.out⟩
        case measure => simp [intOf]; omega
    · have hd : decide ((j : Int) < n) = false := decide_eq_false (by omega)
      have hd2 : decide (j < n) = false := decide_eq_false (by omega)
      have hjn : j = n := by omega
      have hin : i < n := by omega
      have hk : n ≤ k := HCAP.out
      have HF := Lib.hid (show (l.filter (keepAB a b)).length = i by
        have h9 := HFI.out
        rwa [List.take_of_length_le (by rw [HL.out]; omega)] at h9)
      have HZF := Lib.hid (show zs.take i = nts (l.filter (keepAB a b)) by
        have h9 := HZ.out.1
        rwa [List.take_of_length_le (l := l) (by rw [HL.out]; omega)] at h9)
      obtain ⟨m, hm⟩ : ∃ m, n - i = m := ⟨_, rfl⟩
      have hclr := fun ty => run_clear_slice (P := Tryd.prog) wr 27 3 ty (.int .i64 0) Tryd.underlying27 zeroI rfl rfl g i m (k - i) (by omega) (fun j hj => by
        obtain ⟨g2, eg2, _, _, hc2, _⟩ := HOW.out.at_ (k := i + j) (by omega)
        injection eg2 with eg2
        injection eg2 with eg2
        subst eg2
        rw [hc2, List.getElem?_eq_getElem (by rw [HOW.out.len]; omega)]; rfl) (fun j hj => by
        obtain ⟨g2, eg2, _, _, _, hf2⟩ := HOW.out.at_ (k := i + j) (by omega)
        injection eg2 with eg2
        injection eg2 with eg2
        subst eg2
        exact hf2)
      obtain ⟨⟨xs', ho', hx'⟩, hon'⟩ := own_clear (List.replicate m (.int .i64 0)) i wr zs HOW.out (by rw [List.length_replicate]; omega)
      obtain ⟨w5, hw5⟩ : ∃ w5, wr.setCells g i (List.replicate m (.int .i64 0)) = w5 := ⟨_, rfl⟩
      rw [hw5] at hclr ho' hon'
      have HO5 := Lib.hid (show Own w5 B 3 (some ⟨g, 0, none⟩) i k (nts (l.filter (keepAB a b))) by
        have h9 := own_take ho' (show i ≤ n by omega)
        rwa [hx', HZF.out] at h9)
      have HON5 := Lib.hid (HON.out.trans hon')
      have hik : i < k := by omega
      have hik2 : ¬ k = i := by omega
      clear hw5 ho' hx' hon' hjn
      go_wp2_with fail
      go_ret
      exact ⟨by rw [HF.out]; rfl, by rw [HF.out]; exact HO5.out, HON5.out⟩
end Go.Proofs.YtghinmlpkgcdiaaDoor
/-! Schedules: copies of rows of numbers and of operations. -/
namespace Go.Proofs.YtghinmlpkgcdiaaDoor
set_option linter.unusedSimpArgs false
set_option linter.unusedVariables false
open Go.RowKit Go.Lib

theorem owns_form {w : World} {B : Nat} {e : TypeId} {size n : Nat} {v : Value} {xs : List Value} (h : w.ownsRow B e size v n xs) : ∃ a' c', v = .slice a' n c' := by
  rcases h.2 with ⟨e, e0⟩ | ⟨g, cap, cur, e, _⟩
  · exact ⟨none, 0, by rw [e, e0]⟩
  · exact ⟨_, _, e⟩
theorem nil_ops (q : Option Addr) (n k : Nat) (W : World) : (binOp BinOp.eql 28 (.slice q n k) (.slice none 0 0)).run Tryd.prog W = .ok (.bool q.isNone) W := by
  cases q with
  | none => kernel_rfl
  | some ad => kernel_rfl
theorem opsC_one (l : List (Int × Int)) : ∀ u ∈ opsC l, u.oneCell' = true := by
  intro u hu
  unfold opsC at hu
  obtain ⟨o, _, h⟩ := List.mem_flatMap.1 hu
  simp only [List.mem_cons, List.not_mem_nil, or_false] at h
  rcases h with rfl | rfl <;> rfl
/-- many operations are appended -/
theorem wpList_ops {ops : Array Oper} {rest : List Oper} {o : Oper} {act : Act} {w : World} {Q : Exit → Act → World → Prop} (hgd : o.guard = none) (s x : Operand)
    (ho : o.op = .call { callee := .builtin .append, args := #[s, x], argTypes := #[28, 28] })
    (B : Nat) (a : Option Addr) (n c : Nat) (l : List (Int × Int)) (hs : act.eval s = .slice a n c) (hown : OpsR w B a n c l)
    (ad : Addr) (m mc : Nat) (l2 : List (Int × Int)) (hx : act.eval x = .slice (some ad) m mc) (hl2 : l2.length = m) (hr : Rd w w.heap.size (some ad) (opsC l2))
    (hn : n + m ≤ 1000000) (hbase : B ≤ w.heap.size)
    (h : ∀ a' c' w', OpsR w' B a' (n + m) c' (l ++ l2) → w.grownBy w' (Value.slice a n c).ownBlock → wpList Tryd.prog ops Q rest (act.put o.dst (.slice a' (n + m) c')) w') : wpList Tryd.prog ops Q (o :: rest) act w := by
  refine wpList_plain hgd fun K hK => ?_
  obtain ⟨i, hi, hz0, hz1, hz2⟩ := info_parts (show (Tryd.prog.info? 66).map (fun i => (i.zero, i.size, i.bytes)) = some (some (.agg #[.int .i64 0, .int .i64 0]), 2, 16) by kernel_rfl)
  obtain ⟨v', w', hrun, h2, h3, h4, h5⟩ := run_append_own_at (P := Tryd.prog) w B 28 o.type 66 i _ 2 16 Tryd.underlying28 hi hz0 hz1 hz2 rfl (by decide) _ n (opsC l) hown ad m mc (opsC l2) (by rw [opsC_length, hl2])
    (by
      intro j u hu
      obtain ⟨b, off, e, _, hc⟩ := hr j u hu
      obtain rfl := Option.some.inj e
      have : (⟨b, off, none⟩ : Addr).add j = ⟨b, off + j, none⟩ := by unfold Addr.add; split <;> simp_all
      rw [this]; exact hc)
    (opsC_one l2) (by unfold maxLen; omega) (by omega) hbase
  have h6 : w'.ownsRow B 66 2 v' (n + m) (opsC (l ++ l2)) := by
    have : opsC (l ++ l2) = opsC l ++ opsC l2 := by unfold opsC; rw [List.flatMap_append]
    rw [this]; exact h2
  obtain ⟨a', c', rfl⟩ := owns_form h6
  unfold Oper.wp execOp
  simp only [ho, resolve, invoke, builtin, Sem.run_bind, Sem.run_pure, Result.andThen_ok, List.map_toArray, List.map_cons, List.map_nil, hs, hx, hrun]
  exact hK _ _ (h _ _ _ h6 h3)
theorem opsR_new (w : World) : OpsR (w.alloc (.cells #[] 66)) w.heap.size (some ⟨w.heap.size, 0, none⟩) 0 0 [] :=
  ⟨rfl, .inr ⟨w.heap.size, 0, #[], rfl, Nat.le_refl _, Row.new w _ _, Nat.le_refl _, by unfold maxLen; omega, rfl, rfl⟩⟩
theorem below_ops {w0 w w' : World} {B0 B : Nat} {a : Option Addr} {n c : Nat} {l : List (Int × Int)} (h : Below B0 w0 w) (hg : w.grownBy w' (Value.slice a n c).ownBlock) (ho : OpsR w B a n c l) (hB : B0 ≤ w.heap.size) (h0 : B0 ≤ B) : Below B0 w0 w' := by
  refine h.grown hg hB fun k hk => ?_
  have := (ho.lt (ho.block hk)).1
  omega
set_option maxRecDepth 100000 in
theorem clone_ops (q : Option Addr) (n k : Nat) (l : List (Int × Int)) (w : World) (hl : l.length = n) (hn : n ≤ 1000000) (hr : Rd w w.heap.size q (opsC l)) :
    Calls Tryd.prog 37 #[.slice q n k] w fun e w' => ∃ q' k', e = .returned (.slice q' n k') ∧ OpsR w' w.heap.size q' n k' l ∧ Below w.heap.size w w' := by
  cases q with
  | none =>
    have hx : l = [] := by
      cases l with
      | nil => rfl
      | cons x xs =>
        obtain ⟨b, off, e, _⟩ := hr 0 (.int .i64 x.1) rfl
        cases e
    subst hx
    obtain rfl : n = 0 := hl.symm
    have hnil : ∀ W, (binOp BinOp.eql 28 (.slice none 0 k) (.slice none 0 0)).run Tryd.prog W = .ok (.bool true) W := fun W => nil_ops none 0 k W
    go_enter Tryd.func37, Tryd.ntmps37
    go_wp2
    go_ret
    exact ⟨none, 0, rfl, OpsR.nil _ _, Below.refl _ _⟩
  | some ad =>
    have HR := Lib.hid hr
    have HL := Lib.hid hl
    clear hr hl
    have hnil : ∀ W, (binOp BinOp.eql 28 (.slice (some ad) n k) (.slice none 0 0)).run Tryd.prog W = .ok (.bool false) W := fun W => nil_ops (some ad) n k W
    go_enter Tryd.func37, Tryd.ntmps37
    go_wp2_with (refine wpList_ops rfl (.tmp 5) (.tmp 6) rfl w.heap.size (some ⟨w.heap.size, 0, none⟩) 0 0 [] rfl (opsR_new w) ad n k l rfl HL.out ((HR.out.alloc (Nat.le_refl _) _).more (by simp)) (by omega) (by simp) ?_; intro a' c' w' ho hgr; have HO := Lib.hid ho; have HB := Lib.hid (below_ops ((Below.refl w.heap.size w).alloc (Nat.le_refl _) _) hgr (opsR_new w) (by simp) (Nat.le_refl _)); clear ho hgr)
    go_ret
    rw [List.nil_append, Nat.zero_add] at HO
    exact ⟨a', c', rfl, HO.out, HB.out⟩
end Go.Proofs.YtghinmlpkgcdiaaDoor
/-! Schedules: Shorten, what stands in memory. -/
namespace Go.Proofs.YtghinmlpkgcdiaaDoor
set_option linter.unusedSimpArgs false
set_option linter.unusedVariables false
open Go.RowKit Go.Lib

theorem only_grown {w w' : World} {g : Nat} (h : Only (fun k => k = g) w w') : w.grownBy w' (some g) :=
  ⟨h.os, h.tape, h.output, h.size, fun i hi hne => h.block i hi (fun e => hne (by rw [e]))⟩
/-- what stands in memory while a schedule is shortened -/
structure ShM (w1 wr : World) (f d p : Int) (qs : Option Addr) (ns ks : Nat) (vs : List Value) (ls : List (List Nat)) (wO gp : Nat) (q : Option Addr) (n1 k : Nat) (O : List (Int × Int)) (X Y : Int) : Prop where
  out : Row wr wO 30 (schC f d p q n1 k none 0 0)
  ops : OpsR wr w1.heap.size q n1 k O
  rows : Own wr w1.heap.size 27 qs ns ks vs
  fam : Fam wr w1.heap.size vs ls
  pair : Row wr gp 59 (pkC X Y)
  oB : w1.heap.size ≤ wO
  gB : w1.heap.size ≤ gp
  below : Below w1.heap.size w1 wr
section
variable {w1 wr w' : World} {f d p : Int} {qs q : Option Addr} {ns ks n1 k wO gp : Nat} {vs : List Value} {ls : List (List Nat)} {O : List (Int × Int)} {X Y : Int}
theorem ShM.next (h : ShM w1 wr f d p qs ns ks vs ls wO gp q n1 k O X Y) (hb : Below wr.heap.size wr w') : ShM w1 w' f d p qs ns ks vs ls wO gp q n1 k O X Y :=
  ⟨h.out.below hb h.out.lt, h.ops.keeps (Keeps.of_below hb), h.rows.below hb, h.fam.keeps (Keeps.of_below hb), h.pair.below hb h.pair.lt, h.oB, h.gB, h.below.trans (hb.mono h.below.size)⟩
theorem ShM.rowsT (h : ShM w1 wr f d p qs ns ks vs ls wO gp q n1 k O X Y) : RowsT wr qs ns ls := RowsT.of h.rows h.fam
/-- one operation more -/
theorem ShM.op {a' : Option Addr} {c' : Nat} {x y : Int} (h : ShM w1 wr f d p qs ns ks vs ls wO gp q n1 k O X Y) (ho : OpsR w' w1.heap.size a' (n1 + 1) c' (O ++ [(x, y)])) (hg : wr.grownBy w' (Value.slice q n1 k).ownBlock) :
    Row w' wO 30 (schC f d p q n1 k none 0 0) ∧ ShM w1 (w'.setCell ⟨wO, 3, none⟩ (.slice a' (n1 + 1) c')) f d p qs ns ks vs ls wO gp a' (n1 + 1) c' (O ++ [(x, y)]) X Y := by
  have hk : ∀ e : TypeId, e ≠ 66 → Keeps e wr w' := fun e he => (Keeps.refl e wr).ops h.ops hg he
  have h1 := hk _ (by decide) _ _ h.out
  have hk2 : ∀ e : TypeId, e ≠ 30 → Keeps e w' (w'.setCell ⟨wO, 3, none⟩ (.slice a' (n1 + 1) c')) := fun e he => (Keeps.refl e w').put (p := ⟨wO, 3, none⟩) h1 he _
  have hb : Below w1.heap.size w1 w' := below_ops h.below hg h.ops h.below.size (Nat.le_refl _)
  refine ⟨h1, h1.put 3 _, ho.keeps (hk2 _ (by decide)), (h.rows.keeps (hk _ (by decide))).keeps (hk2 _ (by decide)), (h.fam.keeps (hk _ (by decide))).keeps (hk2 _ (by decide)), hk2 _ (by decide) _ _ (hk _ (by decide) _ _ h.pair), h.oB, h.gB, hb.setCell (p := ⟨wO, 3, none⟩) h.oB _⟩
/-- one set replaced -/
theorem ShM.set {a' : Option Addr} {c' kl i gS : Nat} {ql : Option Addr} {l l' : List Nat} (h : ShM w1 wr f d p qs ns ks vs ls wO gp q n1 k O X Y) (hi : i < ns) (hl : ls[i]? = some l) (hv : vs[i]? = some (.slice ql l.length kl)) (hgS : qs = some ⟨gS, 0, none⟩) (hg : wr.grownBy w' (Value.slice ql l.length kl).ownBlock)
    (ho : Own w' w1.heap.size 3 a' l'.length c' (nts l')) (hn : a' = ql ∨ ∃ g, a' = some ⟨g, 0, none⟩ ∧ wr.heap.size ≤ g) :
    Own w' w1.heap.size 27 qs ns ks vs ∧ ShM w1 (w'.setCell ⟨gS, i, none⟩ (.slice a' l'.length c')) f d p qs ns ks (vs.set i (.slice a' l'.length c')) (ls.set i l') wO gp q n1 k O X Y := by
  obtain ⟨q0, k0, e0, ho0⟩ := h.fam.own i l hl
  rw [hv] at e0
  have e0 := Option.some.inj e0
  injection e0 with e1 _ e2
  subst e1; subst e2
  have hk : ∀ e : TypeId, e ≠ 3 → Keeps e wr w' := fun e he => (Keeps.refl e wr).grown ho0 hg he
  have hr := h.rows.keeps (hk _ (by decide))
  subst hgS
  obtain ⟨cs, hrow, _⟩ := hr.row rfl
  have hk2 : ∀ e : TypeId, e ≠ 27 → Keeps e w' (w'.setCell ⟨gS, i, none⟩ (.slice a' l'.length c')) := fun e he => (Keeps.refl e w').put (p := ⟨gS, i, none⟩) hrow he _
  have hb : Below w1.heap.size w1 w' := below_grown2 h.below hg ho0 h.below.size (Nat.le_refl _)
  have hgB : w1.heap.size ≤ gS := (hr.lt rfl).1
  exact ⟨hr, hk2 _ (by decide) _ _ (hk _ (by decide) _ _ h.out), (h.ops.keeps (hk _ (by decide))).keeps (hk2 _ (by decide)), hr.put hi _, (h.fam.set hl hv hg ho hn).keeps (hk2 _ (by decide)), hk2 _ (by decide) _ _ (hk _ (by decide) _ _ h.pair), h.oB, h.gB, hb.setCell (p := ⟨gS, i, none⟩) hgB _⟩
/-- another pair -/
theorem ShM.whole {X' Y' : Int} (h : ShM w1 wr f d p qs ns ks vs ls wO gp q n1 k O X Y) : ShM w1 (wr.setRow gp (pkC X' Y')) f d p qs ns ks vs ls wO gp q n1 k O X' Y' := by
  have hg := grown_setRow (w := wr) (g := gp) (pkC X' Y')
  have hk : ∀ e : TypeId, e ≠ 59 → Keeps e wr (wr.setRow gp (pkC X' Y')) := fun e he g cs hr => hr.apart (fun e2 => by subst e2; exact he (hr.type h.pair)) _
  exact ⟨hk _ (by decide) _ _ h.out, h.ops.keeps (hk _ (by decide)), h.rows.keeps (hk _ (by decide)), h.fam.keeps (hk _ (by decide)), h.pair.whole _, h.oB, h.gB, below_whole h.below h.gB _⟩
end
set_option maxRecDepth 100000 in
set_option maxHeartbeats 1600000 in
theorem shorten_no (f d p : Int) (qo : Option Addr) (no ko : Nat) (qx : Option Addr) (nx kx : Nat) (ops : List (Int × Int)) (out : List Int) (w : World) (ht : Tab w) (hno : no ≤ 9223372036854775807)
    (hlo : ops.length = no) (hro : Rd w w.heap.size qo (opsC ops)) (hlx : out.length = nx) (hrx : Rd w w.heap.size qx (ints out)) (h : Xp.okS f d p ops out = false) :
    Calls Tryd.prog 12 #[schV f d p qo no ko qx nx kx] w fun e w' => e = .returned (.tuple #[schV 0 0 0 none 0 0 none 0 0, .int .i64 1]) ∧ Below w.heap.size w w' := by
  have HV := Lib.hid (fun (W : World) (hb : Below w.heap.size w W) => xsets_no f d p qo no ko qx nx kx ops out W (ht.next hb) hno hlo ((hro.below hb).more hb.size) hlx ((hrx.below hb).more hb.size) h)
  unfold schV at HV ⊢
  have HW : Hid (Below w.heap.size w ((w.alloc (.cells (schC f d p qo no ko qx nx kx) 30)).alloc (.cells (schC 0 0 0 none 0 0 none 0 0) 30))) := Lib.hid (((Below.refl _ w).alloc (Nat.le_refl _) _).alloc (by simp) _)
  have HZ : Hid (Row ((w.alloc (.cells (schC f d p qo no ko qx nx kx) 30)).alloc (.cells (schC 0 0 0 none 0 0 none 0 0) 30)) (w.heap.size + 1) 30 (schC 0 0 0 none 0 0 none 0 0)) := Lib.hid (Row.made _ _ (by simp))
  clear ht hlo hro hlx hrx h
  go_enter Tryd.func12, Tryd.ntmps12
  go_wp2_with fail
  refine (HV.out _ HW.out).mono ?_
  rintro e w1 ⟨rfl, hb⟩
  have HB1 := Lib.hid (below_call HW.out hb)
  have HZ1 := Lib.hid (HZ.out.below hb HZ.out.lt)
  clear hb
  go_wp2_with (refine wpList_store_row rfl _ _ _ rfl (w.heap.size + 1) (schC 0 0 0 none 0 0 none 0 0) rfl rfl _ _ HZ1.out (by kernel_rfl) rfl (schC_one _ _ _ _ _ _ _ _ _) ?_)
  refine bodyPost_ret (v := .tuple #[schV 0 0 0 none 0 0 none 0 0, .int .i64 1]) ?_ rfl ⟨rfl, below_whole HB1.out (by omega) _⟩
  exact results_row_tmp rfl _ _ (w.heap.size + 1) _ _ _ _ rfl rfl (HZ1.out.whole _) Tryd.underlying30 (by rfl) (by kernel_rfl)
/-! ### how many pairs -/
theorem pairsOf_length : ∀ l : List Nat, (Xp.pairsOf l).length ≤ l.length * l.length
  | [] => by simp [Xp.pairsOf, Xp.pairsTo]
  | x :: l => by
    rw [Xp.pairsOf_cons, List.length_append, List.length_map, List.length_cons]
    have := pairsOf_length l
    have e : (l.length + 1) * (l.length + 1) = l.length * l.length + l.length + l.length + 1 := by
      rw [Nat.add_mul, Nat.mul_add]; omega
    omega
theorem allPairs_length : ∀ ls : List (List Nat), (Xp.allPairs ls).length ≤ Xp.total ls * Xp.total ls
  | [] => by simp [Xp.allPairs]
  | l :: ls => by
    have e : Xp.allPairs (l :: ls) = Xp.pairsOf l ++ Xp.allPairs ls := by unfold Xp.allPairs; rw [List.flatMap_cons]
    rw [e, List.length_append]
    have h1 := pairsOf_length l
    have h2 := allPairs_length ls
    show _ ≤ (l.length + Xp.total ls) * (l.length + Xp.total ls)
    have e2 : (l.length + Xp.total ls) * (l.length + Xp.total ls) = l.length * l.length + Xp.total ls * Xp.total ls + (l.length * Xp.total ls + Xp.total ls * l.length) := by
      rw [Nat.add_mul, Nat.mul_add, Nat.mul_add]; omega
    omega
theorem len_total {ls : List (List Nat)} : ∀ {l : List Nat}, l ∈ ls → l.length ≤ Xp.total ls := by
  induction ls with
  | nil => intro l h; cases h
  | cons a ls ih =>
    intro l h
    show _ ≤ a.length + Xp.total ls
    rcases List.mem_cons.1 h with rfl | h
    · omega
    · have := ih h; omega
/-- the best pair of the sets, by two calls -/
theorem pairs_small {ls : List (List Nat)} {N : Nat} (h : Xp.SetsOk N ls) (hN : N ≤ 1000000000) : ∀ p ∈ Xp.allPairs ls, p.1 ≤ 1000000000 ∧ p.2 ≤ 1000000000 := by
  intro p hp
  unfold Xp.allPairs at hp
  obtain ⟨l, hl, hp⟩ := List.mem_flatMap.1 hp
  obtain ⟨h1, h2⟩ := Xp.mem_pairsOf hp
  have := (h l hl).2 p.1 h1
  have := (h l hl).2 p.2 h2
  omega
theorem counts_at {ls : List (List Nat)} {N : Nat} (h : Xp.SetsOk N ls) (hN : N ≤ 1000000000) (htot : Xp.total ls ≤ 300000) (qs : Option Addr) (ns ks : Nat) (w : World) (hs : RowsT w qs ns ls) (hns : ns ≤ 1000000) :
    Calls Tryd.prog 32 #[.slice qs ns ks] w fun e w' => (∃ n, n ≤ 1000000000000 ∧ e = .returned (.map (some w.heap.size)) ∧ CntM w' w.heap.size n (Xp.allPairs ls)) ∧ Below w.heap.size w w' :=
  counts_any qs ns ks ls w hs hns (fun l hl => by have := len_total hl; omega) (fun l hl x hx => by have := (h l hl).2 x hx; omega) (by
    have h1 := allPairs_length ls
    have h2 := Nat.mul_le_mul htot htot
    omega)
theorem best_at {ls : List (List Nat)} {N : Nat} (h : Xp.SetsOk N ls) (hN : N ≤ 1000000000) (htot : Xp.total ls ≤ 300000) (b n : Nat) (w : World) (hc : CntM w b n (Xp.allPairs ls)) :
    Calls Tryd.prog 31 #[.map (some b)] w fun e w' => (∃ (r : Option (Nat × Nat)) (X Y : Int), e = .returned (.tuple #[.agg (pkC X Y), .bool r.isSome]) ∧ Xp.IsBest (Xp.allPairs ls) r ∧ ∀ p, r = some p → X = (p.1 : Int) ∧ Y = (p.2 : Int)) ∧ Below w.heap.size w w' :=
  best_any b n _ w hc (pairs_small h hN) (by
    have h1 := allPairs_length ls
    have h2 := Nat.mul_le_mul htot htot
    omega)
end Go.Proofs.YtghinmlpkgcdiaaDoor
