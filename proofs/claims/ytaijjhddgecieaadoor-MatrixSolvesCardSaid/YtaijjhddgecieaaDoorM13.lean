/- Matrices: reduction, the walk. -/
import Derived.Test.YtaijjhddgecieaaDoorM12
import Derived.Deep.LoopGhost
import Derived.WalkMore
namespace Go.Proofs.YtaijjhddgecieaaDoor
set_option linter.unusedSimpArgs false
set_option linter.unusedVariables false
open Go.RowKit Go.Lib

set_option maxRecDepth 100000 in
set_option maxHeartbeats 6400000 in
theorem mred_any {m R C kap cols : Nat} {A : Nat → Nat → Nat} (hm : Fld.IsM m) (hR : R ≤ 32) (hC : C ≤ 64) (hpos : 0 < C) (hcols : cols ≤ C) (hk1 : R * C ≤ kap) (hk2 : kap ≤ maxLen) (ok : Mat.Ok m R C A) (g : Nat) (hg0 : 0 < g) (w : World) (ht : Tab w) (hcell : Cells w g (R * C) (Mat.flat C A)) :
    Calls Tryd.prog 39 #[matV m R C (some ⟨g, 0, none⟩) (R * C) kap, .int .i64 cols] w fun e w' => (∃ q k, e = .returned (.slice q (Mat.red m R A cols).2.length k) ∧ k ≤ maxLen ∧ (Mat.red m R A cols).2.length ≤ k ∧ (q = none → k = 0) ∧ Rd w' w'.heap.size q (ints (natsL (Mat.red m R A cols).2))) ∧ Cells w' g (R * C) (Mat.flat C (Mat.red m R A cols).1) ∧ Only (fun k => k = g) w w' := by
  have HT := Lib.hid ht
  have HM := Lib.hid hm
  have hN : R * C ≤ 32 * 64 := Nat.mul_le_mul hR hC
  have HROW := Lib.hid (fun i o hi ho W => mrow_g hm hR hC hpos hk1 hk2 ok hcell i o hi ho W)
  have HSWAP := Lib.hid (fun (A1 : Nat → Nat → Nat) (ok1 : Mat.Ok m R C A1) (i k : Nat) (hi : i < R) (hk : k < R) (gb : Nat) (hne : gb ≠ g) (W : World) (hbox : Row W gb 24 (matC m R C (some ⟨g, 0, none⟩) (R * C) kap)) (hcell : Cells W g (R * C) (Mat.flat C A1)) => mswap_any hm hR hC hpos hk1 hk2 ok1 hi hk gb g hne W hbox hcell)
  have HADD := Lib.hid (fun (A1 : Nat → Nat → Nat) (ok1 : Mat.Ok m R C A1) (i s : Nat) (hi : i < R) (hs : s < R) (his : i ≠ s) (F : Nat) (hF : F < 2 ^ m) (qa qb : Option Addr) (ka kb : Nat) (W : World) (ht : Tab W) (hcell : Cells W g (R * C) (Mat.flat C A1)) (hqa : 0 < C → qa = some ⟨g, i * C, none⟩) (hqb : 0 < C → qb = some ⟨g, s * C, none⟩) => madd_same hm hR hC ok1 hi hs his hF qa qb ka kb g W ht hg0 hcell hqa hqb)
  have HAT := Lib.hid (fun i j (hi : i < R) (hj : j < C) => Mat.at_lt hi hj)
  have HFL := Lib.hid (fun (A1 A2 : Nat → Nat → Nat) (h : Mat.Eq R C A1 A2) => Mat.flat_congr h)
  have HPUT := Lib.hid (fun (A1 A2 : Nat → Nat → Nat) (i j v : Nat) (hi : i < R) (hj : j < C) (h : ∀ p q, p < R → q < C → A2 p q = if p = i ∧ q = j then v else A1 p q) => flat_put hi hj h)
  obtain ⟨N, hN0⟩ : ∃ N, R * C = N := ⟨_, rfl⟩
  rw [hN0] at hN hcell HROW HSWAP HADD HAT HFL HPUT ⊢
  have HGL := Lib.hid hcell.lt
  have HC := Lib.hid hcell
  have HOK := Lib.hid ok
  clear ht hm hcell hN0 ok hk1
  unfold matV at HROW ⊢
  have HS0 := Lib.hid (show Redu w (w.alloc (.cells (matC m R C (some ⟨g, 0, none⟩) N kap) 24)) w.heap.size g N (matC m R C (some ⟨g, 0, none⟩) N kap) none 0 0 (ints (natsL (Mat.red m R A 0).2)) (Mat.flat C (Mat.red m R A 0).1) from
    ⟨Row.new w _ _, HC.out.alloc _, Own.nil _ _ _, (Only.refl _ w).alloc _⟩)
  go_enter Tryd.func39, Tryd.ntmps39
  go_wp2
  go_step3
  go_wp2
  go_step3
  go_wp2
  go_loopg [16, 4] cols (fun gh i s wr => ∃ (j : Nat) (a : Option Addr) (n c : Nat), j + gh = cols ∧ i = .int .i64 j ∧ s = .slice a n c ∧ Redu w wr w.heap.size g N (matC m R C (some ⟨g, 0, none⟩) N kap) a n c (ints (natsL (Mat.red m R A j).2)) (Mat.flat C (Mat.red m R A j).1))
  case atStart => exact ⟨0, none, 0, 0, by omega, rfl, rfl, HS0.out⟩
  case round =>
    obtain ⟨j, a, n, c, hj, rfl, rfl, hs⟩ := hrel
    have HS := Lib.hid hs
    have hbl := hs.rb.lt
    obtain ⟨A1, hA1⟩ : ∃ A1, (Mat.red m R A j).1 = A1 := ⟨_, rfl⟩
    obtain ⟨pv, hpv⟩ : ∃ pv, (Mat.red m R A j).2 = pv := ⟨_, rfl⟩
    rw [hA1, hpv] at HS
    have HA1 := Lib.hid hA1
    have HPV := Lib.hid hpv
    clear hs hA1 hpv HS0
    by_cases hjc : j < cols
    · have hd : decide ((j : Int) < cols) = true := decide_eq_true (by omega)
      have hnl : pv.length = n := by have := HS.out.own.len; simpa [ints, natsL] using this
      have HNL := Lib.hid hnl
      have HF := Lib.hid (Mat.red_facts HM.out HOK.out j (by omega))
      rw [HA1.out, HPV.out, hnl] at HF
      have hnR : n ≤ R := HF.out.2.1
      clear hnl
      go_wp2
      go_loopg [8] (R - n) (fun gh i wr => ∃ (i' : Nat), n ≤ i' ∧ i' + gh = R ∧ i = .int .i64 i' ∧ Hid (∀ t, n ≤ t → t < i' → A1 t j = 0) ∧ Redu w wr w.heap.size g N (matC m R C (some ⟨g, 0, none⟩) N kap) a n c (ints (natsL pv)) (Mat.flat C A1))
      case atStart => exact ⟨n, Nat.le_refl _, by omega, rfl, Lib.hid (fun t h1 h2 => by omega), HS.out⟩
      case round =>
        obtain ⟨i, hni, hig, rfl, hz, hs⟩ := hrel
        have HS := Lib.hid hs
        have HZ := Lib.hid hz.out
        obtain ⟨b0, b1, b2, b3⟩ := mbox hs.rb
        clear hs hz
        by_cases hiR : i = R
        · have hd2 : ((i : Int) == (R : Int)) = true := by rw [beq_iff_eq]; omega
          have HNONE := Lib.hid (red_none HA1.out HPV.out HNL.out (fun t h1 h2 => HZ.out t h1 (by omega)) hnR)
          go_wp2
          go_roundg (cols - (j + 1))
          case measure => omega
          case rel => exact ⟨j + 1, a, n, c, by omega, by go_num, rfl, by rw [HNONE.out.1, HNONE.out.2]; exact HS.out⟩
        · have hd2 : ((i : Int) == (R : Int)) = false := by rw [beq_eq_false_iff_ne]; omega
          have hilt : i < R := by omega
          obtain ⟨oi, hoi⟩ : ∃ o, i * C = o := ⟨_, rfl⟩
          have HOI := Lib.hid hoi
          obtain ⟨X, hX⟩ : ∃ X, A1 i j = X := ⟨_, rfl⟩
          have HX := Lib.hid hX
          have HXB := Lib.hid (show X < 2 ^ m by rw [← hX]; exact HF.out.1 i j hilt (by omega))
          clear hoi hX
          go_wp2_with fail
          refine (HROW.out i oi hilt HOI.out _).mono ?_
          rintro e w4 ⟨k4, rfl, hk41, hk42, hb4⟩
          have HS4 := Lib.hid (HS.out.next hb4)
          have hlt4 : oi + j < N := by
            have := HAT.out i j hilt (by omega)
            rw [HOI.out] at this; exact this
          have hcell4 := HS4.out.cells.cell hlt4
          rw [← HOI.out, Mat.flat_at _ _ (show j < C by omega), HX.out, HOI.out] at hcell4
          clear b0 b1 b2 b3 hb4 HS
          by_cases hX0 : X = 0
          · have hd3 : ((X : Int) != 0) = false := by rw [bne_eq_false_iff_eq]; omega
            have HX0 := Lib.hid hX0
            clear hX0
            go_wp2
            go_roundg (R - (i + 1))
            case measure => omega
            case rel => exact ⟨i + 1, by omega, by omega, by go_num, Lib.hid (fun t h1 h2 => by
              by_cases e : t = i
              · rw [e, HX.out]; exact HX0.out
              · exact HZ.out t h1 (by omega)), HS4.out⟩
          · have hd3 : ((X : Int) != 0) = true := by rw [bne_iff_ne]; omega
            have HX0 := Lib.hid hX0
            have HSOME := Lib.hid (red_some HA1.out HPV.out HNL.out HZ.out hni hilt (by rw [HX.out]; exact hX0))
            have hnlt : n < R := by omega
            clear hX0
            go_wp2_with fail
            refine (HSWAP.out A1 HF.out.1 i n hilt hnlt w.heap.size (by have := HGL.out; omega) _ HS4.out.rb HS4.out.cells).mono ?_
            rintro e w5 ⟨⟨v5, rfl⟩, hc5, ho5⟩
            have HS5 := Lib.hid (HS4.out.wrote ho5 hc5 HGL.out)
            clear hc5 ho5 hcell4
            go_wp2_with fail
            obtain ⟨on, hon⟩ : ∃ o, n * C = o := ⟨_, rfl⟩
            have HON := Lib.hid hon
            obtain ⟨fi, hfi⟩ : ∃ fi, Fld.inv m X = fi := ⟨_, rfl⟩
            have HFI := Lib.hid hfi
            have HINV := Lib.hid (fun W (h : Tab W) => finv_at HM.out HXB.out HX0.out W h)
            rw [hfi] at HINV
            unfold pairV at HINV
            have hlt5 : on + j < N := by
              have := HAT.out n j hnlt (by omega)
              rw [hon] at this; exact this
            have HX5 := Lib.hid (fun (W : World) (h : Cells W g N (Mat.flat C (Mat.swap A1 i n))) => show W.cell? ⟨g, on + j, none⟩ = some (.int .i64 (X : Int)) by
              have := h.cell hlt5
              rwa [← HON.out, Mat.flat_at _ _ (show j < C by omega), swap_at, HX.out, HON.out] at this)
            clear hon hfi
            have HS5d := Lib.hid HS5.out.drew
            have hjC : j < C := by omega
            go_region_held3 (fun wn => (wn.cell? ⟨w.heap.size, 0, none⟩ = some (.int .i64 m) ∧ wn.cell? ⟨w.heap.size, 1, none⟩ = some (.int .i64 R) ∧ wn.cell? ⟨w.heap.size, 2, none⟩ = some (.int .i64 C) ∧ wn.cell? ⟨w.heap.size, 3, none⟩ = some (.slice (some ⟨g, 0, none⟩) N kap)) ∧ wn.cell? ⟨g, on + j, none⟩ = some (.int .i64 (X : Int))) (first | exact ⟨mbox HS7.out.rb, HX5.out _ HS7.out.cells⟩ | exact ⟨mbox HS6.out.rb, HX5.out _ HS6.out.cells⟩ | exact ⟨mbox HS5d.out.rb, HX5.out _ HS5d.out.cells⟩) (first
              | (go_at_call 36; (with_reducible refine (HROW.out n on hnlt HON.out _).mono ?_); rintro e6 w6 ⟨k6, rfl, hk61, hk62, hb6⟩; have HS6 := Lib.hid (HS5d.out.next hb6))
              | (go_at_call 49; (with_reducible refine (HINV.out _ (HS6.out.tab HT.out hg0)).mono ?_); rintro e7 w7 ⟨rfl, hb7⟩; have HS7 := Lib.hid (HS6.out.next hb7)))
            clear hb6 hb7 HS4 HS5 HS5d HS6 HX5 HINV
            have HOKS := Lib.hid (Mat.swap_ok HF.out.1 hilt hnlt)
            have HFB := Lib.hid (show fi < 2 ^ m by rw [← HFI.out]; exact Fld.inv_lt HM.out HXB.out)
            obtain ⟨S1, hS1⟩ : ∃ S1, Mat.swap A1 i n = S1 := ⟨_, rfl⟩
            rw [hS1] at HS7 HOKS
            have HS1 := Lib.hid hS1
            clear hS1
            obtain ⟨b0, b1, b2, b3⟩ := mbox HS7.out.rb
            go_wp2_with fail
            refine (HROW.out n on hnlt HON.out _).mono ?_
            rintro e w8 ⟨k8, rfl, hk81, hk82, hb8⟩
            have HS8 := Lib.hid ((HS7.out.next hb8).congr (f' := Mat.flat C (scTo m S1 n fi 0)) (fun p _ => (scTo_zero m S1 n fi _ _).symm))
            clear b0 b1 b2 b3 hb8 HS7
            go_wp2_with fail
            go_loopg [55] C (fun gh t wr => ∃ t' : Nat, t' + gh = C ∧ t = .int .i64 t' ∧ Redu w wr w.heap.size g N (matC m R C (some ⟨g, 0, none⟩) N kap) a n c (ints (natsL pv)) (Mat.flat C (scTo m S1 n fi t')))
            case atStart => exact ⟨0, by omega, rfl, HS8.out⟩
            case round =>
              obtain ⟨t, htg, rfl, hs⟩ := hrel
              have HS := Lib.hid hs
              clear hs HS8
              by_cases htc : t < C
              · have hd4 : decide ((t : Int) < C) = true := decide_eq_true (by omega)
                have hltt : on + t < N := by
                  have := HAT.out n t hnlt htc
                  rw [HON.out] at this; exact this
                have hct := HS.out.cells.cell hltt
                obtain ⟨x, hx⟩ : ∃ x, S1 n t = x := ⟨_, rfl⟩
                have HXX := Lib.hid hx
                have HXXB := Lib.hid (show x < 2 ^ m by rw [← hx]; exact HOKS.out n t hnlt htc)
                rw [← HON.out, Mat.flat_at _ _ htc, scTo_row, hx, HON.out] at hct
                have HSd := Lib.hid HS.out.drew
                obtain ⟨y, hy⟩ : ∃ y, Fld.mul m fi x = y := ⟨_, rfl⟩
                have HY := Lib.hid hy
                have HTM := Lib.hid (fun W (h : Tab W) => mtimes_any HM.out HFB.out HXXB.out W h)
                rw [hy] at HTM
                clear hx hy
                go_wp2_with fail
                go_region_held3 (fun wn => (wn.cell? ⟨w.heap.size, 0, none⟩ = some (.int .i64 m) ∧ wn.cell? ⟨w.heap.size, 1, none⟩ = some (.int .i64 R) ∧ wn.cell? ⟨w.heap.size, 2, none⟩ = some (.int .i64 C) ∧ wn.cell? ⟨w.heap.size, 3, none⟩ = some (.slice (some ⟨g, 0, none⟩) N kap))) (first | exact mbox (HS10.out.rb.far (by have := HGL.out; simp; omega) _) | exact mbox HS10.out.rb | exact mbox HS9.out.rb | exact mbox HSd.out.rb) (first
                  | (go_at_call 36; (with_reducible refine (HROW.out n on hnlt HON.out _).mono ?_); rintro e9 w9 ⟨k9, rfl, hk91, hk92, hb9⟩; have HS9 := Lib.hid (HSd.out.next hb9))
                  | (go_at_call 47; (with_reducible refine (HTM.out _ (HS9.out.tab HT.out hg0)).mono ?_); rintro e10 w10 ⟨rfl, hb10⟩; have HS10 := Lib.hid (HS9.out.next hb10); have hct10 := HS10.out.cells.cell hltt; have hfr10 := HS10.out.cells.frozen (on + t)))
                have HS11 := Lib.hid ((HS10.out.put hltt y HGL.out).congr (f' := Mat.flat C (scTo m S1 n fi (t + 1))) (HON.out ▸ HPUT.out _ _ n t y hnlt htc (fun p q _ _ => by rw [← HY.out, ← HXX.out]; exact scTo_step p q)))
                clear hb9 hb10 hct hct10 hfr10 HS HSd HS9 HS10
                go_wp2
                go_roundg (C - (t + 1))
                case measure => omega
                case rel => exact ⟨t + 1, by omega, by go_num, HS11.out⟩
              · have hd4 : decide ((t : Int) < C) = false := decide_eq_false (by omega)
                have htc : t = C := by omega
                subst htc
                have HOK2 := Lib.hid (Mat.scale_ok HM.out HOKS.out (k := n) HFB.out)
                obtain ⟨S2, hS2⟩ : ∃ S2, Mat.scale m S1 n fi = S2 := ⟨_, rfl⟩
                have HS2 := Lib.hid hS2
                rw [hS2] at HOK2
                clear hS2
                have HS12 := Lib.hid (HS.out.congr (f' := Mat.flat t (clTo m S2 n j 0)) (HFL.out _ _ (fun p q hp hq => by
                  rw [clTo_zero, ← HS2.out]
                  exact scTo_end p q hp hq)))
                clear HS
                obtain ⟨b0, b1, b2, b3⟩ := mbox HS12.out.rb
                go_wp2
                go_loopg [73] R (fun gh i2 wr => ∃ i' : Nat, i' + gh = R ∧ i2 = .int .i64 i' ∧ Redu w wr w.heap.size g N (matC m R t (some ⟨g, 0, none⟩) N kap) a n c (ints (natsL pv)) (Mat.flat t (clTo m S2 n j i')))
                case atStart => exact ⟨0, by omega, rfl, HS12.out⟩
                case round =>
                  obtain ⟨s, hsg, rfl, hs⟩ := hrel
                  have HS := Lib.hid hs
                  clear hs HS12 b0 b1 b2 b3
                  by_cases hsR : s < R
                  · have hd5 : decide ((s : Int) < R) = true := decide_eq_true (by omega)
                    by_cases hsn : s = n
                    · have hd6 : ((s : Int) != (n : Int)) = false := by rw [bne_eq_false_iff_eq]; omega
                      have HS13 := Lib.hid (HS.out.congr (f' := Mat.flat t (clTo m S2 n j (s + 1))) (fun p _ => by
                        have e := clTo_same m S2 n j (p / t) (p % t)
                        rw [← hsn] at e
                        show clTo m S2 n j s (p / t) (p % t) = clTo m S2 n j (s + 1) (p / t) (p % t)
                        rw [← hsn]; exact e.symm))
                      clear HS
                      go_wp2
                      go_roundg (R - (s + 1))
                      case measure => omega
                      case rel => exact ⟨s + 1, by omega, by go_num, HS13.out⟩
                    · have hd6 : ((s : Int) != (n : Int)) = true := by rw [bne_iff_ne]; omega
                      obtain ⟨os, hos⟩ : ∃ o, s * t = o := ⟨_, rfl⟩
                      have HOS := Lib.hid hos
                      have hjC2 : j < t := by omega
                      have hlts : os + j < N := by
                        have := HAT.out s j hsR hjC2
                        rw [hos] at this; exact this
                      obtain ⟨F, hF⟩ : ∃ F, S2 s j = F := ⟨_, rfl⟩
                      have HFF := Lib.hid hF
                      have HFB2 := Lib.hid (show F < 2 ^ m by rw [← hF]; exact HOK2.out s j hsR hjC2)
                      have HSd := Lib.hid HS.out.drew
                      clear hos hF
                      go_wp2_with fail
                      refine wp_region_held_drew (S := fun wn => (wn.cell? ⟨w.heap.size, 0, none⟩ = some (.int .i64 m) ∧ wn.cell? ⟨w.heap.size, 1, none⟩ = some (.int .i64 R) ∧ wn.cell? ⟨w.heap.size, 2, none⟩ = some (.int .i64 t) ∧ wn.cell? ⟨w.heap.size, 3, none⟩ = some (.slice (some ⟨g, 0, none⟩) N kap))) (by kernel_rfl) (mbox HSd.out.rb) (fun hHeld => ?_)
                      refine wpAnyH_take (i := 0) (v := ?_) rfl (by kernel_rfl) (by kernel_rfl) (by kernel_rfl) (fun _ _ _ h => h) (Or.inl ⟨by kernel_rfl, by intro w hSw; (try dsimp only at hSw); go_simp; first | done | with_reducible rfl⟩) (by assumption) ?_
                      try simp only [Act.put, List.setIfInBounds_toArray, List.set_cons_zero, List.set_cons_succ]
                      refine wpAnyH_take (i := 1) (v := ?_) rfl (by kernel_rfl) (by kernel_rfl) (by kernel_rfl) (fun _ _ _ h => h) (Or.inl ⟨by kernel_rfl, by intro w hSw; (try dsimp only at hSw); go_simp; first | done | with_reducible rfl⟩) (by assumption) ?_
                      try simp only [Act.put, List.setIfInBounds_toArray, List.set_cons_zero, List.set_cons_succ]
                      refine wpAnyH_take (i := 2) (v := ?_) rfl (by kernel_rfl) (by kernel_rfl) (by kernel_rfl) (fun _ _ _ h => h) (Or.inl ⟨by kernel_rfl, by intro w hSw; (try dsimp only at hSw); go_simp; first | done | with_reducible rfl⟩) (by assumption) ?_
                      try simp only [Act.put, List.setIfInBounds_toArray, List.set_cons_zero, List.set_cons_succ]
                      refine wpAnyH_take (i := 3) (v := ?_) rfl (by kernel_rfl) (by kernel_rfl) (by kernel_rfl) (fun _ _ _ h => h) (Or.inl ⟨by kernel_rfl, by intro w hSw; (try dsimp only at hSw); go_simp; first | done | with_reducible rfl⟩) (by assumption) ?_
                      try simp only [Act.put, List.setIfInBounds_toArray, List.set_cons_zero, List.set_cons_succ]
                      refine wpAnyH_take (i := 5) (v := ?_) rfl (by kernel_rfl) (by kernel_rfl) (by kernel_rfl) (fun _ _ _ h => h) (Or.inl ⟨by kernel_rfl, by intro w hSw; (try dsimp only at hSw); go_simp; first | done | with_reducible rfl⟩) (by assumption) ?_
                      try simp only [Act.put, List.setIfInBounds_toArray, List.set_cons_zero, List.set_cons_succ]
                      refine wpAnyH_take (i := 6) (v := ?_) rfl (by kernel_rfl) (by kernel_rfl) (by kernel_rfl) (fun _ _ _ h => h) (Or.inl ⟨by kernel_rfl, by intro w hSw; (try dsimp only at hSw); go_simp; first | done | with_reducible rfl⟩) (by assumption) ?_
                      try simp only [Act.put, List.setIfInBounds_toArray, List.set_cons_zero, List.set_cons_succ]
                      refine wpAnyH_take (i := 8) (v := ?_) rfl (by kernel_rfl) (by kernel_rfl) (by kernel_rfl) (fun _ _ _ h => h) (Or.inl ⟨by kernel_rfl, by intro w hSw; (try dsimp only at hSw); go_simp; first | done | with_reducible rfl⟩) (by assumption) ?_
                      try simp only [Act.put, List.setIfInBounds_toArray, List.set_cons_zero, List.set_cons_succ]
                      refine wpAnyH_take (i := 9) (v := ?_) rfl (by kernel_rfl) (by kernel_rfl) (by kernel_rfl) (fun _ _ _ h => h) (Or.inl ⟨by kernel_rfl, by intro w hSw; (try dsimp only at hSw); go_simp; first | done | with_reducible rfl⟩) (by assumption) ?_
                      try simp only [Act.put, List.setIfInBounds_toArray, List.set_cons_zero, List.set_cons_succ]
                      refine wpAnyH_take (i := 11) (v := ?_) rfl (by kernel_rfl) (by kernel_rfl) (by kernel_rfl) (fun _ _ _ h => h) (Or.inl ⟨by kernel_rfl, by intro w hSw; (try dsimp only at hSw); go_simp; first | done | with_reducible rfl⟩) (by assumption) ?_
                      try simp only [Act.put, List.setIfInBounds_toArray, List.set_cons_zero, List.set_cons_succ]
                      refine wpAnyH_ready (rs := [4]) (by kernel_rfl) (by simp) ?_
                      refine AllReadyH.cons rfl (fun K hK => ?_) AllReadyH.nil
                      go_simp
                      go_at_call 36
                      refine (HROW.out s os hsR HOS.out _).mono ?_
                      rintro e13 w13 ⟨k13, rfl, hk131, hk132, hb13⟩
                      have HS13 := Lib.hid (HSd.out.next hb13)
                      clear hb13 hHeld
                      refine hK.out _ _ (mbox HS13.out.rb) (fun hHeld => ?_)
                      clear hK K
                      try simp only [Act.put, List.setIfInBounds_toArray, List.set_cons_zero, List.set_cons_succ]
                      refine wpAnyH_ready (rs := [7]) (by kernel_rfl) (by simp) ?_
                      refine AllReadyH.cons rfl (fun K hK => ?_) AllReadyH.nil
                      go_simp
                      go_at_call 36
                      refine (HROW.out n on hnlt HON.out _).mono ?_
                      rintro e14 w14 ⟨k14, rfl, hk141, hk142, hb14⟩
                      have HS14 := Lib.hid (HS13.out.next hb14)
                      clear hb14 hHeld HS13
                      refine hK.out _ _ (mbox HS14.out.rb) (fun hHeld => ?_)
                      clear hK K
                      try simp only [Act.put, List.setIfInBounds_toArray, List.set_cons_zero, List.set_cons_succ]
                      refine wpAnyH_ready (rs := [10]) (by kernel_rfl) (by simp) ?_
                      refine AllReadyH.cons rfl (fun K hK => ?_) AllReadyH.nil
                      go_simp
                      go_at_call 36
                      refine (HROW.out s os hsR HOS.out _).mono ?_
                      rintro e15 w15 ⟨k15, rfl, hk151, hk152, hb15⟩
                      have HS15 := Lib.hid (HS14.out.next hb15)
                      clear hb15 hHeld HS14
                      have hct15 := HS15.out.cells.cell hlts
                      rw [← HOS.out, Mat.flat_at _ _ hjC2, (clTo_at).1, HFF.out, HOS.out] at hct15
                      refine hK.out _ _ (mbox HS15.out.rb) (fun hHeld => ?_)
                      clear hK K
                      try simp only [Act.put, List.setIfInBounds_toArray, List.set_cons_zero, List.set_cons_succ]
                      refine wpAnyH_take (i := 12) (v := ?_) rfl (by kernel_rfl) (by kernel_rfl) (by kernel_rfl) (fun _ _ _ h => h) (Or.inl ⟨by kernel_rfl, by intro w hSw; (try dsimp only at hSw); go_simp; first | done | with_reducible rfl⟩) (by assumption) ?_
                      try simp only [Act.put, List.setIfInBounds_toArray, List.set_cons_zero, List.set_cons_succ]
                      refine wpAnyH_ready (rs := [13]) (by kernel_rfl) (by simp) ?_
                      refine AllReadyH.cons rfl (fun K hK => ?_) AllReadyH.nil
                      go_simp
                      refine hK.out _ _ (mbox HS15.out.rb) (fun hHeld => ?_)
                      clear hK K
                      try simp only [Act.put, List.setIfInBounds_toArray, List.set_cons_zero, List.set_cons_succ]
                      refine wpAnyH_ready (rs := [14]) (by kernel_rfl) (by simp) ?_
                      refine AllReadyH.cons rfl (fun K hK => ?_) AllReadyH.nil
                      go_simp
                      go_at_call 38
                      refine (HADD.out (clTo m S2 n j s) (clTo_ok HM.out HOK2.out hjC2) s n hsR hnlt hsn F HFB2.out _ _ k13 k14 _ (HS15.out.tab HT.out hg0) HS15.out.cells (fun _ => by rw [HOS.out]) (fun _ => by rw [HON.out])).mono ?_
                      rintro e16 w16 ⟨⟨v16, rfl⟩, hc16, ho16⟩
                      have HS16 := Lib.hid ((HS15.out.wrote ho16 hc16 HGL.out).congr (f' := Mat.flat t (clTo m S2 n j (s + 1))) (fun p _ => by
                        show addRow m _ s F _ (p / t) (p % t) = _
                        rw [← HFF.out]; exact clTo_step hsn _ _))
                      clear hc16 ho16 hHeld hct15 HS15
                      refine hK.out _ _ (mbox HS16.out.rb) (fun hHeld => ?_)
                      clear hK K
                      try simp only [Act.put, List.setIfInBounds_toArray, List.set_cons_zero, List.set_cons_succ]
                      refine wpAnyH_done (by kernel_rfl) ?_ _
                      go_wp2
                      go_roundg (R - (s + 1))
                      case measure => omega
                      case rel => exact ⟨s + 1, by omega, by go_num, HS16.out⟩
                  · have hd5 : decide ((s : Int) < R) = false := decide_eq_false (by omega)
                    have hsR2 : s = R := by omega
                    subst hsR2
                    have HS17 := Lib.hid (HS.out.congr (f' := Mat.flat t (Mat.red m s A (j + 1)).1) (HFL.out _ _ (fun p q hp hq => by
                      rw [HSOME.out.1]
                      show _ = Mat.clear m (Mat.scale m (Mat.swap A1 i n) n (Fld.inv m (Mat.swap A1 i n n j))) n j p q
                      rw [swap_at, HX.out, HFI.out, HS1.out, HS2.out]
                      exact clTo_end p q hp hq)))
                    have HEX := Lib.hid (show ints (natsL (Mat.red m s A (j + 1)).2) = ints (natsL pv) ++ [.int .i64 (j : Int)] by rw [HSOME.out.2]; exact natsL_snoc _ _)
                    have hbl2 := HS17.out.rb.lt
                    clear HS
                    go_wp2_with (refine wpList_app _ rfl (.tmp 95) (.tmp 97) 22 rfl (w.heap.size + 1) 3 (.int .i64 0) 8 Tryd.underlying22 elem_int6 rfl a n c _ rfl (HS17.out.own.alloc _) _ (some ⟨wr.heap.size, 0, none⟩) 1 1 [.int .i64 (j : Int)] rfl (Rd.one wr _ _) rfl (by intro u hu; simp only [List.mem_singleton] at hu; subst hu; rfl) (by unfold maxLen; omega) (by omega) (by simp; omega) ?_; intro a2 c2 w17 ho hgr; rw [← HEX.out] at ho; have HS18 := Lib.hid (HS17.out.app _ ho hgr HGL.out (Nat.le_refl _)); clear ho hgr)
                    go_roundg (cols - (j + 1))
                    case measure => omega
                    case rel => exact ⟨j + 1, a2, n + 1, c2, by omega, by go_num, rfl, HS18.out⟩
    · have hd : decide ((j : Int) < cols) = false := decide_eq_false (by omega)
      have hjc2 : j = cols := by omega
      subst hjc2
      rw [← HA1.out, ← HPV.out] at HS
      have hnl : (Mat.red m R A j).2.length = n := by have := HS.out.own.len; simpa [ints, natsL] using this
      have HNL := Lib.hid hnl
      clear hnl
      go_wp2
      try rw [Exit.noGoto_ret]
      go_ret
      rw [HNL.out]
      exact ⟨⟨a, c, rfl, HS.out.own.le, HS.out.own.cap, own_nil HS.out.own, HS.out.own.rd⟩, HS.out.cells, HS.out.only⟩
end Go.Proofs.YtaijjhddgecieaaDoor
