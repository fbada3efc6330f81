/- Matrices: the reference's reduction, the walk. -/
import Derived.Test.YtaijjhddgecieaaDoorM29
import Derived.Deep.LoopGhost
import Derived.WalkMore
import Derived.StillTailTactics
namespace Go.Proofs.YtaijjhddgecieaaDoor
set_option linter.unusedSimpArgs false
set_option linter.unusedVariables false
open Go.RowKit Go.Lib

/-- the first t cells of a block -/
def cpTo (f : Nat → Nat) (t p : Nat) : Nat := if p < t then f p else 0
theorem cpTo_step (f : Nat → Nat) (t p : Nat) : (if p = t then f t else cpTo f t p) = cpTo f (t + 1) p := by
  unfold cpTo
  by_cases e : p = t
  · rw [if_pos e, if_pos (by omega), e]
  · rw [if_neg e]
    by_cases e2 : p < t
    · rw [if_pos e2, if_pos (by omega)]
    · rw [if_neg e2, if_neg (by omega)]
theorem rsTo_zero (m : Nat) (A : Nat → Nat → Nat) (p r f a b : Nat) : rsTo m A p r f 0 a b = A a b := by
  unfold rsTo; rw [if_neg (Nat.not_lt_zero _)]
theorem addPart_zero (m : Nat) (A : Nat → Nat → Nat) (i F : Nat) (x : Nat → Nat) (p q : Nat) : addPart m A i F x 0 p q = A p q := by
  unfold addPart; rw [if_neg (fun h => Nat.not_lt_zero _ h.2)]

theorem clTo_skip {m : Nat} {A : Nat → Nat → Nat} {r j i : Nat} (h : i = r ∨ A i j = 0) (p q : Nat) : clTo m A r j i p q = clTo m A r j (i + 1) p q := by
  unfold clTo
  by_cases e : p = i
  · subst e
    rw [if_neg (fun h => Nat.lt_irrefl _ h.1)]
    rcases h with h | h
    · rw [if_neg (fun h2 => h2.2 h)]
    · split
      · rw [h, Fld.mul_zero_left, Nat.xor_zero]
      · rfl
  · by_cases e2 : p < i ∧ p ≠ r
    · rw [if_pos e2, if_pos ⟨by omega, e2.2⟩]
    · rw [if_neg e2, if_neg (fun h => e2 ⟨by omega, h.2⟩)]
theorem addPart_at {m : Nat} {A : Nat → Nat → Nat} {i F t : Nat} {x : Nat → Nat} : addPart m A i F x t i t = A i t := by
  unfold addPart; rw [if_neg (fun h => Nat.lt_irrefl _ h.2)]
theorem addPart_far {m : Nat} {A : Nat → Nat → Nat} {i F t p q : Nat} {x : Nat → Nat} (h : p ≠ i) : addPart m A i F x t p q = A p q := by
  unfold addPart; rw [if_neg (fun e => h e.1)]
theorem rsTo_at {m : Nat} {A : Nat → Nat → Nat} {p r f t a : Nat} : rsTo m A p r f t a t = A a t := by
  unfold rsTo; rw [if_neg (Nat.lt_irrefl _)]

set_option maxRecDepth 100000 in
set_option maxHeartbeats 6400000 in
theorem rred_any {m R C cols : Nat} {A : Nat → Nat → Nat} (qa : Option Addr) (ka : Nat) (w : World) (hA : MatR w w.heap.size m R C qa ka A) (hcols : cols ≤ C) :
    Calls Tryd.prog 42 #[matV m R C qa (R * C) ka, .int .i64 cols] w fun e w' => (∃ g q k, e = .returned (.tuple #[matV m R C (some ⟨g, 0, none⟩) (R * C) (R * C), .slice q (Mat.red m R A cols).2.length k]) ∧ w.heap.size ≤ g ∧ k ≤ maxLen ∧ (Mat.red m R A cols).2.length ≤ k ∧ (q = none → k = 0) ∧ Rd w' w'.heap.size q (ints (natsL (Mat.red m R A cols).2)) ∧ Cells w' g (R * C) (Mat.flat C (Mat.red m R A cols).1) ∧ (∀ b o, q = some ⟨b, o, none⟩ → w.heap.size ≤ b)) ∧ Below w.heap.size w w' := by
  have hR := hA.hr
  have hC := hA.hc
  have HM := Lib.hid hA.hm
  have HOK := Lib.hid hA.ok
  have HA := Lib.hid hA
  have HZ := Lib.hid (fun W => rzero_any (m : Int) R C (by omega) hC W)
  have hN : R * C ≤ 32 * 64 := Nat.mul_le_mul hR hC
  have HAT := Lib.hid (fun i j (hi : i < R) (hj : j < C) => Mat.at_lt hi hj)
  have HSPLIT := Lib.hid (fun p (hp : p < R * C) => Mat.flat_split hp)
  have HFL := Lib.hid (fun (A1 A2 : Nat → Nat → Nat) (h : Mat.Eq R C A1 A2) => Mat.flat_congr h)
  have HPUT := Lib.hid (fun (A1 A2 : Nat → Nat → Nat) (i j v : Nat) (hi : i < R) (hj : j < C) (h : ∀ p q, p < R → q < C → A2 p q = if p = i ∧ q = j then v else A1 p q) => flat_put hi hj h)
  have HRS := Lib.hid (fun (A1 : Nat → Nat → Nat) (p r f t : Nat) (hp : p < R) (hr : r < R) (ht : t < C) => rsTo_step (m := m) (A := A1) (f := f) hp hr ht)
  obtain ⟨N, hN0⟩ : ∃ N, R * C = N := ⟨_, rfl⟩
  rw [hN0] at HZ hN HAT HSPLIT HFL HPUT HRS ⊢
  clear hN0 hA
  unfold matV
  have HW : Hid (Below w.heap.size w ((w.alloc (.cells (matC m R C qa N ka) 24)).alloc (.cells #[.int .i64 0, .int .i64 0, .int .i64 0, .slice none 0 0] 24))) := Lib.hid (((Below.refl _ w).alloc (Nat.le_refl _) _).alloc (by simp) _)
  have HRA : Hid (Row ((w.alloc (.cells (matC m R C qa N ka) 24)).alloc (.cells #[.int .i64 0, .int .i64 0, .int .i64 0, .slice none 0 0] 24)) w.heap.size 24 (matC m R C qa N ka)) := Lib.hid ((Row.new w _ _).alloc _)
  have HRZ : Hid (Row ((w.alloc (.cells (matC m R C qa N ka) 24)).alloc (.cells #[.int .i64 0, .int .i64 0, .int .i64 0, .slice none 0 0] 24)) (w.heap.size + 1) 24 (matC 0 0 0 none 0 0)) := Lib.hid (Row.made _ _ (by simp))
  go_enter Tryd.func42, Tryd.ntmps42
  go_wp2_with fail
  refine (HZ.out _).mono ?_
  rintro e w3 ⟨g, rfl, hg, hc3, hb⟩
  have hlt3 := hb.size
  simp only [size1] at hlt3 hg
  have HC3 := Lib.hid hc3
  have HW3 := Lib.hid (below_call HW.out hb)
  have HRA3 := Lib.hid (HRA.out.below hb HRA.out.lt)
  have HRZ3 := Lib.hid (HRZ.out.below hb HRZ.out.lt)
  have hglt := hc3.lt
  clear hb hc3 HW HRA HRZ
  have hz0 : w.heap.size < w3.heap.size := by omega
  have hz1 : w.heap.size + 1 < w3.heap.size := by omega
  have hg1 : w.heap.size + 1 < g := by omega
  go_wp2_with fail
  have HS0 := Lib.hid (show Rr w (w3.alloc (.cells (matC m R C (some ⟨g, 0, none⟩) N N) 24)) g w3.heap.size N (matC m R C qa N ka) (matC 0 0 0 none 0 0) (matC m R C (some ⟨g, 0, none⟩) N N) none 0 0 [] (cpTo (Mat.flat C A) 0) from
    ⟨HRA3.out.alloc _, HRZ3.out.alloc _, Row.made _ _ rfl, (HC3.out.alloc _).congr (fun p _ => by unfold cpTo; simp), Own.nil _ _ _, HW3.out.alloc (by omega) _⟩)
  clear HC3 HRA3 HRZ3 HW3
  go_loopw [7] (fun i wr => ∃ t : Nat, t ≤ N ∧ i = .int .i64 t ∧ Rr w wr g w3.heap.size N (matC m R C qa N ka) (matC 0 0 0 none 0 0) (matC m R C (some ⟨g, 0, none⟩) N N) none 0 0 [] (cpTo (Mat.flat C A) t)) (fun i _ => N - (intOf i).toNat)
  case atStart => exact ⟨0, Nat.zero_le _, rfl, HS0.out⟩
  case round =>
    obtain ⟨t, htN, rfl, hs⟩ := hrel
    have HS := Lib.hid hs
    have hbw := hs.below
    obtain ⟨a0, a1, a2, a3⟩ := mbox hs.ra
    obtain ⟨c0, c1, c2, c3⟩ := mbox hs.rc
    clear hs HS0
    by_cases hlt : t < N
    · have hd : decide ((t : Int) < N) = true := decide_eq_true (by omega)
      obtain ⟨h1, h2, h3⟩ := HSPLIT.out t hlt
      obtain ⟨ga, oa, rfl, hgal, hcell⟩ := (HA.out.below hbw).cell _ _ h1 h2
      rw [← h3] at hcell
      obtain ⟨F, hF⟩ : ∃ F, A (t / C) (t % C) = F := ⟨_, rfl⟩
      rw [hF] at hcell
      have HF := Lib.hid (show Mat.flat C A t = F from hF)
      have hcell5 := HS.out.cells.cell hlt
      have hfr := HS.out.cells.frozen t
      have HS5 := Lib.hid ((HS.out.put hg1 hglt hlt F).congr (f' := cpTo (Mat.flat C A) (t + 1)) (fun p _ => by rw [← HF.out]; exact cpTo_step _ _ _))
      clear h1 h2 h3 hF hbw
      go_wp2_with fail
      go_region
      go_wp2_with fail
      go_roundw
      case rel => exact ⟨t + 1, by omega, by go_num, HS5.out.drew⟩
      case measure => simp [intOf]; omega
    · have hd : decide ((t : Int) < N) = false := decide_eq_false (by omega)
      have htN2 : N = t := by omega
      subst htN2
      have HS1 := Lib.hid (HS.out.congr (f' := Mat.flat C (Mat.red m R A 0).1) (fun p hp => by unfold cpTo; rw [if_pos (by omega)]; rfl))
      clear HS hbw
      go_wp2_with fail
      clear a0 a1 a2 a3 c0 c1 c2 c3
      go_loopg [9, 8] cols (fun gh i s wr => ∃ (j : Nat) (a : Option Addr) (n c : Nat), j + gh = cols ∧ i = .int .i64 j ∧ s = .slice a n c ∧ Rr w wr g w3.heap.size N (matC m R C qa N ka) (matC 0 0 0 none 0 0) (matC m R C (some ⟨g, 0, none⟩) N N) a n c (ints (natsL (Mat.red m R A j).2)) (Mat.flat C (Mat.red m R A j).1))
      case atStart => exact ⟨0, none, 0, 0, by omega, rfl, rfl, HS1.out⟩
      case round =>
        obtain ⟨j, a, n, c, hj, rfl, rfl, hs⟩ := hrel
        have HS := Lib.hid hs
        obtain ⟨A1, hA1⟩ : ∃ A1, (Mat.red m R A j).1 = A1 := ⟨_, rfl⟩
        obtain ⟨pv, hpv⟩ : ∃ pv, (Mat.red m R A j).2 = pv := ⟨_, rfl⟩
        rw [hA1, hpv] at HS
        have HA1 := Lib.hid hA1
        have HPV := Lib.hid hpv
        obtain ⟨c0, c1, c2, c3⟩ := mbox hs.rc
        clear hs hA1 hpv HS1
        have hnl : pv.length = n := by have := HS.out.own.len; simpa [ints, natsL] using this
        have HNL := Lib.hid hnl
        by_cases hjn : j < cols ∧ n < R
        · obtain ⟨hjc, hnR⟩ := hjn
          have hd1 : decide ((j : Int) < cols) = true := decide_eq_true (by omega)
          have hd2 : decide ((n : Int) < R) = true := decide_eq_true (by omega)
          have hjC : j < C := by omega
          have HF := Lib.hid (Mat.red_facts HM.out HOK.out j (by omega))
          rw [HA1.out, HPV.out, hnl] at HF
          clear hnl
          go_wp2_with fail
          clear c0 c1 c2 c3
          go_loopw [11] (fun i wr => ∃ i' : Nat, n ≤ i' ∧ i' ≤ R ∧ i = .int .i64 i' ∧ Hid (∀ t, n ≤ t → t < i' → A1 t j = 0) ∧ Rr w wr g w3.heap.size N (matC m R C qa N ka) (matC 0 0 0 none 0 0) (matC m R C (some ⟨g, 0, none⟩) N N) a n c (ints (natsL pv)) (Mat.flat C A1)) (fun i _ => R - (intOf i).toNat)
          case atStart => exact ⟨n, Nat.le_refl _, by omega, rfl, Lib.hid (fun t h1 h2 => by omega), HS.out⟩
          case round =>
            obtain ⟨i, hni, hiR, rfl, hz, hs⟩ := hrel
            have HS2 := Lib.hid hs
            have HZR := Lib.hid hz.out
            obtain ⟨c0, c1, c2, c3⟩ := mbox hs.rc
            clear hs hz HS
            by_cases hilt : i < R
            · have hd : decide ((i : Int) < R) = true := decide_eq_true (by omega)
              have hd5 : ((i : Int) == (R : Int)) = false := by rw [beq_eq_false_iff_ne]; omega
              obtain ⟨oi, hoi⟩ : ∃ o, i * C = o := ⟨_, rfl⟩
              have HOI := Lib.hid hoi
              obtain ⟨X, hX⟩ : ∃ X, A1 i j = X := ⟨_, rfl⟩
              have HX := Lib.hid hX
              have HXB := Lib.hid (show X < 2 ^ m by rw [← hX]; exact HF.out.1 i j hilt hjC)
              have hltij : oi + j < N := by
                have := HAT.out i j hilt hjC
                rw [hoi] at this; exact this
              have hcell := HS2.out.cells.cell hltij
              rw [← hoi, Mat.flat_at _ _ hjC, hX, hoi] at hcell
              have hw1 := wrap_mul hoi (by omega)
              have hw2 := wrap_add oi j (by omega)
              clear hoi hX
              by_cases hX0 : X = 0
              · have hd3 : ((X : Int) == 0) = true := by rw [beq_iff_eq]; omega
                have HX0 := Lib.hid hX0
                clear hX0
                go_wp2_with fail
                go_roundw
                case rel => exact ⟨i + 1, by omega, by omega, by go_num, Lib.hid (fun t h1 h2 => by
                  by_cases e : t = i
                  · rw [e, HX.out]; exact HX0.out
                  · exact HZR.out t h1 (by omega)), HS2.out⟩
                case measure => simp [intOf]; omega
              · have hd3 : ((X : Int) == 0) = false := by rw [beq_eq_false_iff_ne]; omega
                have HX0 := Lib.hid hX0
                have HSOME := Lib.hid (red_some HA1.out HPV.out HNL.out HZR.out hni hilt (by rw [HX.out]; exact hX0))
                clear hX0 HZR
                obtain ⟨fi, hfi⟩ : ∃ fi, Fld.inv m X = fi := ⟨_, rfl⟩
                have HFI := Lib.hid hfi
                have HINV := Lib.hid (fun W => rinv_at HM.out HXB.out HX0.out W)
                rw [hfi] at HINV
                unfold pairV at HINV
                have hI1 : (0 : Int) ≤ (oi : Int) + (j : Int) := by omega
                have hI2 : (oi : Int) + (j : Int) < (N : Int) := by omega
                have hI3 : ((oi : Int) + (j : Int)).toNat = oi + j := by omega
                clear hfi
                go_wp2_with fail
                go_region_held3 (fun wn => (wn.cell? ⟨w3.heap.size, 0, none⟩ = some (.int .i64 m) ∧ wn.cell? ⟨w3.heap.size, 1, none⟩ = some (.int .i64 R) ∧ wn.cell? ⟨w3.heap.size, 2, none⟩ = some (.int .i64 C) ∧ wn.cell? ⟨w3.heap.size, 3, none⟩ = some (.slice (some ⟨g, 0, none⟩) N N)) ∧ wn.cell? ⟨g, oi + j, none⟩ = some (.int .i64 (X : Int))) (first | assumption | exact ⟨⟨c0, c1, c2, c3⟩, hcell⟩) (first
                  | (go_at_call 51; (with_reducible refine (HINV.out _).mono ?_); rintro e7 w7 ⟨rfl, rfl⟩))
                clear hI1 hI2 hI3
                go_wp2_with fail
                have hnb := HF.out.2.1
                obtain ⟨on, hon⟩ : ∃ o, n * C = o := ⟨_, rfl⟩
                have HON := Lib.hid hon
                have hwn := wrap_mul hon (by have := Nat.mul_le_mul (show n ≤ 32 by omega) hC; omega)
                clear hon
                have HS3 := Lib.hid ((HS2.out.congr (f' := Mat.flat C (rsTo m A1 i n fi 0)) (fun p _ => (rsTo_zero m A1 i n fi _ _).symm)).drew)
                clear HS2 hcell hw2 hltij c0 c1 c2 c3 HINV
                go_loopw [14] (fun t wr => ∃ t' : Nat, t' ≤ C ∧ t = .int .i64 t' ∧ Rr w wr g w3.heap.size N (matC m R C qa N ka) (matC 0 0 0 none 0 0) (matC m R C (some ⟨g, 0, none⟩) N N) a n c (ints (natsL pv)) (Mat.flat C (rsTo m A1 i n fi t'))) (fun i _ => C - (intOf i).toNat)
                case atStart => exact ⟨0, Nat.zero_le _, rfl, HS3.out⟩
                case round =>
                  obtain ⟨t, htC, rfl, hs⟩ := hrel
                  have HS := Lib.hid hs
                  obtain ⟨c0, c1, c2, c3⟩ := mbox hs.rc
                  clear hs HS3
                  by_cases htc : t < C
                  · have hd4 : decide ((t : Int) < C) = true := decide_eq_true (by omega)
                    have hlti : oi + t < N := by
                      have := HAT.out i t hilt htc
                      rw [HOI.out] at this; exact this
                    have hltn : on + t < N := by
                      have := HAT.out n t hnR htc
                      rw [HON.out] at this; exact this
                    have hxi := HS.out.cells.cell hlti
                    have hxn := HS.out.cells.cell hltn
                    have hfr := HS.out.cells.frozen (oi + t)
                    rw [← HOI.out, Mat.flat_at _ _ htc, rsTo_at, HOI.out] at hxi
                    rw [← HON.out, Mat.flat_at _ _ htc, rsTo_at, HON.out] at hxn
                    obtain ⟨x, hx⟩ : ∃ x, A1 i t = x := ⟨_, rfl⟩
                    obtain ⟨y, hy⟩ : ∃ y, A1 n t = y := ⟨_, rfl⟩
                    obtain ⟨z, hz⟩ : ∃ z, Fld.mul m fi x = z := ⟨_, rfl⟩
                    rw [hx] at hxi
                    rw [hy] at hxn
                    have HXX := Lib.hid hx
                    have HYY := Lib.hid hy
                    have HZZ := Lib.hid hz
                    have HTM := Lib.hid (fun W => rtimes6_any HM.out (show fi < 2 ^ m by rw [← HFI.out]; exact Fld.inv_lt HM.out HXB.out) (show x < 2 ^ m by rw [← hx]; exact HF.out.1 i t hilt htc) W)
                    rw [hz] at HTM
                    have hw3 := wrap_add oi t (by omega)
                    have hw4 := wrap_add on t (by omega)
                    have HS4 := Lib.hid (HS.out.put hg1 hglt hlti y)
                    have hJ1 : (0 : Int) ≤ (on : Int) + (t : Int) := by omega
                    have hJ2 : (on : Int) + (t : Int) < (N : Int) := by omega
                    have hJ3 : ((on : Int) + (t : Int)).toNat = on + t := by omega
                    clear hx hy hz
                    go_wp2_with fail
                    go_region
                    have HS5 := Lib.hid HS4.out.drew
                    clear c0 c1 c2 c3 hxi hxn hfr HS4 hw3
                    obtain ⟨c0, c1, c2, c3⟩ := mbox HS5.out.rc
                    have hcn := HS5.out.cells.cell hltn
                    have hfn := HS5.out.cells.frozen (on + t)
                    have HS6 := Lib.hid ((HS5.out.drew.put hg1 hglt hltn z).congr (f' := Mat.flat C (rsTo m A1 i n fi (t + 1))) (fun q hq => by
                      have := HRS.out A1 i n fi t hilt hnR htc q hq
                      rw [HON.out, HOI.out, HXX.out, HYY.out, HZZ.out] at this
                      exact this))
                    go_wp2_with fail
                    go_region_held3 (fun wn => (wn.cell? ⟨w3.heap.size, 0, none⟩ = some (.int .i64 m) ∧ wn.cell? ⟨w3.heap.size, 1, none⟩ = some (.int .i64 R) ∧ wn.cell? ⟨w3.heap.size, 2, none⟩ = some (.int .i64 C) ∧ wn.cell? ⟨w3.heap.size, 3, none⟩ = some (.slice (some ⟨g, 0, none⟩) N N))) (first | assumption | exact ⟨c0, c1, c2, c3⟩ | exact mbox HS6.out.rc) (first
                      | (go_at_call 45; (with_reducible refine (HTM.out _).mono ?_); rintro e5 w5 ⟨rfl, rfl⟩))
                    clear hJ1 hJ2 hJ3
                    go_wp2_with fail
                    go_roundw
                    case rel => exact ⟨t + 1, by omega, by go_num, HS6.out⟩
                    case measure => simp [intOf]; omega
                  · have hd4 : decide ((t : Int) < C) = false := decide_eq_false (by omega)
                    have HTC := Lib.hid (show t = C by omega)
                    have HOKS := Lib.hid (Mat.swap_ok HF.out.1 hilt hnR)
                    have HOK2 := Lib.hid (Mat.scale_ok HM.out HOKS.out (k := n) (show fi < 2 ^ m by rw [← HFI.out]; exact Fld.inv_lt HM.out HXB.out))
                    obtain ⟨S2, hS2⟩ : ∃ S2, Mat.scale m (Mat.swap A1 i n) n fi = S2 := ⟨_, rfl⟩
                    have HS2 := Lib.hid hS2
                    rw [hS2] at HOK2
                    clear hS2
                    have HS7 := Lib.hid (HS.out.congr (f' := Mat.flat C (clTo m S2 n j 0)) (HFL.out _ _ (fun p q hp hq => by
                      rw [clTo_zero, ← HS2.out, HTC.out]
                      exact rsTo_end p q hp hq)))
                    clear HS HOKS
                    go_wp2_with fail
                    clear c0 c1 c2 c3
                    go_loopw [16] (fun i2 wr => ∃ i' : Nat, i' ≤ R ∧ i2 = .int .i64 i' ∧ Rr w wr g w3.heap.size N (matC m R C qa N ka) (matC 0 0 0 none 0 0) (matC m R C (some ⟨g, 0, none⟩) N N) a n c (ints (natsL pv)) (Mat.flat C (clTo m S2 n j i'))) (fun i _ => R - (intOf i).toNat)
                    case atStart => exact ⟨0, Nat.zero_le _, rfl, HS7.out⟩
                    case round =>
                      obtain ⟨s, hsR, rfl, hs⟩ := hrel
                      have HS := Lib.hid hs
                      obtain ⟨c0, c1, c2, c3⟩ := mbox hs.rc
                      clear hs HS7
                      by_cases hsR2 : s < R
                      · have hd5 : decide ((s : Int) < R) = true := decide_eq_true (by omega)
                        obtain ⟨os, hos⟩ : ∃ o, s * C = o := ⟨_, rfl⟩
                        have HOS := Lib.hid hos
                        have hltsj : os + j < N := by
                          have := HAT.out s j hsR2 hjC
                          rw [hos] at this; exact this
                        obtain ⟨F, hF⟩ : ∃ F, S2 s j = F := ⟨_, rfl⟩
                        have HFF := Lib.hid hF
                        have HFB2 := Lib.hid (show F < 2 ^ m by rw [← hF]; exact HOK2.out s j hsR2 hjC)
                        have hcell := HS.out.cells.cell hltsj
                        rw [← hos, Mat.flat_at _ _ hjC, (clTo_at).1, hF, hos] at hcell
                        have hws := wrap_mul hos (by omega)
                        have hws2 := wrap_add os j (by omega)
                        clear hos hF
                        by_cases hskip : s = n ∨ F = 0
                        · have HS8 := Lib.hid (HS.out.congr (f' := Mat.flat C (clTo m S2 n j (s + 1))) (fun p _ => clTo_skip (by rw [HFF.out]; exact hskip) _ _))
                          clear HS
                          by_cases hsn : s = n
                          · have hd6 : ((s : Int) == (n : Int)) = true := by rw [beq_iff_eq]; omega
                            clear hsn hskip
                            go_wp2_with fail
                            go_roundw
                            case rel => exact ⟨s + 1, by omega, by go_num, HS8.out⟩
                            case measure => simp [intOf]; omega
                          · have hd6 : ((s : Int) == (n : Int)) = false := by rw [beq_eq_false_iff_ne]; omega
                            have hd7 : ((F : Int) == 0) = true := by rw [beq_iff_eq]; omega
                            go_wp2_with fail
                            go_roundw
                            case rel => exact ⟨s + 1, by omega, by go_num, HS8.out⟩
                            case measure => simp [intOf]; omega
                        · have hsn : s ≠ n := fun e => hskip (.inl e)
                          have hd6 : ((s : Int) == (n : Int)) = false := by rw [beq_eq_false_iff_ne]; omega
                          have hd7 : ((F : Int) == 0) = false := by rw [beq_eq_false_iff_ne]; omega
                          clear hskip
                          go_wp2_with fail
                          obtain ⟨B, hB⟩ : ∃ B, clTo m S2 n j s = B := ⟨_, rfl⟩
                          rw [hB] at HS
                          have HB := Lib.hid hB
                          have HBOK := Lib.hid (show Mat.Ok m R C B by rw [← hB]; exact clTo_ok HM.out HOK2.out hjC)
                          have HSN := Lib.hid hsn
                          have HS9 := Lib.hid (HS.out.congr (f' := Mat.flat C (addPart m B s F (B n) 0)) (fun p _ => (addPart_zero m B s F (B n) _ _).symm))
                          clear hB hsn hd6 hd7 hws2 hcell HS c0 c1 c2 c3
                          go_loopw [18] (fun i2 wr => ∃ i' : Nat, i' ≤ C ∧ i2 = .int .i64 i' ∧ Rr w wr g w3.heap.size N (matC m R C qa N ka) (matC 0 0 0 none 0 0) (matC m R C (some ⟨g, 0, none⟩) N N) a n c (ints (natsL pv)) (Mat.flat C (addPart m B s F (B n) i'))) (fun i _ => C - (intOf i).toNat)
                          case atStart => exact ⟨0, Nat.zero_le _, rfl, HS9.out⟩
                          case round =>
                            obtain ⟨u, huC, rfl, hs⟩ := hrel
                            have HS := Lib.hid hs
                            obtain ⟨c0, c1, c2, c3⟩ := mbox hs.rc
                            clear hs HS9
                            by_cases huC2 : u < C
                            · have hd8 : decide ((u : Int) < C) = true := decide_eq_true (by omega)
                              have hlts : os + u < N := by
                                have := HAT.out s u hsR2 huC2
                                rw [HOS.out] at this; exact this
                              have hltn : on + u < N := by
                                have := HAT.out n u hnR huC2
                                rw [HON.out] at this; exact this
                              have hxs := HS.out.cells.cell hlts
                              have hxn := HS.out.cells.cell hltn
                              have hfr := HS.out.cells.frozen (os + u)
                              obtain ⟨x, hx⟩ : ∃ x, B s u = x := ⟨_, rfl⟩
                              obtain ⟨y, hy⟩ : ∃ y, B n u = y := ⟨_, rfl⟩
                              obtain ⟨z, hz⟩ : ∃ z, Fld.mul m F y = z := ⟨_, rfl⟩
                              rw [← HOS.out, Mat.flat_at _ _ huC2, addPart_at, hx, HOS.out] at hxs
                              rw [← HON.out, Mat.flat_at _ _ huC2, addPart_far (fun e => HSN.out e.symm), hy, HON.out] at hxn
                              have HXX := Lib.hid hx
                              have HYY := Lib.hid hy
                              have HZZ := Lib.hid hz
                              have HTM := Lib.hid (fun W => rtimes6_any HM.out HFB2.out (show y < 2 ^ m by rw [← hy]; exact HBOK.out n u hnR huC2) W)
                              rw [hz] at HTM
                              have hb1 : x < 65536 := by
                                have h9 := HBOK.out s u hsR2 huC2
                                rw [hx] at h9
                                rcases HM.out with h | h <;> (rw [h] at h9; omega)
                              have hb2 : z < 65536 := by
                                have h9 := Fld.mul_lt HM.out y HFB2.out
                                rw [hz] at h9
                                rcases HM.out with h | h <;> (rw [h] at h9; omega)
                              have hxo : bits .xor .i64 (x : Int) (z : Int) = ((x ^^^ z : Nat) : Int) := i64_xor _ _ (by omega) (by omega)
                              have hw3 := wrap_add os u (by omega)
                              have hw4 := wrap_add on u (by omega)
                              have hK1 : (0 : Int) ≤ (os : Int) + (u : Int) := by omega
                              have hK2 : (os : Int) + (u : Int) < (N : Int) := by omega
                              have hK3 : ((os : Int) + (u : Int)).toNat = os + u := by omega
                              have hJ1 : (0 : Int) ≤ (on : Int) + (u : Int) := by omega
                              have hJ2 : (on : Int) + (u : Int) < (N : Int) := by omega
                              have hJ3 : ((on : Int) + (u : Int)).toNat = on + u := by omega
                              have HS10 := Lib.hid ((HS.out.drew.put hg1 hglt hlts (x ^^^ z)).congr (f' := Mat.flat C (addPart m B s F (B n) (u + 1))) (HOS.out ▸ HPUT.out _ _ s u (x ^^^ z) hsR2 huC2 (fun p q _ _ => by rw [← HXX.out, ← HZZ.out, ← HYY.out]; exact addPart_step p q)))
                              have HCN := Lib.hid (fun W (h : Cells W g N (Mat.flat C (addPart m B s F (B n) (u + 1)))) => show W.cell? ⟨g, on + u, none⟩ = some (.int .i64 (y : Int)) by
                                have := h.cell hltn
                                rwa [← HON.out, Mat.flat_at _ _ huC2, addPart_far (fun e => HSN.out e.symm), HYY.out, HON.out] at this)
                              clear hx hy hz hb1 hb2
                              go_wp2_with fail
                              refine wp_region_still_tail 34 (by kernel_rfl) (by kernel_rfl) ?_
                              simp only [List.take_succ_cons, List.take_zero, List.drop_succ_cons, List.drop_zero]
                              repeat (first | still_step | still_call (HTM.out _))
                              try refine wpStill_nil ?_
                              change wpList _ _ _ _ _ wr.drew
                              clear hK1 hK2 hK3 hJ1 hJ2 hJ3
                              go_wp2_with fail
                              go_roundw
                              case rel =>
                                first
                                | exact ⟨u + 1, by omega, by go_num, HS10.out⟩
                                | ((repeat apply Exists.intro); refine ⟨⟨u + 1, by omega, by go_num, HS10.out⟩, rfl⟩)
                              case measure => simp [intOf]; omega
                            · have hd8 : decide ((u : Int) < C) = false := decide_eq_false (by omega)
                              have huC3 : u = C := by omega
                              have HS11 := Lib.hid (HS.out.congr (f' := Mat.flat C (clTo m S2 n j (s + 1))) (HFL.out _ _ (fun p q hp hq => by
                                rw [huC3, addPart_end p q hp hq, ← HB.out, ← HFF.out]
                                exact clTo_step HSN.out p q)))
                              clear HS
                              go_wp2_with fail
                              go_roundw
                              case rel => exact ⟨s + 1, by omega, by go_num, HS11.out⟩
                              case measure => simp [intOf]; omega
                      · have hd5 : decide ((s : Int) < R) = false := decide_eq_false (by omega)
                        have hsR3 : s = R := by omega
                        have HS17 := Lib.hid (HS.out.congr (f' := Mat.flat C (Mat.red m R A (j + 1)).1) (HFL.out _ _ (fun p q hp hq => by
                          rw [HSOME.out.1]
                          show _ = Mat.clear m (Mat.scale m (Mat.swap A1 i n) n (Fld.inv m (Mat.swap A1 i n n j))) n j p q
                          rw [swap_at, HX.out, HFI.out, HS2.out, hsR3]
                          exact clTo_end p q hp hq)))
                        have HEX := Lib.hid (show ints (natsL (Mat.red m R A (j + 1)).2) = ints (natsL pv) ++ [.int .i64 (j : Int)] by rw [HSOME.out.2]; exact natsL_snoc _ _)
                        have hbl2 := HS17.out.rc.lt
                        clear HS
                        go_wp2_with (refine wpList_app _ rfl (.tmp 208) (.tmp 210) 22 rfl (w3.heap.size + 1) 3 (.int .i64 0) 8 Tryd.underlying22 elem_int6 rfl a n c _ rfl (HS17.out.own.alloc _) _ (some ⟨wr.heap.size, 0, none⟩) 1 1 [.int .i64 (j : Int)] rfl (Rd.one wr _ _) rfl (by intro u hu; simp only [List.mem_singleton] at hu; subst hu; rfl) (by unfold maxLen; omega) (by omega) (by simp; omega) ?_; intro a2 c2 w17 ho hgr; rw [← HEX.out] at ho; have HS18 := Lib.hid (HS17.out.app hg1 hglt _ ho hgr); clear ho hgr)
                        go_roundg (cols - (j + 1))
                        case measure => omega
                        case rel => exact ⟨j + 1, a2, n + 1, c2, by omega, by go_num, rfl, HS18.out⟩
            · have hd : decide ((i : Int) < R) = false := decide_eq_false (by omega)
              have hd5 : ((i : Int) == (R : Int)) = true := by rw [beq_iff_eq]; omega
              have HNONE := Lib.hid (red_none HA1.out HPV.out HNL.out (fun t h1 h2 => HZR.out t h1 (by omega)) (by omega))
              go_wp2_with fail
              go_roundg (cols - (j + 1))
              case measure => omega
              case rel => exact ⟨j + 1, a, n, c, by omega, by go_num, rfl, by rw [HNONE.out.1, HNONE.out.2]; exact HS2.out⟩
        · have HRED := Lib.hid (show (Mat.red m R A j).1 = (Mat.red m R A cols).1 ∧ (Mat.red m R A j).2 = (Mat.red m R A cols).2 by
            by_cases hjc : j < cols
            · have hnR : n ≤ R := by
                have := (Mat.red_facts HM.out HOK.out j (by omega)).2.1
                rw [HPV.out, hnl] at this; exact this
              have := red_full (m := m) (R := R) (A := A) (j := j) (by rw [HPV.out, hnl]; omega) (cols - j)
              rw [Nat.add_sub_cancel' (by omega)] at this
              rw [this]; exact ⟨rfl, rfl⟩
            · have e : j = cols := by omega
              rw [e]; exact ⟨rfl, rfl⟩)
          rw [← HA1.out, ← HPV.out, HRED.out.1, HRED.out.2] at HS
          rw [← HPV.out, HRED.out.2] at HNL
          by_cases hjc : j < cols
          · have hd1 : decide ((j : Int) < cols) = true := decide_eq_true (by omega)
            have hd2 : decide ((n : Int) < R) = false := decide_eq_false (by omega)
            clear hnl
            go_wp2_with (refine wpList_store_row rfl _ _ _ rfl (w.heap.size + 1) (matC m R C (some ⟨g, 0, none⟩) N N) rfl rfl _ _ HS.out.rz (by kernel_rfl) rfl (matC_one _ _ _ _ _ _) ?_)
            rw [HNL.out]
            refine bodyPost_ret (v := .tuple #[matV m R C (some ⟨g, 0, none⟩) N N, .slice a n c]) ?_ rfl ⟨⟨g, a, c, rfl, by omega, HS.out.own.le, HS.out.own.cap, own_nil HS.out.own, ?_, HS.out.cells.apart (by omega) _, fun b o e => by have := own_base HS.out.own e; omega⟩, below_whole HS.out.below (by omega) _⟩
            · exact results_row_tmp rfl _ _ (w.heap.size + 1) _ _ _ _ rfl rfl (HS.out.rz.whole _) Tryd.underlying24 (by rfl) (by kernel_rfl)
            · exact (HS.out.own.kept (fun b hb => setRow_other _ _ _ _ (by have := (HS.out.own.lt hb).1; omega))).rd
          · have hd1 : decide ((j : Int) < cols) = false := decide_eq_false (by omega)
            clear hnl
            go_wp2_with (refine wpList_store_row rfl _ _ _ rfl (w.heap.size + 1) (matC m R C (some ⟨g, 0, none⟩) N N) rfl rfl _ _ HS.out.rz (by kernel_rfl) rfl (matC_one _ _ _ _ _ _) ?_)
            rw [HNL.out]
            refine bodyPost_ret (v := .tuple #[matV m R C (some ⟨g, 0, none⟩) N N, .slice a n c]) ?_ rfl ⟨⟨g, a, c, rfl, by omega, HS.out.own.le, HS.out.own.cap, own_nil HS.out.own, ?_, HS.out.cells.apart (by omega) _, fun b o e => by have := own_base HS.out.own e; omega⟩, below_whole HS.out.below (by omega) _⟩
            · exact results_row_tmp rfl _ _ (w.heap.size + 1) _ _ _ _ rfl rfl (HS.out.rz.whole _) Tryd.underlying24 (by rfl) (by kernel_rfl)
            · exact (HS.out.own.kept (fun b hb => setRow_other _ _ _ _ (by have := (HS.out.own.lt hb).1; omega))).rd
end Go.Proofs.YtaijjhddgecieaaDoor
