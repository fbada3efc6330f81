/- Matrices: Transpose and At. -/
import Derived.Test.YtaijjhddgecieaaDoorM9
namespace Go.Proofs.YtaijjhddgecieaaDoor
set_option linter.unusedSimpArgs false
set_option linter.unusedVariables false
open Go.RowKit Go.Lib

/-- what stands in memory while a matrix is made of one: the argument's box, the result's cell, the new matrix's box, and its cells -/
structure Made1 (w wr : World) (b1 b2 g gc N : Nat) (a z c : Array Value) (f : Nat → Nat) : Prop where
  ra : Row wr b1 24 a
  rz : Row wr b2 24 z
  rc : Row wr gc 24 c
  cells : Cells wr g N f
  below : Below w.heap.size w wr
section
variable {w wr w' : World} {b1 b2 g gc N : Nat} {a z c : Array Value} {f : Nat → Nat}
theorem Made1.next (h : Made1 w wr b1 b2 g gc N a z c f) (hb : Below wr.heap.size wr w') : Made1 w w' b1 b2 g gc N a z c f :=
  ⟨h.ra.below hb h.ra.lt, h.rz.below hb h.rz.lt, h.rc.below hb h.rc.lt, h.cells.below hb h.cells.lt, below_call h.below hb⟩
theorem Made1.drew (h : Made1 w wr b1 b2 g gc N a z c f) : Made1 w wr.drew b1 b2 g gc N a z c f := ⟨h.ra, h.rz, h.rc, h.cells, h.below.drew⟩
theorem Made1.wrote (h : Made1 w wr b1 b2 g gc N a z c f) {f' : Nat → Nat} (ho : Only (fun k => k = g) wr w') (hc : Cells w' g N f') (h1 : b1 ≠ g) (h3 : b2 ≠ g) (h2 : gc ≠ g) (h4 : w.heap.size ≤ g) : Made1 w w' b1 b2 g gc N a z c f' :=
  ⟨ho.row h.ra h1, ho.row h.rz h3, ho.row h.rc h2, hc, h.below.trans (ho.below h.below.size (fun k hk => by subst hk; omega))⟩
theorem Made1.put (h : Made1 w wr b1 b2 g gc N a z c f) {k : Nat} (hk : k < N) (v : Nat) (h1 : b1 ≠ g) (h3 : b2 ≠ g) (h2 : gc ≠ g) (h4 : w.heap.size ≤ g) : Made1 w (wr.setCell ⟨g, k, none⟩ (.int .i64 (v : Int))) b1 b2 g gc N a z c (fun p => if p = k then v else f p) :=
  ⟨h.ra.far h1 _, h.rz.far h3 _, h.rc.far h2 _, h.cells.put hk v, h.below.setCell h4 _⟩
theorem Made1.congr (h : Made1 w wr b1 b2 g gc N a z c f) {f' : Nat → Nat} (e : ∀ p, p < N → f p = f' p) : Made1 w wr b1 b2 g gc N a z c f' := ⟨h.ra, h.rz, h.rc, h.cells.congr e, h.below⟩
end
set_option maxRecDepth 100000 in
set_option maxHeartbeats 1600000 in
theorem transp_no (ma ra ca : Int) (qa : Option Addr) (na ka : Nat) (xs : List Int) (w : World) (hla : xs.length = na) (hna : na ≤ 9223372036854775807) (hra : Rd w w.heap.size qa (ints xs)) (h : okMat ma ra ca xs = false) :
    Calls Tryd.prog 19 #[matV ma ra ca qa na ka] w fun e w' => e = .returned (outV nilM 1) ∧ Below w.heap.size w w' := by
  have HVA := Lib.hid (fun (W : World) (h : Below w.heap.size w W) => mvalid_any ma ra ca qa na ka xs W hla hna ((hra.below h).more h.size))
  rw [h] at HVA
  clear hla hna hra h
  unfold matV at HVA ⊢
  have HW : Hid (Below w.heap.size w ((w.alloc (.cells (matC ma ra ca qa na ka) 24)).alloc (.cells #[.int .i64 0, .int .i64 0, .int .i64 0, .slice none 0 0] 24))) := Lib.hid (((Below.refl _ w).alloc (Nat.le_refl _) _).alloc (by simp) _)
  have HRZ : Hid (Row ((w.alloc (.cells (matC ma ra ca qa na ka) 24)).alloc (.cells #[.int .i64 0, .int .i64 0, .int .i64 0, .slice none 0 0] 24)) (w.heap.size + 1) 24 #[.int .i64 0, .int .i64 0, .int .i64 0, .slice none 0 0]) := Lib.hid (Row.made _ _ (by simp))
  go_enter Tryd.func19, Tryd.ntmps19
  go_wp2_with fail
  refine (HVA.out _ HW.out).mono ?_
  rintro e w1 ⟨rfl, hb⟩
  have hlt1 := hb.size
  simp only [size1] at hlt1
  have HW1 := Lib.hid (below_call HW.out hb)
  have HRZ1 := Lib.hid (HRZ.out.below hb HRZ.out.lt)
  clear hb
  go_wp2_with (refine wpList_store_row rfl _ _ _ rfl (w.heap.size + 1) (matC 0 0 0 none 0 0) rfl rfl _ _ HRZ1.out (by kernel_rfl) rfl (matC_one _ _ _ _ _ _) ?_)
  refine bodyPost_ret (v := outV nilM 1) ?_ rfl ⟨rfl, below_whole HW1.out (by omega) _⟩
  exact results_row_tmp rfl _ _ (w.heap.size + 1) _ _ _ _ rfl rfl (HRZ1.out.whole _) Tryd.underlying24 (by rfl) (by kernel_rfl)
/-- the transposed matrix after i rows of the first, and t elements of the next -/
def trTo (A : Nat → Nat → Nat) (i t p q : Nat) : Nat := if q < i ∨ (q = i ∧ p < t) then A q p else 0
theorem trTo_put {A : Nat → Nat → Nat} {i t : Nat} (p q : Nat) : trTo A i (t + 1) p q = if p = t ∧ q = i then A i t else trTo A i t p q := by
  unfold trTo
  by_cases e : p = t ∧ q = i
  · rw [if_pos e, if_pos (.inr ⟨e.2, by omega⟩), e.1, e.2]
  · rw [if_neg e]
    by_cases e2 : q < i ∨ (q = i ∧ p < t)
    · rw [if_pos e2, if_pos (by omega)]
    · rw [if_neg e2, if_neg (by omega)]
set_option maxRecDepth 100000 in
set_option maxHeartbeats 3200000 in
theorem transp_yes {m r c : Nat} {A : Nat → Nat → Nat} (qa : Option Addr) (ka : Nat) (w : World) (hA : MatR w w.heap.size m r c qa ka A) (hc : c ≤ 32) :
    Calls Tryd.prog 19 #[matV m r c qa (r * c) ka] w fun e w' => ∃ g, e = .returned (outV (matV m c r (some ⟨g, 0, none⟩) (c * r) (c * r)) 0) ∧ w.heap.size ≤ g ∧ Cells w' g (c * r) (Mat.flat r (Mat.tr A)) ∧ Below w.heap.size w w' := by
  have hr := hA.hr
  have HA := Lib.hid hA
  have HRK := Lib.hid (And.intro hr hc)
  have HVA := Lib.hid (fun (W : World) (h : Below w.heap.size w W) => mvalid_yes hA hc W h h.size)
  have HRA0 := Lib.hid (fun i hi W => mrow_any hA i hi W)
  have HZ := Lib.hid (fun W => zero_any (m : Int) c r (by omega) (by omega) W)
  have HRC0 := Lib.hid (fun (w0 : World) (g : Nat) (h : Cells w0 g (c * r) (Mat.flat r (fun _ _ => 0))) => mrow_any (MatR.of_cells (B := g + 1) h (Nat.lt_succ_self _) hA.hm hc (by omega) (fun _ _ _ _ => Nat.two_pow_pos m)))
  have hNle : c * r ≤ 32 * 32 := Nat.mul_le_mul hc hr
  obtain ⟨NA, hNA⟩ : ∃ N, r * c = N := ⟨_, rfl⟩
  obtain ⟨N, hN⟩ : ∃ N, c * r = N := ⟨_, rfl⟩
  have HNA := Lib.hid hNA
  have HN := Lib.hid hN
  rw [hNA] at HVA HRA0 ⊢
  rw [hN] at HZ HRC0 hNle ⊢
  unfold matV at HVA HRA0 HRC0 ⊢
  clear hA hNA hN
  have HW : Hid (Below w.heap.size w ((w.alloc (.cells (matC m r c qa NA ka) 24)).alloc (.cells #[.int .i64 0, .int .i64 0, .int .i64 0, .slice none 0 0] 24))) := Lib.hid (((Below.refl _ w).alloc (Nat.le_refl _) _).alloc (by simp) _)
  have HRA : Hid (Row ((w.alloc (.cells (matC m r c qa NA ka) 24)).alloc (.cells #[.int .i64 0, .int .i64 0, .int .i64 0, .slice none 0 0] 24)) w.heap.size 24 (matC m r c qa NA ka)) := Lib.hid ((Row.new w _ _).alloc _)
  have HRZ : Hid (Row ((w.alloc (.cells (matC m r c qa NA ka) 24)).alloc (.cells #[.int .i64 0, .int .i64 0, .int .i64 0, .slice none 0 0] 24)) (w.heap.size + 1) 24 (matC 0 0 0 none 0 0)) := Lib.hid (Row.made _ _ (by simp))
  go_enter Tryd.func19, Tryd.ntmps19
  go_wp2_with fail
  refine (HVA.out _ HW.out).mono ?_
  rintro e w1 ⟨rfl, hb⟩
  have hlt1 := hb.size
  simp only [size1] at hlt1
  have HW1 := Lib.hid (below_call HW.out hb)
  have HRA1 := Lib.hid (HRA.out.below hb HRA.out.lt)
  have HRZ1 := Lib.hid (HRZ.out.below hb HRZ.out.lt)
  obtain ⟨a0, a1, a2, a3⟩ := mbox HRA1.out
  clear hb HW HRA HRZ
  go_wp2_with fail
  refine (HZ.out _).mono ?_
  rintro e w3 ⟨g, rfl, hg, hc3, hb⟩
  have hlt3 := hb.size
  have HC3 := Lib.hid hc3
  have HRC := Lib.hid (HRC0.out w3 g hc3)
  have HW3 := Lib.hid (below_call HW1.out hb)
  have HRA3 := Lib.hid (HRA1.out.below hb HRA1.out.lt)
  have HRZ3 := Lib.hid (HRZ1.out.below hb HRZ1.out.lt)
  have hglt := hc3.lt
  clear a0 a1 a2 a3 hb HW1 HRA1 HRZ1 hc3 HRC0
  obtain ⟨a0, a1, a2, a3⟩ := mbox HRA3.out
  have hz0 : w.heap.size < w3.heap.size := by omega
  have hz1 : w.heap.size + 1 < w3.heap.size := by omega
  go_wp2_with fail
  have HS0 := Lib.hid (show Made1 w (w3.alloc (.cells (matC m c r (some ⟨g, 0, none⟩) N N) 24)) w.heap.size (w.heap.size + 1) g w3.heap.size N (matC m r c qa NA ka) (matC 0 0 0 none 0 0) (matC m c r (some ⟨g, 0, none⟩) N N) (Mat.flat r (trTo A 0 0)) from
    ⟨HRA3.out.alloc _, HRZ3.out.alloc _, Row.made _ _ rfl, (HC3.out.alloc _).congr (fun p _ => by unfold Mat.flat trTo; simp), HW3.out.alloc (by omega) _⟩)
  clear a0 a1 a2 a3 HC3 HRA3 HRZ3
  have hg2 : w.heap.size + 1 < g := by omega
  go_loopw [21] (fun i wr => ∃ i' : Nat, i' ≤ r ∧ i = .int .i64 i' ∧ Made1 w wr w.heap.size (w.heap.size + 1) g w3.heap.size N (matC m r c qa NA ka) (matC 0 0 0 none 0 0) (matC m c r (some ⟨g, 0, none⟩) N N) (Mat.flat r (trTo A i' 0))) (fun i _ => r - (intOf i).toNat)
  case atStart => exact ⟨0, Nat.zero_le _, rfl, HS0.out⟩
  case round =>
    obtain ⟨i, hi, rfl, hs⟩ := hrel
    have HS := Lib.hid hs
    obtain ⟨a0, a1, a2, a3⟩ := mbox hs.ra
    clear hs HS0
    by_cases hir : i < r
    · have hd : decide ((i : Int) < r) = true := decide_eq_true (by omega)
      go_wp2_with fail
      refine (HRA0.out i hir _).mono ?_
      rintro e w4 ⟨q1, k1, rfl, hk1, hk2, hq1, hb⟩
      have HS4 := Lib.hid (HS.out.next hb)
      have HQ1 := Lib.hid hq1
      clear a0 a1 a2 a3 hb HS hq1
      go_wp2_with fail
      go_loopw [28] (fun t wr => ∃ t' : Nat, t' ≤ c ∧ t = .int .i64 t' ∧ Made1 w wr w.heap.size (w.heap.size + 1) g w3.heap.size N (matC m r c qa NA ka) (matC 0 0 0 none 0 0) (matC m c r (some ⟨g, 0, none⟩) N N) (Mat.flat r (trTo A i t'))) (fun i _ => c - (intOf i).toNat)
      case atStart => exact ⟨0, Nat.zero_le _, rfl, HS4.out⟩
      case round =>
        obtain ⟨t, htk, rfl, hs⟩ := hrel
        have HS := Lib.hid hs
        have hbw := hs.below
        obtain ⟨c0, c1, c2, c3⟩ := mbox hs.rc
        clear hs HS4
        by_cases hlt : t < c
        · have hd : decide ((t : Int) < c) = true := decide_eq_true (by omega)
          obtain ⟨ga, oa, hga, hcell⟩ := (HA.out.below hbw).row hir HQ1.out t hlt
          obtain ⟨hgal, hcell⟩ := hcell
          subst hga
          obtain ⟨F, hF⟩ : ∃ F, A i t = F := ⟨_, rfl⟩
          rw [hF] at hcell
          have HF := Lib.hid hF
          clear hF hbw hgal
          go_wp2_with fail
          refine (HRC.out t hlt _).mono ?_
          rintro e w5 ⟨q2, k2, rfl, hk21, hk22, hq2, hb5⟩
          have HS5 := Lib.hid (HS.out.next hb5)
          obtain ⟨g9, o9, e9, rfl⟩ := hq2 (by omega)
          injection e9 with e9
          injection e9 with e9 e10
          subst e9; subst e10
          obtain ⟨oo, hoo⟩ : ∃ oo, 0 + t * r = oo := ⟨_, rfl⟩
          rw [hoo]
          have HOO := Lib.hid hoo
          have hlt2 : oo + i < N := by
            have := Mat.at_lt hlt hir
            rw [HN.out] at this
            omega
          have hcell5 := HS5.out.cells.cell hlt2
          have hfr := HS5.out.cells.frozen (oo + i)
          clear hoo hb5 hq2 c0 c1 c2 c3 hcell
          go_wp2_with fail
          go_roundw
          case rel =>
            refine ⟨t + 1, by omega, by go_num, (HS5.out.put hlt2 F (by omega) (by omega) (by omega) (by omega)).congr fun p hp => ?_⟩
            rw [← HN.out] at hp
            rw [← HOO.out, Nat.zero_add]
            exact flat_put hlt hir (fun p q _ _ => by rw [← HF.out]; exact trTo_put p q) p hp
          case measure => simp [intOf]; omega
        · have hd : decide ((t : Int) < c) = false := decide_eq_false (by omega)
          have htk : t = c := by omega
          subst htk
          have HS5 := Lib.hid (HS.out.congr (f' := Mat.flat r (trTo A (i + 1) 0)) (fun p hp => by
            rw [← HN.out] at hp
            refine Mat.flat_congr (fun p q h1 h2 => ?_) p hp
            unfold trTo
            by_cases e : q < i ∨ (q = i ∧ p < t)
            · rw [if_pos e, if_pos (by omega)]
            · rw [if_neg e, if_neg (by omega)]))
          go_wp2_with fail
          go_roundw
          case rel => exact ⟨i + 1, by omega, by go_num, HS5.out⟩
          case measure => simp [intOf]; omega
    · have hd : decide ((i : Int) < r) = false := decide_eq_false (by omega)
      have hir : i = r := by omega
      subst hir
      clear a0 a1 a2 a3
      obtain ⟨c0, c1, c2, c3⟩ := mbox HS.out.rc
      go_wp2_with (refine wpList_store_row rfl _ _ _ rfl (w.heap.size + 1) (matC m c i (some ⟨g, 0, none⟩) N N) rfl rfl _ _ HS.out.rz (by kernel_rfl) rfl (matC_one _ _ _ _ _ _) ?_)
      refine bodyPost_ret (v := outV (matV m c i (some ⟨g, 0, none⟩) N N) 0) ?_ rfl ⟨g, rfl, by omega, ?_, below_whole HS.out.below (by omega) _⟩
      · exact results_row_tmp rfl _ _ (w.heap.size + 1) _ _ _ _ rfl rfl (HS.out.rz.whole _) Tryd.underlying24 (by rfl) (by kernel_rfl)
      · exact (HS.out.cells.apart (by omega) _).congr (fun p hp => by rw [← HN.out] at hp; exact Mat.flat_congr (fun p q hp hq => by unfold trTo Mat.tr; rw [if_pos (.inl hq)]) p hp)
end Go.Proofs.YtaijjhddgecieaaDoor
