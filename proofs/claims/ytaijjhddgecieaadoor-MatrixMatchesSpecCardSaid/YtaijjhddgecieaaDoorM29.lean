/- Matrices: the reference's beside. -/
import Derived.Test.YtaijjhddgecieaaDoorM27
namespace Go.Proofs.YtaijjhddgecieaaDoor
set_option linter.unusedSimpArgs false
set_option linter.unusedVariables false
open Go.RowKit Go.Lib

/-- both matrices' rows before i, and of row i the first t -/
theorem bsTo_put {k : Nat} {A B : Nat → Nat → Nat} {i t : Nat} (p q : Nat) : bsTo k A B i (t + 1) p q = if p = i ∧ q = t then beside k A B i t else bsTo k A B i t p q := by
  unfold bsTo
  by_cases e : p = i ∧ q = t
  · rw [if_pos e, if_pos (.inr ⟨e.1, by omega⟩), e.1, e.2]
  · rw [if_neg e]
    by_cases e2 : p < i ∨ (p = i ∧ q < t)
    · rw [if_pos e2, if_pos (by omega)]
    · rw [if_neg e2, if_neg (by omega)]
set_option maxRecDepth 100000 in
set_option maxHeartbeats 6400000 in
theorem beside_any {m r k c : Nat} {A B : Nat → Nat → Nat} (qa : Option Addr) (ka : Nat) (qb : Option Addr) (kb : Nat) (w : World) (hA : MatR w w.heap.size m r k qa ka A) (hB : MatR w w.heap.size m r c qb kb B) (hk : k ≤ 32) (hc : c ≤ 32) :
    Calls Tryd.prog 43 #[matV m r k qa (r * k) ka, matV m r c qb (r * c) kb] w fun e w' => ∃ g, e = .returned (matV m r (k + c : Nat) (some ⟨g, 0, none⟩) (r * (k + c)) (r * (k + c))) ∧ w.heap.size ≤ g ∧ Cells w' g (r * (k + c)) (Mat.flat (k + c) (beside k A B)) ∧ Below w.heap.size w w' := by
  have hr := hA.hr
  have HA := Lib.hid hA
  have HBB := Lib.hid hB
  obtain ⟨K, hK⟩ : ∃ K, k + c = K := ⟨_, rfl⟩
  rw [hK]
  have HZ := Lib.hid (fun W => rzero_any (m : Int) r K (by omega) (by omega) W)
  have hNle : r * K ≤ 32 * 64 := Nat.mul_le_mul hr (by omega)
  have hNAle : r * k ≤ 32 * 32 := Nat.mul_le_mul hr hk
  have hNBle : r * c ≤ 32 * 32 := Nat.mul_le_mul hr hc
  obtain ⟨NA, hNA⟩ : ∃ N, r * k = N := ⟨_, rfl⟩
  obtain ⟨NB, hNB⟩ : ∃ N, r * c = N := ⟨_, rfl⟩
  obtain ⟨N, hN⟩ : ∃ N, r * K = N := ⟨_, rfl⟩
  have HNA := Lib.hid hNA
  have HNB := Lib.hid hNB
  have HN := Lib.hid hN
  have HK := Lib.hid hK
  rw [hNA] at hNAle ⊢
  rw [hNB] at hNBle ⊢
  rw [hN] at HZ hNle ⊢
  have hwK : IntKind.i64.wrap ((k : Int) + (c : Int)) = (K : Int) := by rw [← hK]; exact wrap_add k c (by omega)
  unfold matV
  clear hA hB hNA hNB hN hK
  have HW : Hid (Below w.heap.size w (((w.alloc (.cells (matC m r k qa NA ka) 24)).alloc (.cells (matC m r c qb NB kb) 24)).alloc (.cells #[.int .i64 0, .int .i64 0, .int .i64 0, .slice none 0 0] 24))) := Lib.hid ((((Below.refl _ w).alloc (Nat.le_refl _) _).alloc (by simp) _).alloc (by simp; omega) _)
  have HRA : Hid (Row (((w.alloc (.cells (matC m r k qa NA ka) 24)).alloc (.cells (matC m r c qb NB kb) 24)).alloc (.cells #[.int .i64 0, .int .i64 0, .int .i64 0, .slice none 0 0] 24)) w.heap.size 24 (matC m r k qa NA ka)) := Lib.hid (((Row.new w _ _).alloc _).alloc _)
  have HRB : Hid (Row (((w.alloc (.cells (matC m r k qa NA ka) 24)).alloc (.cells (matC m r c qb NB kb) 24)).alloc (.cells #[.int .i64 0, .int .i64 0, .int .i64 0, .slice none 0 0] 24)) (w.heap.size + 1) 24 (matC m r c qb NB kb)) := Lib.hid ((Row.made _ _ (by simp)).alloc _)
  have HRZ : Hid (Row (((w.alloc (.cells (matC m r k qa NA ka) 24)).alloc (.cells (matC m r c qb NB kb) 24)).alloc (.cells #[.int .i64 0, .int .i64 0, .int .i64 0, .slice none 0 0] 24)) (w.heap.size + 2) 24 (matC 0 0 0 none 0 0)) := Lib.hid (Row.made _ _ (by simp))
  go_enter Tryd.func43, Tryd.ntmps43
  go_wp2_with fail
  refine (HZ.out _).mono ?_
  rintro e w3 ⟨g, rfl, hg, hc3, hb⟩
  have hlt3 := hb.size
  simp only [size1] at hlt3 hg
  have HC3 := Lib.hid hc3
  have HW3 := Lib.hid (below_call HW.out hb)
  have HRA3 := Lib.hid (HRA.out.below hb HRA.out.lt)
  have HRB3 := Lib.hid (HRB.out.below hb HRB.out.lt)
  have HRZ3 := Lib.hid (HRZ.out.below hb HRZ.out.lt)
  have hglt := hc3.lt
  clear hb hc3 HW HRA HRB HRZ
  have hz0 : w.heap.size < w3.heap.size := by omega
  have hz1 : w.heap.size + 1 < w3.heap.size := by omega
  obtain ⟨a0, a1, a2, a3⟩ := mbox HRA3.out
  obtain ⟨b0, b1, b2, b3⟩ := mbox HRB3.out
  go_wp2_with fail
  have HS0 := Lib.hid (show Prods w (w3.alloc (.cells (matC m r K (some ⟨g, 0, none⟩) N N) 24)) g w3.heap.size N (matC m r k qa NA ka) (matC m r c qb NB kb) (matC 0 0 0 none 0 0) (matC m r K (some ⟨g, 0, none⟩) N N) (Mat.flat K (bsTo k A B 0 0)) from
    ⟨HRA3.out.alloc _, HRB3.out.alloc _, HRZ3.out.alloc _, Row.made _ _ rfl, (HC3.out.alloc _).congr (fun p _ => by unfold Mat.flat bsTo; simp), HW3.out.alloc (by omega) _⟩)
  clear a0 a1 a2 a3 b0 b1 b2 b3 HC3 HRA3 HRB3 HRZ3
  have hg2 : w.heap.size + 2 < g := by omega
  go_loopw [6] (fun i wr => ∃ i' : Nat, i' ≤ r ∧ i = .int .i64 i' ∧ Prods w wr g w3.heap.size N (matC m r k qa NA ka) (matC m r c qb NB kb) (matC 0 0 0 none 0 0) (matC m r K (some ⟨g, 0, none⟩) N N) (Mat.flat K (bsTo k A B i' 0))) (fun i _ => r - (intOf i).toNat)
  case atStart => exact ⟨0, Nat.zero_le _, rfl, HS0.out⟩
  case round =>
    obtain ⟨i, hi, rfl, hs⟩ := hrel
    have HS := Lib.hid hs
    obtain ⟨a0, a1, a2, a3⟩ := mbox hs.ra
    clear hs HS0
    by_cases hir : i < r
    · have hd : decide ((i : Int) < r) = true := decide_eq_true (by omega)
      obtain ⟨oa, hoa⟩ : ∃ o, i * k = o := ⟨_, rfl⟩
      obtain ⟨ob, hob⟩ : ∃ o, i * c = o := ⟨_, rfl⟩
      obtain ⟨oo, hoo⟩ : ∃ o, i * K = o := ⟨_, rfl⟩
      have HOA := Lib.hid hoa
      have HOB := Lib.hid hob
      have HOO := Lib.hid hoo
      have hfa : oa + k ≤ NA := by
        have := Nat.mul_le_mul_right k (show i + 1 ≤ r by omega)
        rw [Nat.add_mul, Nat.one_mul, HNA.out, hoa] at this
        exact this
      have hfb : ob + c ≤ NB := by
        have := Nat.mul_le_mul_right c (show i + 1 ≤ r by omega)
        rw [Nat.add_mul, Nat.one_mul, HNB.out, hob] at this
        exact this
      have hfo : oo + K ≤ N := by
        have := Nat.mul_le_mul_right K (show i + 1 ≤ r by omega)
        rw [Nat.add_mul, Nat.one_mul, HN.out, hoo] at this
        exact this
      have hw1 := wrap_mul hoa (by omega)
      have hw2 := wrap_mul hob (by omega)
      have hw3 := wrap_mul hoo (by omega)
      have hkc := HK.out
      have hw6 := wrap_add oo k (by omega)
      clear hoa hob hoo
      go_wp2_with fail
      clear a0 a1 a2 a3
      go_loopw [7] (fun t wr => ∃ t' : Nat, t' ≤ k ∧ t = .int .i64 t' ∧ Prods w wr g w3.heap.size N (matC m r k qa NA ka) (matC m r c qb NB kb) (matC 0 0 0 none 0 0) (matC m r K (some ⟨g, 0, none⟩) N N) (Mat.flat K (bsTo k A B i t'))) (fun i _ => k - (intOf i).toNat)
      case atStart => exact ⟨0, Nat.zero_le _, rfl, HS.out⟩
      case round =>
        obtain ⟨t, htk, rfl, hs⟩ := hrel
        have HS2 := Lib.hid hs
        have hbw := hs.below
        obtain ⟨a0, a1, a2, a3⟩ := mbox hs.ra
        obtain ⟨c0, c1, c2, c3⟩ := mbox hs.rc
        clear hs
        by_cases hlt : t < k
        · have hd : decide ((t : Int) < k) = true := decide_eq_true (by omega)
          obtain ⟨ga, oa', rfl, hgal, hcell⟩ := (HA.out.below hbw).cell i t hir hlt
          obtain ⟨F, hF⟩ : ∃ F, A i t = F := ⟨_, rfl⟩
          rw [hF, HOA.out] at hcell
          have HF := Lib.hid hF
          have hlt2 : oo + t < N := by omega
          have hcell5 := HS2.out.cells.cell hlt2
          have hfr := HS2.out.cells.frozen (oo + t)
          have hw4 := wrap_add oa t (by omega)
          have hw5 := wrap_add oo t (by omega)
          have hix : oa + t < NA := by omega
          have HS5 := Lib.hid ((HS2.out.wrote ((Only.refl (fun k => k = g) wr).setCell (p := ⟨g, oo + t, none⟩) rfl (.int .i64 (F : Int))) (HS2.out.cells.put hlt2 F) hg2 (by omega)).congr (f' := Mat.flat K (bsTo k A B i (t + 1))) (fun p hp => by
            rw [← HN.out] at hp
            rw [← HOO.out]
            exact flat_put hir (by omega) (fun p q _ _ => by
              rw [bsTo_put]
              unfold beside
              rw [if_pos hlt, HF.out]) p hp))
          clear hF hbw
          go_wp2_with fail
          go_region
          go_wp2_with fail
          go_roundw
          case rel => exact ⟨t + 1, by omega, by go_num, HS5.out.drew⟩
          case measure => simp [intOf]; omega
        · have hd : decide ((t : Int) < k) = false := decide_eq_false (by omega)
          have htk2 : t = k := by omega
          have HS3 := Lib.hid (HS2.out.congr (f' := Mat.flat K (bsTo k A B i (k + 0))) (fun p _ => by rw [Nat.add_zero, htk2]))
          clear HS2
          go_wp2_with fail
          clear a0 a1 a2 a3 c0 c1 c2 c3
          go_loopw [8] (fun t wr => ∃ t' : Nat, t' ≤ c ∧ t = .int .i64 t' ∧ Prods w wr g w3.heap.size N (matC m r k qa NA ka) (matC m r c qb NB kb) (matC 0 0 0 none 0 0) (matC m r K (some ⟨g, 0, none⟩) N N) (Mat.flat K (bsTo k A B i (k + t')))) (fun i _ => c - (intOf i).toNat)
          case atStart => exact ⟨0, Nat.zero_le _, rfl, HS3.out⟩
          case round =>
            obtain ⟨s, hsc, rfl, hs⟩ := hrel
            have HS4 := Lib.hid hs
            have hbw2 := hs.below
            obtain ⟨a0, a1, a2, a3⟩ := mbox hs.ra
            obtain ⟨b0, b1, b2, b3⟩ := mbox hs.rb
            obtain ⟨c0, c1, c2, c3⟩ := mbox hs.rc
            clear hs HS3
            by_cases hls : s < c
            · have hd9 : decide ((s : Int) < c) = true := decide_eq_true (by omega)
              obtain ⟨gb, ob', rfl, hgbl, hcellb⟩ := (HBB.out.below hbw2).cell i s hir hls
              obtain ⟨F, hF⟩ : ∃ F, B i s = F := ⟨_, rfl⟩
              rw [hF, HOB.out] at hcellb
              have HF := Lib.hid hF
              have hlt2 : oo + k + s < N := by omega
              have hcell5 := HS4.out.cells.cell hlt2
              have hfr := HS4.out.cells.frozen (oo + k + s)
              have hw4 := wrap_add ob s (by omega)
              have hw5 := wrap_add (oo + k) s (by omega)
              have hw7 : IntKind.i64.wrap ((oo : Int) + (k : Int) + (s : Int)) = ((oo + k + s : Nat) : Int) := by rw [← hw5]; simp
              have hix : ob + s < NB := by omega
              have HS5 := Lib.hid ((HS4.out.wrote ((Only.refl (fun k => k = g) wr).setCell (p := ⟨g, oo + k + s, none⟩) rfl (.int .i64 (F : Int))) (HS4.out.cells.put hlt2 F) hg2 (by omega)).congr (f' := Mat.flat K (bsTo k A B i (k + (s + 1)))) (fun p hp => by
                rw [← HN.out] at hp
                rw [← HOO.out, Nat.add_assoc]
                exact flat_put hir (by omega) (fun p q _ _ => by
                  rw [← Nat.add_assoc, bsTo_put, show beside k A B i (k + s) = F from by
                    unfold beside
                    rw [if_neg (Nat.not_lt.2 (Nat.le_add_right k s)), Nat.add_sub_cancel_left, HF.out]]) p hp))
              clear hF hbw2
              go_wp2_with fail
              go_region
              go_wp2_with fail
              go_roundw
              case rel => exact ⟨s + 1, by omega, by go_num, HS5.out.drew⟩
              case measure => simp [intOf]; omega
            · have hd9 : decide ((s : Int) < c) = false := decide_eq_false (by omega)
              have HS5 := Lib.hid (HS4.out.congr (f' := Mat.flat K (bsTo k A B (i + 1) 0)) (fun p hp => by
                rw [← HN.out] at hp
                refine Mat.flat_congr (fun p q h1 h2 => ?_) p hp
                unfold bsTo
                by_cases e : p < i ∨ (p = i ∧ q < k + s)
                · rw [if_pos e, if_pos (by omega)]
                · rw [if_neg e, if_neg (by omega)]))
              go_wp2_with fail
              go_roundw
              case rel => exact ⟨i + 1, by omega, by go_num, HS5.out⟩
              case measure => simp [intOf]; omega
    · have hd : decide ((i : Int) < r) = false := decide_eq_false (by omega)
      have hir2 : i = r := by omega
      obtain ⟨c0, c1, c2, c3⟩ := mbox HS.out.rc
      go_wp2_with (refine wpList_store_row rfl _ _ _ rfl (w.heap.size + 2) (matC m r K (some ⟨g, 0, none⟩) N N) rfl rfl _ _ HS.out.rz (by kernel_rfl) rfl (matC_one _ _ _ _ _ _) ?_)
      refine bodyPost_ret (v := matV m r K (some ⟨g, 0, none⟩) N N) ?_ rfl ⟨g, rfl, by omega, ?_, below_whole HS.out.below (by omega) _⟩
      · exact results_cell_row rfl _ _ (w.heap.size + 2) _ _ (0, 0) _ rfl (HS.out.rz.whole _) Tryd.underlying24 rfl (by kernel_rfl)
      · exact (HS.out.cells.apart (by omega) _).congr (fun p hp => by rw [← HN.out] at hp; exact Mat.flat_congr (fun p q hp hq => by unfold bsTo; rw [if_pos (.inl (by omega))]) p hp)

theorem own_base {w : World} {B : Nat} {e : TypeId} {a : Option Addr} {n c : Nat} {xs : List Value} (h : Own w B e a n c xs) {b o : Nat} (ea : a = some ⟨b, o, none⟩) : B ≤ b := by
  rcases h.2 with ⟨hv, _⟩ | ⟨g1, cap, cur, hv, h1, _⟩
  · injection hv with e1; rw [e1] at ea; cases ea
  · injection hv with e1; rw [e1] at ea; injection ea with ea; injection ea with e2; omega
/-- what stands in memory while the reference reduces: the argument's box, the result's cell, the copy's box, its cells, the pivots -/
structure Rr (w wr : World) (g gc N : Nat) (a z c : Array Value) (pa : Option Addr) (n k : Nat) (xs : List Value) (f : Nat → Nat) : Prop where
  ra : Row wr w.heap.size 24 a
  rz : Row wr (w.heap.size + 1) 24 z
  rc : Row wr gc 24 c
  cells : Cells wr g N f
  own : Own wr (gc + 1) 3 pa n k xs
  below : Below w.heap.size w wr
section
variable {w wr w' : World} {g gc N n k : Nat} {a z c : Array Value} {pa : Option Addr} {xs : List Value} {f : Nat → Nat}
theorem Rr.drew (h : Rr w wr g gc N a z c pa n k xs f) : Rr w wr.drew g gc N a z c pa n k xs f := ⟨h.ra, h.rz, h.rc, h.cells, h.own, h.below.drew⟩
theorem Rr.put (h : Rr w wr g gc N a z c pa n k xs f) (h1 : w.heap.size + 1 < g) (h2 : g < gc) {p : Nat} (hp : p < N) (v : Nat) : Rr w (wr.setCell ⟨g, p, none⟩ (.int .i64 (v : Int))) g gc N a z c pa n k xs (fun q => if q = p then v else f q) :=
  ⟨h.ra.far (by simp; omega) _, h.rz.far (by simp; omega) _, h.rc.far (by simp; omega) _, h.cells.put hp v, h.own.far (fun b hb => by have := (h.own.lt hb).1; simp; omega) _, h.below.setCell (by simp; omega) _⟩
theorem Rr.congr (h : Rr w wr g gc N a z c pa n k xs f) {f' : Nat → Nat} (e : ∀ p, p < N → f p = f' p) : Rr w wr g gc N a z c pa n k xs f' := ⟨h.ra, h.rz, h.rc, h.cells.congr e, h.own, h.below⟩
theorem Rr.app (h : Rr w wr g gc N a z c pa n k xs f) (h1 : w.heap.size + 1 < g) (h2 : g < gc) (o : Obj) {pa2 : Option Addr} {n2 k2 : Nat} {ys : List Value} (ho : Own w' (gc + 1) 3 pa2 n2 k2 ys) (hgr : (wr.alloc o).grownBy w' (Value.slice pa n k).ownBlock) :
    Rr w w' g gc N a z c pa2 n2 k2 ys f := by
  have hl := h.rc.lt
  have hb : Below (gc + 1) wr w' := below_grown2 ((Below.refl _ wr).alloc (by omega) o) hgr (h.own.alloc o) (by simp; omega) (Nat.le_refl _)
  exact ⟨h.ra.below hb (by omega), h.rz.below hb (by omega), h.rc.below hb (by omega), h.cells.below hb (by omega), ho, h.below.trans (hb.mono (by omega))⟩
end
/-- rows p and r exchanged, and row r scaled, in the first t columns -/
def rsTo (m : Nat) (A : Nat → Nat → Nat) (p r f t a b : Nat) : Nat := if b < t then (if a = r then Fld.mul m f (A p b) else if a = p then A r b else A a b) else A a b
theorem rsTo_step {m R C : Nat} {A : Nat → Nat → Nat} {p r f t : Nat} (hp : p < R) (hr : r < R) (ht : t < C) : ∀ x, x < R * C → (if x = r * C + t then Fld.mul m f (A p t) else if x = p * C + t then A r t else Mat.flat C (rsTo m A p r f t) x) = Mat.flat C (rsTo m A p r f (t + 1)) x := fun x hx => by
  obtain ⟨h1, h2, h3⟩ := Mat.flat_split hx
  generalize x / C = a at h1 h3
  generalize x % C = b at h2 h3
  subst h3
  rw [Mat.flat_at _ _ h2, Mat.flat_at _ _ h2]
  unfold rsTo
  by_cases hb : b = t
  · subst hb
    rw [if_neg (Nat.lt_irrefl _), if_pos (Nat.lt_succ_self _)]
    by_cases e : a = r
    · rw [if_pos (by rw [e]), if_pos e]
    · rw [if_neg (fun h => e (at_inj h2 ht h).1), if_neg e]
      by_cases e2 : a = p
      · rw [if_pos (by rw [e2]), if_pos e2]
      · rw [if_neg (fun h => e2 (at_inj h2 ht h).1), if_neg e2]
  · rw [if_neg (fun h => hb (at_inj h2 ht h).2), if_neg (fun h => hb (at_inj h2 ht h).2)]
    by_cases hlt : b < t
    · rw [if_pos hlt, if_pos (show b < t + 1 by omega)]
    · rw [if_neg hlt, if_neg (show ¬ b < t + 1 by omega)]
theorem rsTo_end {m R C : Nat} {A : Nat → Nat → Nat} {p r f : Nat} : Mat.Eq R C (rsTo m A p r f C) (Mat.scale m (Mat.swap A p r) r f) := fun a b ha hb => by
  unfold rsTo Mat.scale
  rw [if_pos hb]
  by_cases e : a = r
  · rw [if_pos e, if_pos e, swap_at]
  · rw [if_neg e, if_neg e]
    unfold Mat.swap
    by_cases e2 : a = p
    · rw [if_pos e2, if_pos e2]
    · rw [if_neg e2, if_neg e2, if_neg e]
/-- f times the row x added to the first t elements of row i -/
def addPart (m : Nat) (A : Nat → Nat → Nat) (i F : Nat) (x : Nat → Nat) (t p q : Nat) : Nat := if p = i ∧ q < t then A p q ^^^ Fld.mul m F (x q) else A p q
theorem addPart_step {m : Nat} {A : Nat → Nat → Nat} {i F t : Nat} {x : Nat → Nat} (p q : Nat) : addPart m A i F x (t + 1) p q = if p = i ∧ q = t then A i t ^^^ Fld.mul m F (x t) else addPart m A i F x t p q := by
  unfold addPart
  by_cases e : p = i ∧ q = t
  · rw [if_pos e, if_pos ⟨e.1, by omega⟩, e.1, e.2]
  · rw [if_neg e]
    by_cases e2 : p = i ∧ q < t
    · rw [if_pos e2, if_pos ⟨e2.1, by omega⟩]
    · rw [if_neg e2, if_neg (by omega)]
theorem addPart_end {m R C : Nat} {A : Nat → Nat → Nat} {i F : Nat} {x : Nat → Nat} : Mat.Eq R C (addPart m A i F x C) (addRow m A i F x) := fun p q hp hq => by
  unfold addPart addRow
  by_cases e : p = i
  · rw [if_pos ⟨e, hq⟩, if_pos e]
  · rw [if_neg (fun h => e h.1), if_neg e]
/-- all rows have their pivots: nothing is left to do -/
theorem red_full {m R : Nat} {A : Nat → Nat → Nat} {j : Nat} (h : (Mat.red m R A j).2.length = R) : ∀ d, Mat.red m R A (j + d) = Mat.red m R A j
  | 0 => rfl
  | d + 1 => by
    show Mat.col m R (Mat.red m R A (j + d)) (j + d) = _
    rw [red_full h d]
    exact Mat.col_none (by rw [h, Nat.sub_self]; rfl)
end Go.Proofs.YtaijjhddgecieaaDoor
