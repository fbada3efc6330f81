/- PrintYields: for every unit and every number the law returns true, and its arguments read as they did. No condition beyond the table's tie. -/
import Derived.Test.YtgeiholilcgooaaDoorF7
import Derived.Deep.RegionHeld3
namespace Go.Proofs.YtgeiholilcgooaaDoor
set_option linter.unusedSimpArgs false
set_option linter.unusedVariables false
open Go.ChangeShapes Go.WideShapes Go.ChangeAt Go.RowKit Go.Shelf Go.Lib
attribute [local go_sem] Oper.semAt_some

/-- the number that is counted down -/
def Cnt (A : World) (g : Nat) : Prop := ∃ E : Int, -9223372036854775808 ≤ E ∧ E ≤ 9223372036854775807 ∧ Row A g 3 #[.int .i64 E]
theorem calls_round {l n : Nat} {P : Program} {f : FuncId} {args : Array Value} {w : World} {R : Ending → World → Prop} (h : Calls P f args w R) : CallsIn (Fence.wide.inRound l) n P f args w R :=
  show CallsIn Fence.wide n P f args w R from callsIn_wide.2 h
theorem wrap_in (x : Int) : -9223372036854775808 ≤ IntKind.i64.wrap x ∧ IntKind.i64.wrap x ≤ 9223372036854775807 := by rw [IntKind.wrap_i64]; omega
theorem twinsOf_at {b : List UInt8} {pre : List (List UInt8)} {x : List UInt8} (h : pre ++ [x] <+: twinsOf b) : x = Crc.twin pre.length b ∧ pre.length < space b.length := by
  have hl := h.length_le
  rw [twinsOf_length, List.length_append, List.length_singleton] at hl
  refine ⟨?_, by omega⟩
  have h1 := List.IsPrefix.getElem h (i := pre.length) (by simp)
  simp [twinsOf] at h1
  exact h1
/-- what is kept while the two ranges run: s, the place of the answer, the iterator -/
structure YK (w : World) (s : ByteArray) (B : Nat) (A : World) : Prop where
  u : Row A w.heap.size 9 #[.string s]
  e : Cnt A (w.heap.size + 1)
  r : Row A (w.heap.size + 2) 4 #[.bool false]
  b : Below w.heap.size w A
  hs : Row A B 9 #[.string s]
  hl : Row A (B + 1) 34 #[fv B]
  z : w.heap.size + 3 ≤ B
theorem YK.next {w : World} {s : ByteArray} {B : Nat} {A A' : World} (h : YK w s B A) {C : Nat} (hC : B + 2 ≤ C) (hb : Below C A A') : YK w s B A' := by
  have := h.z
  obtain ⟨E, e1, e2, e3⟩ := h.e
  exact ⟨h.u.below hb (by omega), ⟨E, e1, e2, e3.below hb (by omega)⟩, h.r.below hb (by omega), h.b.trans (hb.mono (by omega)), h.hs.below hb (by omega), h.hl.below hb (by omega), h.z⟩

theorem YK.put {w : World} {s : ByteArray} {B : Nat} {A : World} (h : YK w s B A) {g : Nat} (hg : B + 2 ≤ g) (v : Value) : YK w s B (A.setCell ⟨g, 0, none⟩ v) :=
  h.next (C := B + 2) (Nat.le_refl _) ((Below.refl _ A).setCell hg v)
/-- what is kept while the last region runs -/
def YS (w : World) (s : ByteArray) (g d1 d2 : Nat) (wn : World) : Prop :=
  Row wn w.heap.size 9 #[.string s] ∧ Row wn g 3 #[.int .i64 (space s.size : Int)] ∧ (∃ b, Row wn (w.heap.size + 2) 4 #[.bool b]) ∧ Below w.heap.size w wn ∧
  wn.heap[d1]? = some (.deferred (some [])) ∧ wn.heap[d2]? = some (.deferred (some []))
theorem YS.next {w : World} {s : ByteArray} {g d1 d2 : Nat} {A A' : World} (h : YS w s g d1 d2 A) (hb : Below A.heap.size A A') : YS w s g d1 d2 A' := by
  obtain ⟨h1, h2, ⟨b, h3⟩, h4, h5, h6⟩ := h
  exact ⟨h1.below hb h1.lt, h2.below hb h2.lt, ⟨b, h3.below hb h3.lt⟩, below_call h4 hb, (hb.block _ (Array.getElem?_eq_some_iff.1 h5).1).trans h5, (hb.block _ (Array.getElem?_eq_some_iff.1 h6).1).trans h6⟩
theorem YS.drew {w : World} {s : ByteArray} {g d1 d2 : Nat} {A : World} (h : YS w s g d1 d2 A) : YS w s g d1 d2 A.drew := h.next (Below.refl _ _).drew
theorem YS.put {w : World} {s : ByteArray} {g d1 d2 : Nat} {A : World} (h : YS w s g d1 d2 A) (hg : w.heap.size + 2 < g) (h1 : w.heap.size + 2 < d1) (h2 : w.heap.size + 2 < d2) (b : Bool) :
    YS w s g d1 d2 (A.setCell ⟨w.heap.size + 2, 0, none⟩ (.bool b)) ∧ Row (A.setCell ⟨w.heap.size + 2, 0, none⟩ (.bool b)) (w.heap.size + 2) 4 #[.bool b] := by
  obtain ⟨k1, k2, ⟨b0, k3⟩, k4, k5, k6⟩ := h
  have hr : Row (A.setCell ⟨w.heap.size + 2, 0, none⟩ (.bool b)) (w.heap.size + 2) 4 #[.bool b] := k3.put 0 _
  exact ⟨⟨k1.far (by show w.heap.size ≠ w.heap.size + 2; omega) _, k2.far (by show g ≠ w.heap.size + 2; omega) _, ⟨b, hr⟩, k4.setCell (by show w.heap.size ≤ w.heap.size + 2; omega) _,
    (heap_setCell_other _ _ _ _ (by show d1 ≠ w.heap.size + 2; omega)).trans k5, (heap_setCell_other _ _ _ _ (by show d2 ≠ w.heap.size + 2; omega)).trans k6⟩, hr⟩
set_option maxRecDepth 100000 in
set_option maxHeartbeats 1600000 in
theorem yields_long (s : ByteArray) (k : Int) (w : World) (ht : Tab w) (hs : s.size ≤ 9223372036854775807) (h : 60 < s.size) :
    Calls Tryd.prog 7 #[.string s, .int .i64 k] w fun e w' => e = .returned (.bool true) ∧ Below w.heap.size w w' := by
  have HT := Lib.hid ht
  clear ht
  go_enter Tryd.func7, Tryd.ntmps7
  go_wp2_with fail
  obtain ⟨w3, hw3⟩ : ∃ W, W = ((w.alloc (.cells #[.string s] 9)).alloc (.cells #[.int .i64 k] 3)).alloc (.cells #[.bool false] 4) := ⟨_, rfl⟩
  rw [← hw3]
  have hz3 : w3.heap.size = w.heap.size + 3 := by rw [hw3]; simp
  have hb3 : Below w.heap.size w w3 := by rw [hw3]; exact (((Below.refl _ w).alloc (Nat.le_refl _) _).alloc (by simp) _).alloc (by simp; omega) _
  have hr3 : Row w3 (w.heap.size + 1 + 1) 4 #[.bool false] := by rw [hw3]; exact Row.made _ _ (by simp)
  clear hw3
  refine (sanity_any w3 (HT.out.below hb3 HT.out.lt)).mono ?_
  rintro e w4 ⟨rfl, hb⟩
  have hr4 := hr3.below hb hr3.lt
  have hc4 : w4.cell? ⟨w.heap.size + 1 + 1, 0, none⟩ = some (.bool false) := hr4.cell 0
  have hf4 := hr4.frozen 0
  have HR4 := Lib.hid hr4
  have HB4 := Lib.hid (below_call hb3 hb)
  clear hb hr3 hb3 hr4
  go_wp2_with fail
  exact bodyPost_ret (results_bool_cell rfl rfl (HR4.out.put 0 _)) rfl ⟨rfl, HB4.out.setCell (p := ⟨w.heap.size + 1 + 1, 0, none⟩) (by show w.heap.size ≤ w.heap.size + 1 + 1; omega) _⟩
set_option maxRecDepth 100000 in
set_option maxHeartbeats 3200000 in
theorem yields_in (s : ByteArray) (k : Int) (w : World) (ht : Tab w) (hs : s.size ≤ 60) (hk1 : -9223372036854775808 ≤ k) (hk2 : k ≤ 9223372036854775807) :
    Calls Tryd.prog 7 #[.string s, .int .i64 k] w fun e w' => e = .returned (.bool true) ∧ Below w.heap.size w w' := by
  refine (callsIn_wide (n := 5)).1 ?_
  have HT := Lib.hid ht
  clear ht
  refine callsIn_of_wp_marks Tryd.func7 rfl trivial ?_ rfl
  simp only [Tryd.ntmps7, List.size_toArray, List.length_cons, List.length_nil, Nat.reduceAdd, Nat.reduceSub, Array.replicate_succ, Array.replicate_zero, List.push_toArray, List.append_toArray, List.nil_append, List.cons_append]
  gi_wp2_with fail
  refine ⟨trivial, ?_⟩
  obtain ⟨w3, hw3⟩ : ∃ W, W = ((w.alloc (.cells #[.string s] 9)).alloc (.cells #[.int .i64 k] 3)).alloc (.cells #[.bool false] 4) := ⟨_, rfl⟩
  rw [← hw3]
  have hz3 : w3.heap.size = w.heap.size + 3 := by rw [hw3]; simp
  have hb3 : Below w.heap.size w w3 := by rw [hw3]; exact (((Below.refl _ w).alloc (Nat.le_refl _) _).alloc (by simp) _).alloc (by simp; omega) _
  have hu3 : Row w3 w.heap.size 9 #[.string s] := by rw [hw3]; exact ((Row.new w _ _).alloc _).alloc _
  have he3 : Row w3 (w.heap.size + 1) 3 #[.int .i64 k] := by rw [hw3]; exact (Row.made _ _ (by simp)).alloc _
  have hr3 : Row w3 (w.heap.size + 2) 4 #[.bool false] := by rw [hw3]; exact Row.made _ _ (by simp)
  clear hw3
  refine (callsIn_wide.2 (ltwins_any s w3)).mono ?_
  rintro e w4 ⟨rfl, hru, hrl, hb, hsz⟩
  have HK := Lib.hid (show YK w s w3.heap.size w4 from ⟨hu3.below hb hu3.lt, ⟨k, hk1, hk2, he3.below hb he3.lt⟩, hr3.below hb hr3.lt, below_call hb3 hb, hru, hrl, by omega⟩)
  have HT4 := Lib.hid (HT.out.below HK.out.b HT.out.lt)
  obtain ⟨B, hB⟩ : ∃ B, w3.heap.size = B := ⟨_, rfl⟩
  rw [hB] at HK hsz
  simp only [hB]
  have hz0 := HT.out.lt
  clear hb hu3 he3 hr3 hb3 hru hrl
  have HZ := Lib.hid hsz
  have hBz : B = w.heap.size + 3 := by omega
  have HBZ := Lib.hid hBz
  clear hsz hB hz3 hBz
  gi_wp2_with fail
  refine wp_range (gf := 17) (lb := #[.pointer (some ⟨B + 1, 0, none⟩)]) rfl (enters_of Tryd.func17 (by kernel_rfl) rfl)
    (outer_gives s B (B + 1) w4 HK.out.hl HK.out.hs HT4.out (by omega)) (Below.refl _ _) (fun _ => rfl)
    (fun k => k = w.heap.size + 1) (fun k h => by have := HBZ.out; have := HZ.out; omega) (fun k h => by have := HBZ.out; have := HZ.out; omega)
    (fun pre A => YK w s B A) (fun c pre A => c = .exit 0 ∧ YK w s B A) (fun pre A A' hs h hb => h.next (by have := HZ.out; omega) hb) (fun c pre A A' hs h hb => ⟨h.1, h.2.next (by have := HZ.out; omega) hb⟩) HK.out ?a1 ?assign ?body ?done ?stop
  case assign =>
    intro l2 x A K hK
    gi_wp2
    exact hK
  case body =>
    rintro l2 pre x A hpre hsA h
    obtain ⟨E, hE1, hE2, hE⟩ := h.e
    have hce : A.cell? ⟨w.heap.size + 1, 0, none⟩ = some (.int .i64 E) := hE.cell 0
    have hfe := hE.frozen 0
    have HE := Lib.hid hE
    have HY := Lib.hid h
    obtain ⟨E2, hE2'⟩ : ∃ z, IntKind.i64.wrap (E - 1) = z := ⟨_, rfl⟩
    have HW := Lib.hid (show -9223372036854775808 ≤ E2 ∧ E2 ≤ 9223372036854775807 by rw [← hE2']; exact wrap_in _)
    have HY2 := Lib.hid (show YK w s B (A.setCell ⟨w.heap.size + 1, 0, none⟩ (.int .i64 E2)) from
      ⟨h.u.far (by simp) _, ⟨E2, HW.out.1, HW.out.2, hE.put 0 _⟩, h.r.far (by simp) _, h.b.setCell (by show w.heap.size ≤ w.heap.size + 1; omega) _, h.hs.far (by have := h.z; show B ≠ w.heap.size + 1; omega) _, h.hl.far (by have := h.z; show B + 1 ≠ w.heap.size + 1; omega) _, h.z⟩)
    have HO := Lib.hid (show Only (fun k => k = w.heap.size + 1) A (A.setCell ⟨w.heap.size + 1, 0, none⟩ (.int .i64 E2)) from (Only.refl (fun k => k = w.heap.size + 1) A).setCell (p := ⟨w.heap.size + 1, 0, none⟩) rfl _)
    clear h hE hpre
    by_cases hneg : E2 < 0
    · gi_wp2
      exact ⟨HO.out, rfl, HY2.out⟩
    · gi_wp2
      exact ⟨HO.out, HY2.out⟩
  case done =>
    rintro A hsA h hD
    have HY := Lib.hid h
    have HD := Lib.hid hD
    have hlt4 := (Array.getElem?_eq_some_iff.1 hD).1
    clear h hD
    gi_wp2_with fail
    obtain ⟨A2, hA2⟩ : ∃ W, W = A.alloc (.cells #[.int .i64 0] 3) := ⟨_, rfl⟩
    rw [← hA2]
    have hAz : A2.heap.size = A.heap.size + 1 := by rw [hA2]; simp
    have HK2 := Lib.hid (show YK w s B A2 from HY.out.next (C := A.heap.size) (by have := HZ.out; omega) (by rw [hA2]; exact (Below.refl _ A).alloc (Nat.le_refl _) _))
    have HN2 := Lib.hid (show Row A2 A.heap.size 3 #[.int .i64 0] by rw [hA2]; exact Row.new A _ _)
    have HD2 := Lib.hid (show A2.heap[w4.heap.size]? = some (.deferred (some [])) by rw [hA2]; exact (Below.heap_alloc _ _ _ (Array.getElem?_eq_some_iff.1 HD.out).1).trans HD.out)
    have HT2 := Lib.hid (HT.out.below HK2.out.b HT.out.lt)
    clear hA2
    refine wp_range (gf := 17) (lb := #[.pointer (some ⟨B + 1, 0, none⟩)]) rfl (enters_of Tryd.func17 (by kernel_rfl) rfl)
      (outer_gives s B (B + 1) A2 HK2.out.hl HK2.out.hs HT2.out (by omega)) (Below.refl _ _) (fun _ => rfl)
      (fun k => k = A.heap.size) (fun k h => by omega) (fun k h => by have := HBZ.out; have := HZ.out; omega)
      (fun pre C => YK w s B C ∧ Row C A.heap.size 3 #[.int .i64 (pre.length : Int)] ∧ C.heap[w4.heap.size]? = some (.deferred (some []))) (fun c pre C => False)
      (fun pre C C' hs h hb => ⟨h.1.next (by have := HZ.out; omega) hb, h.2.1.below hb (by omega), (hb.block _ (by omega)).trans h.2.2⟩) (fun c pre C C' _ h _ => h) ⟨HK2.out, HN2.out, HD2.out⟩ ?a12 ?assign2 ?body2 ?done2 (fun c pre C _ _ h _ => h.elim)
    case assign2 =>
      intro l2 x C K hK
      gi_wp2
      exact hK
    case body2 =>
      rintro l2 pre x C hpre hsC ⟨h1, h2, h3⟩
      obtain ⟨ex, hlt⟩ := twinsOf_at hpre
      rw [len_data] at hlt
      have h16 : pre.length < 16000 := by unfold space at hlt; split at hlt <;> omega
      have hxe : strB x = tw pre.length s := by rw [ex]; rfl
      obtain ⟨X, hX⟩ : ∃ X, strB x = X := ⟨_, rfl⟩
      have HX := Lib.hid (hX.symm.trans hxe)
      have hcs : C.cell? ⟨w.heap.size, 0, none⟩ = some (.string s) := h1.u.cell 0
      have hcn : C.cell? ⟨A.heap.size, 0, none⟩ = some (.int .i64 (pre.length : Int)) := h2.cell 0
      have hself : (X.toList == X.toList) = true := by simp
      have H1 := Lib.hid h1
      have H2 := Lib.hid h2
      have H3 := Lib.hid h3
      have HL := Lib.hid hlt
      rw [hX]
      clear h1 h2 h3 hpre ex hxe hX hlt
      gi_wp2_with fail
      refine ⟨trivial, ?_⟩
      refine (calls_round (rtwin_ok s pre.length C (by omega) HL.out)).mono ?_
      rw [← HX.out]
      rintro e C2 ⟨rfl, hb⟩
      have hcn2 : C2.cell? ⟨A.heap.size, 0, none⟩ = some (.int .i64 (pre.length : Int)) := (H2.out.below hb H2.out.lt).cell 0
      have hfn2 := (H2.out.below hb H2.out.lt).frozen 0
      have H22 := Lib.hid (H2.out.below hb H2.out.lt)
      have H12 := Lib.hid (H1.out.next (C := C.heap.size) (by have := HZ.out; omega) hb)
      have H32 := Lib.hid ((hb.block _ (by omega)).trans H3.out)
      have HO2 := Lib.hid (Only.of_below (X := fun k => k = A.heap.size) hb (fun k hk _ => hk))
      clear hb hcs hcn
      gi_wp2
      refine ⟨HO2.out.setCell (p := ⟨A.heap.size, 0, none⟩) rfl _, H12.out.put (by have := HZ.out; omega) _, ?_, (heap_setCell_other _ _ _ _ (by show w4.heap.size ≠ A.heap.size; omega)).trans H32.out⟩
      rw [List.length_append, List.length_singleton, Int.natCast_add]
      exact H22.out.put 0 _
    case done2 =>
      rintro C hsC ⟨h1, h2, h3⟩ hD3
      rw [twinsOf_length, len_data] at h2
      have HS0 := Lib.hid (show YS w s A.heap.size w4.heap.size A2.heap.size C from ⟨h1.u, h2, ⟨false, h1.r⟩, h1.b, h3, hD3⟩)
      have l1 : ∀ wn, YS w s A.heap.size w4.heap.size A2.heap.size wn → wn.cell? ⟨A.heap.size, 0, none⟩ = some (.int .i64 (space s.size : Int)) := fun wn h => h.2.1.cell 0
      have l2 : ∀ wn, YS w s A.heap.size w4.heap.size A2.heap.size wn → wn.cell? ⟨w.heap.size, 0, none⟩ = some (.string s) := fun wn h => h.1.cell 0
      clear h1 h2 h3 hD3
      gi_wp2_with fail
      refine wpIn_wide.2 ?_
      refine wp_region_noPanic ?_
      refine wp_region_held_drew (S := fun wn => (wn.cell? ⟨A.heap.size, 0, none⟩ = some (.int .i64 (space s.size : Int)) ∧ wn.cell? ⟨w.heap.size, 0, none⟩ = some (.string s)) ∧ YS w s A.heap.size w4.heap.size A2.heap.size wn) (by kernel_rfl) ⟨⟨l1 _ HS0.out.drew, l2 _ HS0.out.drew⟩, HS0.out.drew⟩ (fun hHeld => ?_)
      refine wpAnyH_ready (rs := [0]) (by kernel_rfl) (by simp) ?_
      refine AllReadyH.cons rfl (fun K hK => ?_) AllReadyH.nil
      go_simp
      refine (sanity_any _ (HT.out.below HS0.out.drew.2.2.2.1 HT.out.lt)).mono ?_
      rintro e C2 ⟨rfl, hb⟩
      have HN := hHeld.2.next hb
      refine hK.out _ _ ⟨⟨l1 _ HN, l2 _ HN⟩, HN⟩ (fun hHeld => ?_)
      clear hK K hb HN
      try simp only [Act.put, List.getElem_toArray, List.getElem_cons_zero, List.getElem_cons_succ, List.setIfInBounds_toArray, List.set_cons_zero, List.set_cons_succ]
      refine wpAnyH_take (i := 1) (v := ?_) rfl (by kernel_rfl) (by kernel_rfl) (by kernel_rfl) (fun _ _ _ h => h) (Or.inl ⟨by kernel_rfl, by intro w hSw; (try dsimp only at hSw); go_simp; first | done | with_reducible rfl⟩) (by assumption) ?_
      try simp only [Act.put, List.getElem_toArray, List.getElem_cons_zero, List.getElem_cons_succ, List.setIfInBounds_toArray, List.set_cons_zero, List.set_cons_succ]
      refine wpAnyH_take (i := 2) (v := ?_) rfl (by kernel_rfl) (by kernel_rfl) (by kernel_rfl) (fun _ _ _ h => h) (Or.inl ⟨by kernel_rfl, by intro w hSw; (try dsimp only at hSw); go_simp; first | done | with_reducible rfl⟩) (by assumption) ?_
      try simp only [Act.put, List.getElem_toArray, List.getElem_cons_zero, List.getElem_cons_succ, List.setIfInBounds_toArray, List.set_cons_zero, List.set_cons_succ]
      refine wpAnyH_take (i := 3) (v := ?_) rfl (by kernel_rfl) (by kernel_rfl) (by kernel_rfl) (fun _ _ _ h => h) (Or.inl ⟨by kernel_rfl, by intro w hSw; (try dsimp only at hSw); go_simp; first | done | with_reducible rfl⟩) (by assumption) ?_
      try simp only [Act.put, List.getElem_toArray, List.getElem_cons_zero, List.getElem_cons_succ, List.setIfInBounds_toArray, List.set_cons_zero, List.set_cons_succ]
      refine wpAnyH_take (i := 4) (v := ?_) rfl (by kernel_rfl) (by kernel_rfl) (by kernel_rfl) (fun _ _ _ h => h) (Or.inl ⟨by kernel_rfl, by intro w hSw; (try dsimp only at hSw); go_simp; first | done | with_reducible rfl⟩) (by assumption) ?_
      try simp only [Act.put, List.getElem_toArray, List.getElem_cons_zero, List.getElem_cons_succ, List.setIfInBounds_toArray, List.set_cons_zero, List.set_cons_succ]
      refine wpAnyH_ready (rs := [5]) (by kernel_rfl) (by simp) ?_
      refine AllReadyH.cons rfl (fun K hK => ?_) AllReadyH.nil
      go_simp
      refine (rspace_any s.size _ (by omega)).mono ?_
      rintro e C3 ⟨rfl, rfl⟩
      refine hK.out _ _ hHeld (fun hHeld => ?_)
      clear hK K
      try simp only [Act.put, List.getElem_toArray, List.getElem_cons_zero, List.getElem_cons_succ, List.setIfInBounds_toArray, List.set_cons_zero, List.set_cons_succ]
      refine wpAnyH_take (i := 6) (v := ?_) rfl (by kernel_rfl) (by kernel_rfl) (by kernel_rfl) (fun _ _ _ h => h) (Or.inl ⟨by kernel_rfl, by intro w hSw; (try dsimp only at hSw); go_simp; first | done | with_reducible rfl⟩) (by assumption) ?_
      try simp only [Act.put, List.getElem_toArray, List.getElem_cons_zero, List.getElem_cons_succ, List.setIfInBounds_toArray, List.set_cons_zero, List.set_cons_succ]
      refine wpAnyH_take (i := 7) (v := ?_) rfl (by kernel_rfl) (by kernel_rfl) (by kernel_rfl) (fun _ _ _ h => h) (Or.inl ⟨by kernel_rfl, by intro w hSw; (try dsimp only at hSw); go_simp; first | done | with_reducible rfl⟩) (by assumption) ?_
      try simp only [Act.put, List.getElem_toArray, List.getElem_cons_zero, List.getElem_cons_succ, List.setIfInBounds_toArray, List.set_cons_zero, List.set_cons_succ]
      refine wpAnyH_ready (rs := [8]) (by kernel_rfl) (by simp) ?_
      refine AllReadyH.cons rfl (fun K hK => ?_) AllReadyH.nil
      obtain ⟨b, hrb⟩ := hHeld.2.2.2.1
      have hcb : C3.cell? ⟨w.heap.size + 1 + 1, 0, none⟩ = some (.bool b) := hrb.cell 0
      have hfb := hrb.frozen 0
      go_simp
      obtain ⟨HN, hrow⟩ := hHeld.2.put (by have := HBZ.out; have := HZ.out; omega) (by have := HBZ.out; have := HZ.out; omega) (by have := HBZ.out; have := HZ.out; omega) true
      refine hK.out _ _ ⟨⟨l1 _ HN, l2 _ HN⟩, HN⟩ (fun hHeld => ?_)
      have HF := Lib.hid HN
      have HR := Lib.hid hrow
      clear hK K HN hrow hHeld hcb hfb hrb l1 l2
      try simp only [Act.put, List.getElem_toArray, List.getElem_cons_zero, List.getElem_cons_succ, List.setIfInBounds_toArray, List.set_cons_zero, List.set_cons_succ]
      refine wpAnyH_done (by kernel_rfl) ?_ _
      refine NoPanic.normal ?_
      go_wp2_with fail
      gi_wp2_with fail
      obtain ⟨k1, k2, k3, k4, k5, k6⟩ := HF.out
      refine ⟨by simp, .inl ⟨_, _, rfl, run_takeDeferred (by rw [← hAz]; exact k6), ?_⟩⟩
      refine ⟨by simp, .inl ⟨_, _, rfl, run_takeDeferred ((World.putObj_heap_other (by omega)).trans k5), ?_⟩⟩
      have hrow2 : Row (((C3.setCell ⟨w.heap.size + 1 + 1, 0, none⟩ (Value.bool true)).putObj (A.heap.size + 1) (.deferred none)).putObj w4.heap.size (.deferred none)) (w.heap.size + 2) 4 #[.bool true] :=
        (World.putObj_heap_other (by have := HBZ.out; have := HZ.out; omega)).trans ((World.putObj_heap_other (by have := HBZ.out; have := HZ.out; omega)).trans HR.out)
      have hbel2 : Below w.heap.size w (((C3.setCell ⟨w.heap.size + 1 + 1, 0, none⟩ (Value.bool true)).putObj (A.heap.size + 1) (.deferred none)).putObj w4.heap.size (.deferred none)) :=
        (k4.trans (below_putObj _ (by have := HBZ.out; have := HZ.out; omega) _)).trans (below_putObj _ (by have := HBZ.out; have := HZ.out; omega) _)
      exact ⟨_, results_bool_cell rfl rfl hrow2, rfl, hbel2⟩
  case stop =>
    rintro c pre A hsA hpre ⟨rfl, h⟩ hD
    have HY := Lib.hid h
    have HD := Lib.hid hD
    have hlt4 := (Array.getElem?_eq_some_iff.1 hD).1
    clear h hD
    gi_wp2_with fail
    obtain ⟨A2, hA2⟩ : ∃ W, W = A.alloc (.cells #[.int .i64 0] 3) := ⟨_, rfl⟩
    rw [← hA2]
    have hAz : A2.heap.size = A.heap.size + 1 := by rw [hA2]; simp
    have HK2 := Lib.hid (show YK w s B A2 from HY.out.next (C := A.heap.size) (by have := HZ.out; omega) (by rw [hA2]; exact (Below.refl _ A).alloc (Nat.le_refl _) _))
    have HN2 := Lib.hid (show Row A2 A.heap.size 3 #[.int .i64 0] by rw [hA2]; exact Row.new A _ _)
    have HD2 := Lib.hid (show A2.heap[w4.heap.size]? = some (.deferred (some [])) by rw [hA2]; exact (Below.heap_alloc _ _ _ (Array.getElem?_eq_some_iff.1 HD.out).1).trans HD.out)
    have HT2 := Lib.hid (HT.out.below HK2.out.b HT.out.lt)
    clear hA2
    refine wp_range (gf := 17) (lb := #[.pointer (some ⟨B + 1, 0, none⟩)]) rfl (enters_of Tryd.func17 (by kernel_rfl) rfl)
      (outer_gives s B (B + 1) A2 HK2.out.hl HK2.out.hs HT2.out (by omega)) (Below.refl _ _) (fun _ => rfl)
      (fun k => k = A.heap.size) (fun k h => by omega) (fun k h => by have := HBZ.out; have := HZ.out; omega)
      (fun pre C => YK w s B C ∧ Row C A.heap.size 3 #[.int .i64 (pre.length : Int)] ∧ C.heap[w4.heap.size]? = some (.deferred (some []))) (fun c pre C => False)
      (fun pre C C' hs h hb => ⟨h.1.next (by have := HZ.out; omega) hb, h.2.1.below hb (by omega), (hb.block _ (by omega)).trans h.2.2⟩) (fun c pre C C' _ h _ => h) ⟨HK2.out, HN2.out, HD2.out⟩ ?a13 ?assign3 ?body3 ?done3 (fun c pre C _ _ h _ => h.elim)
    case assign3 =>
      intro l2 x C K hK
      gi_wp2
      exact hK
    case body3 =>
      rintro l2 pre x C hpre hsC ⟨h1, h2, h3⟩
      obtain ⟨ex, hlt⟩ := twinsOf_at hpre
      rw [len_data] at hlt
      have h16 : pre.length < 16000 := by unfold space at hlt; split at hlt <;> omega
      have hxe : strB x = tw pre.length s := by rw [ex]; rfl
      obtain ⟨X, hX⟩ : ∃ X, strB x = X := ⟨_, rfl⟩
      have HX := Lib.hid (hX.symm.trans hxe)
      have hcs : C.cell? ⟨w.heap.size, 0, none⟩ = some (.string s) := h1.u.cell 0
      have hcn : C.cell? ⟨A.heap.size, 0, none⟩ = some (.int .i64 (pre.length : Int)) := h2.cell 0
      have hself : (X.toList == X.toList) = true := by simp
      have H1 := Lib.hid h1
      have H2 := Lib.hid h2
      have H3 := Lib.hid h3
      have HL := Lib.hid hlt
      rw [hX]
      clear h1 h2 h3 hpre ex hxe hX hlt
      gi_wp2_with fail
      refine ⟨trivial, ?_⟩
      refine (calls_round (rtwin_ok s pre.length C (by omega) HL.out)).mono ?_
      rw [← HX.out]
      rintro e C2 ⟨rfl, hb⟩
      have hcn2 : C2.cell? ⟨A.heap.size, 0, none⟩ = some (.int .i64 (pre.length : Int)) := (H2.out.below hb H2.out.lt).cell 0
      have hfn2 := (H2.out.below hb H2.out.lt).frozen 0
      have H22 := Lib.hid (H2.out.below hb H2.out.lt)
      have H12 := Lib.hid (H1.out.next (C := C.heap.size) (by have := HZ.out; omega) hb)
      have H32 := Lib.hid ((hb.block _ (by omega)).trans H3.out)
      have HO2 := Lib.hid (Only.of_below (X := fun k => k = A.heap.size) hb (fun k hk _ => hk))
      clear hb hcs hcn
      gi_wp2
      refine ⟨HO2.out.setCell (p := ⟨A.heap.size, 0, none⟩) rfl _, H12.out.put (by have := HZ.out; omega) _, ?_, (heap_setCell_other _ _ _ _ (by show w4.heap.size ≠ A.heap.size; omega)).trans H32.out⟩
      rw [List.length_append, List.length_singleton, Int.natCast_add]
      exact H22.out.put 0 _
    case done3 =>
      rintro C hsC ⟨h1, h2, h3⟩ hD3
      rw [twinsOf_length, len_data] at h2
      have HS0 := Lib.hid (show YS w s A.heap.size w4.heap.size A2.heap.size C from ⟨h1.u, h2, ⟨false, h1.r⟩, h1.b, h3, hD3⟩)
      have l1 : ∀ wn, YS w s A.heap.size w4.heap.size A2.heap.size wn → wn.cell? ⟨A.heap.size, 0, none⟩ = some (.int .i64 (space s.size : Int)) := fun wn h => h.2.1.cell 0
      have l2 : ∀ wn, YS w s A.heap.size w4.heap.size A2.heap.size wn → wn.cell? ⟨w.heap.size, 0, none⟩ = some (.string s) := fun wn h => h.1.cell 0
      clear h1 h2 h3 hD3
      gi_wp2_with fail
      refine wpIn_wide.2 ?_
      refine wp_region_noPanic ?_
      refine wp_region_held_drew (S := fun wn => (wn.cell? ⟨A.heap.size, 0, none⟩ = some (.int .i64 (space s.size : Int)) ∧ wn.cell? ⟨w.heap.size, 0, none⟩ = some (.string s)) ∧ YS w s A.heap.size w4.heap.size A2.heap.size wn) (by kernel_rfl) ⟨⟨l1 _ HS0.out.drew, l2 _ HS0.out.drew⟩, HS0.out.drew⟩ (fun hHeld => ?_)
      refine wpAnyH_ready (rs := [0]) (by kernel_rfl) (by simp) ?_
      refine AllReadyH.cons rfl (fun K hK => ?_) AllReadyH.nil
      go_simp
      refine (sanity_any _ (HT.out.below HS0.out.drew.2.2.2.1 HT.out.lt)).mono ?_
      rintro e C2 ⟨rfl, hb⟩
      have HN := hHeld.2.next hb
      refine hK.out _ _ ⟨⟨l1 _ HN, l2 _ HN⟩, HN⟩ (fun hHeld => ?_)
      clear hK K hb HN
      try simp only [Act.put, List.getElem_toArray, List.getElem_cons_zero, List.getElem_cons_succ, List.setIfInBounds_toArray, List.set_cons_zero, List.set_cons_succ]
      refine wpAnyH_take (i := 1) (v := ?_) rfl (by kernel_rfl) (by kernel_rfl) (by kernel_rfl) (fun _ _ _ h => h) (Or.inl ⟨by kernel_rfl, by intro w hSw; (try dsimp only at hSw); go_simp; first | done | with_reducible rfl⟩) (by assumption) ?_
      try simp only [Act.put, List.getElem_toArray, List.getElem_cons_zero, List.getElem_cons_succ, List.setIfInBounds_toArray, List.set_cons_zero, List.set_cons_succ]
      refine wpAnyH_take (i := 2) (v := ?_) rfl (by kernel_rfl) (by kernel_rfl) (by kernel_rfl) (fun _ _ _ h => h) (Or.inl ⟨by kernel_rfl, by intro w hSw; (try dsimp only at hSw); go_simp; first | done | with_reducible rfl⟩) (by assumption) ?_
      try simp only [Act.put, List.getElem_toArray, List.getElem_cons_zero, List.getElem_cons_succ, List.setIfInBounds_toArray, List.set_cons_zero, List.set_cons_succ]
      refine wpAnyH_take (i := 3) (v := ?_) rfl (by kernel_rfl) (by kernel_rfl) (by kernel_rfl) (fun _ _ _ h => h) (Or.inl ⟨by kernel_rfl, by intro w hSw; (try dsimp only at hSw); go_simp; first | done | with_reducible rfl⟩) (by assumption) ?_
      try simp only [Act.put, List.getElem_toArray, List.getElem_cons_zero, List.getElem_cons_succ, List.setIfInBounds_toArray, List.set_cons_zero, List.set_cons_succ]
      refine wpAnyH_take (i := 4) (v := ?_) rfl (by kernel_rfl) (by kernel_rfl) (by kernel_rfl) (fun _ _ _ h => h) (Or.inl ⟨by kernel_rfl, by intro w hSw; (try dsimp only at hSw); go_simp; first | done | with_reducible rfl⟩) (by assumption) ?_
      try simp only [Act.put, List.getElem_toArray, List.getElem_cons_zero, List.getElem_cons_succ, List.setIfInBounds_toArray, List.set_cons_zero, List.set_cons_succ]
      refine wpAnyH_ready (rs := [5]) (by kernel_rfl) (by simp) ?_
      refine AllReadyH.cons rfl (fun K hK => ?_) AllReadyH.nil
      go_simp
      refine (rspace_any s.size _ (by omega)).mono ?_
      rintro e C3 ⟨rfl, rfl⟩
      refine hK.out _ _ hHeld (fun hHeld => ?_)
      clear hK K
      try simp only [Act.put, List.getElem_toArray, List.getElem_cons_zero, List.getElem_cons_succ, List.setIfInBounds_toArray, List.set_cons_zero, List.set_cons_succ]
      refine wpAnyH_take (i := 6) (v := ?_) rfl (by kernel_rfl) (by kernel_rfl) (by kernel_rfl) (fun _ _ _ h => h) (Or.inl ⟨by kernel_rfl, by intro w hSw; (try dsimp only at hSw); go_simp; first | done | with_reducible rfl⟩) (by assumption) ?_
      try simp only [Act.put, List.getElem_toArray, List.getElem_cons_zero, List.getElem_cons_succ, List.setIfInBounds_toArray, List.set_cons_zero, List.set_cons_succ]
      refine wpAnyH_take (i := 7) (v := ?_) rfl (by kernel_rfl) (by kernel_rfl) (by kernel_rfl) (fun _ _ _ h => h) (Or.inl ⟨by kernel_rfl, by intro w hSw; (try dsimp only at hSw); go_simp; first | done | with_reducible rfl⟩) (by assumption) ?_
      try simp only [Act.put, List.getElem_toArray, List.getElem_cons_zero, List.getElem_cons_succ, List.setIfInBounds_toArray, List.set_cons_zero, List.set_cons_succ]
      refine wpAnyH_ready (rs := [8]) (by kernel_rfl) (by simp) ?_
      refine AllReadyH.cons rfl (fun K hK => ?_) AllReadyH.nil
      obtain ⟨b, hrb⟩ := hHeld.2.2.2.1
      have hcb : C3.cell? ⟨w.heap.size + 1 + 1, 0, none⟩ = some (.bool b) := hrb.cell 0
      have hfb := hrb.frozen 0
      go_simp
      obtain ⟨HN, hrow⟩ := hHeld.2.put (by have := HBZ.out; have := HZ.out; omega) (by have := HBZ.out; have := HZ.out; omega) (by have := HBZ.out; have := HZ.out; omega) true
      refine hK.out _ _ ⟨⟨l1 _ HN, l2 _ HN⟩, HN⟩ (fun hHeld => ?_)
      have HF := Lib.hid HN
      have HR := Lib.hid hrow
      clear hK K HN hrow hHeld hcb hfb hrb l1 l2
      try simp only [Act.put, List.getElem_toArray, List.getElem_cons_zero, List.getElem_cons_succ, List.setIfInBounds_toArray, List.set_cons_zero, List.set_cons_succ]
      refine wpAnyH_done (by kernel_rfl) ?_ _
      refine NoPanic.normal ?_
      go_wp2_with fail
      gi_wp2_with fail
      obtain ⟨k1, k2, k3, k4, k5, k6⟩ := HF.out
      refine ⟨by simp, .inl ⟨_, _, rfl, run_takeDeferred (by rw [← hAz]; exact k6), ?_⟩⟩
      refine ⟨by simp, .inl ⟨_, _, rfl, run_takeDeferred ((World.putObj_heap_other (by omega)).trans k5), ?_⟩⟩
      have hrow2 : Row (((C3.setCell ⟨w.heap.size + 1 + 1, 0, none⟩ (Value.bool true)).putObj (A.heap.size + 1) (.deferred none)).putObj w4.heap.size (.deferred none)) (w.heap.size + 2) 4 #[.bool true] :=
        (World.putObj_heap_other (by have := HBZ.out; have := HZ.out; omega)).trans ((World.putObj_heap_other (by have := HBZ.out; have := HZ.out; omega)).trans HR.out)
      have hbel2 : Below w.heap.size w (((C3.setCell ⟨w.heap.size + 1 + 1, 0, none⟩ (Value.bool true)).putObj (A.heap.size + 1) (.deferred none)).putObj w4.heap.size (.deferred none)) :=
        (k4.trans (below_putObj _ (by have := HBZ.out; have := HZ.out; omega) _)).trans (below_putObj _ (by have := HBZ.out; have := HZ.out; omega) _)
      exact ⟨_, results_bool_cell rfl rfl hrow2, rfl, hbel2⟩
theorem walk_PrintYields (s : ByteArray) (k : Int) (w : World) (hs : s.size ≤ maxLen) (h1 : -9223372036854775808 ≤ k) (h2 : k ≤ 9223372036854775807) (ht : Tab w) :
    Calls Tryd.prog 7 #[.string s, .int .i64 k] w fun e w' => e = .returned (.bool true) ∧ Below w.heap.size w w' := by
  unfold maxLen at hs
  by_cases h : 60 < s.size
  · exact yields_long s k w ht (by omega) h
  · exact yields_in s k w ht (by omega) h1 h2

/-! ### the frame: the arguments opened and shut -/
theorem contract_PrintYields (H : Type) (enc : TypeId × Value → H) (W : World) (base : Nat) (args : Array Value) (ds gs : List (DataW H)) (before : List MemPlace)
    (hval0 : ∀ (j : Nat) t v, Tryd.f7.params[j]? = some t → args[j]? = some v → Value.okWide Tryd.prog W .any base t v)
    (hW : DataW.Whole enc Tryd.prog Tryd.f7.params.toList Rows.printYieldsSpec.vars false W args.toList ds gs before) (hL : laidMetH Tryd.prog Rows.printYieldsRow.laid W) :
    Calls Tryd.prog 7 args W fun e W' => ∃ v, e = .returned v ∧ Rows.printYieldsSpec.post enc Tryd.prog Tryd.f7 false true false false W args v W' := by
  have hval : ∀ (j : Nat) t v, Tryd.f7.params[j]? = some t → args[j]? = some v → Value.okWide Tryd.prog W .any base t v := hval0
  have hW' := hW
  obtain ⟨p, q, hA0, hV, rfl, hfz, hnd⟩ := hW
  have hA : DataW.TrodAll enc Tryd.prog W 0 (fun _ => true) true Tryd.f7.params.toList args.toList ds p := hA0
  rw [Tryd.params7] at hA hval
  obtain ⟨v0, vs0, d0, ds0, p0, q0, hargs, rfl, rfl, h0, r0⟩ := trodAll_cons hA
  obtain ⟨v1, vs1, d1, ds1, p1, q1, rfl, rfl, rfl, h1, r1⟩ := trodAll_cons r0
  obtain ⟨rfl, rfl, rfl⟩ := trodAll_nil r1
  obtain rfl : args = #[v0, v1] := by cases args; simp_all
  obtain ⟨rfl, rfl⟩ := trodVars_none hV
  have k0 := h0
  have lt0 : ∀ x ∈ p0, x.block < W.heap.size := by obtain ⟨m, hm⟩ := k0; exact DataW.trod_lt m _ _ _ hm
  have k1 := h1
  have lt1 : ∀ x ∈ p1, x.block < W.heap.size := by obtain ⟨m, hm⟩ := k1; exact DataW.trod_lt m _ _ _ hm
  obtain ⟨n0, rfl, rfl, rfl, w0⟩ := _root_.Go.ChangeMaps.open_string Tryd.underlying9 (hval 0 9 v0 rfl rfl) h0
  obtain ⟨n1, rfl, rfl, rfl, w1⟩ := open_int Tryd.underlying3 (hval 1 3 v1 rfl rfl) h1
  refine (walk_PrintYields n0 n1 W w0 (wf_i64 w1).1 (wf_i64 w1).2 (tab_of hL)).mono fun e W' ⟨he, bel⟩ => ?_
  subst he
  exact ⟨_, rfl, _, _, _, [], _, [], hW', trodAll_mk1 (shut_bool Tryd.underlying4 _), (trodAll_cons_mk (Below.trod laidOut (by kernel_rfl) (of_decide_eq_true (by kernel_rfl)) k0 bel lt0) (trodAll_cons_mk (Below.trod laidOut (by kernel_rfl) (of_decide_eq_true (by kernel_rfl)) k1 bel lt1) trodAll_mk0)), rfl, bel.frame _, fun h => by cases h⟩
theorem laid_PrintYields (os : Os) : laidMet Tryd.prog Rows.printYieldsRow.laid ((laidWorld os).forCall (fun _ _ => 0) ⟨#[], #[.string .empty, .int .i64 0], []⟩).memory :=
  laidMet_of_run' 8 (by kernel_rfl) (by kernel_rfl)
theorem reads_PrintYields (os : Os) {H : Type} (enc : TypeId × Value → H) : ∃ places, DataW.whole enc Tryd.prog ((laidWorld os).forCall (fun _ _ => 0) ⟨#[], #[.string .empty, .int .i64 0], []⟩).memory Tryd.f7.params.toList Rows.printYieldsSpec.vars false (#[.string .empty, .int .i64 0] : Array Value).toList 8 = some ([.lit (.string []), .lit (.int .i64 0)], [], places) :=
  ⟨[], by kernel_rfl⟩
set_option maxRecDepth 100000 in
theorem lifted_PrintYields (os : Os) (started : os.Started) (H : Type) (enc : TypeId × Value → H) (F : Stop.Interp) :
    ReturnsInHanded {} Tryd.checked os 7 .any ((OpenSpec.ofChange Rows.printYieldsSpec).preRow enc Tryd.prog Tryd.f7 Rows.printYieldsRow.domain false Rows.printYieldsRow.laid) (((OpenSpec.ofChange Rows.printYieldsSpec).at F).post enc Tryd.prog Tryd.f7 false true false false) := by
  obtain ⟨places, hx⟩ := reads_PrintYields os enc
  refine returnsInHanded_of_row (C := Tryd.checked) (s := OpenSpec.ofChange Rows.printYieldsSpec) own started (by kernel_rfl) Tryd.func7
    (witness_row_at (enc := enc) (C := Tryd.checked) false (laidWorld os) #[.string .empty, .int .i64 0] rfl (by kernel_rfl) (by kernel_rfl) (by kernel_rfl)
      (OpenSpec.preRow_of_cond 8 hx (by kernel_rfl) (fun k hk => by cases hk) (by kernel_rfl) (laid_PrintYields os))) ?_
  intro W base args ds gs before hval hW _ hcond _ hL _ _
  exact contract_PrintYields H enc W base args ds gs before hval hW hL

theorem said_PrintYields : Rows.PrintYieldsSaid :=
  OpenClaim.holds_of_cond 7 Tryd.f7 rfl rfl rfl rfl rfl rfl rfl ⟨rfl, rfl, rfl, rfl, rfl⟩ rfl rfl rfl rfl rfl (by kernel_rfl) Tryd.func7 (by kernel_rfl)
    (of_decide_eq_true (by kernel_rfl)) (by unfold Func.isWrapper; first | (rw [if_pos (by decide +kernel)]; kernel_rfl) | (rw [if_neg (by decide +kernel)]; exact ⟨rfl, rfl⟩))
    (fun os started H enc _ F => by rw [OpenClaim.pre_eq_preRow]; exact lifted_PrintYields os started H enc F)
theorem plain_PrintYields (f : FuncId) (fn : Func) (hf : Tryd.pinned.checked.prog.funcNamed "solvent/solventlaw04.PrintYields" = some f) (hfn : Tryd.pinned.checked.prog.funcs[f]? = some fn) :
    false = Tryd.pinned.checked.prog.looks [] ∧ ∀ (j : Nat) t, fn.params[j]? = some t → Tryd.pinned.checked.prog.wantsStandIn t = false := by
  obtain rfl : f = 7 := Option.some.inj ((show Tryd.prog.funcNamed "solvent/solventlaw04.PrintYields" = some 7 by kernel_rfl).symm.trans hf) |>.symm
  obtain rfl : fn = Tryd.f7 := (Option.some.inj (Tryd.func7.symm.trans hfn)).symm
  refine ⟨by kernel_rfl, fun j t ht => ?_⟩
  rw [Tryd.params7] at ht
  have hm := Array.mem_of_getElem? ht
  simp only [List.mem_toArray, List.mem_cons, List.not_mem_nil, or_false] at hm
  rcases hm with rfl | rfl
  all_goals first | exact (show Tryd.prog.wantsStandIn 9 = false by kernel_rfl) | exact (show Tryd.prog.wantsStandIn 3 = false by kernel_rfl)
theorem proved_PrintYields : Rows.PrintYieldsCardSaid :=
  Claim7.holds_tied_plain_at .later [] _ _ _ _ said_PrintYields (fun _ h => by cases h) (by kernel_rfl) (fun _ h => by cases h) printYields_row_tie rfl ⟨rfl, rfl⟩ (by kernel_rfl) rfl plain_PrintYields (by kernel_rfl)
end Go.Proofs.YtgeiholilcgooaaDoor
