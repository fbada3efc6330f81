/- Sector: Label. Printed by mks11.py. -/
import Derived.Test.YtdkkoogcaininaaS11a
import Derived.Deep.RegionHeld3
namespace Go.Proofs.Ytdkkoogcaininaa
set_option linter.unusedSimpArgs false
set_option linter.unusedVariables false
open Go.RowKit Go.Lib

set_option maxRecDepth 100000 in
set_option maxHeartbeats 1600000 in
theorem slabel_arg (s : ByteArray) (w : World) (h : s.size ≠ 64) :
    Calls Try.prog 12 #[.string s] w fun x w' => x = .returned (labV (labOf s.data.toList)) ∧ Below w.heap.size w w' := by
  have hd : decide ((s.size : Int) = 64) = false := by simp; omega
  rw [labOf, if_pos (by rw [len_data]; exact h)]
  go_enter Try.func12, Try.ntmps12
  go_wp2_with fail
  refine bodyPost_ret (v := .tuple #[.agg #[.int .i64 0, .int .i64 0, .int .i64 0], .agg #[.int .i64 0, .int .i64 0], .int .i64 1]) ?_ rfl ⟨rfl, ((Below.refl _ _).alloc (Nat.le_refl _) _).alloc (by simp) _⟩
  exact results_row2_tmp rfl _ _ w.heap.size (w.heap.size + 1) _ _ _ _ _ _ _ rfl rfl rfl ((Row.new w _ _).alloc _) (Row.made _ _ (size1 _ _).symm) Try.underlying23 (by rfl) (by kernel_rfl) Try.underlying25 (by rfl) (by kernel_rfl)
theorem keep5r {w : World} {b1 b2 : Nat} {x0 x1 x2 y0 y1 : Value} (h : w.cell? ⟨b1, 0, none⟩ = some x0 ∧ w.cell? ⟨b1, 1, none⟩ = some x1 ∧ w.cell? ⟨b1, 2, none⟩ = some x2 ∧ w.cell? ⟨b2, 0, none⟩ = some y0 ∧ w.cell? ⟨b2, 1, none⟩ = some y1)
    {g : Nat} (h1 : b1 ≠ g) (h2 : b2 ≠ g) (cs : Array Value) :
    (w.setRow g cs).cell? ⟨b1, 0, none⟩ = some x0 ∧ (w.setRow g cs).cell? ⟨b1, 1, none⟩ = some x1 ∧ (w.setRow g cs).cell? ⟨b1, 2, none⟩ = some x2 ∧ (w.setRow g cs).cell? ⟨b2, 0, none⟩ = some y0 ∧ (w.setRow g cs).cell? ⟨b2, 1, none⟩ = some y1 := by
  have e1 := fun o => World.cell?_of_block (w := w) (w' := w.setRow g cs) (a := ⟨b1, o, none⟩) (setRow_other w g b1 cs h1)
  have e2 := fun o => World.cell?_of_block (w := w) (w' := w.setRow g cs) (a := ⟨b2, o, none⟩) (setRow_other w g b2 cs h2)
  exact ⟨(e1 0).trans h.1, (e1 1).trans h.2.1, (e1 2).trans h.2.2.1, (e2 0).trans h.2.2.2.1, (e2 1).trans h.2.2.2.2⟩
def lab2 (w2 : World) (b1 b2 : Nat) (D A I E C : Nat) (w' : World) : Prop := (w'.cell? ⟨b1, 0, none⟩ = some (.int .i64 D) ∧ w'.cell? ⟨b1, 1, none⟩ = some (.int .i64 A) ∧ w'.cell? ⟨b1, 2, none⟩ = some (.int .i64 I) ∧
  w'.cell? ⟨b2, 0, none⟩ = some (.int .i64 E) ∧ w'.cell? ⟨b2, 1, none⟩ = some (.int .i64 C)) ∧ Below w2.heap.size w2 w'
theorem keepL {w2 wc wn : World} {b1 b2 : Nat} {D A I E C : Nat} {t1 t2 : TypeId} {X : Prop} (hp : Row w2 b1 t1 #[.int .i64 D, .int .i64 A, .int .i64 I]) (hg : Row w2 b2 t2 #[.int .i64 E, .int .i64 C])
    (h : X ∧ Below w2.heap.size w2 wc) (hb : Below wc.heap.size wc wn) :
    (wn.cell? ⟨b1, 0, none⟩ = some (.int .i64 D) ∧ wn.cell? ⟨b1, 1, none⟩ = some (.int .i64 A) ∧ wn.cell? ⟨b1, 2, none⟩ = some (.int .i64 I) ∧
      wn.cell? ⟨b2, 0, none⟩ = some (.int .i64 E) ∧ wn.cell? ⟨b2, 1, none⟩ = some (.int .i64 C)) ∧ Below w2.heap.size w2 wn := by
  have hB := below_call h.2 hb
  have hp' := hp.below hB hp.lt
  have hg' := hg.below hB hg.lt
  exact ⟨⟨hp'.cell 0, hp'.cell 1, hp'.cell 2, hg'.cell 0, hg'.cell 1⟩, hB⟩
set_option maxRecDepth 100000 in
set_option maxHeartbeats 6400000 in
theorem slabel_ok (s : ByteArray) (w : World) (h : s.size = 64) :
    Calls Try.prog 12 #[.string s] w fun x w' => x = .returned (labV (labOf s.data.toList)) ∧ Below w.heap.size w w' := by
  have hx1 : (s.extract 6 8).size ≤ 4 := by rw [ByteArray.size_extract]; omega
  have hx2 : (s.extract 8 12).size ≤ 4 := by rw [ByteArray.size_extract]; omega
  have hx3 : (s.extract 12 16).size ≤ 4 := by rw [ByteArray.size_extract]; omega
  have hx4 : (s.extract 0 4).size ≤ 4 := by rw [ByteArray.size_extract]; omega
  have hll : ¬ (s.data.toList.length ≠ 64) := by rw [len_data]; omega
  have HL := Lib.hid (show labOf s.data.toList = if labOk s.data.toList then (fD s.data.toList, fA s.data.toList, fI s.data.toList, fE s.data.toList, fC s.data.toList, 0) else (0, 0, 0, 0, 0, 7) by rw [labOf, if_neg hll])
  have HK := Lib.hid (show labOk s.data.toList = (sumOk s.data.toList && placeB (fD s.data.toList) (fA s.data.toList) (fI s.data.toList) && genB (fE s.data.toList) (fC s.data.toList) && whole s.data.toList) from rfl)
  have HB60 := Lib.hid (show (s.extract 4 64).data.toList = s.data.toList.drop 4 by
    rw [extract_list, List.take_of_length_le (by rw [List.length_drop, len_data]; omega)])
  have HT0 := Lib.hid (show ((s.extract 8 16).toList == (s.extract 56 64).toList) = whole s.data.toList by
    rw [str_beq, extract_list, extract_list, whole, List.take_of_length_le (l := s.data.toList.drop 56) (by rw [List.length_drop, len_data]; omega)])
  obtain ⟨I, hI⟩ : ∃ I, numOf (List.take 2 (List.drop 6 s.data.toList)) = I := ⟨_, rfl⟩
  obtain ⟨E, hE⟩ : ∃ E, numOf (List.take 4 (List.drop 8 s.data.toList)) = E := ⟨_, rfl⟩
  obtain ⟨C, hC⟩ : ∃ C, numOf (List.take 4 (List.drop 12 s.data.toList)) = C := ⟨_, rfl⟩
  obtain ⟨Q, hQ⟩ : ∃ Q : Int, ((numOf (List.take 4 s.data.toList) : Nat) : Int) = Q := ⟨_, rfl⟩
  obtain ⟨A, hA⟩ : ∃ A, fA s.data.toList = A := ⟨_, rfl⟩
  obtain ⟨D, hD⟩ : ∃ D, fD s.data.toList = D := ⟨_, rfl⟩
  obtain ⟨BL, hBL⟩ : ∃ BL, s.data.toList.drop 4 = BL := ⟨_, rfl⟩
  obtain ⟨T, hT⟩ : ∃ T, whole s.data.toList = T := ⟨_, rfl⟩
  obtain ⟨SM, hSM⟩ : ∃ SM, sumOk s.data.toList = SM := ⟨_, rfl⟩
  rw [show fI s.data.toList = I from hI, show fE s.data.toList = E from hE, show fC s.data.toList = C from hC, hA, hD] at HK HL
  rw [hT] at HK HT0
  rw [hSM] at HK
  rw [hBL] at HB60
  obtain ⟨R, hR⟩ : ∃ R : Int, ((Crc.crc BL).toNat : Int) = R := ⟨_, rfl⟩
  have hRw : IntKind.i64.wrap R = R := IntWalk.i64_in _ (by have := (Crc.crc BL).isLt; omega)
  have HR := Lib.hid hR
  have HSM := Lib.hid (show SM = decide (Q = R) by
    rw [← hSM, sumOk, hBL, fQ, ← hQ, ← hR]; by_cases hh : numOf (List.take 4 s.data.toList) = (Crc.crc BL).toNat
    · rw [hh]; simp
    · rw [decide_eq_false hh, decide_eq_false (by omega)])
  have HBLl := Lib.hid (show BL.length = 60 by rw [← hBL, List.length_drop, len_data]; omega)
  have hsz : (s.extract 4 64).size = 60 := by rw [ByteArray.size_extract]; omega
  have hw4 : IntKind.i64.wrap (s[4].toNat : Int) = (A : Int) := by
    rw [at_nat s 4 (by omega)]; show IntKind.i64.wrap (fA s.data.toList : Int) = _
    rw [hA]; exact IntWalk.i64_in _ (by have := (s.data.toList.getD 4 0).toNat_lt; have h5 : (s.data.toList.getD 4 0).toNat = A := hA; omega)
  have hw5 : IntKind.i64.wrap (s[5].toNat : Int) = (D : Int) := by
    rw [at_nat s 5 (by omega)]; show IntKind.i64.wrap (fD s.data.toList : Int) = _
    rw [hD]; exact IntWalk.i64_in _ (by have := (s.data.toList.getD 5 0).toNat_lt; have h5 : (s.data.toList.getD 5 0).toNat = D := hD; omega)
  have hT' : ((s.extract 8 16).toList == (s.extract 56 64).toList) = T := HT0.out
  obtain ⟨V, hV⟩ : ∃ V, labOf s.data.toList = V := ⟨_, rfl⟩
  rw [hV]
  have HV := Lib.hid hV
  clear hV
  clear hT hSM hBL hll hA hD
  go_enter Try.func12, Try.ntmps12
  go_wp2_with fail
  refine' (fun (hk : (_ : Prop)) => (?body : _)) ?rest
  case body =>
    refine wp_region_held_drew (S := fun w' => True) (by kernel_rfl) trivial (fun hHeld => ?_)
    refine wpAnyH_take (i := 0) (v := ?_) rfl (by kernel_rfl) (by kernel_rfl) (by kernel_rfl) (fun _ _ _ h => h) (Or.inl ⟨by kernel_rfl, by intro w hSw; (try dsimp only at hSw); go_simp; first | done | with_reducible rfl⟩) (by assumption) ?_
    try simp only [Act.put, List.getElem_toArray, List.getElem_cons_zero, List.getElem_cons_succ, List.setIfInBounds_toArray, List.set_cons_zero, List.set_cons_succ]
    refine wpAnyH_take (i := 1) (v := ?_) rfl (by kernel_rfl) (by kernel_rfl) (by kernel_rfl) (fun _ _ _ h => h) (Or.inl ⟨by kernel_rfl, by intro w hSw; (try dsimp only at hSw); go_simp; first | done | with_reducible rfl⟩) (by assumption) ?_
    try simp only [Act.put, List.getElem_toArray, List.getElem_cons_zero, List.getElem_cons_succ, List.setIfInBounds_toArray, List.set_cons_zero, List.set_cons_succ]
    refine wpAnyH_take (i := 2) (v := ?_) rfl (by kernel_rfl) (by kernel_rfl) (by kernel_rfl) (fun _ _ _ h => h) (Or.inl ⟨by kernel_rfl, by intro w hSw; (try dsimp only at hSw); go_simp; first | done | with_reducible rfl⟩) (by assumption) ?_
    try simp only [Act.put, List.getElem_toArray, List.getElem_cons_zero, List.getElem_cons_succ, List.setIfInBounds_toArray, List.set_cons_zero, List.set_cons_succ]
    refine wpAnyH_take (i := 3) (v := ?_) rfl (by kernel_rfl) (by kernel_rfl) (by kernel_rfl) (fun _ _ _ h => h) (Or.inl ⟨by kernel_rfl, by intro w hSw; (try dsimp only at hSw); go_simp; first | done | with_reducible rfl⟩) (by assumption) ?_
    try simp only [Act.put, List.getElem_toArray, List.getElem_cons_zero, List.getElem_cons_succ, List.setIfInBounds_toArray, List.set_cons_zero, List.set_cons_succ]
    refine wpAnyH_take (i := 4) (v := ?_) rfl (by kernel_rfl) (by kernel_rfl) (by kernel_rfl) (fun _ _ _ h => h) (Or.inl ⟨by kernel_rfl, by intro w hSw; (try dsimp only at hSw); go_simp; first | done | with_reducible rfl⟩) (by assumption) ?_
    try simp only [Act.put, List.getElem_toArray, List.getElem_cons_zero, List.getElem_cons_succ, List.setIfInBounds_toArray, List.set_cons_zero, List.set_cons_succ]
    refine wpAnyH_take (i := 5) (v := ?_) rfl (by kernel_rfl) (by kernel_rfl) (by kernel_rfl) (fun _ _ _ h => h) (Or.inl ⟨by kernel_rfl, by intro w hSw; (try dsimp only at hSw); go_simp; first | done | with_reducible rfl⟩) (by assumption) ?_
    try simp only [Act.put, List.getElem_toArray, List.getElem_cons_zero, List.getElem_cons_succ, List.setIfInBounds_toArray, List.set_cons_zero, List.set_cons_succ]
    refine wpAnyH_take (i := 6) (v := ?_) rfl (by kernel_rfl) (by kernel_rfl) (by kernel_rfl) (fun _ _ _ h => h) (Or.inl ⟨by kernel_rfl, by intro w hSw; (try dsimp only at hSw); go_simp; first | done | with_reducible rfl⟩) (by assumption) ?_
    try simp only [Act.put, List.getElem_toArray, List.getElem_cons_zero, List.getElem_cons_succ, List.setIfInBounds_toArray, List.set_cons_zero, List.set_cons_succ]
    refine wpAnyH_take (i := 7) (v := ?_) rfl (by kernel_rfl) (by kernel_rfl) (by kernel_rfl) (fun _ _ _ h => h) (Or.inl ⟨by kernel_rfl, by intro w hSw; (try dsimp only at hSw); go_simp; first | done | with_reducible rfl⟩) (by assumption) ?_
    try simp only [Act.put, List.getElem_toArray, List.getElem_cons_zero, List.getElem_cons_succ, List.setIfInBounds_toArray, List.set_cons_zero, List.set_cons_succ]
    refine wpAnyH_ready (rs := [8, 10]) (by kernel_rfl) (by simp) ?_
    refine AllReadyH.cons rfl (fun K hK => ?_) (AllReadyH.cons rfl (fun K hK => ?_) AllReadyH.nil)
    next =>
      go_simp
      go_at_call 28
      with_reducible refine (get_any (s.extract 6 8) _ hx1).mono ?_
      rintro x wn ⟨rfl, rfl⟩
      refine hK.out _ _ trivial (fun hHeld => ?_)
      clear hK K
      try simp only [Act.put, List.getElem_toArray, List.getElem_cons_zero, List.getElem_cons_succ, List.setIfInBounds_toArray, List.set_cons_zero, List.set_cons_succ]
      refine wpAnyH_take (i := 9) (v := ?_) rfl (by kernel_rfl) (by kernel_rfl) (by kernel_rfl) (fun _ _ _ h => h) (Or.inl ⟨by kernel_rfl, by intro w hSw; (try dsimp only at hSw); go_simp; first | done | with_reducible rfl⟩) (by assumption) ?_
      try simp only [Act.put, List.getElem_toArray, List.getElem_cons_zero, List.getElem_cons_succ, List.setIfInBounds_toArray, List.set_cons_zero, List.set_cons_succ]
      refine wpAnyH_ready (rs := [10]) (by kernel_rfl) (by simp) ?_
      refine AllReadyH.cons rfl (fun K hK => ?_) AllReadyH.nil
      go_simp
      refine hK.out _ _ trivial (fun hHeld => ?_)
      clear hK K
      try simp only [Act.put, List.getElem_toArray, List.getElem_cons_zero, List.getElem_cons_succ, List.setIfInBounds_toArray, List.set_cons_zero, List.set_cons_succ]
      refine wpAnyH_ready (rs := [11]) (by kernel_rfl) (by simp) ?_
      refine AllReadyH.cons rfl (fun K hK => ?_) AllReadyH.nil
      go_simp
      refine hK.out _ _ trivial (fun hHeld => ?_)
      clear hK K
      try simp only [Act.put, List.getElem_toArray, List.getElem_cons_zero, List.getElem_cons_succ, List.setIfInBounds_toArray, List.set_cons_zero, List.set_cons_succ]
      refine wpAnyH_done (by kernel_rfl) ?_ _
      exact hk
    next =>
      go_simp
      refine hK.out _ _ trivial (fun hHeld => ?_)
      clear hK K
      try simp only [Act.put, List.getElem_toArray, List.getElem_cons_zero, List.getElem_cons_succ, List.setIfInBounds_toArray, List.set_cons_zero, List.set_cons_succ]
      refine wpAnyH_ready (rs := [8]) (by kernel_rfl) (by simp) ?_
      refine AllReadyH.cons rfl (fun K hK => ?_) AllReadyH.nil
      go_simp
      go_at_call 28
      with_reducible refine (get_any (s.extract 6 8) _ hx1).mono ?_
      rintro x wn ⟨rfl, rfl⟩
      refine hK.out _ _ trivial (fun hHeld => ?_)
      clear hK K
      try simp only [Act.put, List.getElem_toArray, List.getElem_cons_zero, List.getElem_cons_succ, List.setIfInBounds_toArray, List.set_cons_zero, List.set_cons_succ]
      refine wpAnyH_take (i := 9) (v := ?_) rfl (by kernel_rfl) (by kernel_rfl) (by kernel_rfl) (fun _ _ _ h => h) (Or.inl ⟨by kernel_rfl, by intro w hSw; (try dsimp only at hSw); go_simp; first | done | with_reducible rfl⟩) (by assumption) ?_
      try simp only [Act.put, List.getElem_toArray, List.getElem_cons_zero, List.getElem_cons_succ, List.setIfInBounds_toArray, List.set_cons_zero, List.set_cons_succ]
      refine wpAnyH_ready (rs := [11]) (by kernel_rfl) (by simp) ?_
      refine AllReadyH.cons rfl (fun K hK => ?_) AllReadyH.nil
      go_simp
      refine hK.out _ _ trivial (fun hHeld => ?_)
      clear hK K
      try simp only [Act.put, List.getElem_toArray, List.getElem_cons_zero, List.getElem_cons_succ, List.setIfInBounds_toArray, List.set_cons_zero, List.set_cons_succ]
      refine wpAnyH_done (by kernel_rfl) ?_ _
      exact hk
  go_wp2_with fail
  refine' (fun (hk : (_ : Prop)) => (?body2 : _)) ?rest2
  case body2 =>
    go_region_held3 (fun w' => True) (trivial) (first
      | (go_at_call 28; ((with_reducible refine (get_any (s.extract 8 12) _ hx2).mono ?_)); rintro x wn ⟨rfl, rfl⟩)
      | (go_at_call 28; ((with_reducible refine (get_any (s.extract 12 16) _ hx3).mono ?_)); rintro x wn ⟨rfl, rfl⟩))
    all_goals exact hk
  go_wp2_with fail
  refine wp_region_held_drew (S := fun w' => True) (by kernel_rfl) trivial (fun hHeld => ?_)
  refine wpAnyH_take (i := 0) (v := ?_) rfl (by kernel_rfl) (by kernel_rfl) (by kernel_rfl) (fun _ _ _ h => h) (Or.inl ⟨by kernel_rfl, by intro w hSw; (try dsimp only at hSw); go_simp; first | done | with_reducible rfl⟩) (by assumption) ?_
  try simp only [Act.put, List.getElem_toArray, List.getElem_cons_zero, List.getElem_cons_succ, List.setIfInBounds_toArray, List.set_cons_zero, List.set_cons_succ]
  refine wpAnyH_take (i := 1) (v := ?_) rfl (by kernel_rfl) (by kernel_rfl) (by kernel_rfl) (fun _ _ _ h => h) (Or.inl ⟨by kernel_rfl, by intro w hSw; (try dsimp only at hSw); go_simp; first | done | with_reducible rfl⟩) (by assumption) ?_
  try simp only [Act.put, List.getElem_toArray, List.getElem_cons_zero, List.getElem_cons_succ, List.setIfInBounds_toArray, List.set_cons_zero, List.set_cons_succ]
  refine wpAnyH_take (i := 2) (v := ?_) rfl (by kernel_rfl) (by kernel_rfl) (by kernel_rfl) (fun _ _ _ h => h) (Or.inl ⟨by kernel_rfl, by intro w hSw; (try dsimp only at hSw); go_simp; first | done | with_reducible rfl⟩) (by assumption) ?_
  try simp only [Act.put, List.getElem_toArray, List.getElem_cons_zero, List.getElem_cons_succ, List.setIfInBounds_toArray, List.set_cons_zero, List.set_cons_succ]
  refine wpAnyH_take (i := 3) (v := ?_) rfl (by kernel_rfl) (by kernel_rfl) (by kernel_rfl) (fun _ _ _ h => h) (Or.inl ⟨by kernel_rfl, by intro w hSw; (try dsimp only at hSw); go_simp; first | done | with_reducible rfl⟩) (by assumption) ?_
  try simp only [Act.put, List.getElem_toArray, List.getElem_cons_zero, List.getElem_cons_succ, List.setIfInBounds_toArray, List.set_cons_zero, List.set_cons_succ]
  refine wpAnyH_take (i := 4) (v := ?_) rfl (by kernel_rfl) (by kernel_rfl) (by kernel_rfl) (fun _ _ _ h => h) (Or.inl ⟨by kernel_rfl, by intro w hSw; (try dsimp only at hSw); go_simp; first | done | with_reducible rfl⟩) (by assumption) ?_
  try simp only [Act.put, List.getElem_toArray, List.getElem_cons_zero, List.getElem_cons_succ, List.setIfInBounds_toArray, List.set_cons_zero, List.set_cons_succ]
  refine wpAnyH_take (i := 5) (v := ?_) rfl (by kernel_rfl) (by kernel_rfl) (by kernel_rfl) (fun _ _ _ h => h) (Or.inl ⟨by kernel_rfl, by intro w hSw; (try dsimp only at hSw); go_simp; first | done | with_reducible rfl⟩) (by assumption) ?_
  try simp only [Act.put, List.getElem_toArray, List.getElem_cons_zero, List.getElem_cons_succ, List.setIfInBounds_toArray, List.set_cons_zero, List.set_cons_succ]
  refine wpAnyH_done (by kernel_rfl) ?_ _
  go_wp2_with fail
  obtain ⟨W, hW⟩ : ∃ W, W = ((((w.alloc (.cells #[.int .i64 0, .int .i64 0, .int .i64 0] 23)).alloc (.cells #[.int .i64 0, .int .i64 0] 25)).alloc (.cells #[.int .i64 D, .int .i64 A, .int .i64 I] 23)).alloc (.cells #[.int .i64 E, .int .i64 C] 25)).drew.drew.drew := ⟨_, rfl⟩
  have HP := Lib.hid (show Row W (w.heap.size + 1 + 1) 23 #[.int .i64 D, .int .i64 A, .int .i64 I] by rw [hW]; exact ((Row.made _ _ (by simp)).alloc _).drew.drew.drew)
  have HN := Lib.hid (show Row W (w.heap.size + 1 + 1 + 1) 25 #[.int .i64 E, .int .i64 C] by rw [hW]; exact (Row.made _ _ (by simp)).drew.drew.drew)
  have HZ := Lib.hid (show Row W w.heap.size 23 #[.int .i64 0, .int .i64 0, .int .i64 0] by rw [hW]; exact ((((Row.new w _ _).alloc _).alloc _).alloc _).drew.drew.drew)
  have HY := Lib.hid (show Row W (w.heap.size + 1) 25 #[.int .i64 0, .int .i64 0] by rw [hW]; exact (((Row.made _ _ (by simp)).alloc _).alloc _).drew.drew.drew)
  have HB := Lib.hid (show Below w.heap.size w W by rw [hW]; exact below_drewN (((((Below.refl _ _).alloc (Nat.le_refl _) _).alloc (by simp) _).alloc (by first | (simp; done) | (simp; omega)) _).alloc (by first | (simp; done) | (simp; omega)) _) 3)
  rw [← hW]
  clear hW
  obtain ⟨cB, wB, hcv, hbB, hrB⟩ := conv_bytes W.drew (s.extract 4 64)
  rw [HB60.out] at hrB
  rw [hsz] at hcv
  have hsW : W.drew.heap.size = W.heap.size := rfl
  rw [hsW] at hcv hrB
  have hQ4 : ((numOf (s.extract 0 4).data.toList : Nat) : Int) = Q := by rw [extract_list, List.drop_zero]; exact hQ
  have hbB' : Below W.heap.size W wB := undrew hbB
  have H0 := keepL HP.out HN.out (⟨trivial, Below.refl _ _⟩ : True ∧ Below W.heap.size W W) (Below.refl _ _)
  have HS0 := keepL HP.out HN.out (⟨trivial, Below.refl _ _⟩ : True ∧ Below W.heap.size W W) hbB'
  refine wp_region_held_drew (S := (fun wn => (wn.cell? ⟨w.heap.size + 1 + 1, 0, none⟩ = some (.int .i64 D) ∧ wn.cell? ⟨w.heap.size + 1 + 1, 1, none⟩ = some (.int .i64 A) ∧ wn.cell? ⟨w.heap.size + 1 + 1, 2, none⟩ = some (.int .i64 I) ∧
      wn.cell? ⟨w.heap.size + 1 + 1 + 1, 0, none⟩ = some (.int .i64 E) ∧ wn.cell? ⟨w.heap.size + 1 + 1 + 1, 1, none⟩ = some (.int .i64 C)) ∧ Below W.heap.size W wn)) (by kernel_rfl) ⟨H0.1, below_drewN H0.2 1⟩ (fun hHeld => ?_)
  refine wpAnyH_take (i := 0) (v := ?_) rfl (by kernel_rfl) (by kernel_rfl) (by kernel_rfl) (fun _ _ _ h => h) (Or.inl ⟨by kernel_rfl, by intro w hSw; (try dsimp only at hSw); go_simp; first | done | with_reducible rfl⟩) (by assumption) ?_
  try simp only [Act.put, List.getElem_toArray, List.getElem_cons_zero, List.getElem_cons_succ, List.setIfInBounds_toArray, List.set_cons_zero, List.set_cons_succ]
  refine wpAnyH_take (i := 1) (v := ?_) rfl (by kernel_rfl) (by kernel_rfl) (by kernel_rfl) (fun _ _ _ h => h) (Or.inl ⟨by kernel_rfl, by intro w hSw; (try dsimp only at hSw); go_simp; first | done | with_reducible rfl⟩) (by assumption) ?_
  try simp only [Act.put, List.getElem_toArray, List.getElem_cons_zero, List.getElem_cons_succ, List.setIfInBounds_toArray, List.set_cons_zero, List.set_cons_succ]
  refine wpAnyH_take (i := 3) (v := ?_) rfl (by kernel_rfl) (by kernel_rfl) (by kernel_rfl) (fun _ _ _ h => h) (Or.inl ⟨by kernel_rfl, by intro w hSw; (try dsimp only at hSw); go_simp; first | done | with_reducible rfl⟩) (by assumption) ?_
  try simp only [Act.put, List.getElem_toArray, List.getElem_cons_zero, List.getElem_cons_succ, List.setIfInBounds_toArray, List.set_cons_zero, List.set_cons_succ]
  refine wpAnyH_take (i := 4) (v := ?_) rfl (by kernel_rfl) (by kernel_rfl) (by kernel_rfl) (fun _ _ _ h => h) (Or.inl ⟨by kernel_rfl, by intro w hSw; (try dsimp only at hSw); go_simp; first | done | with_reducible rfl⟩) (by assumption) ?_
  try simp only [Act.put, List.getElem_toArray, List.getElem_cons_zero, List.getElem_cons_succ, List.setIfInBounds_toArray, List.set_cons_zero, List.set_cons_succ]
  refine' (fun (hk : (_ : Prop)) => (?body3 : _)) ?rest3
  case body3 =>
    refine wpAnyH_ready (rs := [2, 5]) (by kernel_rfl) (by simp) ?_
    refine AllReadyH.cons rfl (fun K hK => ?_) (AllReadyH.cons rfl (fun K hK => ?_) AllReadyH.nil)
    next =>
      go_simp
      go_at_call 28
      with_reducible refine (get_any (s.extract 0 4) _ hx4).mono ?_
      rintro x wn ⟨rfl, rfl⟩
      rw [hQ4]
      refine hK.out _ _ hHeld (fun hHeld => ?_)
      clear hK K
      try simp only [Act.put, List.getElem_toArray, List.getElem_cons_zero, List.getElem_cons_succ, List.setIfInBounds_toArray, List.set_cons_zero, List.set_cons_succ]
      refine wpAnyH_ready (rs := [5]) (by kernel_rfl) (by simp) ?_
      refine AllReadyH.cons rfl (fun K hK => ?_) AllReadyH.nil
      go_simp
      refine hK.out _ _ HS0 (fun hHeld => ?_)
      clear hK K
      try simp only [Act.put, List.getElem_toArray, List.getElem_cons_zero, List.getElem_cons_succ, List.setIfInBounds_toArray, List.set_cons_zero, List.set_cons_succ]
      exact hk
    next =>
      go_simp
      refine hK.out _ _ HS0 (fun hHeld => ?_)
      clear hK K
      try simp only [Act.put, List.getElem_toArray, List.getElem_cons_zero, List.getElem_cons_succ, List.setIfInBounds_toArray, List.set_cons_zero, List.set_cons_succ]
      refine wpAnyH_ready (rs := [2]) (by kernel_rfl) (by simp) ?_
      refine AllReadyH.cons rfl (fun K hK => ?_) AllReadyH.nil
      go_simp
      go_at_call 28
      with_reducible refine (get_any (s.extract 0 4) _ hx4).mono ?_
      rintro x wn ⟨rfl, rfl⟩
      rw [hQ4]
      refine hK.out _ _ HS0 (fun hHeld => ?_)
      clear hK K
      try simp only [Act.put, List.getElem_toArray, List.getElem_cons_zero, List.getElem_cons_succ, List.setIfInBounds_toArray, List.set_cons_zero, List.set_cons_succ]
      rw [Array.setIfInBounds_comm _ _ (by decide)]
      exact hk
  have hHeld := HS0
  clear H0 HS0 hcv
  refine wpAnyH_ready (rs := [6]) (by kernel_rfl) (by simp) ?_
  refine AllReadyH.cons rfl (fun K hK => ?_) AllReadyH.nil
  go_simp
  go_at_call 24
  with_reducible refine (of_any _ 60 cB wB.heap.size BL wB HBLl.out (by decide) (Nat.le_refl _) hrB).mono ?_
  rintro x w7 ⟨rfl, hb⟩
  rw [v32, HR.out]
  have HS7 := keepL HP.out HN.out hHeld hb
  clear hb hbB hrB
  refine hK.out _ _ HS7 (fun hHeld => ?_)
  clear hK K
  try simp only [Act.put, List.getElem_toArray, List.getElem_cons_zero, List.getElem_cons_succ, List.setIfInBounds_toArray, List.set_cons_zero, List.set_cons_succ]
  cases SM with
  | false =>
    have hq : (Q != R) = true := by have := HSM.out; simpa using this
    refine wpAnyH_take (i := 7) (v := ?_) rfl (by kernel_rfl) (by kernel_rfl) (by kernel_rfl) (fun _ _ _ h => h) (Or.inl ⟨by kernel_rfl, by intro w hSw; (try dsimp only at hSw); go_simp; first | done | with_reducible rfl⟩) (by assumption) ?_
    try simp only [Act.put, List.getElem_toArray, List.getElem_cons_zero, List.getElem_cons_succ, List.setIfInBounds_toArray, List.set_cons_zero, List.set_cons_succ]
    refine wpAnyH_take (i := 8) (v := ?_) rfl (by kernel_rfl) (by kernel_rfl) (by kernel_rfl) (fun _ _ _ h => h) (Or.inl ⟨by kernel_rfl, by intro w hSw; (try dsimp only at hSw); go_simp; first | done | with_reducible rfl⟩) (by assumption) ?_
    try simp only [Act.put, List.getElem_toArray, List.getElem_cons_zero, List.getElem_cons_succ, List.setIfInBounds_toArray, List.set_cons_zero, List.set_cons_succ]
    refine wpAnyH_take (i := 9) (v := ?_) rfl (by kernel_rfl) (by kernel_rfl) (by kernel_rfl) (fun _ _ _ h => h) (Or.inl ⟨by kernel_rfl, by intro w hSw; (try dsimp only at hSw); go_simp; first | done | with_reducible rfl⟩) (by assumption) ?_
    try simp only [Act.put, List.getElem_toArray, List.getElem_cons_zero, List.getElem_cons_succ, List.setIfInBounds_toArray, List.set_cons_zero, List.set_cons_succ]
    refine wpAnyH_take (i := 10) (v := _root_.Go.undef) rfl (by kernel_rfl) (by kernel_rfl) (by kernel_rfl) (fun _ _ _ h => h) (Or.inr ⟨by kernel_rfl, rfl⟩) (by assumption) ?_
    try simp only [Act.put, List.getElem_toArray, List.getElem_cons_zero, List.getElem_cons_succ, List.setIfInBounds_toArray, List.set_cons_zero, List.set_cons_succ]
    refine wpAnyH_take (i := 11) (v := _root_.Go.undef) rfl (by kernel_rfl) (by kernel_rfl) (by kernel_rfl) (fun _ _ _ h => h) (Or.inr ⟨by kernel_rfl, rfl⟩) (by assumption) ?_
    try simp only [Act.put, List.getElem_toArray, List.getElem_cons_zero, List.getElem_cons_succ, List.setIfInBounds_toArray, List.set_cons_zero, List.set_cons_succ]
    refine wpAnyH_take (i := 12) (v := _root_.Go.undef) rfl (by kernel_rfl) (by kernel_rfl) (by kernel_rfl) (fun _ _ _ h => h) (Or.inr ⟨by kernel_rfl, rfl⟩) (by assumption) ?_
    try simp only [Act.put, List.getElem_toArray, List.getElem_cons_zero, List.getElem_cons_succ, List.setIfInBounds_toArray, List.set_cons_zero, List.set_cons_succ]
    refine wpAnyH_take (i := 13) (v := ?_) rfl (by kernel_rfl) (by kernel_rfl) (by kernel_rfl) (fun _ _ _ h => h) (Or.inl ⟨by kernel_rfl, by intro w hSw; (try dsimp only at hSw); go_simp; first | done | with_reducible rfl⟩) (by assumption) ?_
    try simp only [Act.put, List.getElem_toArray, List.getElem_cons_zero, List.getElem_cons_succ, List.setIfInBounds_toArray, List.set_cons_zero, List.set_cons_succ]
    refine wpAnyH_take (i := 14) (v := ?_) rfl (by kernel_rfl) (by kernel_rfl) (by kernel_rfl) (fun _ _ _ h => h) (Or.inl ⟨by kernel_rfl, by intro w hSw; (try dsimp only at hSw); go_simp; first | done | with_reducible rfl⟩) (by assumption) ?_
    try simp only [Act.put, List.getElem_toArray, List.getElem_cons_zero, List.getElem_cons_succ, List.setIfInBounds_toArray, List.set_cons_zero, List.set_cons_succ]
    refine wpAnyH_take (i := 15) (v := _root_.Go.undef) rfl (by kernel_rfl) (by kernel_rfl) (by kernel_rfl) (fun _ _ _ h => h) (Or.inr ⟨by kernel_rfl, rfl⟩) (by assumption) ?_
    try simp only [Act.put, List.getElem_toArray, List.getElem_cons_zero, List.getElem_cons_succ, List.setIfInBounds_toArray, List.set_cons_zero, List.set_cons_succ]
    refine wpAnyH_take (i := 16) (v := _root_.Go.undef) rfl (by kernel_rfl) (by kernel_rfl) (by kernel_rfl) (fun _ _ _ h => h) (Or.inr ⟨by kernel_rfl, rfl⟩) (by assumption) ?_
    try simp only [Act.put, List.getElem_toArray, List.getElem_cons_zero, List.getElem_cons_succ, List.setIfInBounds_toArray, List.set_cons_zero, List.set_cons_succ]
    refine wpAnyH_take (i := 17) (v := _root_.Go.undef) rfl (by kernel_rfl) (by kernel_rfl) (by kernel_rfl) (fun _ _ _ h => h) (Or.inr ⟨by kernel_rfl, rfl⟩) (by assumption) ?_
    try simp only [Act.put, List.getElem_toArray, List.getElem_cons_zero, List.getElem_cons_succ, List.setIfInBounds_toArray, List.set_cons_zero, List.set_cons_succ]
    refine wpAnyH_take (i := 18) (v := ?_) rfl (by kernel_rfl) (by kernel_rfl) (by kernel_rfl) (fun _ _ _ h => h) (Or.inl ⟨by kernel_rfl, by intro w hSw; (try dsimp only at hSw); go_simp; first | done | with_reducible rfl⟩) (by assumption) ?_
    try simp only [Act.put, List.getElem_toArray, List.getElem_cons_zero, List.getElem_cons_succ, List.setIfInBounds_toArray, List.set_cons_zero, List.set_cons_succ]
    refine wpAnyH_take (i := 19) (v := ?_) rfl (by kernel_rfl) (by kernel_rfl) (by kernel_rfl) (fun _ _ _ h => h) (Or.inl ⟨by kernel_rfl, by intro w hSw; (try dsimp only at hSw); go_simp; first | done | with_reducible rfl⟩) (by assumption) ?_
    try simp only [Act.put, List.getElem_toArray, List.getElem_cons_zero, List.getElem_cons_succ, List.setIfInBounds_toArray, List.set_cons_zero, List.set_cons_succ]
    refine wpAnyH_take (i := 20) (v := _root_.Go.undef) rfl (by kernel_rfl) (by kernel_rfl) (by kernel_rfl) (fun _ _ _ h => h) (Or.inr ⟨by kernel_rfl, rfl⟩) (by assumption) ?_
    try simp only [Act.put, List.getElem_toArray, List.getElem_cons_zero, List.getElem_cons_succ, List.setIfInBounds_toArray, List.set_cons_zero, List.set_cons_succ]
    refine wpAnyH_take (i := 21) (v := ?_) rfl (by kernel_rfl) (by kernel_rfl) (by kernel_rfl) (fun _ _ _ h => h) (Or.inl ⟨by kernel_rfl, by intro w hSw; (try dsimp only at hSw); go_simp; first | done | with_reducible rfl⟩) (by assumption) ?_
    try simp only [Act.put, List.getElem_toArray, List.getElem_cons_zero, List.getElem_cons_succ, List.setIfInBounds_toArray, List.set_cons_zero, List.set_cons_succ]
    refine wpAnyH_done (by kernel_rfl) ?_ _
    have HB := Lib.hid (below_call HB.out hHeld.2)
    have HZ := Lib.hid (HZ.out.below hHeld.2 HZ.out.lt)
    have HY := Lib.hid (HY.out.below hHeld.2 HY.out.lt)
    obtain ⟨z0, z1, z2⟩ := row3 HZ.out
    obtain ⟨y0, y1⟩ := row2 HY.out
    have f0 := HZ.out.frozen 0
    have f1 := HZ.out.frozen 1
    have f2 := HZ.out.frozen 2
    have f3 := HY.out.frozen 0
    have f4 := HY.out.frozen 1
    go_wp2_with fail
    have hV : V = (0, 0, 0, 0, 0, 7) := by rw [← HV.out, HL.out, HK.out]; simp
    refine bodyPost_ret (v := labV (0, 0, 0, 0, 0, 7)) ?_ rfl ⟨by rw [hV], ((((HB.out.setCell (by simp) _).setCell (by simp) _).setCell (by simp) _).setCell (by simp) _).setCell (by simp) _⟩
    exact results_row2_tmp rfl _ _ w.heap.size (w.heap.size + 1) _ _ _ _ _ _ _ rfl rfl rfl (((((HZ.out.put 0 (.int .i64 0)).put 1 (.int .i64 0)).put 2 (.int .i64 0)).far (by simp) (.int .i64 0)).far (by simp) (.int .i64 0)) (((((HY.out.far (by simp) (.int .i64 0)).far (by simp) (.int .i64 0)).far (by simp) (.int .i64 0)).put 0 (.int .i64 0)).put 1 (.int .i64 0)) Try.underlying23 (by rfl) (by kernel_rfl) Try.underlying25 (by rfl) (by kernel_rfl)
  | true =>
    have hq : (Q != R) = false := by have := HSM.out; simpa using this
    refine wpAnyH_take (i := 7) (v := ?_) rfl (by kernel_rfl) (by kernel_rfl) (by kernel_rfl) (fun _ _ _ h => h) (Or.inl ⟨by kernel_rfl, by intro w hSw; (try dsimp only at hSw); go_simp; first | done | with_reducible rfl⟩) (by assumption) ?_
    try simp only [Act.put, List.getElem_toArray, List.getElem_cons_zero, List.getElem_cons_succ, List.setIfInBounds_toArray, List.set_cons_zero, List.set_cons_succ]
    refine wpAnyH_take (i := 8) (v := ?_) rfl (by kernel_rfl) (by kernel_rfl) (by kernel_rfl) (fun _ _ _ h => h) (Or.inl ⟨by kernel_rfl, by intro w hSw; (try dsimp only at hSw); go_simp; first | done | with_reducible rfl⟩) (by assumption) ?_
    try simp only [Act.put, List.getElem_toArray, List.getElem_cons_zero, List.getElem_cons_succ, List.setIfInBounds_toArray, List.set_cons_zero, List.set_cons_succ]
    refine wpAnyH_take (i := 9) (v := ?_) rfl (by kernel_rfl) (by kernel_rfl) (by kernel_rfl) (fun _ _ _ h => h) (Or.inl ⟨by kernel_rfl, by intro w hSw; (try dsimp only at hSw); go_simp; first | done | with_reducible rfl⟩) (by assumption) ?_
    try simp only [Act.put, List.getElem_toArray, List.getElem_cons_zero, List.getElem_cons_succ, List.setIfInBounds_toArray, List.set_cons_zero, List.set_cons_succ]
    refine wpAnyH_take (i := 10) (v := ?_) rfl (by kernel_rfl) (by kernel_rfl) (by kernel_rfl) (fun _ _ _ h => h) (Or.inl ⟨by kernel_rfl, by intro w hSw; (try dsimp only at hSw); go_simp; first | done | with_reducible rfl⟩) (by assumption) ?_
    try simp only [Act.put, List.getElem_toArray, List.getElem_cons_zero, List.getElem_cons_succ, List.setIfInBounds_toArray, List.set_cons_zero, List.set_cons_succ]
    refine wpAnyH_ready (rs := [11]) (by kernel_rfl) (by simp) ?_
    refine AllReadyH.cons rfl (fun K hK => ?_) AllReadyH.nil
    go_simp
    go_at_call 16
    with_reducible refine (splace_any D A I _).mono ?_
    rintro x w8 ⟨rfl, hb⟩
    have HS8 := keepL HP.out HN.out hHeld hb
    clear hb hHeld
    obtain ⟨PL, hPL⟩ : ∃ PL, placeB D A I = PL := ⟨_, rfl⟩
    rw [hPL]
    refine hK.out _ _ HS8 (fun hHeld => ?_)
    clear hK K
    try simp only [Act.put, List.getElem_toArray, List.getElem_cons_zero, List.getElem_cons_succ, List.setIfInBounds_toArray, List.set_cons_zero, List.set_cons_succ]
    clear HS8
    cases PL with
    | false =>
      refine wpAnyH_take (i := 12) (v := ?_) rfl (by kernel_rfl) (by kernel_rfl) (by kernel_rfl) (fun _ _ _ h => h) (Or.inl ⟨by kernel_rfl, by intro w hSw; (try dsimp only at hSw); go_simp; first | done | with_reducible rfl⟩) (by assumption) ?_
      try simp only [Act.put, List.getElem_toArray, List.getElem_cons_zero, List.getElem_cons_succ, List.setIfInBounds_toArray, List.set_cons_zero, List.set_cons_succ]
      refine wpAnyH_take (i := 13) (v := ?_) rfl (by kernel_rfl) (by kernel_rfl) (by kernel_rfl) (fun _ _ _ h => h) (Or.inl ⟨by kernel_rfl, by intro w hSw; (try dsimp only at hSw); go_simp; first | done | with_reducible rfl⟩) (by assumption) ?_
      try simp only [Act.put, List.getElem_toArray, List.getElem_cons_zero, List.getElem_cons_succ, List.setIfInBounds_toArray, List.set_cons_zero, List.set_cons_succ]
      refine wpAnyH_take (i := 14) (v := ?_) rfl (by kernel_rfl) (by kernel_rfl) (by kernel_rfl) (fun _ _ _ h => h) (Or.inl ⟨by kernel_rfl, by intro w hSw; (try dsimp only at hSw); go_simp; first | done | with_reducible rfl⟩) (by assumption) ?_
      try simp only [Act.put, List.getElem_toArray, List.getElem_cons_zero, List.getElem_cons_succ, List.setIfInBounds_toArray, List.set_cons_zero, List.set_cons_succ]
      refine wpAnyH_take (i := 15) (v := _root_.Go.undef) rfl (by kernel_rfl) (by kernel_rfl) (by kernel_rfl) (fun _ _ _ h => h) (Or.inr ⟨by kernel_rfl, rfl⟩) (by assumption) ?_
      try simp only [Act.put, List.getElem_toArray, List.getElem_cons_zero, List.getElem_cons_succ, List.setIfInBounds_toArray, List.set_cons_zero, List.set_cons_succ]
      refine wpAnyH_take (i := 16) (v := _root_.Go.undef) rfl (by kernel_rfl) (by kernel_rfl) (by kernel_rfl) (fun _ _ _ h => h) (Or.inr ⟨by kernel_rfl, rfl⟩) (by assumption) ?_
      try simp only [Act.put, List.getElem_toArray, List.getElem_cons_zero, List.getElem_cons_succ, List.setIfInBounds_toArray, List.set_cons_zero, List.set_cons_succ]
      refine wpAnyH_take (i := 17) (v := _root_.Go.undef) rfl (by kernel_rfl) (by kernel_rfl) (by kernel_rfl) (fun _ _ _ h => h) (Or.inr ⟨by kernel_rfl, rfl⟩) (by assumption) ?_
      try simp only [Act.put, List.getElem_toArray, List.getElem_cons_zero, List.getElem_cons_succ, List.setIfInBounds_toArray, List.set_cons_zero, List.set_cons_succ]
      refine wpAnyH_take (i := 18) (v := ?_) rfl (by kernel_rfl) (by kernel_rfl) (by kernel_rfl) (fun _ _ _ h => h) (Or.inl ⟨by kernel_rfl, by intro w hSw; (try dsimp only at hSw); go_simp; first | done | with_reducible rfl⟩) (by assumption) ?_
      try simp only [Act.put, List.getElem_toArray, List.getElem_cons_zero, List.getElem_cons_succ, List.setIfInBounds_toArray, List.set_cons_zero, List.set_cons_succ]
      refine wpAnyH_take (i := 19) (v := ?_) rfl (by kernel_rfl) (by kernel_rfl) (by kernel_rfl) (fun _ _ _ h => h) (Or.inl ⟨by kernel_rfl, by intro w hSw; (try dsimp only at hSw); go_simp; first | done | with_reducible rfl⟩) (by assumption) ?_
      try simp only [Act.put, List.getElem_toArray, List.getElem_cons_zero, List.getElem_cons_succ, List.setIfInBounds_toArray, List.set_cons_zero, List.set_cons_succ]
      refine wpAnyH_take (i := 20) (v := _root_.Go.undef) rfl (by kernel_rfl) (by kernel_rfl) (by kernel_rfl) (fun _ _ _ h => h) (Or.inr ⟨by kernel_rfl, rfl⟩) (by assumption) ?_
      try simp only [Act.put, List.getElem_toArray, List.getElem_cons_zero, List.getElem_cons_succ, List.setIfInBounds_toArray, List.set_cons_zero, List.set_cons_succ]
      refine wpAnyH_take (i := 21) (v := ?_) rfl (by kernel_rfl) (by kernel_rfl) (by kernel_rfl) (fun _ _ _ h => h) (Or.inl ⟨by kernel_rfl, by intro w hSw; (try dsimp only at hSw); go_simp; first | done | with_reducible rfl⟩) (by assumption) ?_
      try simp only [Act.put, List.getElem_toArray, List.getElem_cons_zero, List.getElem_cons_succ, List.setIfInBounds_toArray, List.set_cons_zero, List.set_cons_succ]
      refine wpAnyH_done (by kernel_rfl) ?_ _
      have HB := Lib.hid (below_call HB.out hHeld.2)
      have HZ := Lib.hid (HZ.out.below hHeld.2 HZ.out.lt)
      have HY := Lib.hid (HY.out.below hHeld.2 HY.out.lt)
      obtain ⟨z0, z1, z2⟩ := row3 HZ.out
      obtain ⟨y0, y1⟩ := row2 HY.out
      have f0 := HZ.out.frozen 0
      have f1 := HZ.out.frozen 1
      have f2 := HZ.out.frozen 2
      have f3 := HY.out.frozen 0
      have f4 := HY.out.frozen 1
      go_wp2_with fail
      have hV : V = (0, 0, 0, 0, 0, 7) := by rw [← HV.out, HL.out, HK.out]; simp [hPL]
      refine bodyPost_ret (v := labV (0, 0, 0, 0, 0, 7)) ?_ rfl ⟨by rw [hV], ((((HB.out.setCell (by simp) _).setCell (by simp) _).setCell (by simp) _).setCell (by simp) _).setCell (by simp) _⟩
      exact results_row2_tmp rfl _ _ w.heap.size (w.heap.size + 1) _ _ _ _ _ _ _ rfl rfl rfl (((((HZ.out.put 0 (.int .i64 0)).put 1 (.int .i64 0)).put 2 (.int .i64 0)).far (by simp) (.int .i64 0)).far (by simp) (.int .i64 0)) (((((HY.out.far (by simp) (.int .i64 0)).far (by simp) (.int .i64 0)).far (by simp) (.int .i64 0)).put 0 (.int .i64 0)).put 1 (.int .i64 0)) Try.underlying23 (by rfl) (by kernel_rfl) Try.underlying25 (by rfl) (by kernel_rfl)
    | true =>
      refine wpAnyH_take (i := 12) (v := ?_) rfl (by kernel_rfl) (by kernel_rfl) (by kernel_rfl) (fun _ _ _ h => h) (Or.inl ⟨by kernel_rfl, by intro w hSw; (try dsimp only at hSw); go_simp; first | done | with_reducible rfl⟩) (by assumption) ?_
      try simp only [Act.put, List.getElem_toArray, List.getElem_cons_zero, List.getElem_cons_succ, List.setIfInBounds_toArray, List.set_cons_zero, List.set_cons_succ]
      refine wpAnyH_take (i := 13) (v := ?_) rfl (by kernel_rfl) (by kernel_rfl) (by kernel_rfl) (fun _ _ _ h => h) (Or.inl ⟨by kernel_rfl, by intro w hSw; (try dsimp only at hSw); go_simp; first | done | with_reducible rfl⟩) (by assumption) ?_
      try simp only [Act.put, List.getElem_toArray, List.getElem_cons_zero, List.getElem_cons_succ, List.setIfInBounds_toArray, List.set_cons_zero, List.set_cons_succ]
      refine wpAnyH_take (i := 14) (v := ?_) rfl (by kernel_rfl) (by kernel_rfl) (by kernel_rfl) (fun _ _ _ h => h) (Or.inl ⟨by kernel_rfl, by intro w hSw; (try dsimp only at hSw); go_simp; first | done | with_reducible rfl⟩) (by assumption) ?_
      try simp only [Act.put, List.getElem_toArray, List.getElem_cons_zero, List.getElem_cons_succ, List.setIfInBounds_toArray, List.set_cons_zero, List.set_cons_succ]
      refine wpAnyH_take (i := 15) (v := ?_) rfl (by kernel_rfl) (by kernel_rfl) (by kernel_rfl) (fun _ _ _ h => h) (Or.inl ⟨by kernel_rfl, by intro w hSw; (try dsimp only at hSw); go_simp; first | done | with_reducible rfl⟩) (by assumption) ?_
      try simp only [Act.put, List.getElem_toArray, List.getElem_cons_zero, List.getElem_cons_succ, List.setIfInBounds_toArray, List.set_cons_zero, List.set_cons_succ]
      refine wpAnyH_ready (rs := [16]) (by kernel_rfl) (by simp) ?_
      refine AllReadyH.cons rfl (fun K hK => ?_) AllReadyH.nil
      go_simp
      go_at_call 21
      with_reducible refine (vgen_any E C _).mono ?_
      rintro x w9 ⟨rfl, hb⟩
      have HS9 := keepL HP.out HN.out hHeld hb
      clear hb hHeld
      obtain ⟨GE, hGE⟩ : ∃ GE, genB E C = GE := ⟨_, rfl⟩
      rw [hGE]
      refine hK.out _ _ HS9 (fun hHeld => ?_)
      clear hK K
      try simp only [Act.put, List.getElem_toArray, List.getElem_cons_zero, List.getElem_cons_succ, List.setIfInBounds_toArray, List.set_cons_zero, List.set_cons_succ]
      clear HS9
      cases GE with
      | false =>
        refine wpAnyH_take (i := 17) (v := ?_) rfl (by kernel_rfl) (by kernel_rfl) (by kernel_rfl) (fun _ _ _ h => h) (Or.inl ⟨by kernel_rfl, by intro w hSw; (try dsimp only at hSw); go_simp; first | done | with_reducible rfl⟩) (by assumption) ?_
        try simp only [Act.put, List.getElem_toArray, List.getElem_cons_zero, List.getElem_cons_succ, List.setIfInBounds_toArray, List.set_cons_zero, List.set_cons_succ]
        refine wpAnyH_take (i := 18) (v := ?_) rfl (by kernel_rfl) (by kernel_rfl) (by kernel_rfl) (fun _ _ _ h => h) (Or.inl ⟨by kernel_rfl, by intro w hSw; (try dsimp only at hSw); go_simp; first | done | with_reducible rfl⟩) (by assumption) ?_
        try simp only [Act.put, List.getElem_toArray, List.getElem_cons_zero, List.getElem_cons_succ, List.setIfInBounds_toArray, List.set_cons_zero, List.set_cons_succ]
        refine wpAnyH_take (i := 19) (v := ?_) rfl (by kernel_rfl) (by kernel_rfl) (by kernel_rfl) (fun _ _ _ h => h) (Or.inl ⟨by kernel_rfl, by intro w hSw; (try dsimp only at hSw); go_simp; first | done | with_reducible rfl⟩) (by assumption) ?_
        try simp only [Act.put, List.getElem_toArray, List.getElem_cons_zero, List.getElem_cons_succ, List.setIfInBounds_toArray, List.set_cons_zero, List.set_cons_succ]
        refine wpAnyH_take (i := 20) (v := _root_.Go.undef) rfl (by kernel_rfl) (by kernel_rfl) (by kernel_rfl) (fun _ _ _ h => h) (Or.inr ⟨by kernel_rfl, rfl⟩) (by assumption) ?_
        try simp only [Act.put, List.getElem_toArray, List.getElem_cons_zero, List.getElem_cons_succ, List.setIfInBounds_toArray, List.set_cons_zero, List.set_cons_succ]
        refine wpAnyH_take (i := 21) (v := ?_) rfl (by kernel_rfl) (by kernel_rfl) (by kernel_rfl) (fun _ _ _ h => h) (Or.inl ⟨by kernel_rfl, by intro w hSw; (try dsimp only at hSw); go_simp; first | done | with_reducible rfl⟩) (by assumption) ?_
        try simp only [Act.put, List.getElem_toArray, List.getElem_cons_zero, List.getElem_cons_succ, List.setIfInBounds_toArray, List.set_cons_zero, List.set_cons_succ]
        refine wpAnyH_done (by kernel_rfl) ?_ _
        have HB := Lib.hid (below_call HB.out hHeld.2)
        have HZ := Lib.hid (HZ.out.below hHeld.2 HZ.out.lt)
        have HY := Lib.hid (HY.out.below hHeld.2 HY.out.lt)
        obtain ⟨z0, z1, z2⟩ := row3 HZ.out
        obtain ⟨y0, y1⟩ := row2 HY.out
        have f0 := HZ.out.frozen 0
        have f1 := HZ.out.frozen 1
        have f2 := HZ.out.frozen 2
        have f3 := HY.out.frozen 0
        have f4 := HY.out.frozen 1
        go_wp2_with fail
        have hV : V = (0, 0, 0, 0, 0, 7) := by rw [← HV.out, HL.out, HK.out]; simp [hPL, hGE]
        refine bodyPost_ret (v := labV (0, 0, 0, 0, 0, 7)) ?_ rfl ⟨by rw [hV], ((((HB.out.setCell (by simp) _).setCell (by simp) _).setCell (by simp) _).setCell (by simp) _).setCell (by simp) _⟩
        exact results_row2_tmp rfl _ _ w.heap.size (w.heap.size + 1) _ _ _ _ _ _ _ rfl rfl rfl (((((HZ.out.put 0 (.int .i64 0)).put 1 (.int .i64 0)).put 2 (.int .i64 0)).far (by simp) (.int .i64 0)).far (by simp) (.int .i64 0)) (((((HY.out.far (by simp) (.int .i64 0)).far (by simp) (.int .i64 0)).far (by simp) (.int .i64 0)).put 0 (.int .i64 0)).put 1 (.int .i64 0)) Try.underlying23 (by rfl) (by kernel_rfl) Try.underlying25 (by rfl) (by kernel_rfl)
      | true =>
        cases T with
        | false =>
          simp only [Bool.not_false]
          refine wpAnyH_take (i := 17) (v := ?_) rfl (by kernel_rfl) (by kernel_rfl) (by kernel_rfl) (fun _ _ _ h => h) (Or.inl ⟨by kernel_rfl, by intro w hSw; (try dsimp only at hSw); go_simp; first | done | with_reducible rfl⟩) (by assumption) ?_
          try simp only [Act.put, List.getElem_toArray, List.getElem_cons_zero, List.getElem_cons_succ, List.setIfInBounds_toArray, List.set_cons_zero, List.set_cons_succ]
          refine wpAnyH_take (i := 18) (v := ?_) rfl (by kernel_rfl) (by kernel_rfl) (by kernel_rfl) (fun _ _ _ h => h) (Or.inl ⟨by kernel_rfl, by intro w hSw; (try dsimp only at hSw); go_simp; first | done | with_reducible rfl⟩) (by assumption) ?_
          try simp only [Act.put, List.getElem_toArray, List.getElem_cons_zero, List.getElem_cons_succ, List.setIfInBounds_toArray, List.set_cons_zero, List.set_cons_succ]
          refine wpAnyH_take (i := 19) (v := ?_) rfl (by kernel_rfl) (by kernel_rfl) (by kernel_rfl) (fun _ _ _ h => h) (Or.inl ⟨by kernel_rfl, by intro w hSw; (try dsimp only at hSw); go_simp; first | done | with_reducible rfl⟩) (by assumption) ?_
          try simp only [Act.put, List.getElem_toArray, List.getElem_cons_zero, List.getElem_cons_succ, List.setIfInBounds_toArray, List.set_cons_zero, List.set_cons_succ]
          refine wpAnyH_take (i := 20) (v := ?_) rfl (by kernel_rfl) (by kernel_rfl) (by kernel_rfl) (fun _ _ _ h => h) (Or.inl ⟨by kernel_rfl, by intro w hSw; (try dsimp only at hSw); go_simp; first | done | with_reducible rfl⟩) (by assumption) ?_
          try simp only [Act.put, List.getElem_toArray, List.getElem_cons_zero, List.getElem_cons_succ, List.setIfInBounds_toArray, List.set_cons_zero, List.set_cons_succ]
          refine wpAnyH_take (i := 21) (v := ?_) rfl (by kernel_rfl) (by kernel_rfl) (by kernel_rfl) (fun _ _ _ h => h) (Or.inl ⟨by kernel_rfl, by intro w hSw; (try dsimp only at hSw); go_simp; first | done | with_reducible rfl⟩) (by assumption) ?_
          try simp only [Act.put, List.getElem_toArray, List.getElem_cons_zero, List.getElem_cons_succ, List.setIfInBounds_toArray, List.set_cons_zero, List.set_cons_succ]
          refine wpAnyH_done (by kernel_rfl) ?_ _
          have HB := Lib.hid (below_call HB.out hHeld.2)
          have HZ := Lib.hid (HZ.out.below hHeld.2 HZ.out.lt)
          have HY := Lib.hid (HY.out.below hHeld.2 HY.out.lt)
          obtain ⟨z0, z1, z2⟩ := row3 HZ.out
          obtain ⟨y0, y1⟩ := row2 HY.out
          have f0 := HZ.out.frozen 0
          have f1 := HZ.out.frozen 1
          have f2 := HZ.out.frozen 2
          have f3 := HY.out.frozen 0
          have f4 := HY.out.frozen 1
          go_wp2_with fail
          have hV : V = (0, 0, 0, 0, 0, 7) := by rw [← HV.out, HL.out, HK.out]; simp [hPL, hGE]
          refine bodyPost_ret (v := labV (0, 0, 0, 0, 0, 7)) ?_ rfl ⟨by rw [hV], ((((HB.out.setCell (by simp) _).setCell (by simp) _).setCell (by simp) _).setCell (by simp) _).setCell (by simp) _⟩
          exact results_row2_tmp rfl _ _ w.heap.size (w.heap.size + 1) _ _ _ _ _ _ _ rfl rfl rfl (((((HZ.out.put 0 (.int .i64 0)).put 1 (.int .i64 0)).put 2 (.int .i64 0)).far (by simp) (.int .i64 0)).far (by simp) (.int .i64 0)) (((((HY.out.far (by simp) (.int .i64 0)).far (by simp) (.int .i64 0)).far (by simp) (.int .i64 0)).put 0 (.int .i64 0)).put 1 (.int .i64 0)) Try.underlying23 (by rfl) (by kernel_rfl) Try.underlying25 (by rfl) (by kernel_rfl)
        | true =>
          simp only [Bool.not_true]
          refine wpAnyH_take (i := 17) (v := ?_) rfl (by kernel_rfl) (by kernel_rfl) (by kernel_rfl) (fun _ _ _ h => h) (Or.inl ⟨by kernel_rfl, by intro w hSw; (try dsimp only at hSw); go_simp; first | done | with_reducible rfl⟩) (by assumption) ?_
          try simp only [Act.put, List.getElem_toArray, List.getElem_cons_zero, List.getElem_cons_succ, List.setIfInBounds_toArray, List.set_cons_zero, List.set_cons_succ]
          refine wpAnyH_take (i := 18) (v := ?_) rfl (by kernel_rfl) (by kernel_rfl) (by kernel_rfl) (fun _ _ _ h => h) (Or.inl ⟨by kernel_rfl, by intro w hSw; (try dsimp only at hSw); go_simp; first | done | with_reducible rfl⟩) (by assumption) ?_
          try simp only [Act.put, List.getElem_toArray, List.getElem_cons_zero, List.getElem_cons_succ, List.setIfInBounds_toArray, List.set_cons_zero, List.set_cons_succ]
          refine wpAnyH_take (i := 19) (v := ?_) rfl (by kernel_rfl) (by kernel_rfl) (by kernel_rfl) (fun _ _ _ h => h) (Or.inl ⟨by kernel_rfl, by intro w hSw; (try dsimp only at hSw); go_simp; first | done | with_reducible rfl⟩) (by assumption) ?_
          try simp only [Act.put, List.getElem_toArray, List.getElem_cons_zero, List.getElem_cons_succ, List.setIfInBounds_toArray, List.set_cons_zero, List.set_cons_succ]
          refine wpAnyH_take (i := 20) (v := ?_) rfl (by kernel_rfl) (by kernel_rfl) (by kernel_rfl) (fun _ _ _ h => h) (Or.inl ⟨by kernel_rfl, by intro w hSw; (try dsimp only at hSw); go_simp; first | done | with_reducible rfl⟩) (by assumption) ?_
          try simp only [Act.put, List.getElem_toArray, List.getElem_cons_zero, List.getElem_cons_succ, List.setIfInBounds_toArray, List.set_cons_zero, List.set_cons_succ]
          refine wpAnyH_take (i := 21) (v := ?_) rfl (by kernel_rfl) (by kernel_rfl) (by kernel_rfl) (fun _ _ _ h => h) (Or.inl ⟨by kernel_rfl, by intro w hSw; (try dsimp only at hSw); go_simp; first | done | with_reducible rfl⟩) (by assumption) ?_
          try simp only [Act.put, List.getElem_toArray, List.getElem_cons_zero, List.getElem_cons_succ, List.setIfInBounds_toArray, List.set_cons_zero, List.set_cons_succ]
          refine wpAnyH_done (by kernel_rfl) ?_ _
          have HB := Lib.hid (below_call HB.out hHeld.2)
          have HZ := Lib.hid (HZ.out.below hHeld.2 HZ.out.lt)
          have HY := Lib.hid (HY.out.below hHeld.2 HY.out.lt)
          obtain ⟨z0, z1, z2⟩ := row3 HZ.out
          obtain ⟨y0, y1⟩ := row2 HY.out
          have f0 := HZ.out.frozen 0
          have f1 := HZ.out.frozen 1
          have f2 := HZ.out.frozen 2
          have f3 := HY.out.frozen 0
          have f4 := HY.out.frozen 1
          have HP := Lib.hid (HP.out.below hHeld.2 HP.out.lt)
          have HN := Lib.hid (HN.out.below hHeld.2 HN.out.lt)
          obtain ⟨p0, p1, p2⟩ := row3 HP.out
          obtain ⟨n0, n1⟩ := row2 HN.out
          go_wp2_with fail
          clear hI hE hC hQ hw4 hw5 hT' hQ4 hq hx1 hx2 hx3 hx4 hsz hsW hRw hR
          refine wp_region_held_drew (S := fun wn => wn.cell? ⟨w.heap.size + 1 + 1, 0, none⟩ = some (.int .i64 D) ∧ wn.cell? ⟨w.heap.size + 1 + 1, 1, none⟩ = some (.int .i64 A) ∧ wn.cell? ⟨w.heap.size + 1 + 1, 2, none⟩ = some (.int .i64 I) ∧ wn.cell? ⟨w.heap.size + 1 + 1 + 1, 0, none⟩ = some (.int .i64 E) ∧ wn.cell? ⟨w.heap.size + 1 + 1 + 1, 1, none⟩ = some (.int .i64 C)) (by kernel_rfl) ⟨p0, p1, p2, n0, n1⟩ (fun hHeld => ?_)
          refine wpAnyH_take (i := 0) (v := ?_) rfl (by kernel_rfl) (by kernel_rfl) (by kernel_rfl) (fun _ _ _ h => h) (Or.inl ⟨by kernel_rfl, by intro w hSw; (try dsimp only at hSw); go_simp; first | done | with_reducible rfl⟩) (by assumption) ?_
          try simp only [Act.put, List.getElem_toArray, List.getElem_cons_zero, List.getElem_cons_succ, List.setIfInBounds_toArray, List.set_cons_zero, List.set_cons_succ]
          refine wpAnyH_take (i := 1) (v := ?_) rfl (by kernel_rfl) (by kernel_rfl) (by kernel_rfl) (fun _ _ _ h => h) (Or.inl ⟨by kernel_rfl, by intro w hSw; (try dsimp only at hSw); go_simp; first | done | with_reducible rfl⟩) (by assumption) ?_
          try simp only [Act.put, List.getElem_toArray, List.getElem_cons_zero, List.getElem_cons_succ, List.setIfInBounds_toArray, List.set_cons_zero, List.set_cons_succ]
          refine wpAnyH_ready (rs := [2]) (by kernel_rfl) (by simp) ?_
          refine AllReadyH.cons rfl (fun K hK => ?_) AllReadyH.nil
          rw [if_pos (by rfl)]
          refine wp_store_row 23 (.tmp 2) (.tmp 59) rfl w.heap.size #[.int .i64 D, .int .i64 A, .int .i64 I] rfl rfl 23 _ HZ.out (by kernel_rfl) rfl (by simp [Value.oneCell']) ?_
          refine hK.out _ _ (keep5r hHeld (by omega) (by omega) _) (fun hHeld => ?_)
          clear hK K
          try simp only [Act.put, List.getElem_toArray, List.getElem_cons_zero, List.getElem_cons_succ, List.setIfInBounds_toArray, List.set_cons_zero, List.set_cons_succ]
          refine wpAnyH_ready (rs := [3]) (by kernel_rfl) (by simp) ?_
          refine AllReadyH.cons rfl (fun K hK => ?_) AllReadyH.nil
          rw [if_pos (by rfl)]
          refine wp_store_row 25 (.tmp 3) (.tmp 60) rfl (w.heap.size + 1) #[.int .i64 E, .int .i64 C] rfl rfl 25 _ (HY.out.apart (by omega) _) (by kernel_rfl) rfl (by simp [Value.oneCell']) ?_
          refine hK.out _ _ (keep5r hHeld (by omega) (by omega) _) (fun hHeld => ?_)
          clear hK K
          try simp only [Act.put, List.getElem_toArray, List.getElem_cons_zero, List.getElem_cons_succ, List.setIfInBounds_toArray, List.set_cons_zero, List.set_cons_succ]
          refine wpAnyH_take (i := 4) (v := ?_) rfl (by kernel_rfl) (by kernel_rfl) (by kernel_rfl) (fun _ _ _ h => h) (Or.inl ⟨by kernel_rfl, by intro w hSw; (try dsimp only at hSw); go_simp; first | done | with_reducible rfl⟩) (by assumption) ?_
          try simp only [Act.put, List.getElem_toArray, List.getElem_cons_zero, List.getElem_cons_succ, List.setIfInBounds_toArray, List.set_cons_zero, List.set_cons_succ]
          refine wpAnyH_done (by kernel_rfl) ?_ _
          go_wp2_with fail
          have hV : V = (D, A, I, E, C, 0) := by rw [← HV.out, HL.out, HK.out]; simp [hPL, hGE]
          refine bodyPost_ret (v := labV (D, A, I, E, C, 0)) ?_ rfl ⟨by rw [hV], below_whole (below_whole (below_drewN HB.out 1) (Nat.le_refl _) _) (by omega) _⟩
          exact results_row2_tmp rfl _ _ w.heap.size (w.heap.size + 1) _ _ _ _ _ _ _ rfl rfl rfl ((HZ.out.whole #[.int .i64 D, .int .i64 A, .int .i64 I]).apart (by omega) #[.int .i64 E, .int .i64 C]) ((HY.out.apart (by omega) #[.int .i64 D, .int .i64 A, .int .i64 I]).whole #[.int .i64 E, .int .i64 C]) Try.underlying23 (by rfl) (by kernel_rfl) Try.underlying25 (by rfl) (by kernel_rfl)
theorem slabel_any (s : ByteArray) (w : World) :
    Calls Try.prog 12 #[.string s] w fun x w' => x = .returned (labV (labOf s.data.toList)) ∧ Below w.heap.size w w' := by
  by_cases h : s.size = 64
  · exact slabel_ok s w h
  · exact slabel_arg s w h
end Go.Proofs.Ytdkkoogcaininaa

