/- Sector: Open. -/
import Derived.Test.YtdkkoogcaininaaS11
import Derived.Test.YtdkkoogcaininaaS12
import Derived.Deep.RegionHeld3
namespace Go.Proofs.Ytdkkoogcaininaa
set_option linter.unusedSimpArgs false
set_option linter.unusedVariables false
open Go.RowKit Go.Lib

theorem results_row_tmp2 {P : Program} {fn : Func} {p u z : Tmp} {ty : TypeId} (h : fn.results = #[.cell p ty, .tmp u, .tmp z]) (tmps : Array Value) (w : World) (g : Nat) (t : TypeId) (cs : Array Value) (d : TypeDesc) (v v2 : Value)
    (hp : tmps.getD p undef = .pointer (some ⟨g, 0, none⟩)) (hv : tmps.getD u undef = v) (hv2 : tmps.getD z undef = v2) (hg : Row w g t cs)
    (hu : P.underlying ty = some d) (hd : (match d with | .struct _ | .array _ _ => true | _ => false) = true) (hi : (P.info? ty).map (·.size) = some cs.size) :
    (results fn tmps).run P w = .ok (.tuple #[.agg cs, v, v2]) w := by
  have e1 := run_loadVar_row w g t ty cs (0, 0) d hg hu hd hi
  rw [Array.getD_eq_getD_getElem?] at hp hv hv2
  simp [results, h, hp, hv, hv2, asAddr, e1]
theorem strB_of (s : ByteArray) : strB s.data.toList = s := by
  apply ByteArray.ext; simp [strB]
theorem lab_len {l : List UInt8} (h : (labOf l).2.2.2.2.2 = 0) : l.length = 64 := by
  by_cases hl : l.length = 64
  · exact hl
  · rw [labOf, if_pos hl] at h; cases h
/-- what Open answers: (epoch, count, the payload, the error) -/
def opOf (d a i : Int) (l : List UInt8) : Nat × Nat × List UInt8 × Nat :=
  if placeB d a i = false then (0, 0, [], 1)
  else if (labOf l).2.2.2.2.2 ≠ 0 then (0, 0, [], (labOf l).2.2.2.2.2)
  else if ¬ (((labOf l).1 : Int) = d ∧ ((labOf l).2.1 : Int) = a ∧ ((labOf l).2.2.1 : Int) = i) then (0, 0, [], 8)
  else ((labOf l).2.2.2.1, (labOf l).2.2.2.2.1, (l.drop 16).take 40, 0)
@[reducible] def opV (x : Nat × Nat × List UInt8 × Nat) : Value := .tuple #[.agg #[.int .i64 (x.1 : Nat), .int .i64 (x.2.1 : Nat)], .string (strB x.2.2.1), .int .i64 (x.2.2.2 : Nat)]
set_option maxRecDepth 100000 in
set_option maxHeartbeats 1600000 in
theorem sopen_bad (d a i : Int) (s : ByteArray) (w : World) (h : placeB d a i = false) :
    Calls Try.prog 14 #[.agg #[.int .i64 d, .int .i64 a, .int .i64 i], .string s] w fun x w' => x = .returned (opV (opOf d a i s.data.toList)) ∧ Below w.heap.size w w' := by
  have HP := Lib.hid h
  rw [opOf, if_pos h]
  clear h
  go_enter Try.func14, Try.ntmps14
  go_wp2_with fail
  refine (splace_any d a i _).mono ?_
  rintro x w1 ⟨rfl, hb⟩
  rw [HP.out]
  have HR := Lib.hid (show Row w1 (w.heap.size + 1) 25 #[.int .i64 0, .int .i64 0] from ((Row.made _ _ (size1 _ _).symm).below hb (by simp)))
  have HB := Lib.hid (below_call (((Below.refl w.heap.size w).alloc (Nat.le_refl _) _).alloc (by simp) _) hb)
  obtain ⟨r0, r1⟩ := row2 HR.out
  have f0 := HR.out.frozen 0
  have f1 := HR.out.frozen 1
  clear hb
  go_wp2_with fail
  refine bodyPost_ret (v := opV (0, 0, [], 1)) ?_ rfl ⟨rfl, (HB.out.setCell (by simp) _).setCell (by simp) _⟩
  exact results_row_tmp2 rfl _ _ (w.heap.size + 1) _ _ _ _ _ rfl rfl rfl ((HR.out.put 0 (.int .i64 0)).put 1 (.int .i64 0)) Try.underlying25 (by rfl) (by kernel_rfl)
set_option maxRecDepth 100000 in
set_option maxHeartbeats 3200000 in
theorem sopen_ok (d a i : Int) (s : ByteArray) (w : World) (h : placeB d a i = true) :
    Calls Try.prog 14 #[.agg #[.int .i64 d, .int .i64 a, .int .i64 i], .string s] w fun x w' => x = .returned (opV (opOf d a i s.data.toList)) ∧ Below w.heap.size w w' := by
  have HP := Lib.hid h
  obtain ⟨V, hV⟩ : ∃ V, opOf d a i s.data.toList = V := ⟨_, rfl⟩
  have HV := Lib.hid hV
  rw [hV]
  rw [opOf, if_neg (by rw [h]; simp)] at hV
  obtain ⟨⟨D, A, I, E, C, er⟩, hL⟩ : ∃ X, labOf s.data.toList = X := ⟨_, rfl⟩
  rw [hL] at hV
  simp only at hV
  have HL := Lib.hid hL
  have HW := Lib.hid hV
  clear h hL hV
  go_enter Try.func14, Try.ntmps14
  go_wp2_with fail
  refine (splace_any d a i _).mono ?_
  rintro x w1 ⟨rfl, hb⟩
  rw [HP.out]
  have HR := Lib.hid (show Row w1 (w.heap.size + 1) 25 #[.int .i64 0, .int .i64 0] from ((Row.made _ _ (size1 _ _).symm).below hb (by simp)))
  have HA := Lib.hid (show Row w1 w.heap.size 23 #[.int .i64 d, .int .i64 a, .int .i64 i] from (((Row.new w _ _).alloc _).below hb (by simp; omega)))
  have HB := Lib.hid (below_call (((Below.refl w.heap.size w).alloc (Nat.le_refl _) _).alloc (by simp) _) hb)
  clear hb
  go_wp2_with fail
  refine (slabel_any s _).mono ?_
  rintro x w2 ⟨rfl, hb⟩
  rw [HL.out]
  have HR := Lib.hid (HR.out.below hb HR.out.lt)
  have HA := Lib.hid (HA.out.below hb HA.out.lt)
  have HB := Lib.hid (below_call HB.out hb)
  clear hb
  obtain ⟨r0, r1⟩ := row2 HR.out
  obtain ⟨a0, a1, a2⟩ := row3 HA.out
  have f0 := HR.out.frozen 0
  have f1 := HR.out.frozen 1
  have hlt : w.heap.size < w2.heap.size := HA.out.lt
  have hlt2 : w.heap.size + 1 < w2.heap.size := HR.out.lt
  by_cases h1 : er = 0
  · subst h1
    by_cases h2 : ((D : Int) = d ∧ (A : Int) = a ∧ (I : Int) = i)
    · obtain ⟨e1, e2, e3⟩ := h2
      rw [if_neg (by simp), if_neg (by simp [e1, e2, e3])] at HW
      have h64 : s.size = 64 := by rw [← len_data]; exact lab_len (by rw [HL.out])
      have hsz : (s.extract 16 56).size ≤ 281474976710656 := by rw [ByteArray.size_extract]; omega
      have HX := Lib.hid (show (s.extract 16 56) = strB ((s.data.toList.drop 16).take 40) by rw [← extract_list s 16 56, strB_of])
      go_wp2_with fail
      refine wp_region_held_drew (S := fun wn => wn.cell? ⟨w2.heap.size + 1, 0, none⟩ = some (.int .i64 E) ∧ wn.cell? ⟨w2.heap.size + 1, 1, none⟩ = some (.int .i64 C)) (by kernel_rfl) (by refine ⟨?_, ?_⟩ <;> simp [go_sem]) (fun hHeld => ?_)
      refine wpAnyH_take (i := 0) (v := ?_) rfl (by kernel_rfl) (by kernel_rfl) (by kernel_rfl) (fun _ _ _ h => h) (Or.inl ⟨by kernel_rfl, by intro w hSw; (try dsimp only at hSw); go_simp; first | done | with_reducible rfl⟩) (by assumption) ?_
      try simp only [Act.put, List.getElem_toArray, List.getElem_cons_zero, List.getElem_cons_succ, List.setIfInBounds_toArray, List.set_cons_zero, List.set_cons_succ]
      refine wpAnyH_take (i := 1) (v := ?_) rfl (by kernel_rfl) (by kernel_rfl) (by kernel_rfl) (fun _ _ _ h => h) (Or.inl ⟨by kernel_rfl, by intro w hSw; (try dsimp only at hSw); go_simp; first | done | with_reducible rfl⟩) (by assumption) ?_
      try simp only [Act.put, List.getElem_toArray, List.getElem_cons_zero, List.getElem_cons_succ, List.setIfInBounds_toArray, List.set_cons_zero, List.set_cons_succ]
      refine wpAnyH_take (i := 2) (v := ?_) rfl (by kernel_rfl) (by kernel_rfl) (by kernel_rfl) (fun _ _ _ h => h) (Or.inl ⟨by kernel_rfl, by intro w hSw; (try dsimp only at hSw); go_simp; first | done | with_reducible rfl⟩) (by assumption) ?_
      try simp only [Act.put, List.getElem_toArray, List.getElem_cons_zero, List.getElem_cons_succ, List.setIfInBounds_toArray, List.set_cons_zero, List.set_cons_succ]
      refine wpAnyH_ready (rs := [3]) (by kernel_rfl) (by simp) ?_
      refine AllReadyH.cons rfl (fun K hK => ?_) AllReadyH.nil
      go_simp
      go_at_call 30
      with_reducible refine (clone_any (s.extract 16 56) _ hsz).mono ?_
      rintro x w3 ⟨rfl, hb⟩
      have HG := Lib.hid (show Row w3 (w2.heap.size + 1) 25 #[.int .i64 E, .int .i64 C] from (Row.made _ _ (by simp)).drew.below hb (by simp))
      have HR := Lib.hid ((HR.out.alloc _).alloc _ |>.drew.below hb (by simp; omega))
      have HB := Lib.hid (below_call (below_drewN ((HB.out.alloc HB.out.size _).alloc (by have := HB.out.size; simp; omega) _) 1) hb)
      clear hb
      refine hK.out _ _ (row2 HG.out) (fun hHeld => ?_)
      clear hK K
      try simp only [Act.put, List.getElem_toArray, List.getElem_cons_zero, List.getElem_cons_succ, List.setIfInBounds_toArray, List.set_cons_zero, List.set_cons_succ]
      refine wpAnyH_ready (rs := [4]) (by kernel_rfl) (by simp) ?_
      refine AllReadyH.cons rfl (fun K hK => ?_) AllReadyH.nil
      rw [if_pos (by rfl)]
      refine wp_store_row 25 (.tmp 4) (.tmp 30) rfl (w.heap.size + 1) #[.int .i64 E, .int .i64 C] rfl rfl 25 _ HR.out (by kernel_rfl) rfl (by simp [Value.oneCell']) ?_
      refine hK.out _ _ (row2 (HG.out.apart (by omega) _)) (fun hHeld => ?_)
      clear hK K
      try simp only [Act.put, List.getElem_toArray, List.getElem_cons_zero, List.getElem_cons_succ, List.setIfInBounds_toArray, List.set_cons_zero, List.set_cons_succ]
      refine wpAnyH_take (i := 5) (v := ?_) rfl (by kernel_rfl) (by kernel_rfl) (by kernel_rfl) (fun _ _ _ h => h) (Or.inl ⟨by kernel_rfl, by intro w hSw; (try dsimp only at hSw); go_simp; first | done | with_reducible rfl⟩) (by assumption) ?_
      try simp only [Act.put, List.getElem_toArray, List.getElem_cons_zero, List.getElem_cons_succ, List.setIfInBounds_toArray, List.set_cons_zero, List.set_cons_succ]
      refine wpAnyH_take (i := 6) (v := ?_) rfl (by kernel_rfl) (by kernel_rfl) (by kernel_rfl) (fun _ _ _ h => h) (Or.inl ⟨by kernel_rfl, by intro w hSw; (try dsimp only at hSw); go_simp; first | done | with_reducible rfl⟩) (by assumption) ?_
      try simp only [Act.put, List.getElem_toArray, List.getElem_cons_zero, List.getElem_cons_succ, List.setIfInBounds_toArray, List.set_cons_zero, List.set_cons_succ]
      refine wpAnyH_done (by kernel_rfl) ?_ _
      go_wp2_with fail
      refine bodyPost_ret (v := opV (E, C, (s.data.toList.drop 16).take 40, 0)) ?_ rfl ⟨by rw [← HW.out], below_whole HB.out (by omega) _⟩
      exact results_row_tmp2 rfl _ _ (w.heap.size + 1) _ _ _ _ _ rfl (by rw [← HX.out]; rfl) rfl (HR.out.whole #[.int .i64 E, .int .i64 C]) Try.underlying25 (by rfl) (by kernel_rfl)
    · rw [if_neg (by simp), if_pos h2] at HW
      go_wp2_with fail
      all_goals
        refine bodyPost_ret (v := opV (0, 0, [], 8)) ?_ rfl ⟨by rw [← HW.out], (((HB.out.setCell (by simp) _).setCell (by simp) _).alloc (by have := HB.out.size; simp; omega) _).alloc (by have := HB.out.size; simp; omega) _⟩
        exact results_row_tmp2 rfl _ _ (w.heap.size + 1) _ _ _ _ _ rfl rfl rfl ((((HR.out.put 0 (.int .i64 0)).put 1 (.int .i64 0)).alloc _).alloc _) Try.underlying25 (by rfl) (by kernel_rfl)
  · rw [if_pos h1] at HW
    have hz : decide ((er : Int) = 0) = false := by simp; omega
    go_wp2_with fail
    all_goals
      refine bodyPost_ret (v := opV (0, 0, [], er)) ?_ rfl ⟨by rw [← HW.out], (((HB.out.setCell (by simp) _).setCell (by simp) _).alloc (by have := HB.out.size; simp; omega) _).alloc (by have := HB.out.size; simp; omega) _⟩
      exact results_row_tmp2 rfl _ _ (w.heap.size + 1) _ _ _ _ _ rfl rfl rfl ((((HR.out.put 0 (.int .i64 0)).put 1 (.int .i64 0)).alloc _).alloc _) Try.underlying25 (by rfl) (by kernel_rfl)
theorem sopen_any (d a i : Int) (s : ByteArray) (w : World) :
    Calls Try.prog 14 #[.agg #[.int .i64 d, .int .i64 a, .int .i64 i], .string s] w fun x w' => x = .returned (opV (opOf d a i s.data.toList)) ∧ Below w.heap.size w w' := by
  cases h : placeB d a i with
  | false => exact sopen_bad d a i s w h
  | true => exact sopen_ok d a i s w h
end Go.Proofs.Ytdkkoogcaininaa
