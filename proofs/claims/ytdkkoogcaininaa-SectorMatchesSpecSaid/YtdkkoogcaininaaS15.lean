/- Sector: the law package's sanity. -/
import Derived.Test.YtdkkoogcaininaaS13
import Derived.Test.YtdkkoogcaininaaS14
namespace Go.Proofs.Ytdkkoogcaininaa
set_option linter.unusedSimpArgs false
set_option linter.unusedVariables false
open Go.RowKit Go.Lib

def abc : List UInt8 := [97, 98, 99]
def sealA : List UInt8 := sealOf 3 4 258 1 5 abc
theorem open1 : opOf 3 4 258 sealA = (1, 5, padL abc, 0) := by decide +kernel
theorem open2 : opOf 2 4 258 sealA = (0, 0, [], 8) := by decide +kernel
theorem open3 : opOf 3 4 258 (List.replicate 64 0) = (0, 0, [], 7) := by decide +kernel
theorem headA : (sealA.drop 4).take 16 = [4, 3, 2, 1, 1, 0, 0, 0, 5, 0, 0, 0, 97, 98, 99, 0] := by decide +kernel
theorem tailA : sealA.drop 56 = (sealA.drop 8).take 8 := by decide +kernel
theorem lenA : sealA.length = 64 := by decide +kernel
theorem make_bytes (m : Nat) (hm : m ≤ 1000000) (u : World) : (Instr.makeSlice 40 (.int .i64 (m : Int)) (.int .i64 (m : Int))).run Try.prog u =
    .ok (.slice (some ⟨u.heap.size, 0, none⟩) m m) (u.alloc (.cells (madeCells #[.int .u8 0] m) 5)) := by
  obtain ⟨i0, hi, hz0, hz1, hz2⟩ := info_parts (show (Try.prog.info? 5).map (fun i => (i.zero, i.size, i.bytes)) = some (some (.int .u8 0), 1, 1) by kernel_rfl)
  have h := run_make (P := Try.prog) u 40 5 i0 (.int .u8 0) Try.underlying40 hi hz0 .i64 .i64 (m : Int) (m : Int) (by omega) (Int.le_refl _) (by rw [hz2]; omega) (by omega)
  have e : (m : Int).toNat = m := by omega
  rw [e] at h
  simpa [hz1, Value.cells] using h
theorem conv_made (m : Nat) (hm : 0 < m) (u : World) : (convert 40 9 (.slice (some ⟨u.heap.size, 0, none⟩) m m)).run Try.prog (u.alloc (.cells (madeCells #[.int .u8 0] m) 5)) =
    .ok (.string (strB (List.replicate m 0))) (u.alloc (.cells (madeCells #[.int .u8 0] m) 5)) := by
  refine conv_str _ 40 9 5 _ m m _ Try.underlying40 Try.underlying5 Try.underlying9 (B := u.heap.size + 1) (Rd.row (Row.new u _ _) (by omega) ?_) (by simp) hm
  intro j v hv
  rw [List.map_replicate] at hv
  exact made_get _ _ _ _ hv
theorem merge3 {F : World → Prop} {G : Value → Value → World → Prop} {goal : Prop} (body : (∀ x y u, F u → G x y u) → goal) (rest : ∀ x y u, F u → G x y u) : goal := body rest
theorem pl5 {w1 : World} {g g2 : Nat} {x0 x1 x2 y0 y1 : Value} {t t2 : TypeId} (hr : Row w1 g t #[x0, x1, x2]) (hr2 : Row w1 g2 t2 #[y0, y1]) :
    w1.cell? ⟨g, 0, none⟩ = some x0 ∧ w1.cell? ⟨g, 1, none⟩ = some x1 ∧ w1.cell? ⟨g, 2, none⟩ = some x2 ∧ w1.cell? ⟨g2, 0, none⟩ = some y0 ∧ w1.cell? ⟨g2, 1, none⟩ = some y1 := ⟨hr.cell 0, hr.cell 1, hr.cell 2, hr2.cell 0, hr2.cell 1⟩
theorem conv_at (u : World) (b m : Nat) (h : Row u b 5 (madeCells #[.int .u8 0] m)) (hm : 0 < m) : (convert 40 9 (.slice (some ⟨b, 0, none⟩) m m)).run Try.prog u = .ok (.string (strB (List.replicate m 0))) u := by
  refine conv_str _ 40 9 5 _ m m _ Try.underlying40 Try.underlying5 Try.underlying9 (B := b + 1) (Rd.row h (by omega) ?_) (by simp) hm
  intro j v hv
  rw [List.map_replicate] at hv
  exact made_get _ _ _ _ hv
theorem sealA_any (w : World) : Calls Try.prog 10 #[.agg #[.int .i64 3, .int .i64 4, .int .i64 258], .agg #[.int .i64 1, .int .i64 5], .string ⟨#[97, 98, 99]⟩] w fun x w' => x = .returned (.tuple #[.string (strB sealA), .int .i64 0]) ∧ Below w.heap.size w w' :=
  seal_ok 3 4 258 1 5 ⟨#[97, 98, 99]⟩ w (by decide) (by decide) (by decide)
set_option maxRecDepth 100000 in
set_option maxHeartbeats 3200000 in
theorem sanity_any (w : World) :
    Calls Try.prog 9 #[] w fun e w' => e = .returned (.bool true) ∧ Below w.heap.size w w' := by
  have hmk1 : ∀ u : World, (Instr.makeSlice 40 (.int .i64 64) (.int .i64 64)).run Try.prog u = .ok (.slice (some ⟨u.heap.size, 0, none⟩) 64 64) (u.alloc (.cells (madeCells #[.int .u8 0] 64) 5)) := fun u => make_bytes 64 (by decide) u
  have hmk2 : ∀ u : World, (Instr.makeSlice 40 (.int .i64 41) (.int .i64 41)).run Try.prog u = .ok (.slice (some ⟨u.heap.size, 0, none⟩) 41 41) (u.alloc (.cells (madeCells #[.int .u8 0] 41) 5)) := fun u => make_bytes 41 (by decide) u
  have hcv1 := fun u => conv_made 64 (by decide) u
  have hcv2 := fun u => conv_made 41 (by decide) u
  go_enter Try.func9, Try.ntmps9
  go_wp2_with fail
  refine (sealA_any _).mono ?_
  rintro x w1 ⟨rfl, hb⟩
  obtain ⟨Z, hZ⟩ : ∃ Z, strB sealA = Z := ⟨_, rfl⟩
  have HZ := Lib.hid (show Z.data.toList = sealA by rw [← hZ, strB_data])
  have hzs : Z.size = 64 := by rw [← len_data, HZ.out]; exact lenA
  rw [hZ]
  clear hZ
  have HP := Lib.hid (show Row w1 w.heap.size 23 #[.int .i64 3, .int .i64 4, .int .i64 258] from ((Row.new w _ _).alloc _).below hb (by simp; omega))
  have HG := Lib.hid (show Row w1 (w.heap.size + 1) 25 #[.int .i64 1, .int .i64 5] from (Row.made _ _ (size1 _ _).symm).below hb (by simp))
  have HB := Lib.hid (below_call (((Below.refl w.heap.size w).alloc (Nat.le_refl _) _).alloc (by simp) _) hb)
  clear hb
  obtain ⟨p0, p1, p2⟩ := row3 HP.out
  obtain ⟨g0, g1⟩ := row2 HG.out
  have hlt : w.heap.size < w1.heap.size := HP.out.lt
  have hlt2 : w.heap.size + 1 < w1.heap.size := HG.out.lt
  go_wp2_with fail
  refine (sopen_any 3 4 258 Z _).mono ?_
  rintro x w2 ⟨rfl, hb⟩
  rw [HZ.out, open1]
  have HP := Lib.hid (HP.out.below hb HP.out.lt)
  have HG := Lib.hid (HG.out.below hb HG.out.lt)
  have HB := Lib.hid (below_call HB.out hb)
  clear hb p0 p1 p2 g0 g1 hlt hlt2
  obtain ⟨p0, p1, p2⟩ := row3 HP.out
  obtain ⟨g0, g1⟩ := row2 HG.out
  have hlt : w.heap.size < w2.heap.size := HP.out.lt
  have hlt2 : w.heap.size + 1 < w2.heap.size := HG.out.lt
  go_wp2_with fail
  have HQ := Lib.hid (show Row (w2.alloc (.cells #[.int .i64 1, .int .i64 5] 25)) w2.heap.size 25 #[.int .i64 1, .int .i64 5] from Row.new w2 _ _)
  have HP := Lib.hid (HP.out.alloc (.cells #[.int .i64 1, .int .i64 5] 25))
  have HG := Lib.hid (HG.out.alloc (.cells #[.int .i64 1, .int .i64 5] 25))
  have HB := Lib.hid (HB.out.alloc HB.out.size (.cells #[.int .i64 1, .int .i64 5] 25))
  refine (sopen_any 2 4 258 Z _).mono ?_
  rintro x w3 ⟨rfl, hb⟩
  rw [HZ.out, open2]
  have HP := Lib.hid (HP.out.below hb HP.out.lt)
  have HG := Lib.hid (HG.out.below hb HG.out.lt)
  have HQ := Lib.hid (HQ.out.below hb HQ.out.lt)
  have HB := Lib.hid (below_call HB.out hb)
  clear hb p0 p1 p2 g0 g1 hlt hlt2
  obtain ⟨p0, p1, p2⟩ := row3 HP.out
  obtain ⟨g0, g1⟩ := row2 HG.out
  have hlt : w.heap.size < w3.heap.size := HP.out.lt
  have hlt2 : w.heap.size + 1 < w3.heap.size := HG.out.lt
  have hlt3 : w2.heap.size < w3.heap.size := HQ.out.lt
  go_wp2_with fail
  obtain ⟨W, hW⟩ : ∃ W, W = w3.alloc (.cells #[.int .i64 0, .int .i64 0] 25) := ⟨_, rfl⟩
  have HP := Lib.hid (show Row W w.heap.size 23 _ by rw [hW]; exact HP.out.alloc _)
  have HG := Lib.hid (show Row W (w.heap.size + 1) 25 _ by rw [hW]; exact HG.out.alloc _)
  have HQ := Lib.hid (show Row W w2.heap.size 25 _ by rw [hW]; exact HQ.out.alloc _)
  have HB := Lib.hid (show Below w.heap.size w W by rw [hW]; exact HB.out.alloc HB.out.size _)
  rw [← hW]
  clear hW p0 p1 p2 g0 g1 hlt hlt2 hlt3 hcv1 hcv2
  have hlt : w.heap.size < W.heap.size := HP.out.lt
  have hlt2 : w.heap.size + 1 < W.heap.size := HG.out.lt
  have hlt3 : w2.heap.size < W.heap.size := HQ.out.lt
  have hcA := conv_at (W.alloc (.cells (madeCells #[.int .u8 0] 64) 5)).drew W.heap.size 64 (Row.drew (Row.new W _ _)) (by decide)
  have hcA2 := conv_at ((W.alloc (.cells (madeCells #[.int .u8 0] 64) 5)).alloc (.cells #[.int .i64 0, .int .i64 0] 25)).drew W.heap.size 64 (Row.drew ((Row.new W _ _).alloc _)) (by decide)
  have hcB := conv_at ((W.alloc (.cells #[.int .i64 0, .int .i64 0] 25)).alloc (.cells (madeCells #[.int .u8 0] 64) 5)).drew (W.heap.size + 1) 64 (Row.drew (Row.made _ _ (by simp))) (by decide)
  have HS := row3 HP.out
  obtain ⟨ZS, hZS⟩ : ∃ ZS, strB (List.replicate 64 0) = ZS := ⟨_, rfl⟩
  have HZS := Lib.hid (show ZS.data.toList = List.replicate 64 0 by rw [← hZS, strB_data])
  rw [hZS] at hcA hcA2 hcB
  clear hZS
  refine' merge3 (F := fun W5 => (Row W5 w.heap.size 23 #[.int .i64 3, .int .i64 4, .int .i64 258] ∧ Row W5 (w.heap.size + 1) 25 #[.int .i64 1, .int .i64 5] ∧ Row W5 w2.heap.size 25 #[.int .i64 1, .int .i64 5] ∧ Below w.heap.size w W5)) (fun hk => ?body) ?rest
  case body =>
    refine wp_region_held_drew (S := (fun wn => wn.cell? ⟨w.heap.size, 0, none⟩ = some (.int .i64 3) ∧ wn.cell? ⟨w.heap.size, 1, none⟩ = some (.int .i64 4) ∧ wn.cell? ⟨w.heap.size, 2, none⟩ = some (.int .i64 258))) (by kernel_rfl) HS (fun hHeld => ?_)

    refine wpAnyH_take (i := 0) (v := ?_) rfl (by kernel_rfl) (by kernel_rfl) (by kernel_rfl) (fun _ _ _ h => h) (Or.inl ⟨by kernel_rfl, by intro w hSw; (try dsimp only at hSw); go_simp; first | done | with_reducible rfl⟩) (by assumption) ?_
    try simp only [Act.put, List.getElem_toArray, List.getElem_cons_zero, List.getElem_cons_succ, List.setIfInBounds_toArray, List.set_cons_zero, List.set_cons_succ]
    refine wpAnyH_ready (rs := [1, 8]) (by kernel_rfl) (by simp) ?_
    refine AllReadyH.cons rfl (fun K hK => ?_) (AllReadyH.cons rfl (fun K hK => ?_) AllReadyH.nil)
    next =>
      go_simp
      refine hK.out _ _ (row3 (HP.out.alloc _).drew) (fun hHeld => ?_)
      clear hK K
      try simp only [Act.put, List.getElem_toArray, List.getElem_cons_zero, List.getElem_cons_succ, List.setIfInBounds_toArray, List.set_cons_zero, List.set_cons_succ]
      refine wpAnyH_ready (rs := [2, 8]) (by kernel_rfl) (by simp) ?_
      refine AllReadyH.cons rfl (fun K hK => ?_) (AllReadyH.cons rfl (fun K hK => ?_) AllReadyH.nil)
      next =>
        go_simp
        refine hK.out _ _ (row3 (HP.out.alloc _).drew) (fun hHeld => ?_)
        clear hK K
        try simp only [Act.put, List.getElem_toArray, List.getElem_cons_zero, List.getElem_cons_succ, List.setIfInBounds_toArray, List.set_cons_zero, List.set_cons_succ]
        refine wpAnyH_ready (rs := [3, 8]) (by kernel_rfl) (by simp) ?_
        refine AllReadyH.cons rfl (fun K hK => ?_) (AllReadyH.cons rfl (fun K hK => ?_) AllReadyH.nil)
        next =>
          go_simp
          go_at_call 14
          with_reducible refine (sopen_any 3 4 258 ZS _).mono ?_
          rintro x w4 ⟨rfl, hb⟩
          rw [HZS.out, open3]
          have HP := Lib.hid ((HP.out.alloc _).drew.below hb (by simp; omega))
          have HG := Lib.hid ((HG.out.alloc _).drew.below hb (by simp; omega))
          have HQ := Lib.hid ((HQ.out.alloc _).drew.below hb (by simp; omega))
          have HB := Lib.hid (below_call (below_drewN (HB.out.alloc HB.out.size _) 1) hb)
          clear hb
          refine hK.out _ _ (row3 HP.out) (fun hHeld => ?_)
          clear hK K
          try simp only [Act.put, List.getElem_toArray, List.getElem_cons_zero, List.getElem_cons_succ, List.setIfInBounds_toArray, List.set_cons_zero, List.set_cons_succ]
          refine wpAnyH_take (i := 4) (v := ?_) rfl (by kernel_rfl) (by kernel_rfl) (by kernel_rfl) (fun _ _ _ h => h) (Or.inl ⟨by kernel_rfl, by intro w hSw; (try dsimp only at hSw); go_simp; first | done | with_reducible rfl⟩) (by assumption) ?_
          try simp only [Act.put, List.getElem_toArray, List.getElem_cons_zero, List.getElem_cons_succ, List.setIfInBounds_toArray, List.set_cons_zero, List.set_cons_succ]
          refine wpAnyH_take (i := 5) (v := ?_) rfl (by kernel_rfl) (by kernel_rfl) (by kernel_rfl) (fun _ _ _ h => h) (Or.inl ⟨by kernel_rfl, by intro w hSw; (try dsimp only at hSw); go_simp; first | done | with_reducible rfl⟩) (by assumption) ?_
          try simp only [Act.put, List.getElem_toArray, List.getElem_cons_zero, List.getElem_cons_succ, List.setIfInBounds_toArray, List.set_cons_zero, List.set_cons_succ]
          refine wpAnyH_take (i := 6) (v := ?_) rfl (by kernel_rfl) (by kernel_rfl) (by kernel_rfl) (fun _ _ _ h => h) (Or.inl ⟨by kernel_rfl, by intro w hSw; (try dsimp only at hSw); go_simp; first | done | with_reducible rfl⟩) (by assumption) ?_
          try simp only [Act.put, List.getElem_toArray, List.getElem_cons_zero, List.getElem_cons_succ, List.setIfInBounds_toArray, List.set_cons_zero, List.set_cons_succ]
          refine wpAnyH_take (i := 7) (v := ?_) rfl (by kernel_rfl) (by kernel_rfl) (by kernel_rfl) (fun _ _ _ h => h) (Or.inl ⟨by kernel_rfl, by intro w hSw; (try dsimp only at hSw); go_simp; first | done | with_reducible rfl⟩) (by assumption) ?_
          try simp only [Act.put, List.getElem_toArray, List.getElem_cons_zero, List.getElem_cons_succ, List.setIfInBounds_toArray, List.set_cons_zero, List.set_cons_succ]
          refine wpAnyH_ready (rs := [8]) (by kernel_rfl) (by simp) ?_
          refine AllReadyH.cons rfl (fun K hK => ?_) AllReadyH.nil
          go_simp
          refine hK.out _ _ (row3 (HP.out.alloc _)) (fun hHeld => ?_)
          clear hK K
          try simp only [Act.put, List.getElem_toArray, List.getElem_cons_zero, List.getElem_cons_succ, List.setIfInBounds_toArray, List.set_cons_zero, List.set_cons_succ]
          have HG0 := Lib.hid (Row.new w4 25 #[.int .i64 0, .int .i64 0])
          have hbk := Lib.hid (show w.heap.size + 1 < w4.heap.size ∧ w.heap.size < w4.heap.size ∧ w2.heap.size < w4.heap.size from ⟨HG.out.lt, HP.out.lt, HQ.out.lt⟩)
          have HP := Lib.hid (HP.out.alloc (.cells #[.int .i64 0, .int .i64 0] 25))
          have HG := Lib.hid (HG.out.alloc (.cells #[.int .i64 0, .int .i64 0] 25))
          have HQ := Lib.hid (HQ.out.alloc (.cells #[.int .i64 0, .int .i64 0] 25))
          have HB := Lib.hid (HB.out.alloc HB.out.size (.cells #[.int .i64 0, .int .i64 0] 25))
          refine wpAnyH_ready (rs := [9]) (by kernel_rfl) (by simp) ?_
          refine AllReadyH.cons rfl (fun K hK => ?_) AllReadyH.nil
          rw [if_pos (by rfl)]
          refine wp_store_row 25 (.tmp 11) (.tmp 44) rfl w4.heap.size #[.int .i64 0, .int .i64 0] rfl rfl 25 _ HG0.out (by kernel_rfl) rfl (by simp [Value.oneCell']) ?_
          refine hK.out _ _ (row3 (HP.out.apart (by have := hbk.out; omega) _)) (fun hHeld => ?_)
          clear hK K
          try simp only [Act.put, List.getElem_toArray, List.getElem_cons_zero, List.getElem_cons_succ, List.setIfInBounds_toArray, List.set_cons_zero, List.set_cons_succ]
          refine wpAnyH_take (i := 10) (v := ?_) rfl (by kernel_rfl) (by kernel_rfl) (by kernel_rfl) (fun _ _ _ h => h) (Or.inl ⟨by kernel_rfl, by intro w hSw; (try dsimp only at hSw); go_simp; first | done | with_reducible rfl⟩) (by assumption) ?_
          try simp only [Act.put, List.getElem_toArray, List.getElem_cons_zero, List.getElem_cons_succ, List.setIfInBounds_toArray, List.set_cons_zero, List.set_cons_succ]
          refine wpAnyH_take (i := 11) (v := ?_) rfl (by kernel_rfl) (by kernel_rfl) (by kernel_rfl) (fun _ _ _ h => h) (Or.inl ⟨by kernel_rfl, by intro w hSw; (try dsimp only at hSw); go_simp; first | done | with_reducible rfl⟩) (by assumption) ?_
          try simp only [Act.put, List.getElem_toArray, List.getElem_cons_zero, List.getElem_cons_succ, List.setIfInBounds_toArray, List.set_cons_zero, List.set_cons_succ]
          refine wpAnyH_done (by kernel_rfl) ?_ _
          have HF : Row ((w4.alloc (.cells #[.int .i64 0, .int .i64 0] 25)).setRow w4.heap.size #[.int .i64 0, .int .i64 0]) w.heap.size _ _ ∧ Row ((w4.alloc (.cells #[.int .i64 0, .int .i64 0] 25)).setRow w4.heap.size #[.int .i64 0, .int .i64 0]) (w.heap.size + 1) _ _ ∧ Row ((w4.alloc (.cells #[.int .i64 0, .int .i64 0] 25)).setRow w4.heap.size #[.int .i64 0, .int .i64 0]) w2.heap.size _ _ ∧ Below w.heap.size w ((w4.alloc (.cells #[.int .i64 0, .int .i64 0] 25)).setRow w4.heap.size #[.int .i64 0, .int .i64 0]) := ⟨HP.out.apart (by have := hbk.out; omega) _, HG.out.apart (by have := hbk.out; omega) _, HQ.out.apart (by have := hbk.out; omega) _, below_whole HB.out (by have := hbk.out; omega) _⟩
          generalize (w4.alloc (.cells #[.int .i64 0, .int .i64 0] 25)).setRow w4.heap.size #[.int .i64 0, .int .i64 0] = W5 at HF ⊢
          generalize Value.pointer (some ⟨w4.heap.size, 0, none⟩) = X
          generalize Value.slice (some ⟨W.heap.size, 0, none⟩) 64 64 = Y
          exact hk X Y W5 HF
        next =>
          go_simp
          refine hK.out _ _ (row3 ((HP.out.alloc _).alloc _).drew) (fun hHeld => ?_)
          clear hK K
          try simp only [Act.put, List.getElem_toArray, List.getElem_cons_zero, List.getElem_cons_succ, List.setIfInBounds_toArray, List.set_cons_zero, List.set_cons_succ]
          refine wpAnyH_ready (rs := [3]) (by kernel_rfl) (by simp) ?_
          refine AllReadyH.cons rfl (fun K hK => ?_) AllReadyH.nil
          go_simp
          go_at_call 14
          with_reducible refine (sopen_any 3 4 258 ZS _).mono ?_
          rintro x w4 ⟨rfl, hb⟩
          rw [HZS.out, open3]
          have HP := Lib.hid (((HP.out.alloc _).alloc _).drew.below hb (by simp; omega))
          have HG := Lib.hid (((HG.out.alloc _).alloc _).drew.below hb (by simp; omega))
          have HQ := Lib.hid (((HQ.out.alloc _).alloc _).drew.below hb (by simp; omega))
          have HB := Lib.hid (below_call (below_drewN ((HB.out.alloc HB.out.size _).alloc (by have := HB.out.size; simp; omega) _) 1) hb)
          have HG0 := Lib.hid (show Row w4 (W.heap.size + 1) 25 #[.int .i64 0, .int .i64 0] from Row.below (Row.drew (Row.made _ _ (by simp))) hb (by simp; try omega))
          have hbk := Lib.hid (show w.heap.size + 1 < (W.heap.size + 1) ∧ w.heap.size < (W.heap.size + 1) ∧ w2.heap.size < (W.heap.size + 1) from ⟨by omega, by omega, by omega⟩)
          clear hb
          refine hK.out _ _ (row3 HP.out) (fun hHeld => ?_)
          clear hK K
          try simp only [Act.put, List.getElem_toArray, List.getElem_cons_zero, List.getElem_cons_succ, List.setIfInBounds_toArray, List.set_cons_zero, List.set_cons_succ]
          refine wpAnyH_take (i := 4) (v := ?_) rfl (by kernel_rfl) (by kernel_rfl) (by kernel_rfl) (fun _ _ _ h => h) (Or.inl ⟨by kernel_rfl, by intro w hSw; (try dsimp only at hSw); go_simp; first | done | with_reducible rfl⟩) (by assumption) ?_
          try simp only [Act.put, List.getElem_toArray, List.getElem_cons_zero, List.getElem_cons_succ, List.setIfInBounds_toArray, List.set_cons_zero, List.set_cons_succ]
          refine wpAnyH_take (i := 5) (v := ?_) rfl (by kernel_rfl) (by kernel_rfl) (by kernel_rfl) (fun _ _ _ h => h) (Or.inl ⟨by kernel_rfl, by intro w hSw; (try dsimp only at hSw); go_simp; first | done | with_reducible rfl⟩) (by assumption) ?_
          try simp only [Act.put, List.getElem_toArray, List.getElem_cons_zero, List.getElem_cons_succ, List.setIfInBounds_toArray, List.set_cons_zero, List.set_cons_succ]
          refine wpAnyH_take (i := 6) (v := ?_) rfl (by kernel_rfl) (by kernel_rfl) (by kernel_rfl) (fun _ _ _ h => h) (Or.inl ⟨by kernel_rfl, by intro w hSw; (try dsimp only at hSw); go_simp; first | done | with_reducible rfl⟩) (by assumption) ?_
          try simp only [Act.put, List.getElem_toArray, List.getElem_cons_zero, List.getElem_cons_succ, List.setIfInBounds_toArray, List.set_cons_zero, List.set_cons_succ]
          refine wpAnyH_take (i := 7) (v := ?_) rfl (by kernel_rfl) (by kernel_rfl) (by kernel_rfl) (fun _ _ _ h => h) (Or.inl ⟨by kernel_rfl, by intro w hSw; (try dsimp only at hSw); go_simp; first | done | with_reducible rfl⟩) (by assumption) ?_
          try simp only [Act.put, List.getElem_toArray, List.getElem_cons_zero, List.getElem_cons_succ, List.setIfInBounds_toArray, List.set_cons_zero, List.set_cons_succ]
          refine wpAnyH_ready (rs := [9]) (by kernel_rfl) (by simp) ?_
          refine AllReadyH.cons rfl (fun K hK => ?_) AllReadyH.nil
          rw [if_pos (by rfl)]
          refine wp_store_row 25 (.tmp 11) (.tmp 44) rfl (W.heap.size + 1) #[.int .i64 0, .int .i64 0] rfl rfl 25 _ HG0.out (by kernel_rfl) rfl (by simp [Value.oneCell']) ?_
          refine hK.out _ _ (row3 (HP.out.apart (by have := hbk.out; omega) _)) (fun hHeld => ?_)
          clear hK K
          try simp only [Act.put, List.getElem_toArray, List.getElem_cons_zero, List.getElem_cons_succ, List.setIfInBounds_toArray, List.set_cons_zero, List.set_cons_succ]
          refine wpAnyH_take (i := 10) (v := ?_) rfl (by kernel_rfl) (by kernel_rfl) (by kernel_rfl) (fun _ _ _ h => h) (Or.inl ⟨by kernel_rfl, by intro w hSw; (try dsimp only at hSw); go_simp; first | done | with_reducible rfl⟩) (by assumption) ?_
          try simp only [Act.put, List.getElem_toArray, List.getElem_cons_zero, List.getElem_cons_succ, List.setIfInBounds_toArray, List.set_cons_zero, List.set_cons_succ]
          refine wpAnyH_take (i := 11) (v := ?_) rfl (by kernel_rfl) (by kernel_rfl) (by kernel_rfl) (fun _ _ _ h => h) (Or.inl ⟨by kernel_rfl, by intro w hSw; (try dsimp only at hSw); go_simp; first | done | with_reducible rfl⟩) (by assumption) ?_
          try simp only [Act.put, List.getElem_toArray, List.getElem_cons_zero, List.getElem_cons_succ, List.setIfInBounds_toArray, List.set_cons_zero, List.set_cons_succ]
          refine wpAnyH_done (by kernel_rfl) ?_ _
          have HF : Row (w4.setRow (W.heap.size + 1) #[.int .i64 0, .int .i64 0]) w.heap.size _ _ ∧ Row (w4.setRow (W.heap.size + 1) #[.int .i64 0, .int .i64 0]) (w.heap.size + 1) _ _ ∧ Row (w4.setRow (W.heap.size + 1) #[.int .i64 0, .int .i64 0]) w2.heap.size _ _ ∧ Below w.heap.size w (w4.setRow (W.heap.size + 1) #[.int .i64 0, .int .i64 0]) := ⟨HP.out.apart (by have := hbk.out; omega) _, HG.out.apart (by have := hbk.out; omega) _, HQ.out.apart (by have := hbk.out; omega) _, below_whole HB.out (by have := hbk.out; omega) _⟩
          exact hk _ _ _ HF
      next =>
        go_simp
        refine hK.out _ _ (row3 ((HP.out.alloc _).alloc _).drew) (fun hHeld => ?_)
        clear hK K
        try simp only [Act.put, List.getElem_toArray, List.getElem_cons_zero, List.getElem_cons_succ, List.setIfInBounds_toArray, List.set_cons_zero, List.set_cons_succ]
        refine wpAnyH_ready (rs := [2]) (by kernel_rfl) (by simp) ?_
        refine AllReadyH.cons rfl (fun K hK => ?_) AllReadyH.nil
        go_simp
        refine hK.out _ _ (row3 ((HP.out.alloc _).alloc _).drew) (fun hHeld => ?_)
        clear hK K
        try simp only [Act.put, List.getElem_toArray, List.getElem_cons_zero, List.getElem_cons_succ, List.setIfInBounds_toArray, List.set_cons_zero, List.set_cons_succ]
        refine wpAnyH_ready (rs := [3]) (by kernel_rfl) (by simp) ?_
        refine AllReadyH.cons rfl (fun K hK => ?_) AllReadyH.nil
        go_simp
        go_at_call 14
        with_reducible refine (sopen_any 3 4 258 ZS _).mono ?_
        rintro x w4 ⟨rfl, hb⟩
        rw [HZS.out, open3]
        have HP := Lib.hid (((HP.out.alloc _).alloc _).drew.below hb (by simp; omega))
        have HG := Lib.hid (((HG.out.alloc _).alloc _).drew.below hb (by simp; omega))
        have HQ := Lib.hid (((HQ.out.alloc _).alloc _).drew.below hb (by simp; omega))
        have HB := Lib.hid (below_call (below_drewN ((HB.out.alloc HB.out.size _).alloc (by have := HB.out.size; simp; omega) _) 1) hb)
        have HG0 := Lib.hid (show Row w4 (W.heap.size + 1) 25 #[.int .i64 0, .int .i64 0] from Row.below (Row.drew (Row.made _ _ (by simp))) hb (by simp; try omega))
        have hbk := Lib.hid (show w.heap.size + 1 < (W.heap.size + 1) ∧ w.heap.size < (W.heap.size + 1) ∧ w2.heap.size < (W.heap.size + 1) from ⟨by omega, by omega, by omega⟩)
        clear hb
        refine hK.out _ _ (row3 HP.out) (fun hHeld => ?_)
        clear hK K
        try simp only [Act.put, List.getElem_toArray, List.getElem_cons_zero, List.getElem_cons_succ, List.setIfInBounds_toArray, List.set_cons_zero, List.set_cons_succ]
        refine wpAnyH_take (i := 4) (v := ?_) rfl (by kernel_rfl) (by kernel_rfl) (by kernel_rfl) (fun _ _ _ h => h) (Or.inl ⟨by kernel_rfl, by intro w hSw; (try dsimp only at hSw); go_simp; first | done | with_reducible rfl⟩) (by assumption) ?_
        try simp only [Act.put, List.getElem_toArray, List.getElem_cons_zero, List.getElem_cons_succ, List.setIfInBounds_toArray, List.set_cons_zero, List.set_cons_succ]
        refine wpAnyH_take (i := 5) (v := ?_) rfl (by kernel_rfl) (by kernel_rfl) (by kernel_rfl) (fun _ _ _ h => h) (Or.inl ⟨by kernel_rfl, by intro w hSw; (try dsimp only at hSw); go_simp; first | done | with_reducible rfl⟩) (by assumption) ?_
        try simp only [Act.put, List.getElem_toArray, List.getElem_cons_zero, List.getElem_cons_succ, List.setIfInBounds_toArray, List.set_cons_zero, List.set_cons_succ]
        refine wpAnyH_take (i := 6) (v := ?_) rfl (by kernel_rfl) (by kernel_rfl) (by kernel_rfl) (fun _ _ _ h => h) (Or.inl ⟨by kernel_rfl, by intro w hSw; (try dsimp only at hSw); go_simp; first | done | with_reducible rfl⟩) (by assumption) ?_
        try simp only [Act.put, List.getElem_toArray, List.getElem_cons_zero, List.getElem_cons_succ, List.setIfInBounds_toArray, List.set_cons_zero, List.set_cons_succ]
        refine wpAnyH_take (i := 7) (v := ?_) rfl (by kernel_rfl) (by kernel_rfl) (by kernel_rfl) (fun _ _ _ h => h) (Or.inl ⟨by kernel_rfl, by intro w hSw; (try dsimp only at hSw); go_simp; first | done | with_reducible rfl⟩) (by assumption) ?_
        try simp only [Act.put, List.getElem_toArray, List.getElem_cons_zero, List.getElem_cons_succ, List.setIfInBounds_toArray, List.set_cons_zero, List.set_cons_succ]
        refine wpAnyH_ready (rs := [9]) (by kernel_rfl) (by simp) ?_
        refine AllReadyH.cons rfl (fun K hK => ?_) AllReadyH.nil
        rw [if_pos (by rfl)]
        refine wp_store_row 25 (.tmp 11) (.tmp 44) rfl (W.heap.size + 1) #[.int .i64 0, .int .i64 0] rfl rfl 25 _ HG0.out (by kernel_rfl) rfl (by simp [Value.oneCell']) ?_
        refine hK.out _ _ (row3 (HP.out.apart (by have := hbk.out; omega) _)) (fun hHeld => ?_)
        clear hK K
        try simp only [Act.put, List.getElem_toArray, List.getElem_cons_zero, List.getElem_cons_succ, List.setIfInBounds_toArray, List.set_cons_zero, List.set_cons_succ]
        refine wpAnyH_take (i := 10) (v := ?_) rfl (by kernel_rfl) (by kernel_rfl) (by kernel_rfl) (fun _ _ _ h => h) (Or.inl ⟨by kernel_rfl, by intro w hSw; (try dsimp only at hSw); go_simp; first | done | with_reducible rfl⟩) (by assumption) ?_
        try simp only [Act.put, List.getElem_toArray, List.getElem_cons_zero, List.getElem_cons_succ, List.setIfInBounds_toArray, List.set_cons_zero, List.set_cons_succ]
        refine wpAnyH_take (i := 11) (v := ?_) rfl (by kernel_rfl) (by kernel_rfl) (by kernel_rfl) (fun _ _ _ h => h) (Or.inl ⟨by kernel_rfl, by intro w hSw; (try dsimp only at hSw); go_simp; first | done | with_reducible rfl⟩) (by assumption) ?_
        try simp only [Act.put, List.getElem_toArray, List.getElem_cons_zero, List.getElem_cons_succ, List.setIfInBounds_toArray, List.set_cons_zero, List.set_cons_succ]
        refine wpAnyH_done (by kernel_rfl) ?_ _
        have HF : Row (w4.setRow (W.heap.size + 1) #[.int .i64 0, .int .i64 0]) w.heap.size _ _ ∧ Row (w4.setRow (W.heap.size + 1) #[.int .i64 0, .int .i64 0]) (w.heap.size + 1) _ _ ∧ Row (w4.setRow (W.heap.size + 1) #[.int .i64 0, .int .i64 0]) w2.heap.size _ _ ∧ Below w.heap.size w (w4.setRow (W.heap.size + 1) #[.int .i64 0, .int .i64 0]) := ⟨HP.out.apart (by have := hbk.out; omega) _, HG.out.apart (by have := hbk.out; omega) _, HQ.out.apart (by have := hbk.out; omega) _, below_whole HB.out (by have := hbk.out; omega) _⟩
        exact hk _ _ _ HF
    next =>
      go_simp
      refine hK.out _ _ (row3 (HP.out.alloc _).drew) (fun hHeld => ?_)
      clear hK K
      try simp only [Act.put, List.getElem_toArray, List.getElem_cons_zero, List.getElem_cons_succ, List.setIfInBounds_toArray, List.set_cons_zero, List.set_cons_succ]
      refine wpAnyH_ready (rs := [1]) (by kernel_rfl) (by simp) ?_
      refine AllReadyH.cons rfl (fun K hK => ?_) AllReadyH.nil
      go_simp
      refine hK.out _ _ (row3 ((HP.out.alloc _).alloc _).drew) (fun hHeld => ?_)
      clear hK K
      try simp only [Act.put, List.getElem_toArray, List.getElem_cons_zero, List.getElem_cons_succ, List.setIfInBounds_toArray, List.set_cons_zero, List.set_cons_succ]
      refine wpAnyH_ready (rs := [2]) (by kernel_rfl) (by simp) ?_
      refine AllReadyH.cons rfl (fun K hK => ?_) AllReadyH.nil
      go_simp
      refine hK.out _ _ (row3 ((HP.out.alloc _).alloc _).drew) (fun hHeld => ?_)
      clear hK K
      try simp only [Act.put, List.getElem_toArray, List.getElem_cons_zero, List.getElem_cons_succ, List.setIfInBounds_toArray, List.set_cons_zero, List.set_cons_succ]
      refine wpAnyH_ready (rs := [3]) (by kernel_rfl) (by simp) ?_
      refine AllReadyH.cons rfl (fun K hK => ?_) AllReadyH.nil
      go_simp
      go_at_call 14
      with_reducible refine (sopen_any 3 4 258 ZS _).mono ?_
      rintro x w4 ⟨rfl, hb⟩
      rw [HZS.out, open3]
      have HP := Lib.hid (((HP.out.alloc _).alloc _).drew.below hb (by simp; omega))
      have HG := Lib.hid (((HG.out.alloc _).alloc _).drew.below hb (by simp; omega))
      have HQ := Lib.hid (((HQ.out.alloc _).alloc _).drew.below hb (by simp; omega))
      have HB := Lib.hid (below_call (below_drewN ((HB.out.alloc HB.out.size _).alloc (by have := HB.out.size; simp; omega) _) 1) hb)
      have HG0 := Lib.hid (show Row w4 W.heap.size 25 #[.int .i64 0, .int .i64 0] from Row.below (Row.drew ((Row.new W _ _).alloc _)) hb (by simp; try omega))
      have hbk := Lib.hid (show w.heap.size + 1 < W.heap.size ∧ w.heap.size < W.heap.size ∧ w2.heap.size < W.heap.size from ⟨by omega, by omega, by omega⟩)
      clear hb
      refine hK.out _ _ (row3 HP.out) (fun hHeld => ?_)
      clear hK K
      try simp only [Act.put, List.getElem_toArray, List.getElem_cons_zero, List.getElem_cons_succ, List.setIfInBounds_toArray, List.set_cons_zero, List.set_cons_succ]
      refine wpAnyH_take (i := 4) (v := ?_) rfl (by kernel_rfl) (by kernel_rfl) (by kernel_rfl) (fun _ _ _ h => h) (Or.inl ⟨by kernel_rfl, by intro w hSw; (try dsimp only at hSw); go_simp; first | done | with_reducible rfl⟩) (by assumption) ?_
      try simp only [Act.put, List.getElem_toArray, List.getElem_cons_zero, List.getElem_cons_succ, List.setIfInBounds_toArray, List.set_cons_zero, List.set_cons_succ]
      refine wpAnyH_take (i := 5) (v := ?_) rfl (by kernel_rfl) (by kernel_rfl) (by kernel_rfl) (fun _ _ _ h => h) (Or.inl ⟨by kernel_rfl, by intro w hSw; (try dsimp only at hSw); go_simp; first | done | with_reducible rfl⟩) (by assumption) ?_
      try simp only [Act.put, List.getElem_toArray, List.getElem_cons_zero, List.getElem_cons_succ, List.setIfInBounds_toArray, List.set_cons_zero, List.set_cons_succ]
      refine wpAnyH_take (i := 6) (v := ?_) rfl (by kernel_rfl) (by kernel_rfl) (by kernel_rfl) (fun _ _ _ h => h) (Or.inl ⟨by kernel_rfl, by intro w hSw; (try dsimp only at hSw); go_simp; first | done | with_reducible rfl⟩) (by assumption) ?_
      try simp only [Act.put, List.getElem_toArray, List.getElem_cons_zero, List.getElem_cons_succ, List.setIfInBounds_toArray, List.set_cons_zero, List.set_cons_succ]
      refine wpAnyH_take (i := 7) (v := ?_) rfl (by kernel_rfl) (by kernel_rfl) (by kernel_rfl) (fun _ _ _ h => h) (Or.inl ⟨by kernel_rfl, by intro w hSw; (try dsimp only at hSw); go_simp; first | done | with_reducible rfl⟩) (by assumption) ?_
      try simp only [Act.put, List.getElem_toArray, List.getElem_cons_zero, List.getElem_cons_succ, List.setIfInBounds_toArray, List.set_cons_zero, List.set_cons_succ]
      refine wpAnyH_ready (rs := [9]) (by kernel_rfl) (by simp) ?_
      refine AllReadyH.cons rfl (fun K hK => ?_) AllReadyH.nil
      rw [if_pos (by rfl)]
      refine wp_store_row 25 (.tmp 11) (.tmp 44) rfl W.heap.size #[.int .i64 0, .int .i64 0] rfl rfl 25 _ HG0.out (by kernel_rfl) rfl (by simp [Value.oneCell']) ?_
      refine hK.out _ _ (row3 (HP.out.apart (by have := hbk.out; omega) _)) (fun hHeld => ?_)
      clear hK K
      try simp only [Act.put, List.getElem_toArray, List.getElem_cons_zero, List.getElem_cons_succ, List.setIfInBounds_toArray, List.set_cons_zero, List.set_cons_succ]
      refine wpAnyH_take (i := 10) (v := ?_) rfl (by kernel_rfl) (by kernel_rfl) (by kernel_rfl) (fun _ _ _ h => h) (Or.inl ⟨by kernel_rfl, by intro w hSw; (try dsimp only at hSw); go_simp; first | done | with_reducible rfl⟩) (by assumption) ?_
      try simp only [Act.put, List.getElem_toArray, List.getElem_cons_zero, List.getElem_cons_succ, List.setIfInBounds_toArray, List.set_cons_zero, List.set_cons_succ]
      refine wpAnyH_take (i := 11) (v := ?_) rfl (by kernel_rfl) (by kernel_rfl) (by kernel_rfl) (fun _ _ _ h => h) (Or.inl ⟨by kernel_rfl, by intro w hSw; (try dsimp only at hSw); go_simp; first | done | with_reducible rfl⟩) (by assumption) ?_
      try simp only [Act.put, List.getElem_toArray, List.getElem_cons_zero, List.getElem_cons_succ, List.setIfInBounds_toArray, List.set_cons_zero, List.set_cons_succ]
      refine wpAnyH_done (by kernel_rfl) ?_ _
      have HF : Row (w4.setRow W.heap.size #[.int .i64 0, .int .i64 0]) w.heap.size _ _ ∧ Row (w4.setRow W.heap.size #[.int .i64 0, .int .i64 0]) (w.heap.size + 1) _ _ ∧ Row (w4.setRow W.heap.size #[.int .i64 0, .int .i64 0]) w2.heap.size _ _ ∧ Below w.heap.size w (w4.setRow W.heap.size #[.int .i64 0, .int .i64 0]) := ⟨HP.out.apart (by have := hbk.out; omega) _, HG.out.apart (by have := hbk.out; omega) _, HQ.out.apart (by have := hbk.out; omega) _, below_whole HB.out (by have := hbk.out; omega) _⟩
      exact hk _ _ _ HF
  intro X Y w4 ⟨hP, hG, hQ, hB⟩
  have HP := Lib.hid hP
  have HG := Lib.hid hG
  have HQ := Lib.hid hQ
  have HB := Lib.hid hB
  clear hP hG hQ hB hlt hlt2 hlt3 hcA hcA2 hcB HS
  obtain ⟨p0, p1, p2⟩ := row3 HP.out
  obtain ⟨g0, g1⟩ := row2 HG.out
  have hlt : w.heap.size < w4.heap.size := HP.out.lt
  have hlt2 : w.heap.size + 1 < w4.heap.size := HG.out.lt
  have hlt3 : w2.heap.size < w4.heap.size := HQ.out.lt
  go_wp2_with fail
  have hc41 := conv_at (w4.alloc (.cells (madeCells #[.int .u8 0] 41) 5)).drew w4.heap.size 41 (Row.drew (Row.new w4 _ _)) (by decide)
  obtain ⟨ZT, hZT⟩ : ∃ ZT, strB (List.replicate 41 0) = ZT := ⟨_, rfl⟩
  have hts : ZT.size = 41 := by rw [← hZT, strB_size]; simp
  rw [hZT] at hc41
  clear hZT
  have HS := pl5 HP.out HG.out
  refine wp_region_held_drew (S := (fun wn => wn.cell? ⟨w.heap.size, 0, none⟩ = some (.int .i64 3) ∧ wn.cell? ⟨w.heap.size, 1, none⟩ = some (.int .i64 4) ∧ wn.cell? ⟨w.heap.size, 2, none⟩ = some (.int .i64 258) ∧ wn.cell? ⟨w.heap.size + 1, 0, none⟩ = some (.int .i64 1) ∧ wn.cell? ⟨w.heap.size + 1, 1, none⟩ = some (.int .i64 5))) (by kernel_rfl) HS (fun hHeld => ?_)
  clear HS
  refine wpAnyH_take (i := 0) (v := ?_) rfl (by kernel_rfl) (by kernel_rfl) (by kernel_rfl) (fun _ _ _ h => h) (Or.inl ⟨by kernel_rfl, by intro w hSw; (try dsimp only at hSw); go_simp; first | done | with_reducible rfl⟩) (by assumption) ?_
  try simp only [Act.put, List.getElem_toArray, List.getElem_cons_zero, List.getElem_cons_succ, List.setIfInBounds_toArray, List.set_cons_zero, List.set_cons_succ]
  refine wpAnyH_take (i := 1) (v := ?_) rfl (by kernel_rfl) (by kernel_rfl) (by kernel_rfl) (fun _ _ _ h => h) (Or.inl ⟨by kernel_rfl, by intro w hSw; (try dsimp only at hSw); go_simp; first | done | with_reducible rfl⟩) (by assumption) ?_
  try simp only [Act.put, List.getElem_toArray, List.getElem_cons_zero, List.getElem_cons_succ, List.setIfInBounds_toArray, List.set_cons_zero, List.set_cons_succ]
  refine wpAnyH_ready (rs := [2]) (by kernel_rfl) (by simp) ?_
  refine AllReadyH.cons rfl (fun K hK => ?_) AllReadyH.nil
  go_simp
  refine hK.out _ _ (pl5 (HP.out.alloc _).drew (HG.out.alloc _).drew) (fun hHeld => ?_)
  clear hK K
  try simp only [Act.put, List.getElem_toArray, List.getElem_cons_zero, List.getElem_cons_succ, List.setIfInBounds_toArray, List.set_cons_zero, List.set_cons_succ]
  refine wpAnyH_ready (rs := [3]) (by kernel_rfl) (by simp) ?_
  refine AllReadyH.cons rfl (fun K hK => ?_) AllReadyH.nil
  go_simp
  refine hK.out _ _ (pl5 (HP.out.alloc _).drew (HG.out.alloc _).drew) (fun hHeld => ?_)
  clear hK K
  try simp only [Act.put, List.getElem_toArray, List.getElem_cons_zero, List.getElem_cons_succ, List.setIfInBounds_toArray, List.set_cons_zero, List.set_cons_succ]
  refine wpAnyH_ready (rs := [4]) (by kernel_rfl) (by simp) ?_
  refine AllReadyH.cons rfl (fun K hK => ?_) AllReadyH.nil
  go_simp
  go_at_call 10
  with_reducible refine (seal_bad 3 4 258 1 5 ZT _ (.inr (.inr ⟨by decide, by decide, by omega⟩))).mono ?_
  rintro x w5 ⟨rfl, hb⟩
  have HP := Lib.hid ((HP.out.alloc _).drew.below hb (by simp; omega))
  have HG := Lib.hid ((HG.out.alloc _).drew.below hb (by simp; omega))
  have HQ := Lib.hid ((HQ.out.alloc _).drew.below hb (by simp; omega))
  have HB := Lib.hid (below_call (below_drewN (HB.out.alloc HB.out.size _) 1) hb)
  clear hb hc41
  refine hK.out _ _ (pl5 HP.out HG.out) (fun hHeld => ?_)
  clear hK K
  try simp only [Act.put, List.getElem_toArray, List.getElem_cons_zero, List.getElem_cons_succ, List.setIfInBounds_toArray, List.set_cons_zero, List.set_cons_succ]
  refine wpAnyH_take (i := 5) (v := ?_) rfl (by kernel_rfl) (by kernel_rfl) (by kernel_rfl) (fun _ _ _ h => h) (Or.inl ⟨by kernel_rfl, by intro w hSw; (try dsimp only at hSw); go_simp; first | done | with_reducible rfl⟩) (by assumption) ?_
  try simp only [Act.put, List.getElem_toArray, List.getElem_cons_zero, List.getElem_cons_succ, List.setIfInBounds_toArray, List.set_cons_zero, List.set_cons_succ]
  refine wpAnyH_take (i := 6) (v := ?_) rfl (by kernel_rfl) (by kernel_rfl) (by kernel_rfl) (fun _ _ _ h => h) (Or.inl ⟨by kernel_rfl, by intro w hSw; (try dsimp only at hSw); go_simp; first | done | with_reducible rfl⟩) (by assumption) ?_
  try simp only [Act.put, List.getElem_toArray, List.getElem_cons_zero, List.getElem_cons_succ, List.setIfInBounds_toArray, List.set_cons_zero, List.set_cons_succ]
  refine wpAnyH_take (i := 7) (v := ?_) rfl (by kernel_rfl) (by kernel_rfl) (by kernel_rfl) (fun _ _ _ h => h) (Or.inl ⟨by kernel_rfl, by intro w hSw; (try dsimp only at hSw); go_simp; first | done | with_reducible rfl⟩) (by assumption) ?_
  try simp only [Act.put, List.getElem_toArray, List.getElem_cons_zero, List.getElem_cons_succ, List.setIfInBounds_toArray, List.set_cons_zero, List.set_cons_succ]
  refine wpAnyH_take (i := 8) (v := ?_) rfl (by kernel_rfl) (by kernel_rfl) (by kernel_rfl) (fun _ _ _ h => h) (Or.inl ⟨by kernel_rfl, by intro w hSw; (try dsimp only at hSw); go_simp; first | done | with_reducible rfl⟩) (by assumption) ?_
  try simp only [Act.put, List.getElem_toArray, List.getElem_cons_zero, List.getElem_cons_succ, List.setIfInBounds_toArray, List.set_cons_zero, List.set_cons_succ]
  refine wpAnyH_take (i := 9) (v := ?_) rfl (by kernel_rfl) (by kernel_rfl) (by kernel_rfl) (fun _ _ _ h => h) (Or.inl ⟨by kernel_rfl, by intro w hSw; (try dsimp only at hSw); go_simp; first | done | with_reducible rfl⟩) (by assumption) ?_
  try simp only [Act.put, List.getElem_toArray, List.getElem_cons_zero, List.getElem_cons_succ, List.setIfInBounds_toArray, List.set_cons_zero, List.set_cons_succ]
  refine wpAnyH_done (by kernel_rfl) ?_ _
  clear p0 p1 p2 g0 g1 hlt hlt2 hlt3
  obtain ⟨g0, g1⟩ := row2 HG.out
  obtain ⟨q0, q1⟩ := row2 HQ.out
  have hlt : w.heap.size < w5.heap.size := HP.out.lt
  have hlt2 : w.heap.size + 1 < w5.heap.size := HG.out.lt
  have hlt3 : w2.heap.size < w5.heap.size := HQ.out.lt
  obtain ⟨T8, hT8⟩ : ∃ T8, (sealA.drop 8).take 8 = T8 := ⟨_, rfl⟩
  have hE1 : (Z.extract 4 20).toList = [4, 3, 2, 1, 1, 0, 0, 0, 5, 0, 0, 0, 97, 98, 99, 0] := by rw [ByteArray.toList_eq, extract_list, HZ.out]; exact headA
  have hE2 : (⟨#[4, 3, 2, 1, 1, 0, 0, 0, 5, 0, 0, 0, 97, 98, 99, 0]⟩ : ByteArray).toList = [4, 3, 2, 1, 1, 0, 0, 0, 5, 0, 0, 0, 97, 98, 99, 0] := by rw [ByteArray.toList_eq]
  have hE3 : (Z.extract 56 64).toList = T8 := by rw [ByteArray.toList_eq, extract_list, HZ.out, List.take_of_length_le (by rw [List.length_drop, lenA]; omega), tailA]; exact hT8
  have hE4 : (Z.extract 8 16).toList = T8 := by rw [ByteArray.toList_eq, extract_list, HZ.out]; exact hT8
  clear hT8
  go_wp2_with fail
  refine wp_region_held_drew (S := fun wn => True) (by kernel_rfl) trivial (fun hHeld => ?_)
  refine wpAnyH_take (i := 0) (v := ?_) rfl (by kernel_rfl) (by kernel_rfl) (by kernel_rfl) (fun _ _ _ h => h) (Or.inl ⟨by kernel_rfl, by intro w hSw; (try dsimp only at hSw); go_simp; first | done | with_reducible rfl⟩) (by assumption) ?_
  try simp only [Act.put, List.getElem_toArray, List.getElem_cons_zero, List.getElem_cons_succ, List.setIfInBounds_toArray, List.set_cons_zero, List.set_cons_succ]
  refine wpAnyH_take (i := 1) (v := ?_) rfl (by kernel_rfl) (by kernel_rfl) (by kernel_rfl) (fun _ _ _ h => h) (Or.inl ⟨by kernel_rfl, by intro w hSw; (try dsimp only at hSw); go_simp; first | done | with_reducible rfl⟩) (by assumption) ?_
  try simp only [Act.put, List.getElem_toArray, List.getElem_cons_zero, List.getElem_cons_succ, List.setIfInBounds_toArray, List.set_cons_zero, List.set_cons_succ]
  refine wpAnyH_take (i := 2) (v := ?_) rfl (by kernel_rfl) (by kernel_rfl) (by kernel_rfl) (fun _ _ _ h => h) (Or.inl ⟨by kernel_rfl, by intro w hSw; (try dsimp only at hSw); go_simp; first | done | with_reducible rfl⟩) (by assumption) ?_
  try simp only [Act.put, List.getElem_toArray, List.getElem_cons_zero, List.getElem_cons_succ, List.setIfInBounds_toArray, List.set_cons_zero, List.set_cons_succ]
  refine wpAnyH_take (i := 3) (v := ?_) rfl (by kernel_rfl) (by kernel_rfl) (by kernel_rfl) (fun _ _ _ h => h) (Or.inl ⟨by kernel_rfl, by intro w hSw; (try dsimp only at hSw); go_simp; first | done | with_reducible rfl⟩) (by assumption) ?_
  try simp only [Act.put, List.getElem_toArray, List.getElem_cons_zero, List.getElem_cons_succ, List.setIfInBounds_toArray, List.set_cons_zero, List.set_cons_succ]
  refine wpAnyH_take (i := 4) (v := ?_) rfl (by kernel_rfl) (by kernel_rfl) (by kernel_rfl) (fun _ _ _ h => h) (Or.inl ⟨by kernel_rfl, by intro w hSw; (try dsimp only at hSw); go_simp; first | done | with_reducible rfl⟩) (by assumption) ?_
  try simp only [Act.put, List.getElem_toArray, List.getElem_cons_zero, List.getElem_cons_succ, List.setIfInBounds_toArray, List.set_cons_zero, List.set_cons_succ]
  refine wpAnyH_take (i := 5) (v := ?_) rfl (by kernel_rfl) (by kernel_rfl) (by kernel_rfl) (fun _ _ _ h => h) (Or.inl ⟨by kernel_rfl, by intro w hSw; (try dsimp only at hSw); go_simp; first | done | with_reducible rfl⟩) (by assumption) ?_
  try simp only [Act.put, List.getElem_toArray, List.getElem_cons_zero, List.getElem_cons_succ, List.setIfInBounds_toArray, List.set_cons_zero, List.set_cons_succ]
  refine wpAnyH_take (i := 6) (v := ?_) rfl (by kernel_rfl) (by kernel_rfl) (by kernel_rfl) (fun _ _ _ h => h) (Or.inl ⟨by kernel_rfl, by intro w hSw; (try dsimp only at hSw); go_simp; first | done | with_reducible rfl⟩) (by assumption) ?_
  try simp only [Act.put, List.getElem_toArray, List.getElem_cons_zero, List.getElem_cons_succ, List.setIfInBounds_toArray, List.set_cons_zero, List.set_cons_succ]
  refine wpAnyH_take (i := 7) (v := ?_) rfl (by kernel_rfl) (by kernel_rfl) (by kernel_rfl) (fun _ _ _ h => h) (Or.inl ⟨by kernel_rfl, by intro w hSw; (try dsimp only at hSw); go_simp; first | done | with_reducible rfl⟩) (by assumption) ?_
  try simp only [Act.put, List.getElem_toArray, List.getElem_cons_zero, List.getElem_cons_succ, List.setIfInBounds_toArray, List.set_cons_zero, List.set_cons_succ]
  refine wpAnyH_take (i := 8) (v := ?_) rfl (by kernel_rfl) (by kernel_rfl) (by kernel_rfl) (fun _ _ _ h => h) (Or.inl ⟨by kernel_rfl, by intro w hSw; (try dsimp only at hSw); go_simp; first | done | with_reducible rfl⟩) (by assumption) ?_
  try simp only [Act.put, List.getElem_toArray, List.getElem_cons_zero, List.getElem_cons_succ, List.setIfInBounds_toArray, List.set_cons_zero, List.set_cons_succ]
  refine wpAnyH_take (i := 9) (v := ?_) rfl (by kernel_rfl) (by kernel_rfl) (by kernel_rfl) (fun _ _ _ h => h) (Or.inl ⟨by kernel_rfl, by intro w hSw; (try dsimp only at hSw); go_simp; first | done | with_reducible rfl⟩) (by assumption) ?_
  try simp only [Act.put, List.getElem_toArray, List.getElem_cons_zero, List.getElem_cons_succ, List.setIfInBounds_toArray, List.set_cons_zero, List.set_cons_succ]
  refine wpAnyH_take (i := 10) (v := ?_) rfl (by kernel_rfl) (by kernel_rfl) (by kernel_rfl) (fun _ _ _ h => h) (Or.inl ⟨by kernel_rfl, by intro w hSw; (try dsimp only at hSw); go_simp; first | done | with_reducible rfl⟩) (by assumption) ?_
  try simp only [Act.put, List.getElem_toArray, List.getElem_cons_zero, List.getElem_cons_succ, List.setIfInBounds_toArray, List.set_cons_zero, List.set_cons_succ]
  refine wpAnyH_done (by kernel_rfl) ?_ _
  go_wp2_with fail
  refine (show Calls Try.prog 20 #[.string ⟨#[97, 98, 99]⟩] w5.drew fun x w' => x = .returned (.string (strB (padL abc))) ∧ Below w5.drew.heap.size w5.drew w' from padded_any ⟨#[97, 98, 99]⟩ _ (by decide)).mono ?_
  rintro x w6 ⟨rfl, hb⟩
  replace hb := undrew hb
  have HP := Lib.hid (HP.out.below hb HP.out.lt)
  have HG := Lib.hid (HG.out.below hb HG.out.lt)
  have HB := Lib.hid (below_call HB.out hb)
  clear hb g0 g1 q0 q1 hlt hlt2 hlt3 hE1 hE2 hE3 hE4
  obtain ⟨g0, g1⟩ := row2 HG.out
  have hlt2 : w.heap.size + 1 < w6.heap.size := HG.out.lt
  go_wp2_with fail
  refine (snewer_any 2 0 1 5 _).mono ?_
  rintro x w7 ⟨rfl, hb⟩
  rw [show newerB 2 0 1 5 = true from rfl]
  have HB2 := Lib.hid (below_call HB.out hb)
  clear hb
  go_wp2_with fail
  go_ret
  exact ⟨rfl, HB2.out⟩
end Go.Proofs.Ytdkkoogcaininaa
