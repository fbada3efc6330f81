/- Schedules: deleting a pair from a set. -/
import Derived.Test.YtghinmlpkgcdiaaDoorY4
import Derived.Lib.SliceRun
namespace Go.Proofs.YtghinmlpkgcdiaaDoor
set_option linter.unusedSimpArgs false
set_option linter.unusedVariables false
open Go.RowKit Go.Lib

theorem own_take {w : World} {B : Nat} {e : TypeId} {g n c m : Nat} {xs : List Value} (h : Own w B e (some ⟨g, 0, none⟩) n c xs) (hm : m ≤ n) : Own w B e (some ⟨g, 0, none⟩) m c (xs.take m) := by
  have hl := h.len
  refine ⟨by rw [List.length_take]; omega, .inr ?_⟩
  rcases h.2 with ⟨hv, _⟩ | ⟨g1, cap, cur, hv, hb, hg, hn, hc, hs, ht⟩
  · injection hv with e1; cases e1
  · injection hv with e1 _ e3
    injection e1 with e1
    injection e1 with e1
    subst e1; subst e3
    refine ⟨g, c, cur, rfl, hb, hg, by omega, hc, hs, ?_⟩
    rw [← ht, List.take_take]
    congr 1
    omega
theorem own_clear {B : Nat} {e : TypeId} {g n c : Nat} : ∀ (vs : List Value) (i : Nat) (w : World) (xs : List Value), Own w B e (some ⟨g, 0, none⟩) n c xs → i + vs.length ≤ n →
    (∃ xs', Own (w.setCells g i vs) B e (some ⟨g, 0, none⟩) n c xs' ∧ xs'.take i = xs.take i) ∧ Only (fun k => k = g) w (w.setCells g i vs)
  | [], i, w, xs, h, _ => ⟨⟨xs, h, rfl⟩, Only.refl _ _⟩
  | v :: vs, i, w, xs, h, hi => by
    simp only [List.length_cons] at hi
    have h1 := h.put (k := i) (by omega) v
    obtain ⟨⟨xs', h2, h3⟩, h4⟩ := own_clear vs (i + 1) _ _ h1 (by omega)
    refine ⟨⟨xs', h2, ?_⟩, Only.trans (X := fun k => k = g) (Only.setCell (Only.refl (fun k => k = g) w) (p := ⟨g, i, none⟩) rfl v) h4⟩
    have h5 := congrArg (List.take i) h3
    rw [List.take_take, List.take_take, Nat.min_eq_left (by omega), List.take_set_of_le (Nat.le_refl _)] at h5
    exact h5
theorem shc_any (g : Nat) (a b x : Nat) (w : World) (hg : Row w g 59 (pkC a b)) :
    Calls Tryd.prog 36 #[.int .i64 (x : Int), .pointer (some ⟨g, 0, none⟩)] w fun e w' => e = .returned (.bool (x == a || x == b)) ∧ w' = w := by
  obtain ⟨c0, c1⟩ := pbox hg
  have hlt := hg.lt
  clear hg
  obtain ⟨b1, h1⟩ : ∃ b1, (x == a) = b1 := ⟨_, rfl⟩
  obtain ⟨b2, h2⟩ : ∃ b2, (x == b) = b2 := ⟨_, rfl⟩
  have h1' : ((x : Int) == (a : Int)) = b1 := by rw [← h1, Bool.eq_iff_iff, beq_iff_eq, beq_iff_eq]; omega
  have h2' : ((x : Int) == (b : Int)) = b2 := by rw [← h2, Bool.eq_iff_iff, beq_iff_eq, beq_iff_eq]; omega
  rw [h1, h2]
  clear h1 h2
  cases b1
  · go_enter Tryd.func36, Tryd.ntmps36
    go_wp2
    go_ret
    exact ⟨rfl, rfl⟩
  · go_enter Tryd.func36, Tryd.ntmps36
    go_wp2
    go_ret
    exact ⟨rfl, rfl⟩
/-- what stays when a and b go -/
abbrev keepAB (a b : Nat) (x : Nat) : Bool := !(x == a || x == b)
set_option maxRecDepth 100000 in
set_option maxHeartbeats 1600000 in
theorem shix_any (g : Nat) (a b : Nat) (q : Option Addr) (n k : Nat) (l : List Nat) (w : World) (hg : Row w g 59 (pkC a b)) (hl : l.length = n) (hn : n ≤ 1000000) (hr : Rd w w.heap.size q (nts l)) (hm : a ∈ l) :
    Calls Tryd.prog 69 #[.slice q n k, .func (.func 36) #[] #[.pointer (some ⟨g, 0, none⟩)]] w fun e w' => (∃ i : Nat, e = .returned (.int .i64 i) ∧ i < n ∧ (l.take i).filter (keepAB a b) = l.take i ∧ ∃ y, l[i]? = some y ∧ keepAB a b y = false) ∧ w' = w := by
  have HR := Lib.hid hr
  have HL := Lib.hid hl
  have HF := Lib.hid (fun (x : Nat) => shc_any g a b x w hg)
  have HM := Lib.hid hm
  clear hr hl hg hm
  go_enter Tryd.func69, Tryd.ntmps69
  go_wp2
  go_loop [8] (fun i => ∃ k : Nat, k ≤ n ∧ i = .int .i64 k ∧ Hid (∀ x ∈ l.take k, keepAB a b x = true)) (fun i => n - (intOf i).toNat)
  case atStart => exact ⟨0, by omega, rfl, Lib.hid (by simp)⟩
  case round =>
    obtain ⟨t, ht, rfl, ha⟩ := hrel
    have HA := Lib.hid ha.out
    clear ha
    by_cases hlt : t < n
    · obtain ⟨x, hx⟩ : ∃ x, l[t]? = some x := ⟨_, List.getElem?_eq_getElem (by rw [HL.out]; exact hlt)⟩
      obtain ⟨b', off, rfl, hb, hc⟩ := HR.out t (.int .i64 (x : Int)) (nts_get hx)
      have HX := Lib.hid hx
      clear hx
      obtain ⟨bx, hbx⟩ : ∃ bx, (x == a || x == b) = bx := ⟨_, rfl⟩
      have HC := Lib.hid (HF.out x)
      rw [hbx] at HC
      have HBX := Lib.hid hbx
      clear hbx
      go_wp2_with fail
      refine HC.out.mono ?_
      rintro e w1 ⟨rfl, rfl⟩
      cases bx
      · have HA2 := Lib.hid (show ∀ y ∈ l.take (t + 1), keepAB a b y = true from fun y hy => by
          rw [List.take_add_one, HX.out] at hy
          rcases List.mem_append.1 hy with hy | hy
          · exact HA.out y hy
          · have : y = x := by simpa using hy
            subst this
            unfold keepAB
            rw [HBX.out]; rfl)
        go_wp2
        go_round
        case rel => exact ⟨t + 1, by omega, by go_num, Lib.hid HA2.out⟩
        case measure => simp [intOf]; omega
      · have HFI := Lib.hid (show (l.take t).filter (keepAB a b) = l.take t from List.filter_eq_self.2 HA.out)
        go_wp2
        go_ret
        exact ⟨⟨t, rfl, hlt, HFI.out, x, HX.out, by unfold keepAB; rw [HBX.out]; rfl⟩, rfl⟩
    · exfalso
      have h9 := HA.out a (by rw [List.take_of_length_le (by rw [HL.out]; omega)]; exact HM.out)
      unfold keepAB at h9
      simp at h9
set_option maxRecDepth 100000 in
set_option maxHeartbeats 6400000 in
theorem delete_any (gp a b B g n k : Nat) (l : List Nat) (w : World) (hp : Row w gp 59 (pkC a b)) (hl : l.length = n) (hn : n ≤ 1000000) (ho : Own w B 3 (some ⟨g, 0, none⟩) n k (nts l)) (ha : a ∈ l) :
    Calls Tryd.prog 35 #[.slice (some ⟨g, 0, none⟩) n k, .func (.func 36) #[] #[.pointer (some ⟨gp, 0, none⟩)]] w fun e w' => e = .returned (.slice (some ⟨g, 0, none⟩) (l.filter (keepAB a b)).length k) ∧ Own w' B 3 (some ⟨g, 0, none⟩) (l.filter (keepAB a b)).length k (nts (l.filter (keepAB a b))) ∧ Only (fun k => k = g) w w' := by
  have HIX := Lib.hid (shix_any gp a b (some ⟨g, 0, none⟩) n k l w hp hl hn ho.rd ha)
  have hgg : gp ≠ g := fun e => by
    subst e
    obtain ⟨cs, hr, _⟩ := ho.row rfl
    exact absurd (hr.type hp) (by decide)
  have HSC := Lib.hid (fun (x : Nat) (W : World) (h : Only (fun k => k = g) w W) => shc_any gp a b x W (h.row hp (fun e => hgg e)))
  have HO := Lib.hid ho
  have HL := Lib.hid hl
  have HCAP := Lib.hid ho.cap
  clear hp hl ho ha
  go_enter Tryd.func35, Tryd.ntmps35
  go_wp2_with fail
  refine HIX.out.mono ?_
  rintro e w1 ⟨⟨i0, rfl, hi0, hfl, y0, hy0, hk0⟩, rfl⟩
  have HFL := Lib.hid (show (l.take (i0 + 1)).filter (keepAB a b) = l.take i0 by rw [List.take_add_one, hy0, List.filter_append, hfl]; simp [hk0])
  have hne : ((i0 : Int) == -1) = false := by rw [beq_eq_false_iff_ne]; omega
  clear hfl hy0 hk0
  go_wp2_with fail
  go_loopw [5, 6] (fun i5 j6 wr => ∃ (i j : Nat) (zs : List Value), i < j ∧ j ≤ n ∧ i5 = .int .i64 i ∧ j6 = .int .i64 j ∧ Hid (((l.take j).filter (keepAB a b)).length = i) ∧ Own wr B 3 (some ⟨g, 0, none⟩) n k zs ∧ Hid (zs.take i = nts ((l.take j).filter (keepAB a b)) ∧ zs.drop j = (nts l).drop j) ∧ Only (fun k => k = g) w1 wr) (fun _ j _ => n - (intOf j).toNat)
  case atStart =>
    refine ⟨i0, i0 + 1, nts l, by omega, by omega, rfl, by go_num, Lib.hid ?_, HO.out, Lib.hid ⟨?_, rfl⟩, Only.refl _ _⟩
    · rw [HFL.out, List.length_take, HL.out]; omega
    · rw [HFL.out]; unfold nts; rw [List.map_take]
  case round =>
    obtain ⟨i, j, zs, hij, hj, rfl, rfl, hfi, ho, hzs, hon⟩ := hrel
    have HFI := Lib.hid hfi.out
    have HOW := Lib.hid ho
    have HZ := Lib.hid hzs.out
    have HON := Lib.hid hon
    clear hfi ho hzs hon
    by_cases hjl : j < n
    · have hd : decide ((j : Int) < n) = true := decide_eq_true (by omega)
      obtain ⟨y, hy⟩ : ∃ y, l[j]? = some y := ⟨_, List.getElem?_eq_getElem (by rw [HL.out]; exact hjl)⟩
      obtain ⟨g1, eg1, _, hglt, hcj, _⟩ := HOW.out.at_ hjl
      obtain rfl : g = g1 := by injection eg1 with eg1; injection eg1
      have hzj : zs[j]? = some (.int .i64 (y : Int)) := by
        have h9 := congrArg (fun L : List Value => L[0]?) HZ.out.2
        simp only [List.getElem?_drop, Nat.add_zero] at h9
        rw [h9]; exact nts_get hy
      rw [hzj] at hcj
      have HY := Lib.hid hy
      obtain ⟨bx, hbx⟩ : ∃ bx, (y == a || y == b) = bx := ⟨_, rfl⟩
      have HC := Lib.hid (HSC.out y wr HON.out)
      rw [hbx] at HC
      have HBX := Lib.hid hbx
      have HDR := Lib.hid (show zs.drop (j + 1) = (nts l).drop (j + 1) from by
        have h9 := congrArg (List.drop 1) HZ.out.2
        simpa [List.drop_drop, Nat.add_comm] using h9)
      clear hy eg1 hzj hbx
      go_wp2_with fail
      refine HC.out.mono ?_
      rintro e w2 ⟨rfl, rfl⟩
      cases bx
      · obtain ⟨g2, eg2, _, _, hci, hfz⟩ := HOW.out.at_ (k := i) (by omega)
        obtain rfl : g = g2 := by injection eg2 with eg2; injection eg2
        obtain ⟨u, hu⟩ : ∃ u, zs[i]? = some u := ⟨_, List.getElem?_eq_getElem (by rw [HOW.out.len]; omega)⟩
        rw [hu] at hci
        have HFT := Lib.hid (show (l.take (j + 1)).filter (keepAB a b) = (l.take j).filter (keepAB a b) ++ [y] by
          rw [List.take_add_one, HY.out, List.filter_append]
          congr 1
          show [y].filter (keepAB a b) = [y]
          have : keepAB a b y = true := by unfold keepAB; rw [HBX.out]; rfl
          simp [this])
        have HOW2 := Lib.hid (HOW.out.put (k := i) (by omega) (.int .i64 (y : Int)))
        have HLZ := Lib.hid HOW.out.len
        have HIX' := Lib.hid (show i < n by omega)
        clear eg2 hu
        have hin : i < n := HIX'.out
        go_wp2_with fail
        go_roundw
        case rel =>
          refine ⟨i + 1, j + 1, zs.set i (.int .i64 (y : Int)), by omega, by omega, by go_num, by go_num, Lib.hid ?_, HOW2.out, Lib.hid ⟨?_, ?_⟩, HON.out.setCell (p := ⟨g, i, none⟩) rfl _⟩
          · rw [HFT.out, List.length_append, HFI.out]; rfl
          · rw [HFT.out, nts_snoc, ← HZ.out.1, List.take_add_one, List.getElem?_set_self (by rw [HLZ.out]; omega), List.take_set_of_le (Nat.le_refl _)]; rfl
          · rw [List.drop_set_of_lt (by omega)]; exact HDR.out
        case measure => simp [intOf]; omega
      · have HFT := Lib.hid (show (l.take (j + 1)).filter (keepAB a b) = (l.take j).filter (keepAB a b) by
          rw [List.take_add_one, HY.out, List.filter_append]
          have : keepAB a b y = false := by unfold keepAB; rw [HBX.out]; rfl
          simp [this])
        go_wp2_with fail
        go_roundw
        case rel => exact ⟨i, j + 1, zs, by omega, by omega, rfl, by go_num, Lib.hid (by rw [HFT.out]; exact HFI.out), HOW.out, Lib.hid ⟨by rw [HFT.out]; exact HZ.out.1, HDR.out⟩, HON.out⟩
        case measure => simp [intOf]; omega
    · have hd : decide ((j : Int) < n) = false := decide_eq_false (by omega)
      have hd2 : decide (j < n) = false := decide_eq_false (by omega)
      have hjn : j = n := by omega
      have hin : i < n := by omega
      have hk : n ≤ k := HCAP.out
      have HF := Lib.hid (show (l.filter (keepAB a b)).length = i by
        have h9 := HFI.out
        rwa [List.take_of_length_le (by rw [HL.out]; omega)] at h9)
      have HZF := Lib.hid (show zs.take i = nts (l.filter (keepAB a b)) by
        have h9 := HZ.out.1
        rwa [List.take_of_length_le (l := l) (by rw [HL.out]; omega)] at h9)
      obtain ⟨m, hm⟩ : ∃ m, n - i = m := ⟨_, rfl⟩
      have hclr := fun ty => run_clear_slice (P := Tryd.prog) wr 27 3 ty (.int .i64 0) Tryd.underlying27 zeroI rfl rfl g i m (k - i) (by omega) (fun j hj => by
        obtain ⟨g2, eg2, _, _, hc2, _⟩ := HOW.out.at_ (k := i + j) (by omega)
        injection eg2 with eg2
        injection eg2 with eg2
        subst eg2
        rw [hc2, List.getElem?_eq_getElem (by rw [HOW.out.len]; omega)]; rfl) (fun j hj => by
        obtain ⟨g2, eg2, _, _, _, hf2⟩ := HOW.out.at_ (k := i + j) (by omega)
        injection eg2 with eg2
        injection eg2 with eg2
        subst eg2
        exact hf2)
      obtain ⟨⟨xs', ho', hx'⟩, hon'⟩ := own_clear (List.replicate m (.int .i64 0)) i wr zs HOW.out (by rw [List.length_replicate]; omega)
      obtain ⟨w5, hw5⟩ : ∃ w5, wr.setCells g i (List.replicate m (.int .i64 0)) = w5 := ⟨_, rfl⟩
      rw [hw5] at hclr ho' hon'
      have HO5 := Lib.hid (show Own w5 B 3 (some ⟨g, 0, none⟩) i k (nts (l.filter (keepAB a b))) by
        have h9 := own_take ho' (show i ≤ n by omega)
        rwa [hx', HZF.out] at h9)
      have HON5 := Lib.hid (HON.out.trans hon')
      have hik : i < k := by omega
      have hik2 : ¬ k = i := by omega
      clear hw5 ho' hx' hon' hjn
      go_wp2_with fail
      go_ret
      exact ⟨by rw [HF.out]; rfl, by rw [HF.out]; exact HO5.out, HON5.out⟩
end Go.Proofs.YtghinmlpkgcdiaaDoor
