/- Codes: have the units one length that the field permits? The walk. Codes: Encode, the walk. -/
import Derived.Test.YtghinmlpkgcdiaaDoorE1
/-! Codes: have the units one length that the field permits? The walk. -/
namespace Go.Proofs.YtghinmlpkgcdiaaDoor
set_option linter.unusedSimpArgs false
set_option linter.unusedVariables false
open Go.RowKit Go.Lib

/-- a unit of the length n, which the field permits -/
def uniB (f : Int) (n : Nat) (s : ByteArray) : Bool := decide (s.size = n) && (decide (f = 8) || decide (s.size % 2 = 0))
section
variable (nm : Value) (f d : Int) (qp : Option Addr) (np kp : Nat) (dom : Int) (gc gu b off nd kd : Nat) (s0 : ByteArray) (w : World)
/-- what the condition looks at: the code and the units, each in its box -/
structure UniW : Prop where
  code : Row w gc 26 (codC nm f d qp np kp dom)
  units : Row w gu 36 #[.slice (some ⟨b, off, none⟩) nd kd]
  cell : w.cell? ⟨b, off, none⟩ = some (.string s0)
  lt : b < w.heap.size
  pos : 0 < nd
theorem UniW.next {w' : World} (h : UniW nm f d qp np kp dom gc gu b off nd kd s0 w) (hb : Below w.heap.size w w') : UniW nm f d qp np kp dom gc gu b off nd kd s0 w' :=
  ⟨h.code.below hb h.code.lt, h.units.below hb h.units.lt, (hb.cell (p := ⟨b, off, none⟩) h.lt).trans h.cell, Nat.lt_of_lt_of_le h.lt hb.size, h.pos⟩
set_option maxRecDepth 100000 in
set_option maxHeartbeats 1600000 in
theorem ucell_any (s : ByteArray) (h : UniW nm f d qp np kp dom gc gu b off nd kd s0 w) :
    Calls Tryd.prog 71 #[.string s, .pointer (some ⟨gu, 0, none⟩), .pointer (some ⟨gc, 0, none⟩)] w fun e w' => e = .returned (.bool (uniB f s0.size s)) ∧ w' = w := by
  obtain ⟨c0, c1, c2, c3, c4⟩ := cbox h.code
  have hu : w.cell? ⟨gu, 0, none⟩ = some (.slice (some ⟨b, off, none⟩) nd kd) := h.units.cell 0
  have h0 := h.cell
  have hn := h.pos
  obtain ⟨b1, e1⟩ : ∃ x, decide (s.size = s0.size) = x := ⟨_, rfl⟩
  obtain ⟨b2, e2⟩ : ∃ x, decide (f = 8) = x := ⟨_, rfl⟩
  obtain ⟨y, hy⟩ : ∃ y, s.size % 2 = y := ⟨_, rfl⟩
  obtain ⟨b3, e3⟩ : ∃ x, decide (y = 0) = x := ⟨_, rfl⟩
  have HR := Lib.hid (show uniB f s0.size s = (b1 && (b2 || b3)) by unfold uniB; rw [hy, e1, e2, e3])
  have f1 : ((s.size : Int) == (s0.size : Int)) = b1 := by rw [← e1, Bool.eq_iff_iff, beq_iff_eq, decide_eq_true_eq]; omega
  have f1' : (s.size == s0.size) = b1 := by rw [← e1, Bool.eq_iff_iff, beq_iff_eq, decide_eq_true_eq]
  have f2 : (f == 8) = b2 := by rw [← e2, Bool.eq_iff_iff, beq_iff_eq, decide_eq_true_eq]
  have f3 : (s.size : Int).tmod 2 = (y : Int) := by rw [Int.tmod_eq_emod_of_nonneg (by omega), ← hy]; omega
  have f4 : (s.size : Int) % 2 = (y : Int) := by rw [← hy]; omega
  have f5 : ((y : Int) == 0) = b3 := by rw [← e3, Bool.eq_iff_iff, beq_iff_eq, decide_eq_true_eq]; omega
  have f5' : (y == 0) = b3 := by rw [← e3, Bool.eq_iff_iff, beq_iff_eq, decide_eq_true_eq]
  clear h e1 e2 e3 hy
  rw [HR.out]
  cases b1
  · go_enter Tryd.func71, Tryd.ntmps71
    go_wp2
    go_ret
    exact ⟨rfl, rfl⟩
  · cases b2
    · cases b3
      · go_enter Tryd.func71, Tryd.ntmps71
        go_wp2
        go_ret
        exact ⟨rfl, rfl⟩
      · go_enter Tryd.func71, Tryd.ntmps71
        go_wp2
        go_ret
        exact ⟨rfl, rfl⟩
    · go_enter Tryd.func71, Tryd.ntmps71
      go_wp2
      go_ret
      exact ⟨rfl, rfl⟩
set_option maxRecDepth 100000 in
theorem uother_any (s : ByteArray) (g : Nat) (h : UniW nm f d qp np kp dom gc gu b off nd kd s0 w) (hg : Row w g 75 #[.func (.func 71) #[] #[.pointer (some ⟨gu, 0, none⟩), .pointer (some ⟨gc, 0, none⟩)]]) :
    Calls Tryd.prog 88 #[.string s, .pointer (some ⟨g, 0, none⟩)] w fun e w' => e = .returned (.bool (!uniB f s0.size s)) ∧ w' = w := by
  have hc : w.cell? ⟨g, 0, none⟩ = some (.func (.func 71) #[] #[.pointer (some ⟨gu, 0, none⟩), .pointer (some ⟨gc, 0, none⟩)]) := hg.cell 0
  have HC := Lib.hid (ucell_any nm f d qp np kp dom gc gu b off nd kd s0 w s h)
  obtain ⟨bb, hb⟩ : ∃ x, uniB f s0.size s = x := ⟨_, rfl⟩
  rw [hb] at HC ⊢
  clear h hg hb
  go_enter Tryd.func88, Tryd.ntmps88
  go_wp2_with fail
  refine HC.out.mono ?_
  rintro e w1 ⟨rfl, rfl⟩
  cases bb
  all_goals
    go_wp2
    go_ret
    exact ⟨rfl, rfl⟩
set_option maxRecDepth 100000 in
theorem uindex_any (g : Nat) (a : Option Addr) (m k0 : Nat) (ss : List ByteArray) (hl : ss.length = m) (hm : m ≤ 1000000) (hr : Rd w w.heap.size a (strs ss)) (h : UniW nm f d qp np kp dom gc gu b off nd kd s0 w) (hg : Row w g 75 #[.func (.func 71) #[] #[.pointer (some ⟨gu, 0, none⟩), .pointer (some ⟨gc, 0, none⟩)]]) :
    Calls Tryd.prog 75 #[.slice a m k0, .func (.func 88) #[] #[.pointer (some ⟨g, 0, none⟩)]] w fun e w' => Found (ss.any fun s => !uniB f s0.size s) e ∧ w' = w := by
  have HR := Lib.hid hr
  have HL := Lib.hid hl
  have HF := Lib.hid (fun (s : ByteArray) => uother_any nm f d qp np kp dom gc gu b off nd kd s0 w s g h hg)
  clear hr hl hg h
  go_enter Tryd.func75, Tryd.ntmps75
  go_wp2
  go_loop [8] (fun i => ∃ k : Nat, k ≤ m ∧ i = .int .i64 k ∧ (ss.take k).any (fun s => !uniB f s0.size s) = false) (fun i => m - (intOf i).toNat)
  case atStart => exact ⟨0, by omega, rfl, rfl⟩
  case round =>
    obtain ⟨k, hk, rfl, ha⟩ := hrel
    have HA := Lib.hid ha
    clear ha
    by_cases hlt : k < m
    · obtain ⟨s, hx⟩ : ∃ x, ss[k]? = some x := ⟨_, List.getElem?_eq_getElem (by rw [HL.out]; exact hlt)⟩
      obtain ⟨b, off, rfl, hb, hc⟩ := HR.out k (.string s) (by rw [strs, List.getElem?_map, hx]; rfl)
      have HX := Lib.hid hx
      clear hx
      have HC := Lib.hid (HF.out s)
      obtain ⟨bx, hbx⟩ : ∃ bx, (!uniB f s0.size s) = bx := ⟨_, rfl⟩
      rw [hbx] at HC
      have HBX := Lib.hid hbx
      clear hbx
      go_wp2_with fail
      refine HC.out.mono ?_
      rintro e w1 ⟨rfl, rfl⟩
      cases bx
      · go_wp2
        go_round
        case rel => exact ⟨k + 1, by omega, by go_num, by rw [any_take2 HA.out HX.out]; exact HBX.out⟩
        case measure => simp [intOf]; omega
      · go_wp2
        go_ret
        refine ⟨.inr ⟨?_, k, rfl⟩, rfl⟩
        rw [List.any_eq_true]
        exact ⟨s, List.mem_of_getElem? HX.out, HBX.out⟩
    · have h1 : k = m := by omega
      have HA2 := Lib.hid (show ss.any (fun s => !uniB f s0.size s) = false by
        have := HA.out
        rwa [List.take_of_length_le (by rw [HL.out]; omega)] at this)
      clear h1
      go_wp2
      go_ret
      exact ⟨.inl ⟨HA2.out, rfl⟩, rfl⟩
set_option maxRecDepth 100000 in
theorem ucont_any (g : Nat) (a : Option Addr) (m k0 : Nat) (ss : List ByteArray) (hl : ss.length = m) (hm : m ≤ 1000000) (hr : Rd w w.heap.size a (strs ss)) (h : UniW nm f d qp np kp dom gc gu b off nd kd s0 w) (hg : Row w g 75 #[.func (.func 71) #[] #[.pointer (some ⟨gu, 0, none⟩), .pointer (some ⟨gc, 0, none⟩)]]) :
    Calls Tryd.prog 42 #[.slice a m k0, .func (.func 88) #[] #[.pointer (some ⟨g, 0, none⟩)]] w fun e w' => e = .returned (.bool (ss.any fun s => !uniB f s0.size s)) ∧ w' = w := by
  have h := uindex_any nm f d qp np kp dom gc gu b off nd kd s0 w g a m k0 ss hl hm hr h hg
  generalize (ss.any fun s => !uniB f s0.size s) = b at h ⊢
  have H := Lib.hid h
  clear h hl hm hr hg
  go_enter Tryd.func42, Tryd.ntmps42
  go_wp2_with fail
  refine H.out.mono ?_
  rintro e w1 ⟨hf, rfl⟩
  rcases hf with ⟨rfl, rfl⟩ | ⟨rfl, k, rfl⟩
  · go_wp2
    go_ret
    exact ⟨rfl, rfl⟩
  · have hd : decide (0 ≤ (k : Int)) = true := by simp
    go_wp2
    go_ret
    exact ⟨rfl, rfl⟩
set_option maxRecDepth 100000 in
theorem uevery_any (a : Option Addr) (m k0 : Nat) (ss : List ByteArray) (hl : ss.length = m) (hm : m ≤ 1000000) (hr : Rd w w.heap.size a (strs ss)) (h : UniW nm f d qp np kp dom gc gu b off nd kd s0 w) :
    Calls Tryd.prog 70 #[.slice a m k0, .func (.func 71) #[] #[.pointer (some ⟨gu, 0, none⟩), .pointer (some ⟨gc, 0, none⟩)]] w fun e w' => e = .returned (.bool (ss.all (uniB f s0.size))) ∧ Below w.heap.size w w' := by
  obtain ⟨w1, hw1⟩ : ∃ W, W = w.alloc (.cells #[.func (.func 71) #[] #[.pointer (some ⟨gu, 0, none⟩), .pointer (some ⟨gc, 0, none⟩)]] 75) := ⟨_, rfl⟩
  have HB := Lib.hid (show Below w.heap.size w w1 by rw [hw1]; exact (Below.refl _ w).alloc (Nat.le_refl _) _)
  have HC := Lib.hid (ucont_any nm f d qp np kp dom gc gu b off nd kd s0 w1 w.heap.size a m k0 ss hl hm ((hr.below HB.out).more HB.out.size) (h.next nm f d qp np kp dom gc gu b off nd kd s0 w HB.out) (by rw [hw1]; exact Row.new w _ _))
  have HW := Lib.hid hw1
  have HQ := Lib.hid (show ss.all (uniB f s0.size) = !(ss.any fun s => !uniB f s0.size s) by rw [List.all_eq_not_any_not])
  rw [HQ.out]
  generalize (ss.any fun s => !uniB f s0.size s) = bb at HC ⊢
  clear hl hr h hw1
  go_enter Tryd.func70, Tryd.ntmps70
  go_wp2_with fail
  rw [← HW.out]
  refine HC.out.mono ?_
  rintro e w2 ⟨rfl, rfl⟩
  cases bb
  all_goals
    go_wp2
    go_ret
    exact ⟨rfl, HB.out⟩
end
set_option maxRecDepth 100000 in
set_option maxHeartbeats 800000 in
theorem uniform_any (nm : Value) (f d : Int) (qp : Option Addr) (np kp : Nat) (dom : Int) (qd : Option Addr) (nd kd : Nat) (s0 : ByteArray) (ss : List ByteArray) (w : World) (hnm : nm.oneCell' = true) (hl : ss.length = nd) (hm : nd ≤ 1000000) (hr : Rd w w.heap.size qd (strs ss)) (h0 : ss[0]? = some s0) :
    Calls Tryd.prog 39 #[.agg (codC nm f d qp np kp dom), .slice qd nd kd] w fun e w' => e = .returned (.bool (ss.all (uniB f s0.size))) ∧ Below w.heap.size w w' := by
  obtain ⟨b, off, rfl, hb, hc⟩ := hr 0 (.string s0) (by rw [strs, List.getElem?_map, h0]; rfl)
  rw [Nat.add_zero] at hc
  have hpos : 0 < nd := by rw [← hl]; exact (List.getElem?_eq_some_iff.1 h0).1
  obtain ⟨w2, hw2⟩ : ∃ W, W = (w.alloc (.cells (codC nm f d qp np kp dom) 26)).alloc (.cells #[.slice (some ⟨b, off, none⟩) nd kd] 36) := ⟨_, rfl⟩
  have HB := Lib.hid (show Below w.heap.size w w2 by rw [hw2]; exact ((Below.refl _ w).alloc (Nat.le_refl _) _).alloc (by simp) _)
  have HU := Lib.hid (show UniW nm f d qp np kp dom w.heap.size (w.heap.size + 1) b off nd kd s0 w2 from
    ⟨by rw [hw2]; exact (Row.new w _ _).alloc _, by rw [hw2]; exact Row.made _ _ (by simp), (HB.out.cell (p := ⟨b, off, none⟩) hb).trans hc, Nat.lt_of_lt_of_le hb HB.out.size, hpos⟩)
  have HE := Lib.hid (uevery_any nm f d qp np kp dom w.heap.size (w.heap.size + 1) b off nd kd s0 w2 (some ⟨b, off, none⟩) nd kd ss hl hm ((hr.below HB.out).more HB.out.size) HU.out)
  have HW := Lib.hid hw2
  have hcu : w2.cell? ⟨w.heap.size + 1, 0, none⟩ = some (.slice (some ⟨b, off, none⟩) nd kd) := HU.out.units.cell 0
  generalize ss.all (uniB f s0.size) = bb at HE ⊢
  clear hl hr hc hb h0 hw2 hpos
  go_enter Tryd.func39, Tryd.ntmps39
  go_wp2_with fail
  rw [← HW.out]
  refine HE.out.mono ?_
  rintro e w3 ⟨rfl, hb⟩
  have HB3 := Lib.hid (below_call HB.out hb)
  clear hb
  go_wp2
  go_ret
  exact ⟨rfl, HB3.out⟩
end Go.Proofs.YtghinmlpkgcdiaaDoor
/-! Codes: Encode, the walk. -/
namespace Go.Proofs.YtghinmlpkgcdiaaDoor
set_option linter.unusedSimpArgs false
set_option linter.unusedVariables false
open Go.RowKit Go.Lib

theorem elem_str11 : Elem Tryd.prog 9 (.string .empty) 16 := by unfold Elem; kernel_rfl
/-- a parity unit -/
def unitC (m n : Nat) (ss : List ByteArray) (r : List Nat) : ByteArray := strB (Fld.combTo m n (r.zip (ss.map fun s => s.data.toList)))
theorem strs_snoc11 (l : List ByteArray) (x : ByteArray) : strs (l ++ [x]) = strs l ++ [.string x] := by unfold strs; rw [List.map_append]; rfl
theorem comb_row {m n D : Nat} (hm : Fld.IsM m) {r : List Nat} {ss : List ByteArray} (hr : r.length = D) (hx : ∀ x ∈ r, x < 2 ^ m) (hD : 1 ≤ D) (hs : ss.length = D) (hn : ∀ s ∈ ss, s.size = n) (hdv : n % Fld.size m = 0) :
    allB (m : Int) (r.map fun (x : Nat) => (x : Int)) = true ∧ combS (m : Int) (r.map fun (x : Nat) => (x : Int)) ss = Fld.combTo m n (r.zip (ss.map fun s => s.data.toList)) := by
  have ha : allB (m : Int) (r.map fun (x : Nat) => (x : Int)) = true := by
    unfold allB
    rw [okM_iff.2 ⟨m, hm, rfl⟩, Bool.true_and, Bool.not_eq_true', List.any_eq_false]
    intro x hxx
    obtain ⟨y, hy, rfl⟩ := List.mem_map.1 hxx
    rw [Int.toNat_natCast]
    have := badE_false.2 (show 0 ≤ (y : Int) ∧ (y : Int) < 2 ^ m from ⟨by omega, by exact_mod_cast hx y hy⟩)
    rw [this]; simp
  refine ⟨ha, ?_⟩
  have hl0 : len0 ss = n := by
    cases ss with
    | nil => simp at hs; omega
    | cons s ss => exact hn s (List.mem_cons_self ..)
  unfold combS okC
  rw [ha, hl0]
  have h1 : decide ((r.map fun (x : Nat) => (x : Int)).length ≠ 0) = true := decide_eq_true (by rw [List.length_map]; omega)
  have h2 : decide ((r.map fun (x : Nat) => (x : Int)).length = ss.length) = true := decide_eq_true (by rw [List.length_map]; omega)
  have h3 : (ss.any (otherB n)) = false := by
    rw [List.any_eq_false]
    intro s hs2
    unfold otherB
    rw [hn s hs2]; simp
  rw [h1, h2, h3, Int.toNat_natCast, decide_eq_true hdv]
  simp only [Bool.true_and, Bool.and_true, Bool.not_false, if_true]
  unfold pairs
  rw [List.map_map]
  congr 2
  conv => rhs; rw [← List.map_id r]
  apply List.map_congr_left
  intro x _
  exact Int.toNat_natCast x
section
variable (nm : Value) (f d : Int) (qp : Option Addr) (np kp : Nat) (dom : Int) (zss : List (List Int)) (qd : Option Addr) (nd kd : Nat) (ss : List ByteArray) (w : World)
set_option maxRecDepth 100000 in
set_option maxHeartbeats 1600000 in
theorem encode_no (ht : Tab w) (hr : Grid w w.heap.size qp np zss) (hnp : np ≤ 9223372036854775807) (hnm : nm.oneCell' = true) (hl : ss.length = nd) (hm : nd ≤ 1000000) (hrs : Rd w w.heap.size qd (strs ss))
    (h : Xp.okC f d zss = false ∨ (Xp.okC f d zss = true ∧ (nd : Int) ≠ d) ∨ (Xp.okC f d zss = true ∧ (nd : Int) = d ∧ ∃ s0, ss[0]? = some s0 ∧ ss.all (uniB f s0.size) = false)) :
    Calls Tryd.prog 14 #[.agg (codC nm f d qp np kp dom), .slice qd nd kd] w fun e w' => e = .returned (.tuple #[.slice none 0 0, .int .i64 1]) ∧ Below w.heap.size w w' := by
  have HV := Lib.hid (fun (W : World) (hb : Below w.heap.size w W) => evalid_any nm f d qp np kp dom zss W (ht.next hb) ((hr.below hb).more hb.size) (by omega) hnm)
  have HU := Lib.hid (fun (s0 : ByteArray) (h0 : ss[0]? = some s0) (W : World) (hb : Below w.heap.size w W) => uniform_any nm f d qp np kp dom qd nd kd s0 ss W hnm hl hm ((hrs.below hb).more hb.size) h0)
  have HW : Hid (Below w.heap.size w (w.alloc (.cells (codC nm f d qp np kp dom) 26))) := Lib.hid ((Below.refl _ w).alloc (Nat.le_refl _) _)
  have HC : Hid (Row (w.alloc (.cells (codC nm f d qp np kp dom) 26)) w.heap.size 26 (codC nm f d qp np kp dom)) := Lib.hid (Row.new w _ _)
  clear ht hr hl hrs
  rcases h with h | ⟨h, hne⟩ | ⟨h, he, s0, h0, hu⟩
  · rw [h] at HV
    clear h
    go_enter Tryd.func14, Tryd.ntmps14
    go_wp2_with fail
    refine (HV.out _ HW.out).mono ?_
    rintro e w1 ⟨rfl, hb⟩
    have HB1 := Lib.hid (below_call HW.out hb)
    clear hb
    go_wp2
    refine bodyPost_ret (v := .tuple #[.slice none 0 0, .int .i64 1]) ?_ rfl ⟨rfl, HB1.out⟩
    rw [results_tmp2 rfl]; rfl
  · rw [h] at HV
    have hb2 : ((nd : Int) != d) = true := by rw [bne_iff_ne]; exact hne
    clear h hne
    go_enter Tryd.func14, Tryd.ntmps14
    go_wp2_with fail
    refine (HV.out _ HW.out).mono ?_
    rintro e w1 ⟨rfl, hb⟩
    have HB1 := Lib.hid (below_call HW.out hb)
    obtain ⟨c0, c1, c2, c3, c4⟩ := cbox (HC.out.below hb HC.out.lt)
    clear hb
    go_wp2
    refine bodyPost_ret (v := .tuple #[.slice none 0 0, .int .i64 1]) ?_ rfl ⟨rfl, HB1.out⟩
    rw [results_tmp2 rfl]; rfl
  · rw [h] at HV
    have hb2 : ((nd : Int) != d) = false := by rw [bne_eq_false_iff_eq]; exact he
    have HU2 := Lib.hid (HU.out s0 h0)
    rw [hu] at HU2
    clear h he h0 hu HU
    go_enter Tryd.func14, Tryd.ntmps14
    go_wp2_with fail
    refine (HV.out _ HW.out).mono ?_
    rintro e w1 ⟨rfl, hb⟩
    have HB1 := Lib.hid (below_call HW.out hb)
    obtain ⟨c0, c1, c2, c3, c4⟩ := cbox (HC.out.below hb HC.out.lt)
    clear hb
    go_wp2_with fail
    refine (HU2.out _ HB1.out).mono ?_
    rintro e w2 ⟨rfl, hb⟩
    have HB2 := Lib.hid (below_call HB1.out hb)
    clear hb
    go_wp2
    refine bodyPost_ret (v := .tuple #[.slice none 0 0, .int .i64 1]) ?_ rfl ⟨rfl, HB2.out⟩
    rw [results_tmp2 rfl]; rfl
end
set_option maxRecDepth 100000 in
set_option maxHeartbeats 6400000 in
theorem encode_yes {m D n : Nat} (hm : Fld.IsM m) (nm : Value) (qp : Option Addr) (np kp : Nat) (dom : Int) (rows : List (List Nat)) (qd : Option Addr) (kd : Nat) (ss : List ByteArray) (w : World) (ht : Tab w) (hr : Grid w w.heap.size qp np (intsOf rows)) (hnm : nm.oneCell' = true)
    (hD : 1 ≤ D) (hw32 : D + np ≤ 32) (hrows : ∀ r ∈ rows, r.length = D ∧ ∀ x ∈ r, x < 2 ^ m) (hok : Xp.okC m D (intsOf rows) = true) (hl : ss.length = D) (hrs : Rd w w.heap.size qd (strs ss)) (hn : ∀ s ∈ ss, s.size = n) (hn2 : n ≤ 1000) (hdv : n % Fld.size m = 0) :
    Calls Tryd.prog 14 #[.agg (codC nm m D qp np kp dom), .slice qd D kd] w fun e w' => (∃ q k, e = .returned (.tuple #[.slice q (D + np) k, .int .i64 0]) ∧ Own w' w.heap.size 9 q (D + np) k (strs (ss ++ rows.map (unitC m n ss)))) ∧ Below w.heap.size w w' := by
  obtain ⟨s0, h0⟩ : ∃ s0, ss[0]? = some s0 := ⟨_, List.getElem?_eq_getElem (by omega)⟩
  have huni : ss.all (uniB (m : Int) s0.size) = true := by
    rw [List.all_eq_true]
    intro s hs
    unfold uniB
    rw [hn s hs, hn s0 (List.mem_of_getElem? h0)]
    rcases hm with rfl | rfl
    · simp
    · have h2 : n % 2 = 0 := hdv
      simp [h2]
  have HV := Lib.hid (fun (W : World) (hb : Below w.heap.size w W) => evalid_any nm m D qp np kp dom (intsOf rows) W (ht.next hb) ((hr.below hb).more hb.size) (by omega) hnm)
  rw [hok] at HV
  have HU := Lib.hid (fun (W : World) (hb : Below w.heap.size w W) => uniform_any nm m D qp np kp dom qd D kd s0 ss W hnm hl (by omega) ((hrs.below hb).more hb.size) h0)
  rw [huni] at HU
  have HCL := Lib.hid (fun (W : World) (hb : Below w.heap.size w W) => clone_strs qd D kd (strs ss) W (by rw [strs, List.length_map, hl]) (by omega) ((hrs.below hb).more hb.size) (by intro u hu; unfold strs at hu; obtain ⟨z, _, rfl⟩ := List.mem_map.1 hu; rfl))
  have HCB := Lib.hid (fun (r : List Nat) (hrr : r ∈ rows) (a1 : Option Addr) (c1 : Nat) (W : World) (hb : Below w.heap.size w W) (hrd : Rd W W.heap.size a1 (ints (r.map fun (x : Nat) => (x : Int)))) => by
    obtain ⟨g1, g2⟩ := hrows r hrr
    obtain ⟨e1, e2⟩ := comb_row hm g1 g2 hD hl hn hdv
    have h9 := fcomb_yes m hm a1 D c1 (r.map fun (x : Nat) => (x : Int)) qd kd ss W (ht.next hb) (by rw [List.length_map, g1]) (by omega) hrd hl ((hrs.below hb).more hb.size) (by omega) e1 (fun u hu => by rw [hn u hu]; omega)
    rw [e2] at h9
    unfold pairS at h9
    exact h9)
  have HGR := Lib.hid hr
  have hnpl : rows.length = np := by have := hr.len; unfold intsOf at this; rwa [List.length_map] at this
  have HNP := Lib.hid hnpl
  have HROWS := Lib.hid (fun r hr => (hrows r hr).1)
  have hb2 : ((D : Int) != (D : Int)) = false := by rw [bne_eq_false_iff_eq]
  have HW : Hid (Below w.heap.size w (w.alloc (.cells (codC nm m D qp np kp dom) 26))) := Lib.hid ((Below.refl _ w).alloc (Nat.le_refl _) _)
  have HC : Hid (Row (w.alloc (.cells (codC nm m D qp np kp dom) 26)) w.heap.size 26 (codC nm m D qp np kp dom)) := Lib.hid (Row.new w _ _)
  clear ht hr hrs hl hrows hok hm hn hdv huni h0 hnpl
  go_enter Tryd.func14, Tryd.ntmps14
  go_wp2_with fail
  refine (HV.out _ HW.out).mono ?_
  rintro e w1 ⟨rfl, hb⟩
  have HB1 := Lib.hid (below_call HW.out hb)
  have HC1 := Lib.hid (HC.out.below hb HC.out.lt)
  obtain ⟨c0, c1, c2, c3, c4⟩ := cbox HC1.out
  clear hb
  go_wp2_with fail
  clear c0 c1 c2 c3 c4
  refine (HU.out _ HB1.out).mono ?_
  rintro e w2 ⟨rfl, hb⟩
  have HB2 := Lib.hid (below_call HB1.out hb)
  have HC2 := Lib.hid (HC1.out.below hb HC1.out.lt)
  clear hb
  go_wp2_with fail
  refine (HCL.out _ HB2.out).mono ?_
  rintro e w3 ⟨q0, k0, rfl, ho, hb⟩
  have HB3 := Lib.hid (below_call HB2.out hb)
  have HC3 := Lib.hid (HC2.out.below hb HC2.out.lt)
  have HO3 := Lib.hid ho
  have HB23 := Lib.hid hb
  have hz3 : w.heap.size < w3.heap.size := HC3.out.lt
  obtain ⟨c0, c1, c2, c3, c4⟩ := cbox HC3.out
  clear hb ho hb2
  go_wp2_with fail
  clear c0 c1 c2 c3 c4
  go_loopw [6, 32] (fun s i wr => ∃ (t : Nat) (q : Option Addr) (k : Nat), t ≤ np ∧ i = .int .i64 t ∧ s = .slice q ((D + t : Nat)) k ∧ Own wr w2.heap.size 9 q (D + t) k (strs (ss ++ (rows.take t).map (unitC m n ss))) ∧ Below w2.heap.size w2 wr) (fun _ i _ => np - (intOf i).toNat)
  case atStart => exact ⟨0, q0, k0, Nat.zero_le _, rfl, rfl, by rw [List.take_zero, List.map_nil, List.append_nil]; exact HO3.out, HB23.out⟩
  case round =>
    obtain ⟨t, q, k, ht, rfl, rfl, ho, hb⟩ := hrel
    have HO := Lib.hid ho
    have HB := Lib.hid hb
    have hsw := hb.size
    have HCW := Lib.hid (HC2.out.below hb HC2.out.lt)
    have HBW := Lib.hid (HB2.out.trans (hb.mono HB2.out.size))
    clear ho hb
    by_cases hlt : t < np
    · have hd : decide ((t : Int) < np) = true := decide_eq_true (by omega)
      obtain ⟨r, hrr⟩ : ∃ r, rows[t]? = some r := ⟨_, List.getElem?_eq_getElem (by rw [HNP.out]; exact hlt)⟩
      have hrl := HROWS.out r (List.mem_of_getElem? hrr)
      obtain ⟨bp, offp, qr, kr, rfl, hbp, hcr, _, hrd⟩ := (HGR.out.below HBW.out).row t _ (intsOf_get hrr)
      rw [List.length_map, hrl] at hcr
      have HTK := Lib.hid (show (rows.take (t + 1)).map (unitC m n ss) = (rows.take t).map (unitC m n ss) ++ [unitC m n ss r] by rw [List.take_add_one, hrr, List.map_append]; rfl)
      have HCC := Lib.hid (HCB.out r (List.mem_of_getElem? hrr) qr kr wr HBW.out (hrd.more HBW.out.size))
      obtain ⟨c0, c1, c2, c3, c4⟩ := cbox HCW.out
      obtain ⟨E, hE⟩ : ∃ E, combE (m : Int) (r.map fun (x : Nat) => (x : Int)) ss = E := ⟨_, rfl⟩
      rw [hE] at HCC
      have HUC := Lib.hid (show strB (Fld.combTo m n (r.zip (ss.map fun s => s.data.toList))) = unitC m n ss r from rfl)
      rw [HUC.out] at HCC
      obtain ⟨UC, hUC⟩ : ∃ UC, unitC m n ss r = UC := ⟨_, rfl⟩
      rw [hUC] at HCC HTK
      clear hrr hrd hrl hE HUC hUC
      go_wp2_with fail
      clear c0 c1 c2 c3 c4 hcr
      refine HCC.out.mono ?_
      rintro e w5 ⟨rfl, hb5⟩
      have HB5 := Lib.hid (HB.out.trans (hb5.mono hsw))
      have HO5 := Lib.hid ((HO.out.below (hb5.mono (Nat.le_refl _))).alloc (.cells #[.string UC] 9))
      have hs5 := HB5.out.size
      clear hb5
      go_wp2_with (refine wpList_app _ rfl (.tmp 44) (.tmp 46) 36 rfl w2.heap.size 9 (.string .empty) 16 Tryd.underlying36 elem_str11 rfl q (D + t) k _ rfl HO5.out _ (some ⟨w5.heap.size, 0, none⟩) 1 1 [.string UC] rfl (Rd.one w5 _ _) rfl (by intro u hu; simp only [List.mem_singleton] at hu; subst hu; rfl) (by unfold maxLen; omega) (by omega) (by rw [size1]; omega) ?_; intro a9 k9 w9 ho9 hg9; have HO9 := Lib.hid ho9; have HB9 := Lib.hid (below_grown2 (HB5.out.alloc hs5 _) hg9 HO5.out (by rw [size1]; omega) (Nat.le_refl _)); clear ho9 hg9)
      go_roundw
      case rel => exact ⟨t + 1, a9, k9, by omega, by go_num, rfl, by rw [HTK.out, ← List.append_assoc, strs_snoc11]; exact HO9.out, HB9.out⟩
      case measure => simp [intOf]; omega
    · have hd : decide ((t : Int) < np) = false := decide_eq_false (by omega)
      have htn : t = np := by omega
      have h9 := HO.out
      rw [List.take_of_length_le (by rw [HNP.out]; omega), htn] at h9
      have HO9 := Lib.hid h9
      have HTN := Lib.hid htn
      clear h9 htn
      go_wp2
      refine bodyPost_ret (v := .tuple #[.slice q ((D + np : Nat)) k, .int .i64 0]) ?_ rfl ⟨⟨q, k, rfl, Own.mono HO9.out HB2.out.size⟩, HBW.out⟩
      rw [results_tmp2 rfl, ← HTN.out]; rfl
end Go.Proofs.YtghinmlpkgcdiaaDoor
