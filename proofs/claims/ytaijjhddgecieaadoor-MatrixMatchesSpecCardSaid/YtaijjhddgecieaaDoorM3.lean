/- Matrices: is a matrix valid? The program's answer and the reference's. -/
import Derived.Test.YtaijjhddgecieaaDoorM2
import Derived.Test.YtaijjhddgecieaaDoorMatF
namespace Go.Proofs.YtaijjhddgecieaaDoor
set_option linter.unusedSimpArgs false
set_option linter.unusedVariables false
open Go.RowKit Go.Lib

@[reducible] def matV (m r c : Int) (q : Option Addr) (n k : Nat) : Value := .agg #[.int .i64 m, .int .i64 r, .int .i64 c, .slice q n k]
@[reducible] def matC (m r c : Int) (q : Option Addr) (n k : Nat) : Array Value := #[.int .i64 m, .int .i64 r, .int .i64 c, .slice q n k]
def sizesOk (r c : Int) : Bool := decide (0 ≤ r) && decide (0 ≤ c) && decide (r ≤ 32) && decide (c ≤ 32)
/-- is a matrix with these cells valid? -/
def okMat (m r c : Int) (xs : List Int) : Bool := okM m && sizesOk r c && decide ((xs.length : Int) = r * c) && !(xs.any (badE m.toNat))

set_option maxRecDepth 100000 in
theorem validf_any (m : Nat) (hm : Fld.IsM m) (a r c : Int) (s : Value) (g : Nat) (w : World) (hg : Row w g 24 #[.int .i64 (m : Int), .int .i64 r, .int .i64 c, s]) :
    Calls Tryd.prog 46 #[.int .i64 a, .pointer (some ⟨g, 0, none⟩)] w fun e w' => e = .returned (.bool (badE m a)) ∧ w' = w := by
  have hc : w.cell? ⟨g, 0, none⟩ = some (.int .i64 (m : Int)) := hg.cell 0
  clear hg
  by_cases h0 : a < 0
  · have HB := Lib.hid (show badE m a = true by unfold badE; rw [decide_eq_true h0]; rfl)
    have hd : decide (a < 0) = true := decide_eq_true h0
    clear hm
    go_enter Tryd.func46, Tryd.ntmps46
    go_wp2
    go_ret
    exact ⟨ret_bool HB.out.symm, rfl⟩
  · have hd : decide (a < 0) = false := decide_eq_false h0
    have HB := Lib.hid (show badE m a = decide ((2 : Int) ^ m ≤ a) by unfold badE; rw [hd]; rfl)
    rcases hm with rfl | rfl
    · have HB2 := Lib.hid (show badE 8 a = decide (256 ≤ a) from HB.out)
      go_enter Tryd.func46, Tryd.ntmps46
      go_wp2
      go_ret
      exact ⟨ret_bool HB2.out.symm, rfl⟩
    · have HB2 := Lib.hid (show badE 16 a = decide (65536 ≤ a) from HB.out)
      go_enter Tryd.func46, Tryd.ntmps46
      go_wp2
      go_ret
      exact ⟨ret_bool HB2.out.symm, rfl⟩
set_option maxRecDepth 100000 in
theorem validi_any (m : Nat) (hm : Fld.IsM m) (r c : Int) (s : Value) (a : Option Addr) (n k0 : Nat) (xs : List Int) (g : Nat) (w : World) (hl : xs.length = n) (hn : n ≤ 9223372036854775807) (hr : Rd w w.heap.size a (ints xs)) (hg : Row w g 24 #[.int .i64 (m : Int), .int .i64 r, .int .i64 c, s]) :
    Calls Tryd.prog 50 #[.slice a n k0, .func (.func 46) #[] #[.pointer (some ⟨g, 0, none⟩)]] w fun e w' => Found (xs.any (badE m)) e ∧ w' = w := by
  have HR := Lib.hid hr
  have HG := Lib.hid hg
  have HM := Lib.hid hm
  have HL := Lib.hid hl
  clear hr hg hm hl
  go_enter Tryd.func50, Tryd.ntmps50
  go_wp2
  go_loopw [8] (fun i wr => wr = w ∧ ∃ k : Nat, k ≤ n ∧ i = .int .i64 k ∧ (xs.take k).any (badE m) = false) (fun i _ => n - (intOf i).toNat)
  case atStart => exact ⟨rfl, 0, by omega, rfl, rfl⟩
  case round =>
    obtain ⟨rfl, k, hk, rfl, ha⟩ := hrel
    have HA := Lib.hid ha
    clear ha
    by_cases hlt : k < n
    · obtain ⟨x, hx⟩ : ∃ x, xs[k]? = some x := ⟨_, List.getElem?_eq_getElem (by rw [HL.out]; exact hlt)⟩
      obtain ⟨b, off, rfl, hb, hc⟩ := HR.out k (.int .i64 x) (by rw [ints, List.getElem?_map, hx]; rfl)
      have HX := Lib.hid hx
      clear hx
      obtain ⟨bx, hbx⟩ : ∃ bx, badE m x = bx := ⟨_, rfl⟩
      have HBX := Lib.hid hbx
      clear hbx
      go_wp2_with fail
      refine (validf_any m HM.out x r c s g _ HG.out).mono ?_
      rw [HBX.out]
      rintro e w1 ⟨rfl, rfl⟩
      cases bx
      · go_wp2
        go_roundw
        case rel => exact ⟨trivial, k + 1, by omega, by go_num, by rw [any_take HA.out HX.out]; exact HBX.out⟩
        case measure => simp [intOf]; omega
      · go_wp2
        go_ret
        refine ⟨.inr ⟨?_, k, rfl⟩, rfl⟩
        rw [List.any_eq_true]
        exact ⟨x, List.mem_of_getElem? HX.out, HBX.out⟩
    · have h1 : k = n := by omega
      have HA2 := Lib.hid (show xs.any (badE m) = false by
        have := HA.out
        rwa [List.take_of_length_le (by rw [HL.out]; omega)] at this)
      clear h1
      go_wp2
      go_ret
      exact ⟨.inl ⟨HA2.out, rfl⟩, rfl⟩
set_option maxRecDepth 100000 in
theorem validc_any (m : Nat) (hm : Fld.IsM m) (r c : Int) (s : Value) (a : Option Addr) (n k0 : Nat) (xs : List Int) (g : Nat) (w : World) (hl : xs.length = n) (hn : n ≤ 9223372036854775807) (hr : Rd w w.heap.size a (ints xs)) (hg : Row w g 24 #[.int .i64 (m : Int), .int .i64 r, .int .i64 c, s]) :
    Calls Tryd.prog 40 #[.slice a n k0, .func (.func 46) #[] #[.pointer (some ⟨g, 0, none⟩)]] w fun e w' => e = .returned (.bool (xs.any (badE m))) ∧ w' = w := by
  have h := validi_any m hm r c s a n k0 xs g w hl hn hr hg
  generalize xs.any (badE m) = b at h
  have H := Lib.hid h
  clear h hm hl hr hg
  go_enter Tryd.func40, Tryd.ntmps40
  go_wp2_with fail
  refine H.out.mono ?_
  rintro e w1 ⟨hf, rfl⟩
  rcases hf with ⟨rfl, rfl⟩ | ⟨rfl, k, rfl⟩
  · go_wp2
    go_ret
    exact ⟨rfl, rfl⟩
  · have hd : decide (0 ≤ (k : Int)) = true := by simp
    go_wp2
    go_ret
    exact ⟨rfl, rfl⟩
theorem min_two (a b : Int) (ts : Array TypeId) (t : TypeId) (W : World) : (Builtin.min_ ts t #[.int .i64 a, .int .i64 b]).run Tryd.prog W = .ok (.int .i64 (if b < a then b else a)) W := by
  simp [Builtin.min_, Builtin.min2]
theorem max_two (a b : Int) (ts : Array TypeId) (t : TypeId) (W : World) : (Builtin.max_ ts t #[.int .i64 a, .int .i64 b]).run Tryd.prog W = .ok (.int .i64 (if a < b then b else a)) W := by
  simp [Builtin.max_, Builtin.max2]
theorem sizes_bad1 {r c v : Int} (h : (if c < r then c else r) = v) (hv : v < 0) : sizesOk r c = false := by
  unfold sizesOk
  by_cases h1 : 0 ≤ r
  · by_cases h2 : 0 ≤ c
    · exfalso; split at h <;> omega
    · simp [h2]
  · simp [h1]
theorem sizes_bad2 {r c v : Int} (h : (if r < c then c else r) = v) (hv : 32 < v) : sizesOk r c = false := by
  unfold sizesOk
  by_cases h1 : r ≤ 32
  · by_cases h2 : c ≤ 32
    · exfalso; split at h <;> omega
    · simp [h2]
  · simp [h1]
theorem sizes_good {r c v u : Int} (h : (if c < r then c else r) = v) (hv : ¬ v < 0) (h2 : (if r < c then c else r) = u) (hu : ¬ 32 < u) : sizesOk r c = true ∧ 0 ≤ r ∧ 0 ≤ c ∧ r ≤ 32 ∧ c ≤ 32 := by
  have : 0 ≤ r ∧ 0 ≤ c ∧ r ≤ 32 ∧ c ≤ 32 := by
    split at h <;> split at h2 <;> omega
  obtain ⟨a, b, d, e⟩ := this
  unfold sizesOk
  simp [a, b, d, e]
theorem size_prod {r c : Int} (h1 : 0 ≤ r) (h2 : 0 ≤ c) (h3 : r ≤ 32) (h4 : c ≤ 32) : IntKind.i64.wrap (r * c) = r * c ∧ 0 ≤ r * c ∧ r * c ≤ 1024 := by
  have a : 0 ≤ r * c := Int.mul_nonneg h1 h2
  have b : r * c ≤ 32 * 32 := Int.mul_le_mul h3 h4 h2 (by omega)
  refine ⟨?_, a, by omega⟩
  rw [IntKind.wrap_i64] <;> omega
set_option maxRecDepth 100000 in
theorem mvalid_any (m r c : Int) (q : Option Addr) (n k0 : Nat) (xs : List Int) (w : World) (hl : xs.length = n) (hn : n ≤ 9223372036854775807) (hr : Rd w w.heap.size q (ints xs)) :
    Calls Tryd.prog 28 #[matV m r c q n k0] w fun e w' => e = .returned (.bool (okMat m r c xs)) ∧ Below w.heap.size w w' := by
  have HL := Lib.hid hl
  have HR := Lib.hid hr
  clear hl hr
  unfold matV
  by_cases hm : okM m = true
  · obtain ⟨M, hM, rfl⟩ := okM_iff.1 hm
    have HM := Lib.hid hM
    have HO := Lib.hid hm
    clear hm
    obtain ⟨v, hv⟩ : ∃ v, (if c < r then c else r) = v := ⟨_, rfl⟩
    obtain ⟨u, hu⟩ : ∃ u, (if r < c then c else r) = u := ⟨_, rfl⟩
    have hmin : ∀ (ts : Array TypeId) (t : TypeId) (W : World), (Builtin.min_ ts t #[.int .i64 r, .int .i64 c]).run Tryd.prog W = .ok (.int .i64 v) W := fun ts t W => by rw [min_two, hv]
    have hmax : ∀ (ts : Array TypeId) (t : TypeId) (W : World), (Builtin.max_ ts t #[.int .i64 r, .int .i64 c]).run Tryd.prog W = .ok (.int .i64 u) W := fun ts t W => by rw [max_two, hu]
    have HV := Lib.hid hv
    have HU := Lib.hid hu
    clear hv hu
    by_cases h0 : v < 0
    · have HB := Lib.hid (show okMat (M : Int) r c xs = false by unfold okMat; rw [sizes_bad1 HV.out h0]; simp)
      have hd0 : decide (v < 0) = true := decide_eq_true h0
      clear h0
      rcases hM with rfl | rfl
      all_goals
        go_enter Tryd.func28, Tryd.ntmps28
        go_wp2
        go_ret
        exact ⟨ret_bool HB.out.symm, (Below.refl _ w).alloc (Nat.le_refl _) _⟩
    · have hd0 : decide (v < 0) = false := decide_eq_false h0
      by_cases h1 : 32 < u
      · have HB := Lib.hid (show okMat (M : Int) r c xs = false by unfold okMat; rw [sizes_bad2 HU.out h1]; simp)
        have hd1 : decide (32 < u) = true := decide_eq_true h1
        clear h0 h1
        rcases hM with rfl | rfl
        all_goals
          go_enter Tryd.func28, Tryd.ntmps28
          go_wp2
          go_ret
          exact ⟨ret_bool HB.out.symm, (Below.refl _ w).alloc (Nat.le_refl _) _⟩
      · have hd1 : decide (32 < u) = false := decide_eq_false h1
        obtain ⟨g0, g1, g2, g3, g4⟩ := sizes_good HV.out h0 HU.out h1
        obtain ⟨hw, hp0, hp1⟩ := size_prod g1 g2 g3 g4
        have HG := Lib.hid g0
        clear h0 h1 g0 g1 g2 g3 g4
        obtain ⟨p, hp⟩ : ∃ p, r * c = p := ⟨_, rfl⟩
        have HP := Lib.hid hp
        rw [hp] at hw hp0 hp1
        have hw2 : IntKind.i64.wrap (r * c) = p := by rw [hp]; exact hw
        clear hw hp
        by_cases hne : (n : Int) = p
        · have HB := Lib.hid (show okMat (M : Int) r c xs = !(xs.any (badE M)) by
            unfold okMat
            rw [HO.out, HG.out, HL.out, HP.out, decide_eq_true hne]
            simp)
          have hd2 : ((n : Int) != p) = false := by rw [bne_eq_false_iff_eq]; exact hne
          have HA := Lib.hid (fun (W : World) g (s : Value) (h1 : Rd W W.heap.size q (ints xs)) (h2 : Row W g 24 #[.int .i64 (M : Int), .int .i64 r, .int .i64 c, s]) => validc_any M HM.out r c s q n k0 xs g W HL.out hn h1 h2)
          clear hne
          rcases hM with rfl | rfl
          all_goals
            go_enter Tryd.func28, Tryd.ntmps28
            go_wp2_with fail
            refine (HA.out _ _ _ ((HR.out.alloc (Nat.le_refl _) _).more (by simp)) (Row.new w _ _)).mono ?_
            rintro e w1 ⟨rfl, rfl⟩
            go_wp2
            go_ret
            exact ⟨ret_bool (by rw [HB.out]), (Below.refl _ w).alloc (Nat.le_refl _) _⟩
        · have HB := Lib.hid (show okMat (M : Int) r c xs = false by
            unfold okMat
            rw [HL.out, HP.out, decide_eq_false hne]
            simp)
          have hd2 : ((n : Int) != p) = true := by rw [bne_iff_ne]; exact hne
          clear hne
          rcases hM with rfl | rfl
          all_goals
            go_enter Tryd.func28, Tryd.ntmps28
            go_wp2
            go_ret
            exact ⟨ret_bool HB.out.symm, (Below.refl _ w).alloc (Nat.le_refl _) _⟩
  · have HB := Lib.hid (show okMat m r c xs = false by unfold okMat; rw [Bool.eq_false_iff.2 hm]; simp)
    have h8 : (m != 8) = true := by
      rw [bne_iff_ne]; rintro rfl; exact hm rfl
    have h16 : (m != 16) = true := by
      rw [bne_iff_ne]; rintro rfl; exact hm rfl
    clear hm
    go_enter Tryd.func28, Tryd.ntmps28
    go_wp2
    go_ret
    exact ⟨ret_bool HB.out.symm, (Below.refl _ w).alloc (Nat.le_refl _) _⟩
end Go.Proofs.YtaijjhddgecieaaDoor
