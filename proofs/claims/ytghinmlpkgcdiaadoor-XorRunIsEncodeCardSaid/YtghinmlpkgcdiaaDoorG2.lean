/- Fields: are all integers elements of the field? -/
import Derived.Test.YtghinmlpkgcdiaaDoorG1
namespace Go.Proofs.YtghinmlpkgcdiaaDoor
set_option linter.unusedSimpArgs false
set_option linter.unusedVariables false
open Go.RowKit Go.Lib

/-- is a no element of the field with 2^m elements (m is 8 or 16)? -/
def badE (m : Nat) (a : Int) : Bool := decide (a < 0) || decide ((2 : Int) ^ m ≤ a)
def okM (m : Int) : Bool := decide (m = 8) || decide (m = 16)
/-- m is a field's, and all of xs are elements -/
def allB (m : Int) (xs : List Int) : Bool := okM m && !(xs.any (badE m.toNat))
def ints (xs : List Int) : List Value := xs.map (Value.int .i64)
theorem badE_false {m : Nat} {a : Int} : badE m a = false ↔ 0 ≤ a ∧ a < 2 ^ m := by
  unfold badE
  rw [Bool.or_eq_false_iff, decide_eq_false_iff_not, decide_eq_false_iff_not]
  omega
theorem okM_iff {m : Int} : okM m = true ↔ ∃ n : Nat, Fld.IsM n ∧ m = n := by
  unfold okM Fld.IsM
  rw [Bool.or_eq_true, decide_eq_true_eq, decide_eq_true_eq]
  constructor
  · rintro (rfl | rfl)
    · exact ⟨8, .inl rfl, rfl⟩
    · exact ⟨16, .inr rfl, rfl⟩
  · rintro ⟨n, rfl | rfl, rfl⟩
    · exact .inl rfl
    · exact .inr rfl
theorem shr_bad {m : Nat} (hm : Fld.IsM m) {a : Int} (h : 0 ≤ a) : (a / 2 ^ m != 0) = badE m a := by
  rw [Bool.eq_iff_iff, bne_iff_ne]
  unfold badE
  rw [Bool.or_eq_true, decide_eq_true_eq, decide_eq_true_eq]
  rcases hm with rfl | rfl
  · have : (2 : Int) ^ 8 = 256 := by decide
    rw [this]; omega
  · have : (2 : Int) ^ 16 = 65536 := by decide
    rw [this]; omega

set_option maxRecDepth 100000 in
theorem allf_any (m : Nat) (hm : Fld.IsM m) (a : Int) (g : Nat) (w : World) (hg : Row w g 3 #[.int .i64 (m : Int)]) :
    Calls Tryd.prog 86 #[.int .i64 a, .pointer (some ⟨g, 0, none⟩)] w fun e w' => e = .returned (.bool (badE m a)) ∧ w' = w := by
  have hc : w.cell? ⟨g, 0, none⟩ = some (.int .i64 (m : Int)) := hg.cell 0
  have hlo : m ≤ 64 := by rcases hm with rfl | rfl <;> omega
  clear hg
  by_cases h0 : a < 0
  · have HB := Lib.hid (show badE m a = true by unfold badE; rw [decide_eq_true h0]; rfl)
    clear hm
    go_enter Tryd.func86, Tryd.ntmps86
    go_wp2
    go_ret
    exact ⟨ret_bool HB.out.symm, rfl⟩
  · have hge : 0 ≤ a := by omega
    have HB := Lib.hid (shr_bad hm hge)
    clear hm
    go_enter Tryd.func86, Tryd.ntmps86
    go_wp2
    go_ret
    exact ⟨ret_bool HB.out, rfl⟩

/-- what IndexFunc says: -1, or a place -/
def Found (b : Bool) (e : Ending) : Prop := (b = false ∧ e = .returned (.int .i64 (-1))) ∨ (b = true ∧ ∃ k : Nat, e = .returned (.int .i64 (k : Int)))
theorem any_take {p : Int → Bool} {xs : List Int} {k : Nat} {x : Int} (h : (xs.take k).any p = false) (hx : xs[k]? = some x) : (xs.take (k + 1)).any p = p x := by
  rw [List.take_add_one, hx, List.any_append, h]; simp
set_option maxRecDepth 100000 in
theorem alli_any (m : Nat) (hm : Fld.IsM m) (a : Option Addr) (n c : Nat) (xs : List Int) (g : Nat) (w : World) (hl : xs.length = n) (hn : n ≤ 9223372036854775807) (hr : Rd w w.heap.size a (ints xs)) (hg : Row w g 3 #[.int .i64 (m : Int)]) :
    Calls Tryd.prog 69 #[.slice a n c, .func (.func 86) #[] #[.pointer (some ⟨g, 0, none⟩)]] w fun e w' => Found (xs.any (badE m)) e ∧ w' = w := by
  have HR := Lib.hid hr
  have HG := Lib.hid hg
  have HM := Lib.hid hm
  have HL := Lib.hid hl
  clear hr hg hm hl
  go_enter Tryd.func69, Tryd.ntmps69
  go_wp2
  go_loopw [8] (fun i wr => wr = w ∧ ∃ k : Nat, k ≤ n ∧ i = .int .i64 k ∧ (xs.take k).any (badE m) = false) (fun i _ => n - (intOf i).toNat)
  case atStart => exact ⟨rfl, 0, by omega, rfl, rfl⟩
  case round =>
    obtain ⟨rfl, k, hk, rfl, ha⟩ := hrel
    have HA := Lib.hid ha
    clear ha
    by_cases hlt : k < n
    · obtain ⟨x, hx⟩ : ∃ x, xs[k]? = some x := ⟨_, List.getElem?_eq_getElem (by rw [HL.out]; exact hlt)⟩
      obtain ⟨b, off, rfl, hb, hc⟩ := HR.out k (.int .i64 x) (by rw [ints, List.getElem?_map, hx]; rfl)
      have HX := Lib.hid hx
      clear hx
      obtain ⟨bx, hbx⟩ : ∃ bx, badE m x = bx := ⟨_, rfl⟩
      have HBX := Lib.hid hbx
      clear hbx
      go_wp2_with fail
      refine (allf_any m HM.out x g _ HG.out).mono ?_
      rw [HBX.out]
      rintro e w1 ⟨rfl, rfl⟩
      cases bx
      · go_wp2
        go_roundw
        case rel => exact ⟨trivial, k + 1, by omega, by go_num, by rw [any_take HA.out HX.out]; exact HBX.out⟩
        case measure => simp [intOf]; omega
      · go_wp2
        go_ret
        refine ⟨.inr ⟨?_, k, rfl⟩, rfl⟩
        rw [List.any_eq_true]
        exact ⟨x, List.mem_of_getElem? HX.out, HBX.out⟩
    · have h1 : k = n := by omega
      have HA2 := Lib.hid (show xs.any (badE m) = false by
        have := HA.out
        rwa [List.take_of_length_le (by rw [HL.out]; omega)] at this)
      clear h1
      go_wp2
      go_ret
      exact ⟨.inl ⟨HA2.out, rfl⟩, rfl⟩
set_option maxRecDepth 100000 in
theorem allc_any (m : Nat) (hm : Fld.IsM m) (a : Option Addr) (n c : Nat) (xs : List Int) (g : Nat) (w : World) (hl : xs.length = n) (hn : n ≤ 9223372036854775807) (hr : Rd w w.heap.size a (ints xs)) (hg : Row w g 3 #[.int .i64 (m : Int)]) :
    Calls Tryd.prog 54 #[.slice a n c, .func (.func 86) #[] #[.pointer (some ⟨g, 0, none⟩)]] w fun e w' => e = .returned (.bool (xs.any (badE m))) ∧ w' = w := by
  have h := alli_any m hm a n c xs g w hl hn hr hg
  generalize xs.any (badE m) = b at h
  have H := Lib.hid h
  clear h hm hl hr hg
  go_enter Tryd.func54, Tryd.ntmps54
  go_wp2_with fail
  refine H.out.mono ?_
  rintro e w1 ⟨hf, rfl⟩
  rcases hf with ⟨rfl, rfl⟩ | ⟨rfl, k, rfl⟩
  · go_wp2
    go_ret
    exact ⟨rfl, rfl⟩
  · have hd : decide (0 ≤ (k : Int)) = true := by simp
    go_wp2
    go_ret
    exact ⟨rfl, rfl⟩
set_option maxRecDepth 100000 in
theorem all_any (m : Int) (a : Option Addr) (n c : Nat) (xs : List Int) (w : World) (ht : Tab w) (hl : xs.length = n) (hn : n ≤ 9223372036854775807) (hr : Rd w w.heap.size a (ints xs)) :
    Calls Tryd.prog 65 #[.int .i64 m, .slice a n c] w fun e w' => e = .returned (.bool (allB m xs)) ∧ Below w.heap.size w w' := by
  have HT := Lib.hid ht
  have HR := Lib.hid hr
  have HL := Lib.hid hl
  clear ht hr hl
  by_cases hm : okM m = true
  · obtain ⟨k, hk, rfl⟩ := okM_iff.1 hm
    have HA := Lib.hid (show allB (k : Int) xs = !(xs.any (badE k)) by rw [allB, hm]; simp)
    have HK := Lib.hid hk
    have hne : (modv (k : Int) != 0) = true := by rcases hk with rfl | rfl <;> rfl
    obtain ⟨mv, hmv⟩ : ∃ mv, modv (k : Int) = mv := ⟨_, rfl⟩
    have HV := Lib.hid hmv
    rw [hmv] at hne
    clear hmv hm hk
    go_enter Tryd.func65, Tryd.ntmps65
    go_wp2_with fail
    refine (modulus_any _ _ (HT.out.below ((Below.refl _ w).alloc (Nat.le_refl _) _) HT.out.lt)).mono ?_
    rw [HV.out]
    rintro e w1 ⟨rfl, hb⟩
    have HG := Lib.hid ((Row.new w 3 #[.int .i64 (k : Int)]).below hb (by simp))
    have HB := Lib.hid (below_call ((Below.refl _ w).alloc (Nat.le_refl _) _) hb)
    have hsz := HB.out.size
    clear hb
    go_wp2_with fail
    refine (allc_any k HK.out a n c xs w.heap.size _ HL.out hn ((HR.out.below HB.out).more hsz) HG.out).mono ?_
    rintro e w2 ⟨rfl, rfl⟩
    go_wp2
    go_ret
    exact ⟨ret_bool HA.out.symm, HB.out⟩
  · have HA := Lib.hid (show allB m xs = false by rw [allB, Bool.eq_false_iff.2 hm]; rfl)
    have hv : modv m = 0 := by
      unfold okM at hm
      rw [Bool.or_eq_true, decide_eq_true_eq, decide_eq_true_eq] at hm
      unfold modv
      rw [if_neg (by omega), if_neg (by omega)]
    have HV := Lib.hid hv
    clear hv hm
    go_enter Tryd.func65, Tryd.ntmps65
    go_wp2_with fail
    refine (modulus_any _ _ (HT.out.below ((Below.refl _ w).alloc (Nat.le_refl _) _) HT.out.lt)).mono ?_
    rw [HV.out]
    rintro e w1 ⟨rfl, hb⟩
    have HB := Lib.hid (below_call ((Below.refl _ w).alloc (Nat.le_refl _) _) hb)
    clear hb
    go_wp2
    go_ret
    exact ⟨ret_bool HA.out.symm, HB.out⟩
set_option maxRecDepth 100000 in
theorem valid_any (m a : Int) (w : World) (ht : Tab w) :
    Calls Tryd.prog 53 #[.int .i64 m, .int .i64 a] w fun e w' => e = .returned (.bool (allB m [a])) ∧ Below w.heap.size w w' := by
  have HT := Lib.hid ht
  clear ht
  go_enter Tryd.func53, Tryd.ntmps53
  go_wp2_with fail
  refine (all_any m _ 1 1 [a] _ (HT.out.next ((Below.refl _ w).alloc (Nat.le_refl _) _)) rfl (by omega) ((Rd.one w 3 (.int .i64 a)).more (by simp))).mono ?_
  rintro e w1 ⟨rfl, hb⟩
  have HB := Lib.hid (below_call ((Below.refl _ w).alloc (Nat.le_refl _) _) hb)
  clear hb
  go_wp2
  go_ret
  exact ⟨rfl, HB.out⟩
/-- a valid pair -/
theorem rd_two (w : World) (t : TypeId) (a b : Int) : Rd (w.alloc (.cells #[.int .i64 a, .int .i64 b] t)) (w.alloc (.cells #[.int .i64 a, .int .i64 b] t)).heap.size (some ⟨w.heap.size, 0, none⟩) (ints [a, b]) :=
  Rd.row (Row.new w t #[.int .i64 a, .int .i64 b]) (by simp) fun j v hv => by rw [← hv, ← Array.getElem?_toList]; rfl
theorem allB_one {m a : Nat} (hm : Fld.IsM m) (ha : a < 2 ^ m) : allB (m : Int) [(a : Int)] = true := by
  unfold allB
  rw [okM_iff.2 ⟨m, hm, rfl⟩]
  have : badE m (a : Int) = false := badE_false.2 ⟨by omega, by exact_mod_cast ha⟩
  simp [this]
theorem allB_two {m a b : Nat} (hm : Fld.IsM m) (ha : a < 2 ^ m) (hb : b < 2 ^ m) : allB (m : Int) [(a : Int), (b : Int)] = true := by
  unfold allB
  rw [okM_iff.2 ⟨m, hm, rfl⟩]
  have h1 : badE m (a : Int) = false := badE_false.2 ⟨by omega, by exact_mod_cast ha⟩
  have h2 : badE m (b : Int) = false := badE_false.2 ⟨by omega, by exact_mod_cast hb⟩
  simp [h1, h2]
theorem allB_get {m : Int} {xs : List Int} (h : allB m xs = true) : ∃ n : Nat, Fld.IsM n ∧ m = n ∧ ∀ x ∈ xs, ∃ y : Nat, x = y ∧ y < 2 ^ n := by
  unfold allB at h
  rw [Bool.and_eq_true] at h
  obtain ⟨n, hn, rfl⟩ := okM_iff.1 h.1
  refine ⟨n, hn, rfl, fun x hx => ?_⟩
  have h2 : xs.any (badE n) = false := by simpa using h.2
  rw [List.any_eq_false] at h2
  have := badE_false.1 (Bool.eq_false_iff.2 (h2 x hx))
  obtain ⟨y, rfl⟩ := Int.eq_ofNat_of_zero_le this.1
  exact ⟨y, rfl, by exact_mod_cast this.2⟩
end Go.Proofs.YtghinmlpkgcdiaaDoor
