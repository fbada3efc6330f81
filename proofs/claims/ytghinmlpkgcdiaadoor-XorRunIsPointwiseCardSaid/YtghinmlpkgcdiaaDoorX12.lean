/- Schedules: the program's Compile. -/
import Derived.Test.YtghinmlpkgcdiaaDoorX11
import Derived.Test.YtghinmlpkgcdiaaDoorX7
import Derived.Test.YtghinmlpkgcdiaaDoorXI
namespace Go.Proofs.YtghinmlpkgcdiaaDoor
set_option linter.unusedSimpArgs false
set_option linter.unusedVariables false
open Go.RowKit Go.Lib

def intsOf (rows : List (List Nat)) : List (List Int) := rows.map fun r => r.map fun (x : Nat) => (x : Int)
theorem intsOf_get {rows : List (List Nat)} {i : Nat} {r : List Nat} (h : rows[i]? = some r) : (intsOf rows)[i]? = some (r.map fun (x : Nat) => (x : Int)) := by
  unfold intsOf; rw [List.getElem?_map, h]; rfl
/-- a valid code, in natural numbers -/
theorem okC_get {f d : Int} {zss : List (List Int)} (h : Xp.okC f d zss = true) : ∃ (m D : Nat) (rows : List (List Nat)), f = m ∧ d = D ∧ Fld.IsM m ∧ 1 ≤ D ∧ D + rows.length ≤ 32 ∧ zss = intsOf rows ∧ ∀ r ∈ rows, r.length = D ∧ ∀ x ∈ r, x < 2 ^ m := by
  unfold Xp.okC at h
  simp only [Bool.and_eq_true, decide_eq_true_eq, Bool.or_eq_true] at h
  obtain ⟨⟨⟨⟨hf, hd⟩, hl⟩, hdl⟩, hall⟩ := h
  obtain ⟨m, hm, rfl⟩ : ∃ m : Nat, Fld.IsM m ∧ f = m := by
    rcases hf with rfl | rfl
    · exact ⟨8, .inl rfl, rfl⟩
    · exact ⟨16, .inr rfl, rfl⟩
  obtain ⟨D, rfl⟩ : ∃ D : Nat, d = D := ⟨d.toNat, by omega⟩
  have hrow : ∀ zs ∈ zss, zs.length = D ∧ ∀ x ∈ zs, 0 ≤ x ∧ x < 2 ^ m := fun zs hz => by
    have h1 := List.all_eq_true.1 hall zs hz
    unfold Xp.okRow at h1
    simp only [Bool.and_eq_true, beq_iff_eq] at h1
    refine ⟨by have := h1.1.1; omega, fun x hx => ?_⟩
    have h2 := List.all_eq_true.1 h1.1.2 x hx
    unfold allB at h2
    simp only [Bool.and_eq_true, List.any_cons, List.any_nil, Bool.or_false, Bool.not_eq_true', Int.toNat_natCast] at h2
    exact badE_false.1 h2.2
  refine ⟨m, D, zss.map fun zs => zs.map Int.toNat, rfl, rfl, hm, by omega, by rw [List.length_map]; omega, ?_, ?_⟩
  · unfold intsOf
    rw [List.map_map]
    conv => lhs; rw [← List.map_id zss]
    apply List.map_congr_left
    intro zs hz
    simp only [id, Function.comp, List.map_map]
    conv => lhs; rw [← List.map_id zs]
    apply List.map_congr_left
    intro x hx
    have := ((hrow zs hz).2 x hx).1
    simp only [id, Function.comp]
    omega
  · intro r hr
    obtain ⟨zs, hz, rfl⟩ := List.mem_map.1 hr
    refine ⟨by rw [List.length_map]; exact (hrow zs hz).1, fun x hx => ?_⟩
    obtain ⟨z, hzz, rfl⟩ := List.mem_map.1 hx
    obtain ⟨h1, h2⟩ := (hrow zs hz).2 z hzz
    have : ((2 ^ m : Nat) : Int) = (2 : Int) ^ m := by simp
    omega
theorem Fam.append {w : World} {B : Nat} {vs us : List Value} {ls ms : List (List Nat)} (h : Fam w B vs ls) (h2 : Fam w B us ms) (hx : ∀ (i j : Nat) (q q' : Option Addr) (n n' k k' : Nat), vs[i]? = some (.slice q n k) → us[j]? = some (.slice q' n' k') → Apart q q') : Fam w B (vs ++ us) (ls ++ ms) := by
  have hlen := h.len
  refine ⟨by simp [h.len, h2.len], fun i l hl => ?_, fun i j q q' n n' k k' hij hi hj => ?_⟩
  · by_cases e : i < ls.length
    · rw [List.getElem?_append_left e] at hl
      rw [List.getElem?_append_left (by omega)]
      exact h.own i l hl
    · rw [List.getElem?_append_right (by omega)] at hl
      rw [List.getElem?_append_right (by omega), hlen]
      exact h2.own _ l hl
  · by_cases e1 : i < vs.length <;> by_cases e2 : j < vs.length
    · rw [List.getElem?_append_left e1] at hi; rw [List.getElem?_append_left e2] at hj
      exact h.apart _ _ _ _ _ _ _ _ hij hi hj
    · rw [List.getElem?_append_left e1] at hi; rw [List.getElem?_append_right (by omega)] at hj
      exact hx _ _ _ _ _ _ _ _ hi hj
    · rw [List.getElem?_append_right (by omega)] at hi; rw [List.getElem?_append_left e2] at hj
      exact (hx _ _ _ _ _ _ _ _ hj hi).symm
    · rw [List.getElem?_append_right (by omega)] at hi; rw [List.getElem?_append_right (by omega)] at hj
      exact h2.apart _ _ _ _ _ _ _ _ (by omega) hi hj
theorem Fam.block {w : World} {B : Nat} {vs : List Value} {ls : List (List Nat)} (h : Fam w B vs ls) {i : Nat} {q : Option Addr} {n k : Nat} (hv : vs[i]? = some (.slice q n k)) {g : Nat} (hq : q = some ⟨g, 0, none⟩) : B ≤ g ∧ g < w.heap.size := by
  have hi : i < ls.length := by
    obtain ⟨h1, _⟩ := List.getElem?_eq_some_iff.1 hv
    rw [← h.len]; exact h1
  obtain ⟨q', k', e, ho⟩ := h.own i _ (List.getElem?_eq_getElem hi)
  rw [hv] at e
  injection e with e
  injection e with e1 _ _
  subst e1
  exact ho.lt hq
/-- older rows and newer ones -/
theorem Fam.join {w w' : World} {B : Nat} {vs us : List Value} {ls ms : List (List Nat)} (h : Fam w B vs ls) (hb : Below w.heap.size w w') (h2 : Fam w' w.heap.size us ms) (hB : B ≤ w.heap.size) : Fam w' B (vs ++ us) (ls ++ ms) :=
  (h.keeps (Keeps.of_below hb)).append (h2.mono hB) fun i j q q' n n' k k' hi hj g hq hq' => by
    have h3 := (h.block hi hq).2
    have h4 := (h2.block hj hq').1
    omega
set_option maxRecDepth 100000 in
theorem compile_no (nm : Value) (f d : Int) (qp : Option Addr) (np kp : Nat) (dom : Int) (zss : List (List Int)) (w : World) (ht : Tab w) (hr : Grid w w.heap.size qp np zss) (hnp : np ≤ 9223372036854775807) (hnm : nm.oneCell' = true) (h : Xp.okC f d zss = false) :
    Calls Tryd.prog 11 #[.agg (codC nm f d qp np kp dom)] w fun e w' => e = .returned (.tuple #[schV 0 0 0 none 0 0 none 0 0, .int .i64 1]) ∧ Below w.heap.size w w' := by
  have HV := Lib.hid (fun (W : World) (hb : Below w.heap.size w W) => evalid_any nm f d qp np kp dom zss W (ht.next hb) ((hr.below hb).more hb.size) hnp hnm)
  rw [h] at HV
  have HW : Hid (Below w.heap.size w ((w.alloc (.cells (codC nm f d qp np kp dom) 26)).alloc (.cells (schC 0 0 0 none 0 0 none 0 0) 30))) := Lib.hid (((Below.refl _ w).alloc (Nat.le_refl _) _).alloc (by simp) _)
  have HZ : Hid (Row ((w.alloc (.cells (codC nm f d qp np kp dom) 26)).alloc (.cells (schC 0 0 0 none 0 0 none 0 0) 30)) (w.heap.size + 1) 30 (schC 0 0 0 none 0 0 none 0 0)) := Lib.hid (Row.made _ _ (by simp))
  clear ht hr h
  go_enter Tryd.func11, Tryd.ntmps11
  go_wp2_with fail
  refine (HV.out _ HW.out).mono ?_
  rintro e w1 ⟨rfl, hb⟩
  have HB1 := Lib.hid (below_call HW.out hb)
  have HZ1 := Lib.hid (HZ.out.below hb HZ.out.lt)
  clear hb
  go_wp2_with (refine wpList_store_row rfl _ _ _ rfl (w.heap.size + 1) (schC 0 0 0 none 0 0 none 0 0) rfl rfl _ _ HZ1.out (by kernel_rfl) rfl (schC_one _ _ _ _ _ _ _ _ _) ?_)
  refine bodyPost_ret (v := .tuple #[schV 0 0 0 none 0 0 none 0 0, .int .i64 1]) ?_ rfl ⟨rfl, below_whole HB1.out (by omega) _⟩
  exact results_row_tmp rfl _ _ (w.heap.size + 1) _ _ _ _ rfl rfl (HZ1.out.whole _) Tryd.underlying30 (by rfl) (by kernel_rfl)
end Go.Proofs.YtghinmlpkgcdiaaDoor
