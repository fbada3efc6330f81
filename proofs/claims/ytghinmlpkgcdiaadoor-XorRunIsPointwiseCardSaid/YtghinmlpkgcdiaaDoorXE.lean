/- Schedules: the sets of a code, the plain words. Schedules: the program's Compile. Schedules: the program's Compile, the walk. Schedules: the bit planes of a unit, the plain words. Schedules: lists of bits of one's own, apart from one another. -/
import Derived.Test.YtghinmlpkgcdiaaDoorXD
import Derived.Test.YtghinmlpkgcdiaaDoorFld
import Derived.Test.YtghinmlpkgcdiaaDoorXB
import Derived.BigRegion
/-! Schedules: the sets of a code, the plain words. -/
set_option linter.unusedVariables false
namespace Go.Proofs.YtghinmlpkgcdiaaDoor
namespace Xp

/-- of the first T inputs, those in whose product with their coefficient bit k is set -/
def plane (m : Nat) (row : List Nat) (k T : Nat) : List Nat := (List.range T).filter fun t => (Fld.mul m (row[t / m]?.getD 0) (1 <<< (t % m))).testBit k
def planesTo (m : Nat) (row : List Nat) (T : Nat) : List (List Nat) := (List.range m).map fun k => plane m row k T
def planesAt (m : Nat) (row : List Nat) (T i : Nat) : List (List Nat) := (List.range m).map fun k => plane m row k (if k < i then T + 1 else T)
def planes (m : Nat) (row : List Nat) : List (List Nat) := planesTo m row (row.length * m)
/-- the sets that a code's parity units are made of -/
def csets (m : Nat) (rows : List (List Nat)) : List (List Nat) := rows.flatMap (planes m)
theorem planesTo_zero (m : Nat) (row : List Nat) : planesTo m row 0 = List.replicate m [] := by
  unfold planesTo plane
  simp [List.map_const']
theorem planesAt_zero (m : Nat) (row : List Nat) (T : Nat) : planesAt m row T 0 = planesTo m row T := by
  unfold planesAt planesTo; simp
theorem planesAt_end (m : Nat) (row : List Nat) (T : Nat) : planesAt m row T m = planesTo m row (T + 1) := by
  unfold planesAt planesTo
  apply List.map_congr_left
  intro k hk
  rw [if_pos (List.mem_range.1 hk)]
theorem plane_succ (m : Nat) (row : List Nat) (k T : Nat) : plane m row k (T + 1) = if (Fld.mul m (row[T / m]?.getD 0) (1 <<< (T % m))).testBit k then plane m row k T ++ [T] else plane m row k T := by
  unfold plane
  rw [List.range_succ, List.filter_append]
  by_cases h : (Fld.mul m (row[T / m]?.getD 0) (1 <<< (T % m))).testBit k
  · rw [if_pos h, List.filter_cons, if_pos h]; rfl
  · rw [if_neg h, List.filter_cons, if_neg h]; simp
theorem plane_length (m : Nat) (row : List Nat) (k T : Nat) : (plane m row k T).length ≤ T := by
  unfold plane; have := List.length_filter_le (fun t => (Fld.mul m (row[t / m]?.getD 0) (1 <<< (t % m))).testBit k) (List.range T); simpa using this
theorem planesAt_get {m : Nat} {row : List Nat} {T i : Nat} (h : i < m) : (planesAt m row T i)[i]? = some (plane m row i T) := by
  unfold planesAt
  rw [List.getElem?_map, List.getElem?_range h]
  simp
theorem planesAt_length (m : Nat) (row : List Nat) (T i : Nat) : (planesAt m row T i).length = m := by simp [planesAt]
theorem planes_length (m : Nat) (row : List Nat) : (planes m row).length = m := by simp [planes, planesTo]
theorem planesAt_keep {m : Nat} {row : List Nat} {T i : Nat} (h : (Fld.mul m (row[T / m]?.getD 0) (1 <<< (T % m))).testBit i = false) : planesAt m row T i = planesAt m row T (i + 1) := by
  unfold planesAt
  apply List.map_congr_left
  intro k hk
  by_cases e : k = i
  · subst e
    rw [if_neg (Nat.lt_irrefl _), if_pos (Nat.lt_succ_self _), plane_succ, h]; rfl
  · by_cases e2 : k < i
    · rw [if_pos e2, if_pos (by omega)]
    · rw [if_neg e2, if_neg (by omega)]
theorem planesAt_put {m : Nat} {row : List Nat} {T i : Nat} (hi : i < m) (h : (Fld.mul m (row[T / m]?.getD 0) (1 <<< (T % m))).testBit i = true) : (planesAt m row T i).set i (plane m row i T ++ [T]) = planesAt m row T (i + 1) := by
  apply List.ext_getElem?
  intro k
  rw [List.getElem?_set, planesAt_length]
  by_cases e : i = k
  · subst e
    rw [if_pos rfl, if_pos hi]
    unfold planesAt
    rw [List.getElem?_map, List.getElem?_range hi]
    simp only [Option.map_some]
    rw [if_pos (Nat.lt_succ_self _), plane_succ, if_pos h]
  · rw [if_neg e]
    unfold planesAt
    rw [List.getElem?_map, List.getElem?_map]
    by_cases hk : k < m
    · rw [List.getElem?_range hk]
      simp only [Option.map_some]
      by_cases e2 : k < i
      · rw [if_pos e2, if_pos (by omega)]
      · rw [if_neg e2, if_neg (by omega)]
    · rw [List.getElem?_eq_none (by simp; omega)]; rfl
theorem csets_take {m : Nat} {rows : List (List Nat)} {i : Nat} {r : List Nat} (h : rows[i]? = some r) : csets m (rows.take (i + 1)) = csets m (rows.take i) ++ planes m r := by
  unfold csets
  rw [List.take_add_one, h, List.flatMap_append]
  simp
theorem csets_length (m : Nat) (rows : List (List Nat)) : (csets m rows).length = rows.length * m := by
  unfold csets
  induction rows with
  | nil => simp
  | cons r rs ih => rw [List.flatMap_cons, List.length_append, ih, planes_length, List.length_cons, Nat.add_mul]; omega
theorem total_append (a b : List (List Nat)) : total (a ++ b) = total a + total b := by
  induction a with
  | nil => simp [total]
  | cons x a ih => show x.length + total (a ++ b) = x.length + total a + total b; omega
theorem total_le (ls : List (List Nat)) (b : Nat) (h : ∀ l ∈ ls, l.length ≤ b) : total ls ≤ ls.length * b := by
  induction ls with
  | nil => simp [total]
  | cons x a ih =>
    have h1 := h x (by simp)
    have h2 := ih (fun l hl => h l (by simp [hl]))
    show x.length + total a ≤ (a.length + 1) * b
    rw [Nat.add_mul]; omega
theorem csets_total (m D : Nat) (rows : List (List Nat)) (h : ∀ r ∈ rows, r.length = D) : total (csets m rows) ≤ rows.length * m * (D * m) := by
  have := total_le (csets m rows) (D * m) (fun l hl => by
    unfold csets at hl
    obtain ⟨r, hr, hl⟩ := List.mem_flatMap.1 hl
    unfold planes planesTo at hl
    obtain ⟨k, _, rfl⟩ := List.mem_map.1 hl
    rw [← h r hr]
    exact plane_length _ _ _ _)
  rwa [csets_length] at this
end Xp
end Go.Proofs.YtghinmlpkgcdiaaDoor
/-! Schedules: the program's Compile. -/
namespace Go.Proofs.YtghinmlpkgcdiaaDoor
set_option linter.unusedSimpArgs false
set_option linter.unusedVariables false
open Go.RowKit Go.Lib

def intsOf (rows : List (List Nat)) : List (List Int) := rows.map fun r => r.map fun (x : Nat) => (x : Int)
theorem intsOf_get {rows : List (List Nat)} {i : Nat} {r : List Nat} (h : rows[i]? = some r) : (intsOf rows)[i]? = some (r.map fun (x : Nat) => (x : Int)) := by
  unfold intsOf; rw [List.getElem?_map, h]; rfl
/-- a valid code, in natural numbers -/
theorem okC_get {f d : Int} {zss : List (List Int)} (h : Xp.okC f d zss = true) : ∃ (m D : Nat) (rows : List (List Nat)), f = m ∧ d = D ∧ Fld.IsM m ∧ 1 ≤ D ∧ D + rows.length ≤ 32 ∧ zss = intsOf rows ∧ ∀ r ∈ rows, r.length = D ∧ ∀ x ∈ r, x < 2 ^ m := by
  unfold Xp.okC at h
  simp only [Bool.and_eq_true, decide_eq_true_eq, Bool.or_eq_true] at h
  obtain ⟨⟨⟨⟨hf, hd⟩, hl⟩, hdl⟩, hall⟩ := h
  obtain ⟨m, hm, rfl⟩ : ∃ m : Nat, Fld.IsM m ∧ f = m := by
    rcases hf with rfl | rfl
    · exact ⟨8, .inl rfl, rfl⟩
    · exact ⟨16, .inr rfl, rfl⟩
  obtain ⟨D, rfl⟩ : ∃ D : Nat, d = D := ⟨d.toNat, by omega⟩
  have hrow : ∀ zs ∈ zss, zs.length = D ∧ ∀ x ∈ zs, 0 ≤ x ∧ x < 2 ^ m := fun zs hz => by
    have h1 := List.all_eq_true.1 hall zs hz
    unfold Xp.okRow at h1
    simp only [Bool.and_eq_true, beq_iff_eq] at h1
    refine ⟨by have := h1.1.1; omega, fun x hx => ?_⟩
    have h2 := List.all_eq_true.1 h1.1.2 x hx
    unfold allB at h2
    simp only [Bool.and_eq_true, List.any_cons, List.any_nil, Bool.or_false, Bool.not_eq_true', Int.toNat_natCast] at h2
    exact badE_false.1 h2.2
  refine ⟨m, D, zss.map fun zs => zs.map Int.toNat, rfl, rfl, hm, by omega, by rw [List.length_map]; omega, ?_, ?_⟩
  · unfold intsOf
    rw [List.map_map]
    conv => lhs; rw [← List.map_id zss]
    apply List.map_congr_left
    intro zs hz
    simp only [id, Function.comp, List.map_map]
    conv => lhs; rw [← List.map_id zs]
    apply List.map_congr_left
    intro x hx
    have := ((hrow zs hz).2 x hx).1
    simp only [id, Function.comp]
    omega
  · intro r hr
    obtain ⟨zs, hz, rfl⟩ := List.mem_map.1 hr
    refine ⟨by rw [List.length_map]; exact (hrow zs hz).1, fun x hx => ?_⟩
    obtain ⟨z, hzz, rfl⟩ := List.mem_map.1 hx
    obtain ⟨h1, h2⟩ := (hrow zs hz).2 z hzz
    have : ((2 ^ m : Nat) : Int) = (2 : Int) ^ m := by simp
    omega
theorem Fam.append {w : World} {B : Nat} {vs us : List Value} {ls ms : List (List Nat)} (h : Fam w B vs ls) (h2 : Fam w B us ms) (hx : ∀ (i j : Nat) (q q' : Option Addr) (n n' k k' : Nat), vs[i]? = some (.slice q n k) → us[j]? = some (.slice q' n' k') → Apart q q') : Fam w B (vs ++ us) (ls ++ ms) := by
  have hlen := h.len
  refine ⟨by simp [h.len, h2.len], fun i l hl => ?_, fun i j q q' n n' k k' hij hi hj => ?_⟩
  · by_cases e : i < ls.length
    · rw [List.getElem?_append_left e] at hl
      rw [List.getElem?_append_left (by omega)]
      exact h.own i l hl
    · rw [List.getElem?_append_right (by omega)] at hl
      rw [List.getElem?_append_right (by omega), hlen]
      exact h2.own _ l hl
  · by_cases e1 : i < vs.length <;> by_cases e2 : j < vs.length
    · rw [List.getElem?_append_left e1] at hi; rw [List.getElem?_append_left e2] at hj
      exact h.apart _ _ _ _ _ _ _ _ hij hi hj
    · rw [List.getElem?_append_left e1] at hi; rw [List.getElem?_append_right (by omega)] at hj
      exact hx _ _ _ _ _ _ _ _ hi hj
    · rw [List.getElem?_append_right (by omega)] at hi; rw [List.getElem?_append_left e2] at hj
      exact (hx _ _ _ _ _ _ _ _ hj hi).symm
    · rw [List.getElem?_append_right (by omega)] at hi; rw [List.getElem?_append_right (by omega)] at hj
      exact h2.apart _ _ _ _ _ _ _ _ (by omega) hi hj
theorem Fam.block {w : World} {B : Nat} {vs : List Value} {ls : List (List Nat)} (h : Fam w B vs ls) {i : Nat} {q : Option Addr} {n k : Nat} (hv : vs[i]? = some (.slice q n k)) {g : Nat} (hq : q = some ⟨g, 0, none⟩) : B ≤ g ∧ g < w.heap.size := by
  have hi : i < ls.length := by
    obtain ⟨h1, _⟩ := List.getElem?_eq_some_iff.1 hv
    rw [← h.len]; exact h1
  obtain ⟨q', k', e, ho⟩ := h.own i _ (List.getElem?_eq_getElem hi)
  rw [hv] at e
  injection e with e
  injection e with e1 _ _
  subst e1
  exact ho.lt hq
/-- older rows and newer ones -/
theorem Fam.join {w w' : World} {B : Nat} {vs us : List Value} {ls ms : List (List Nat)} (h : Fam w B vs ls) (hb : Below w.heap.size w w') (h2 : Fam w' w.heap.size us ms) (hB : B ≤ w.heap.size) : Fam w' B (vs ++ us) (ls ++ ms) :=
  (h.keeps (Keeps.of_below hb)).append (h2.mono hB) fun i j q q' n n' k k' hi hj g hq hq' => by
    have h3 := (h.block hi hq).2
    have h4 := (h2.block hj hq').1
    omega
set_option maxRecDepth 100000 in
theorem compile_no (nm : Value) (f d : Int) (qp : Option Addr) (np kp : Nat) (dom : Int) (zss : List (List Int)) (w : World) (ht : Tab w) (hr : Grid w w.heap.size qp np zss) (hnp : np ≤ 9223372036854775807) (hnm : nm.oneCell' = true) (h : Xp.okC f d zss = false) :
    Calls Tryd.prog 11 #[.agg (codC nm f d qp np kp dom)] w fun e w' => e = .returned (.tuple #[schV 0 0 0 none 0 0 none 0 0, .int .i64 1]) ∧ Below w.heap.size w w' := by
  have HV := Lib.hid (fun (W : World) (hb : Below w.heap.size w W) => evalid_any nm f d qp np kp dom zss W (ht.next hb) ((hr.below hb).more hb.size) hnp hnm)
  rw [h] at HV
  have HW : Hid (Below w.heap.size w ((w.alloc (.cells (codC nm f d qp np kp dom) 26)).alloc (.cells (schC 0 0 0 none 0 0 none 0 0) 30))) := Lib.hid (((Below.refl _ w).alloc (Nat.le_refl _) _).alloc (by simp) _)
  have HZ : Hid (Row ((w.alloc (.cells (codC nm f d qp np kp dom) 26)).alloc (.cells (schC 0 0 0 none 0 0 none 0 0) 30)) (w.heap.size + 1) 30 (schC 0 0 0 none 0 0 none 0 0)) := Lib.hid (Row.made _ _ (by simp))
  clear ht hr h
  go_enter Tryd.func11, Tryd.ntmps11
  go_wp2_with fail
  refine (HV.out _ HW.out).mono ?_
  rintro e w1 ⟨rfl, hb⟩
  have HB1 := Lib.hid (below_call HW.out hb)
  have HZ1 := Lib.hid (HZ.out.below hb HZ.out.lt)
  clear hb
  go_wp2_with (refine wpList_store_row rfl _ _ _ rfl (w.heap.size + 1) (schC 0 0 0 none 0 0 none 0 0) rfl rfl _ _ HZ1.out (by kernel_rfl) rfl (schC_one _ _ _ _ _ _ _ _ _) ?_)
  refine bodyPost_ret (v := .tuple #[schV 0 0 0 none 0 0 none 0 0, .int .i64 1]) ?_ rfl ⟨rfl, below_whole HB1.out (by omega) _⟩
  exact results_row_tmp rfl _ _ (w.heap.size + 1) _ _ _ _ rfl rfl (HZ1.out.whole _) Tryd.underlying30 (by rfl) (by kernel_rfl)
end Go.Proofs.YtghinmlpkgcdiaaDoor
/-! Schedules: the program's Compile, the walk. -/
namespace Go.Proofs.YtghinmlpkgcdiaaDoor
set_option linter.unusedSimpArgs false
set_option linter.unusedVariables false
open Go.RowKit Go.Lib

theorem testBit_div (P k : Nat) : P / 2 ^ k % 2 = if P.testBit k then 1 else 0 := by
  have e : P.testBit k = (P / 2 ^ k % 2 == 1) := by
    rw [Nat.testBit, Nat.shiftRight_eq_div_pow, Nat.and_comm, Nat.and_one_is_mod]
    rcases (show P / 2 ^ k % 2 = 0 ∨ P / 2 ^ k % 2 = 1 by omega) with h | h <;> rw [h] <;> rfl
  rw [e]
  rcases (show P / 2 ^ k % 2 = 0 ∨ P / 2 ^ k % 2 = 1 by omega) with h | h <;> rw [h] <;> rfl
theorem i64_bit (P k : Nat) (hP : P < 65536) : (bits .and .i64 ((P : Int) / 2 ^ k) 1 != 0) = P.testBit k := by
  have e : ((P : Int) / 2 ^ k) = ((P / 2 ^ k : Nat) : Int) := by simp
  have hd : P / 2 ^ k ≤ P := Nat.div_le_self _ _
  rw [e, i64_and1 _ (by omega), testBit_div]
  cases P.testBit k <;> rfl
set_option maxRecDepth 100000 in
set_option maxHeartbeats 12800000 in
theorem compile_yes {m D : Nat} (hm : Fld.IsM m) (nm : Value) (qp : Option Addr) (np kp : Nat) (dom : Int) (rows : List (List Nat)) (w : World) (ht : Tab w) (hr : Grid w w.heap.size qp np (intsOf rows)) (hnm : nm.oneCell' = true) (hD : 1 ≤ D) (hw32 : D + np ≤ 32) (hrows : ∀ r ∈ rows, r.length = D ∧ ∀ x ∈ r, x < 2 ^ m) (hok : Xp.okC m D (intsOf rows) = true) :
    Calls Tryd.prog 11 #[.agg (codC nm m D qp np kp dom)] w fun e w' => (∃ q k qx kx, e = .returned (.tuple #[schV m D np q (Xp.fin ((D * m : Nat) : Int) [] (Xp.csets m rows)).1.length k qx (np * m) kx, .int .i64 0]) ∧ OpsR w' w.heap.size q (Xp.fin ((D * m : Nat) : Int) [] (Xp.csets m rows)).1.length k (Xp.fin ((D * m : Nat) : Int) [] (Xp.csets m rows)).1 ∧ Own w' w.heap.size 3 qx (np * m) kx (ints (Xp.fin ((D * m : Nat) : Int) [] (Xp.csets m rows)).2)) ∧ Below w.heap.size w w' := by
  have HV := Lib.hid (fun (W : World) (hb : Below w.heap.size w W) => evalid_any nm m D qp np kp dom (intsOf rows) W (ht.next hb) ((hr.below hb).more hb.size) (by omega) hnm)
  rw [hok] at HV
  have HT := Lib.hid ht
  have HGR := Lib.hid hr
  have hnpl : rows.length = np := by have := hr.len; unfold intsOf at this; rwa [List.length_map] at this
  have HNP := Lib.hid hnpl
  have HROWS := Lib.hid hrows
  have hm16 : 8 ≤ m ∧ m ≤ 16 := by rcases hm with rfl | rfl <;> omega
  have HMM := Lib.hid hm
  have hDm : D * m ≤ 512 := by have := Nat.mul_le_mul (show D ≤ 32 by omega) hm16.2; omega
  have htot : Xp.total (Xp.csets m rows) ≤ 500000 := by
    have h1 := Xp.csets_total m D rows (fun r hr => (hrows r hr).1)
    have h2 : rows.length * m ≤ 512 := by have := Nat.mul_le_mul (show rows.length ≤ 32 by omega) hm16.2; omega
    have h3 := Nat.mul_le_mul h2 hDm
    omega
  have HCL := Lib.hid (show (Xp.csets m rows).length = np * m by rw [Xp.csets_length, hnpl])
  have hnm2 : np * m ≤ 512 := by have := Nat.mul_le_mul (show np ≤ 32 by omega) hm16.2; omega
  have HFI := Lib.hid (fun (W : World) (qs : Option Addr) (ks : Nat) (hs : RowsT W qs (np * m) (Xp.csets m rows)) => finish_any m D np W.heap.size none 0 0 [] qs (np * m) ks (Xp.csets m rows) ((D * m : Nat) : Int) W (by rw [← Int.natCast_mul, IntKind.wrap_i64] <;> omega) (by omega) (by omega) (OpsR.nil _ _) (Nat.le_refl _) hs hnm2 (by omega))
  obtain ⟨FO, hFO⟩ : ∃ FO, (Xp.fin ((D * m : Nat) : Int) [] (Xp.csets m rows)).1 = FO := ⟨_, rfl⟩
  obtain ⟨FU, hFU⟩ : ∃ FU, (Xp.fin ((D * m : Nat) : Int) [] (Xp.csets m rows)).2 = FU := ⟨_, rfl⟩
  rw [hFO, hFU] at HFI ⊢
  obtain ⟨FN, hFN⟩ : ∃ FN, FO.length = FN := ⟨_, rfl⟩
  rw [hFN] at HFI ⊢
  obtain ⟨NX, hNX⟩ : ∃ NX, np * m = NX := ⟨_, rfl⟩
  rw [hNX] at HFI HCL hnm2 ⊢
  have HNX := Lib.hid hNX
  have HMR := make_rows m (by omega)
  unfold schV at HFI ⊢
  have HW : Hid (Below w.heap.size w ((w.alloc (.cells (codC nm m D qp np kp dom) 26)).alloc (.cells (schC 0 0 0 none 0 0 none 0 0) 30))) := Lib.hid (((Below.refl _ w).alloc (Nat.le_refl _) _).alloc (by simp) _)
  have HC : Hid (Row ((w.alloc (.cells (codC nm m D qp np kp dom) 26)).alloc (.cells (schC 0 0 0 none 0 0 none 0 0) 30)) w.heap.size 26 (codC nm m D qp np kp dom)) := Lib.hid ((Row.new w _ _).alloc _)
  have HZ : Hid (Row ((w.alloc (.cells (codC nm m D qp np kp dom) 26)).alloc (.cells (schC 0 0 0 none 0 0 none 0 0) 30)) (w.heap.size + 1) 30 (schC 0 0 0 none 0 0 none 0 0)) := Lib.hid (Row.made _ _ (by simp))
  clear ht hr hrows hok hm htot hFO hFU hFN hNX hnpl
  go_enter Tryd.func11, Tryd.ntmps11
  go_wp2_with fail
  refine (HV.out _ HW.out).mono ?_
  rintro e w1 ⟨rfl, hb⟩
  have HB1 := Lib.hid (below_call HW.out hb)
  have HC1 := Lib.hid (HC.out.below hb HC.out.lt)
  have HZ1 := Lib.hid (HZ.out.below hb HZ.out.lt)
  have hz1 : w.heap.size + 1 < w1.heap.size := HZ1.out.lt
  obtain ⟨c0, c1, c2, c3, c4⟩ := cbox HC1.out
  clear hb HW HC HZ
  go_wp2_with fail
  clear c0 c1 c2 c3 c4
  go_loopw [5, 24] (fun s i wr => ∃ (t n : Nat) (q : Option Addr) (k : Nat) (vs : List Value), t ≤ np ∧ i = .int .i64 t ∧ s = .slice q n k ∧ Hid (n = t * m) ∧ Own wr w1.heap.size 27 q n k vs ∧ Fam wr w1.heap.size vs (Xp.csets m (rows.take t)) ∧ Below w1.heap.size w1 wr) (fun _ i _ => np - (intOf i).toNat)
  case atStart => exact ⟨0, 0, none, 0, [], Nat.zero_le _, rfl, rfl, Lib.hid (by simp), Own.nil _ _ _, Fam.nil _ _, Below.refl _ _⟩
  case round =>
    obtain ⟨t, n, q, k, vs, htn, rfl, rfl, hn, ho, hf, hb⟩ := hrel
    have HN := Lib.hid hn.out
    have HO := Lib.hid ho
    have HF := Lib.hid hf
    have HB := Lib.hid hb
    have hsw := hb.size
    obtain ⟨wo, rfl⟩ : ∃ wo : World, wo = wr := ⟨_, rfl⟩
    clear hn ho hf hb
    by_cases hlt : t < np
    · have hd : decide ((t : Int) < np) = true := decide_eq_true (by omega)
      obtain ⟨r, hrr⟩ : ∃ r, rows[t]? = some r := ⟨_, List.getElem?_eq_getElem (by rw [HNP.out]; exact hlt)⟩
      obtain ⟨hrl, hrx⟩ := HROWS.out r (List.mem_of_getElem? hrr)
      obtain ⟨bp, offp, qr, kr, rfl, hbp, hcr, _, hrd⟩ := (HGR.out.below (HB1.out.trans (HB.out.mono HB1.out.size))).row t _ (intsOf_get hrr)
      rw [List.length_map, hrl] at hcr
      have HRR := Lib.hid hrr
      have HRL := Lib.hid hrl
      have HRX := Lib.hid hrx
      have HRD := Lib.hid hrd
      have HOP := Lib.hid (show Own (wo.alloc (.cells (madeCells #[.slice none 0 0] m) 27)) wo.heap.size 27 (some ⟨wo.heap.size, 0, none⟩) m m (List.replicate m (.slice none 0 0)) from by
        have h9 := Own.new wo wo.heap.size 27 (madeCells #[.slice none 0 0] m) m (Nat.le_refl _) (by rw [← Array.length_toList, toList_madeCells_one, List.length_replicate]) (by unfold maxLen; omega)
        rwa [toList_madeCells_one] at h9)
      have HFP := Lib.hid (Fam.empty (wo.alloc (.cells (madeCells #[.slice none 0 0] m) 27)) wo.heap.size m)
      have hno : n ≤ 512 := by
        have h1 : t * m ≤ np * m := Nat.mul_le_mul_right _ (by omega)
        rw [HNX.out] at h1
        have := HN.out
        omega
      have hbq : bp < wo.heap.size := by have := HB1.out.size; omega
      clear hrr hrl hrx hrd
      go_wp2_with fail
      clear hcr
      go_loopw [32] (fun i wr => ∃ (j : Nat) (us : List Value), j ≤ D ∧ i = .int .i64 j ∧ Own wr wo.heap.size 27 (some ⟨wo.heap.size, 0, none⟩) m m us ∧ Fam wr wo.heap.size us (Xp.planesTo m r (j * m)) ∧ Below wo.heap.size wo wr) (fun i _ => D - (intOf i).toNat)
      case atStart => exact ⟨0, _, Nat.zero_le _, rfl, HOP.out, by rw [Nat.zero_mul, Xp.planesTo_zero]; exact HFP.out, (Below.refl _ _).alloc (Nat.le_refl _) _⟩
      case round =>
        obtain ⟨j, us, hjD, rfl, ho, hf, hb⟩ := hrel
        have HO2 := Lib.hid ho
        have HF2 := Lib.hid hf
        have HB2 := Lib.hid hb
        clear ho hf hb HOP HFP
        by_cases hjlt : j < D
        · have hd2 : decide ((j : Int) < D) = true := decide_eq_true (by omega)
          obtain ⟨X, hX⟩ : ∃ X, r[j]? = some X := ⟨_, List.getElem?_eq_getElem (by rw [HRL.out]; exact hjlt)⟩
          have HX := Lib.hid hX
          have HXB := Lib.hid (HRX.out X (List.mem_of_getElem? hX))
          obtain ⟨bq, oq, rfl, hbq2, hcx⟩ := ((HRD.out.more (show w.heap.size ≤ wo.heap.size by omega)).below HB2.out) j (.int .i64 (X : Int)) (by rw [ints, List.getElem?_map, List.getElem?_map, hX]; rfl)
          clear hX
          go_wp2_with fail
          clear hcx
          go_loopw [38] (fun i wr => ∃ (l : Nat) (us : List Value), l ≤ m ∧ i = .int .i64 l ∧ Own wr wo.heap.size 27 (some ⟨wo.heap.size, 0, none⟩) m m us ∧ Fam wr wo.heap.size us (Xp.planesTo m r (j * m + l)) ∧ Below wo.heap.size wo wr) (fun i _ => m - (intOf i).toNat)
          case atStart => exact ⟨0, us, Nat.zero_le _, rfl, HO2.out, HF2.out, HB2.out⟩
          case round =>
            obtain ⟨l, us3, hlm, rfl, ho, hf, hb⟩ := hrel
            have HO3 := Lib.hid ho
            have HF3 := Lib.hid hf
            have HB3 := Lib.hid hb
            clear ho hf hb
            by_cases hllt : l < m
            · have hd3 : decide ((l : Int) < m) = true := decide_eq_true (by omega)
              obtain ⟨Bs, hBs⟩ : ∃ Bs, 1 <<< l = Bs := ⟨_, rfl⟩
              have hwl : IntKind.i64.wrap ((2 : Int) ^ l) = (Bs : Int) := by
                rw [← hBs, Nat.one_shiftLeft, show (2 : Int) ^ l = ((2 ^ l : Nat) : Int) by simp, IntKind.wrap_i64]
                all_goals
                  have : (2 : Nat) ^ l ≤ 2 ^ 16 := Nat.pow_le_pow_right (by decide) (by omega)
                  generalize 2 ^ l = y at this ⊢
                  omega
              obtain ⟨P, hP⟩ : ∃ P, Fld.mul m X Bs = P := ⟨_, rfl⟩
              have HMU := Lib.hid (fun (W : World) (ht : Tab W) => fmul_yes m X Bs HMM.out HXB.out (by rw [← hBs, Nat.one_shiftLeft]; exact Nat.pow_lt_pow_right (by decide) hllt) W ht)
              rw [hP] at HMU
              unfold pairV at HMU
              have hPlt : P < 65536 := by
                have := Fld.mul_lt HMM.out Bs HXB.out
                rw [hP] at this
                rcases HMM.out with h | h <;> (rw [h] at this; omega)
              obtain ⟨T, hT⟩ : ∃ T, j * m + l = T := ⟨_, rfl⟩
              have HTT := Lib.hid hT
              have hT512 : T < 512 := by
                have h1 : (j + 1) * m ≤ D * m := Nat.mul_le_mul_right _ (by omega)
                rw [Nat.add_mul] at h1
                omega
              have HBIT := Lib.hid (show Fld.mul m (r[T / m]?.getD 0) (1 <<< (T % m)) = P by
                rw [← hT, Nat.mul_comm j m, Nat.mul_add_div (by omega), Nat.div_eq_of_lt hllt, Nat.add_zero, HX.out, Nat.mul_add_mod, Nat.mod_eq_of_lt hllt, hBs]
                exact hP)
              have HTW := Lib.hid (HT.out.next ((HB1.out.trans (HB.out.mono HB1.out.size)).trans (HB3.out.mono (by have := HB1.out.size; omega))))
              rw [hT] at HF3
              clear hBs hP hT
              go_wp2_with fail
              refine (HMU.out _ HTW.out).mono ?_
              rintro e w4 ⟨rfl, hb4⟩
              have HO4 := Lib.hid (HO3.out.below hb4)
              have HF4 := Lib.hid (HF3.out.keeps (Keeps.of_below hb4))
              have HB4 := Lib.hid (below_call HB3.out (by exact hb4))
              clear hb4
              go_wp2_with fail
              go_loopw [51] (fun i wr => ∃ (k2 : Nat) (us : List Value), k2 ≤ m ∧ i = .int .i64 k2 ∧ Own wr wo.heap.size 27 (some ⟨wo.heap.size, 0, none⟩) m m us ∧ Fam wr wo.heap.size us (Xp.planesAt m r T k2) ∧ Below wo.heap.size wo wr) (fun i _ => m - (intOf i).toNat)
              case atStart => exact ⟨0, us3, Nat.zero_le _, rfl, HO4.out, by rw [Xp.planesAt_zero]; exact HF4.out, HB4.out⟩
              case round =>
                obtain ⟨k2, us4, hk2, rfl, ho, hf, hb⟩ := hrel
                have HO5 := Lib.hid ho
                have HF5 := Lib.hid hf
                have HB5 := Lib.hid hb
                have hsz := hb.size
                clear ho hf hb
                by_cases hk2m : k2 < m
                · have hd4 : decide ((k2 : Int) < m) = true := decide_eq_true (by omega)
                  obtain ⟨b, hb⟩ : ∃ b, P.testBit k2 = b := ⟨_, rfl⟩
                  have hbt : (bits .and .i64 ((P : Int) / 2 ^ k2) 1 != 0) = b := by rw [i64_bit P k2 hPlt, hb]
                  have HBB := Lib.hid (show (Fld.mul m (r[T / m]?.getD 0) (1 <<< (T % m))).testBit k2 = b by rw [HBIT.out, hb])
                  clear hb
                  cases b
                  · have HF6 := HF5.out
                    rw [Xp.planesAt_keep HBB.out] at HF6
                    have HF7 := Lib.hid HF6
                    clear HF6
                    go_wp2_with fail
                    go_roundw
                    case rel => exact ⟨k2 + 1, us4, by omega, by go_num, HO5.out, HF7.out, HB5.out⟩
                    case measure => simp [intOf]; omega
                  · obtain ⟨pl, hpl⟩ : ∃ pl, Xp.plane m r k2 T = pl := ⟨_, rfl⟩
                    have HPG := Lib.hid (show (Xp.planesAt m r T k2)[k2]? = some pl by rw [Xp.planesAt_get hk2m, hpl])
                    have HPP := Lib.hid (show (Xp.planesAt m r T k2).set k2 (pl ++ [T]) = Xp.planesAt m r T (k2 + 1) by rw [← hpl]; exact Xp.planesAt_put hk2m HBB.out)
                    have hpll : pl.length ≤ 512 := by have := Xp.plane_length m r k2 T; rw [hpl] at this; omega
                    obtain ⟨J, hJ⟩ : ∃ J, j * m = J := ⟨_, rfl⟩
                    have hw1 : IntKind.i64.wrap ((j : Int) * (m : Int)) = (J : Int) := by rw [← Int.natCast_mul, hJ, IntKind.wrap_i64] <;> (have := HTT.out; omega)
                    have hw2 : IntKind.i64.wrap ((J : Int) + (l : Int)) = (T : Int) := by rw [← hJ, ← Int.natCast_add, HTT.out, IntKind.wrap_i64] <;> omega
                    obtain ⟨q5, k5, hvj, hoj⟩ := HF5.out.own k2 pl HPG.out
                    have HVJ := Lib.hid hvj
                    have HOJ := Lib.hid (hoj.alloc (.cells #[.int .i64 (T : Int)] 3))
                    have HFA := Lib.hid (HF5.out.keeps ((Keeps.refl 3 wr).alloc (.cells #[.int .i64 (T : Int)] 3)))
                    have HOA := Lib.hid (HO5.out.alloc (.cells #[.int .i64 (T : Int)] 3))
                    have HBA := Lib.hid (HB5.out.alloc hsz (.cells #[.int .i64 (T : Int)] 3))
                    obtain ⟨L, hL⟩ : ∃ L, pl.length = L := ⟨_, rfl⟩
                    have HL := Lib.hid hL
                    obtain ⟨gz, egz, _, _, hcz, hfz⟩ := HO5.out.at_ hk2m
                    obtain rfl : wo.heap.size = gz := by injection egz with egz; injection egz
                    rw [hvj, hL] at hcz
                    rw [hL] at HOJ hpll
                    clear hpl hvj hoj hL egz hJ
                    go_wp2_with (refine wpList_app2 _ rfl (.tmp 64) (.tmp 70) 27 rfl wo.heap.size 3 (.int .i64 0) 8 Tryd.underlying27 elem_ints rfl q5 L k5 (nts pl) rfl HOJ.out _ (some ⟨wr.heap.size, 0, none⟩) 1 1 [.int .i64 (T : Int)] rfl (Rd.one wr _ _) rfl (by intro u hu; simp only [List.mem_singleton] at hu; subst hu; rfl) (by unfold maxLen; omega) (by omega) (by rw [size1]; omega) ?_; intro a6 k6 w6 ho6 hg6 hn6; have HO7 := Lib.hid (HOA.out.keeps_grown hg6 HOJ.out (by decide)); have HB7 := Lib.hid (below_grown2 HBA.out hg6 HOJ.out (by rw [size1]; omega) (Nat.le_refl _)); have HF7 := Lib.hid (fam_app HFA.out HPG.out HVJ.out HL.out hg6 ho6 hn6); obtain ⟨gz, egz, _, _, hcz2, hfz2⟩ := HO7.out.at_ hk2m; (obtain rfl : wo.heap.size = gz := by (injection egz with egz; injection egz)); rw [HVJ.out] at hcz2; clear ho6 hg6 hn6 egz hcz hfz)
                    obtain ⟨cs7, hrow7, _⟩ := HO7.out.row rfl
                    have HO8 := Lib.hid (HO7.out.put hk2m (.slice a6 (L + 1) k6))
                    have HF8 := HF7.out.keeps ((Keeps.refl 3 w6).put (p := ⟨wo.heap.size, k2, none⟩) hrow7 (by decide) (.slice a6 (L + 1) k6))
                    rw [HPP.out] at HF8
                    have HF9 := Lib.hid HF8
                    have HB8 := Lib.hid (HB7.out.setCell (p := ⟨wo.heap.size, k2, none⟩) (Nat.le_refl _) (.slice a6 (L + 1) k6))
                    clear hrow7 HF8
                    go_roundw
                    case rel => exact ⟨k2 + 1, _, by omega, by go_num, HO8.out, HF9.out, HB8.out⟩
                    case measure => simp [intOf]; omega
                · have hd4 : decide ((k2 : Int) < m) = false := decide_eq_false (by omega)
                  have HF6 := HF5.out
                  rw [show k2 = m by omega, Xp.planesAt_end, ← HTT.out] at HF6
                  have HF7 := Lib.hid HF6
                  clear HF6
                  go_wp2_with fail
                  go_roundw
                  case rel => exact ⟨l + 1, us4, by omega, by go_num, HO5.out, HF7.out, HB5.out⟩
                  case measure => simp [intOf]; omega
            · have hd3 : decide ((l : Int) < m) = false := decide_eq_false (by omega)
              have HF6 := HF3.out
              rw [show j * m + l = (j + 1) * m by rw [Nat.add_mul]; omega] at HF6
              have HF7 := Lib.hid HF6
              clear HF6
              go_wp2_with fail
              go_roundw
              case rel => exact ⟨j + 1, us3, by omega, by go_num, HO3.out, HF7.out, HB3.out⟩
              case measure => simp [intOf]; omega
        · have hd2 : decide ((j : Int) < D) = false := decide_eq_false (by omega)
          have HF6 := HF2.out
          rw [show Xp.planesTo m r (j * m) = Xp.planes m r by unfold Xp.planes; rw [HRL.out, show j = D by omega]] at HF6
          have HF7 := Lib.hid (HF.out.join HB2.out HF6 hsw)
          rw [← Xp.csets_take HRR.out] at HF7
          have HUS := Lib.hid HF6.one
          have HOW := Lib.hid (HO.out.below HB2.out)
          have HULEN := Lib.hid (show us.length = m by rw [HF6.len, Xp.planes_length])
          clear HF6
          go_wp2_with (refine wpList_app _ rfl (.tmp 76) (.tmp 77) 24 rfl w1.heap.size 27 (.slice none 0 0) 24 Tryd.underlying24 elem_rows rfl q n k vs rfl HOW.out _ (some ⟨wo.heap.size, 0, none⟩) m m us rfl HO2.out.rd HULEN.out HUS.out (by unfold maxLen; omega) (by omega) (by have := HB2.out.size; omega) ?_; intro a9 k9 w9 ho9 hg9; have HO9 := Lib.hid ho9; have HB9 := Lib.hid (below_grown2 (HB.out.trans (HB2.out.mono hsw)) hg9 HOW.out (by have := HB2.out.size; omega) (Nat.le_refl _)); have HF9 := Lib.hid (HF7.out.keeps ((Keeps.refl 3 wr).grown HOW.out hg9 (by decide))); clear ho9 hg9)
          go_roundw
          case rel => exact ⟨t + 1, n + m, a9, k9, _, by omega, by go_num, rfl, Lib.hid (by rw [HN.out, Nat.add_mul, Nat.one_mul]), HO9.out, HF9.out, HB9.out⟩
          case measure => simp [intOf]; omega
    · have hd : decide ((t : Int) < np) = false := decide_eq_false (by omega)
      have htn2 : t = np := by omega
      obtain rfl : n = NX := by rw [HN.out, ← HNX.out, htn2]
      have HF2 := HF.out
      rw [List.take_of_length_le (by rw [HNP.out]; omega)] at HF2
      have HRT := Lib.hid (RowsT.of HO.out HF2)
      have HBW := Lib.hid (HB1.out.trans (HB.out.mono HB1.out.size))
      have HC2 := Lib.hid (HC1.out.below HB.out HC1.out.lt)
      have HZ2 := Lib.hid (HZ1.out.below HB.out HZ1.out.lt)
      obtain ⟨c0, c1, c2, c3, c4⟩ := cbox HC2.out
      clear htn2 HF2
      go_wp2_with fail
      refine (HFI.out _ _ _ HRT.out).mono ?_
      rintro e w5 ⟨⟨q5, k5, qx5, kx5, rfl, ho5, hx5, _⟩, hon⟩
      have HB5 := Lib.hid (show Below wo.heap.size wo w5 from hon.below (Nat.le_refl _) (fun k hk => by
        rcases hk with hk | hk
        · cases hk
        · exact hk))
      have HO5 := Lib.hid ho5
      have HX5 := Lib.hid hx5
      have HZ5 := Lib.hid (HZ2.out.below HB5.out HZ2.out.lt)
      have hz5 := HZ2.out.lt
      clear ho5 hx5 hon c0 c1 c2 c3 c4
      go_wp2_with (refine wpList_store_row rfl _ _ _ rfl (w.heap.size + 1) (schC m D np q5 FN k5 qx5 n kx5) rfl rfl _ _ HZ5.out (by kernel_rfl) rfl (schC_one _ _ _ _ _ _ _ _ _) ?_)
      refine bodyPost_ret (v := .tuple #[.agg (schC m D np q5 FN k5 qx5 n kx5), .int .i64 0]) ?_ rfl ⟨⟨q5, k5, qx5, kx5, rfl, ?_, ?_⟩, below_whole (below_call HBW.out HB5.out) (by omega) _⟩
      · exact results_row_tmp rfl _ _ (w.heap.size + 1) _ _ _ _ rfl rfl (HZ5.out.whole _) Tryd.underlying30 (by rfl) (by kernel_rfl)
      · exact (HO5.out.mono (by omega)).kept fun g hg => setRow_other _ _ _ _ (fun e => by
          have h9 := (HO5.out.lt hg).1
          omega)
      · exact (Own.mono HX5.out (by omega)).kept fun g hg => setRow_other _ _ _ _ (fun e => by
          have h9 := (HX5.out.lt hg).1
          omega)
end Go.Proofs.YtghinmlpkgcdiaaDoor
/-! Schedules: the bit planes of a unit, the plain words. -/
set_option linter.unusedVariables false
namespace Go.Proofs.YtghinmlpkgcdiaaDoor
namespace Xp

/-- where the bits of byte i stand in its symbol -/
def high (m i : Nat) : Nat := 8 * (m / 8 - 1 - i % (m / 8))
/-- plane K of the first i bytes -/
def plTo (m : Nat) (f : Nat → Nat) (K : Nat) : Nat → Nat
  | 0 => 0
  | i + 1 => if high m i ≤ K ∧ K < high m i + 8 then plTo m f K i ||| (f i / 2 ^ (K - high m i) % 2) <<< (i / (m / 8)) else plTo m f K i
/-- plane K of the first i bytes, and of k bits of the next -/
def plPart (m : Nat) (f : Nat → Nat) (i k K : Nat) : Nat := if high m i ≤ K ∧ K < high m i + k then plTo m f K i ||| (f i / 2 ^ (K - high m i) % 2) <<< (i / (m / 8)) else plTo m f K i
theorem plPart_zero (m : Nat) (f : Nat → Nat) (i K : Nat) : plPart m f i 0 K = plTo m f K i := by
  unfold plPart; rw [if_neg (by omega)]
theorem plPart_end (m : Nat) (f : Nat → Nat) (i K : Nat) : plPart m f i 8 K = plTo m f K (i + 1) := rfl
theorem plPart_far {m : Nat} {f : Nat → Nat} {i k K : Nat} (h : K ≠ high m i + k) : plPart m f i (k + 1) K = plPart m f i k K := by
  unfold plPart
  by_cases e : high m i ≤ K ∧ K < high m i + k
  · rw [if_pos e, if_pos (by omega)]
  · rw [if_neg e, if_neg (by omega)]
theorem plPart_at {m : Nat} {f : Nat → Nat} {i k : Nat} : plPart m f i k (high m i + k) = plTo m f (high m i + k) i := by
  unfold plPart; rw [if_neg (by omega)]
theorem plPart_put {m : Nat} {f : Nat → Nat} {i k : Nat} : plPart m f i (k + 1) (high m i + k) = plTo m f (high m i + k) i ||| (f i / 2 ^ k % 2) <<< (i / (m / 8)) := by
  unfold plPart; rw [if_pos (by omega), Nat.add_sub_cancel_left]
def plList (m : Nat) (f : Nat → Nat) (i k : Nat) : List Nat := (List.range m).map (plPart m f i k)
theorem plList_get {m : Nat} {f : Nat → Nat} {i k K : Nat} (h : K < m) : (plList m f i k)[K]? = some (plPart m f i k K) := by
  unfold plList; rw [List.getElem?_map, List.getElem?_range h]; rfl
theorem plList_set {m : Nat} {f : Nat → Nat} {i k v : Nat} (h : high m i + k < m) (hv : plPart m f i (k + 1) (high m i + k) = v) : (plList m f i k).set (high m i + k) v = plList m f i (k + 1) := by
  apply List.ext_getElem?
  intro K
  rw [List.getElem?_set]
  by_cases hK : K < m
  · rw [plList_get hK, plList_get hK]
    have hlen : (plList m f i k).length = m := by simp [plList]
    rw [hlen]
    by_cases e : high m i + k = K
    · subst e; rw [if_pos rfl, if_pos h, hv]
    · rw [if_neg e, plPart_far (fun e2 => e e2.symm)]
  · have h1 : (plList m f i k)[K]? = none := List.getElem?_eq_none (by simp [plList]; omega)
    have h2 : (plList m f i (k + 1))[K]? = none := List.getElem?_eq_none (by simp [plList]; omega)
    rw [h1, h2, if_neg (by omega)]
theorem plList_next (m : Nat) (f : Nat → Nat) (i : Nat) : plList m f i 8 = plList m f (i + 1) 0 := by
  unfold plList
  apply List.map_congr_left
  intro K _
  rw [plPart_end, plPart_zero]
theorem plList_zero (m : Nat) (f : Nat → Nat) : plList m f 0 0 = List.replicate m 0 := by
  unfold plList
  rw [List.eq_replicate_iff]
  refine ⟨by simp, fun b hb => ?_⟩
  obtain ⟨K, _, rfl⟩ := List.mem_map.1 hb
  rw [plPart_zero]; rfl
theorem high_lt {m i k : Nat} (hm : m = 8 ∨ m = 16) (hk : k < 8) : high m i + k < m := by
  unfold high
  rcases hm with rfl | rfl
  · omega
  · have := Nat.mod_lt i (show (16 / 8) > 0 by decide); omega
end Xp
end Go.Proofs.YtghinmlpkgcdiaaDoor
/-! Schedules: lists of bits of one's own, apart from one another. -/
namespace Go.Proofs.YtghinmlpkgcdiaaDoor
set_option linter.unusedSimpArgs false
set_option linter.unusedVariables false
open Go.RowKit Go.Lib

structure FamW (w : World) (B W : Nat) (vs : List Value) (ns : List Nat) : Prop where
  len : vs.length = ns.length
  own : ∀ (i n : Nat), ns[i]? = some n → ∃ q k, vs[i]? = some (.slice q W k) ∧ Own w B 85 q W k (wordsL W (Xp.word n))
  apart : ∀ (i j : Nat) (q q' : Option Addr) (k k' : Nat), i ≠ j → vs[i]? = some (.slice q W k) → vs[j]? = some (.slice q' W k') → Apart q q'
section
variable {w w' : World} {B W : Nat} {vs : List Value} {ns : List Nat}
theorem FamW.keeps (h : FamW w B W vs ns) (hk : Keeps 85 w w') : FamW w' B W vs ns :=
  ⟨h.len, fun i n hn => by obtain ⟨q, k, h1, h2⟩ := h.own i n hn; exact ⟨q, k, h1, h2.keeps hk⟩, h.apart⟩
theorem FamW.nil (w : World) (B W : Nat) : FamW w B W [] [] := ⟨rfl, fun i n h => by simp at h, fun i j q q' k k' _ h => by simp at h⟩
theorem FamW.drew (h : FamW w B W vs ns) : FamW w.drew B W vs ns := ⟨h.len, h.own, h.apart⟩
theorem FamW.regs (h : FamW w B W vs ns) : RegsOf w W vs ns :=
  ⟨h.len, fun i m hm => by
    obtain ⟨q, k, e, ho⟩ := h.own i m hm
    exact ⟨_, e, Bit.of_own ho (fun _ _ => rfl)⟩⟩
theorem FamW.mono (h : FamW w B W vs ns) {B' : Nat} (hB : B' ≤ B) : FamW w B' W vs ns :=
  ⟨h.len, fun i n hn => by obtain ⟨q, k, h1, h2⟩ := h.own i n hn; exact ⟨q, k, h1, h2.mono hB⟩, h.apart⟩
theorem FamW.snoc (h : FamW w B W vs ns) {q : Option Addr} {k n : Nat} (ho : Own w B 85 q W k (wordsL W (Xp.word n))) (hn : ∀ (j : Nat) (q2 : Option Addr) (k2 : Nat), vs[j]? = some (.slice q2 W k2) → Apart q2 q) : FamW w B W (vs ++ [.slice q W k]) (ns ++ [n]) := by
  refine ⟨by simp [h.len], fun j m hm => ?_, fun j1 j2 q1 q2 k1 k2 hij h1 h2 => ?_⟩
  · by_cases hj : j < ns.length
    · rw [List.getElem?_append_left hj] at hm
      obtain ⟨q2, k2, e2, ho2⟩ := h.own j m hm
      exact ⟨q2, k2, by rw [List.getElem?_append_left (by rw [h.len]; exact hj)]; exact e2, ho2⟩
    · rw [List.getElem?_append_right (by omega)] at hm
      by_cases e : j - ns.length = 0
      · rw [e] at hm
        simp only [List.getElem?_cons_zero, Option.some.injEq] at hm
        subst hm
        exact ⟨q, k, by rw [List.getElem?_append_right (by rw [h.len]; omega), h.len, e]; rfl, ho⟩
      · rw [List.getElem?_eq_none (by simp; omega)] at hm; cases hm
  · have hx : ∀ (j : Nat) (v : Value), (vs ++ [.slice q W k])[j]? = some v → vs[j]? = some v ∨ (j = vs.length ∧ v = .slice q W k) := fun j v hv => by
      by_cases hj : j < vs.length
      · rw [List.getElem?_append_left hj] at hv; exact .inl hv
      · rw [List.getElem?_append_right (by omega)] at hv
        by_cases e : j - vs.length = 0
        · rw [e] at hv
          simp only [List.getElem?_cons_zero, Option.some.injEq] at hv
          exact .inr ⟨by omega, hv.symm⟩
        · rw [List.getElem?_eq_none (by simp; omega)] at hv; cases hv
    rcases hx _ _ h1 with h3 | ⟨e1, h3⟩ <;> rcases hx _ _ h2 with h4 | ⟨e2, h4⟩
    · exact h.apart _ _ _ _ _ _ hij h3 h4
    · injection h4 with h4; subst h4; exact hn _ _ _ h3
    · injection h3 with h3; subst h3; exact (hn _ _ _ h4).symm
    · omega
theorem FamW.block (h : FamW w B W vs ns) {i : Nat} {q : Option Addr} {k : Nat} (hv : vs[i]? = some (.slice q W k)) {g : Nat} (hq : q = some ⟨g, 0, none⟩) : B ≤ g ∧ g < w.heap.size := by
  have hi : i < ns.length := by
    obtain ⟨h1, _⟩ := List.getElem?_eq_some_iff.1 hv
    rw [← h.len]; exact h1
  obtain ⟨q', k', e, ho⟩ := h.own i _ (List.getElem?_eq_getElem hi)
  rw [hv] at e
  injection e with e
  injection e with e1 _ _
  subst e1
  exact ho.lt hq
/-- one word of one list is written -/
theorem FamW.put (h : FamW w B W vs ns) {i n n' p v g k : Nat} (hn : ns[i]? = some n) (hv : vs[i]? = some (.slice (some ⟨g, 0, none⟩) W k)) (hp : p < W) (hw : ∀ p', Xp.word n' p' = if p' = p then v else Xp.word n p') :
    FamW (w.setCell ⟨g, p, none⟩ (.int .u64 (v : Int))) B W vs (ns.set i n') := by
  obtain ⟨hi, _⟩ := List.getElem?_eq_some_iff.1 hn
  refine ⟨by simp [h.len], fun j m hm => ?_, h.apart⟩
  rw [List.getElem?_set] at hm
  by_cases e : i = j
  · subst e
    rw [if_pos rfl, if_pos hi] at hm
    injection hm with hm
    subst hm
    obtain ⟨q0, k0, e0, ho0⟩ := h.own i n hn
    rw [hv] at e0
    injection e0 with e0
    injection e0 with e1 _ e2
    subst e1; subst e2
    refine ⟨_, _, hv, ?_⟩
    have := ho0.put hp (.int .u64 (v : Int))
    rw [wordsL_set] at this
    rwa [wordsL_congr (f' := Xp.word n')] at this
    intro p' _
    exact (hw p').symm
  · rw [if_neg e] at hm
    obtain ⟨q0, k0, e0, ho0⟩ := h.own j m hm
    exact ⟨q0, k0, e0, ho0.far (fun g2 hg2 eq => by
      have h9 := h.apart i j _ _ _ _ e hv e0 g rfl
      rw [hg2] at h9
      have eq2 : g2 = g := eq
      rw [eq2] at h9
      exact h9 rfl) _⟩
end
set_option maxRecDepth 100000 in
theorem make_lists (m : Nat) (hm : m ≤ 100000) (u : World) : (Instr.makeSlice 76 (.int .i64 (m : Int)) (.int .i64 (m : Int))).run Tryd.prog u =
    .ok (.slice (some ⟨u.heap.size, 0, none⟩) m m) (u.alloc (.cells (madeCells #[.slice none 0 0] m) 80)) := by
  obtain ⟨i0, hi, hz0, hz1, hz2⟩ := info_parts (show (Tryd.prog.info? 80).map (fun i => (i.zero, i.size, i.bytes)) = some (some (.slice none 0 0), 1, 24) by kernel_rfl)
  have h := run_make (P := Tryd.prog) u 76 80 i0 (.slice none 0 0) Tryd.underlying76 hi hz0 .i64 .i64 (m : Int) (m : Int) (by omega) (Int.le_refl _) (by rw [hz2]; omega) (by omega)
  have e : (m : Int).toNat = m := by omega
  rw [e] at h
  simpa [hz1, Value.cells] using h
end Go.Proofs.YtghinmlpkgcdiaaDoor
