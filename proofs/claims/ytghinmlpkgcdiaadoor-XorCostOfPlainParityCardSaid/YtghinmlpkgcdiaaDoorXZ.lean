/- Schedules: Compile, the program's and the specification's, in one form. -/
import Derived.Test.YtghinmlpkgcdiaaDoorXY
import Derived.Test.YtghinmlpkgcdiaaDoorP1
namespace Go.Proofs.YtghinmlpkgcdiaaDoor
set_option linter.unusedSimpArgs false
set_option linter.unusedVariables false
open Go.RowKit Go.Lib

theorem own_capM {w : World} {B : Nat} {e : TypeId} {a : Option Addr} {n c : Nat} {xs : List Value} (h : Own w B e a n c xs) : c ≤ maxLen := by
  rcases h.2 with ⟨hv, hn⟩ | ⟨g, cap, cur, hv, _, _, _, hcm, _⟩
  · injection hv with _ _ h3; unfold maxLen; omega
  · injection hv with _ _ h3; omega
def Xp.rowsOf (zss : List (List Int)) : List (List Nat) := zss.map fun zs => zs.map Int.toNat
theorem rowsOf_ints (rows : List (List Nat)) : Xp.rowsOf (intsOf rows) = rows := by
  unfold Xp.rowsOf intsOf
  rw [List.map_map]
  conv => rhs; rw [← List.map_id rows]
  apply List.map_congr_left
  intro r _
  show (r.map fun (x : Nat) => (x : Int)).map Int.toNat = r
  rw [List.map_map]
  conv => rhs; rw [← List.map_id r]
  apply List.map_congr_left
  intro x _
  exact Int.toNat_natCast x
def Xp.compH (b : Bool) (x : Int) : Int := if b then x else 0
/-- the operations and the outputs that Compile makes -/
def Xp.compO (f d : Int) (zss : List (List Int)) : List (Int × Int) := if Xp.okC f d zss then (Xp.fin (d * f) [] (Xp.csets f.toNat (Xp.rowsOf zss))).1 else []
def Xp.compU (f d : Int) (zss : List (List Int)) : List Int := if Xp.okC f d zss then (Xp.fin (d * f) [] (Xp.csets f.toNat (Xp.rowsOf zss))).2 else []
theorem okS_in64 {f d p : Int} {ops : List (Int × Int)} {out : List Int} (h : Xp.okS f d p ops out = true) : (∀ o ∈ ops, in64 o.1 ∧ in64 o.2) ∧ ∀ x ∈ out, in64 x := by
  obtain ⟨m, D, P, rfl, rfl, rfl, hm, h1, h2, h3, h4, h5, h6, h7, h8⟩ := okS_parts h
  unfold Xp.okS at h
  rw [Bool.and_eq_true, Bool.and_eq_true] at h
  have e : ((D : Int) * (m : Int)) = ((D * m : Nat) : Int) := by simp
  rw [e] at h
  refine ⟨fun o ho => ?_, fun x hx => ?_⟩
  · obtain ⟨i, hi, e2⟩ := List.getElem_of_mem ho
    obtain ⟨a1, a2, a3, a4, _⟩ := Xp.opOk_iff.1 (Xp.opsOk_get h.1.2 (k := i) (o := o) (by rw [List.getElem?_eq_getElem hi, e2]))
    unfold in64
    omega
  · have h9 := List.all_eq_true.1 h.2 x hx
    unfold Xp.outOk at h9
    simp only [Bool.and_eq_true, decide_eq_true_eq] at h9
    unfold in64
    omega
/-- what Compile makes is valid just when the code is -/
theorem comp_okS (f d : Int) (zss : List (List Int)) : Xp.okS (Xp.compH (Xp.okC f d zss) f) (Xp.compH (Xp.okC f d zss) d) (Xp.compH (Xp.okC f d zss) zss.length) (Xp.compO f d zss) (Xp.compU f d zss) = Xp.okC f d zss := by
  cases h : Xp.okC f d zss
  · unfold Xp.compO Xp.compU Xp.compH
    rw [h]; rfl
  · obtain ⟨m, D, rows, rfl, rfl, hm, hD, hw, rfl, hr⟩ := okC_get h
    unfold Xp.compO Xp.compU Xp.compH
    rw [h]
    simp only [if_true]
    rw [rowsOf_ints, Int.toNat_natCast, show (intsOf rows).length = rows.length by unfold intsOf; rw [List.length_map]]
    have e : ((D : Int) * (m : Int)) = ((D * m : Nat) : Int) := by simp
    rw [e]
    have hm16 : 8 ≤ m ∧ m ≤ 16 := by rcases hm with rfl | rfl <;> omega
    refine Xp.fin_okS hm rfl (fun l hl => ?_) hD hw (by rw [Xp.csets_length]) ?_
    · obtain ⟨a1, a2⟩ := Xp.csets_rising (fun r hr' => (hr r hr').1) l hl
      exact ⟨a1, fun x hx => by have := a2 x hx; show x < D * m + 0; omega⟩
    · have h1 := Xp.cost_le_total (Xp.csets m rows)
      have h2 := Xp.csets_total m D rows (fun r hr' => (hr r hr').1)
      have h3 : D * rows.length ≤ 256 := by
        by_cases hq : D ≤ 16
        · have h8 := Nat.mul_le_mul (Nat.le_refl D) (show rows.length ≤ 32 - D by omega)
          have : ∀ D : Nat, D ≤ 16 → D * (32 - D) ≤ 256 := by decide
          have := this D hq
          omega
        · have h8 := Nat.mul_le_mul (show D ≤ 32 - rows.length by omega) (Nat.le_refl rows.length)
          have : ∀ r : Nat, r ≤ 16 → (32 - r) * r ≤ 256 := by decide
          have := this rows.length (by omega)
          omega
      have h4 : rows.length * m * (D * m) = (D * rows.length) * (m * m) := by
        rw [Nat.mul_comm rows.length m, Nat.mul_comm D m, Nat.mul_assoc, ← Nat.mul_assoc rows.length, Nat.mul_comm rows.length m, Nat.mul_assoc m rows.length, ← Nat.mul_assoc m m, Nat.mul_comm rows.length D, Nat.mul_comm]
      have h5 := Nat.mul_le_mul h3 (Nat.mul_le_mul hm16.2 hm16.2)
      simp only [List.length_nil]
      omega
section
variable {nm : Value} {f d : Int} {qp : Option Addr} {np kp : Nat} {dom : Int} {zss : List (List Int)}
theorem comp_in (w : World) {b : Bool} (hb : Xp.okC f d zss = b) (hl : zss.length = np) (hf : in64 f) (hd : in64 d) (hnp : np ≤ 32) {qa : Option Addr} {ka : Nat} {qx : Option Addr} {kx : Nat}
    (h1 : (Xp.compO f d zss).length ≤ ka) (h2 : ka ≤ maxLen) (h3 : Rd w w.heap.size qa (opsC (Xp.compO f d zss))) (h4 : (Xp.compU f d zss).length ≤ kx) (h5 : kx ≤ maxLen) (h6 : Rd w w.heap.size qx (ints (Xp.compU f d zss))) :
    SchIn w (Xp.compH b f) (Xp.compH b d) (Xp.compH b np) qa (Xp.compO f d zss).length ka qx (Xp.compU f d zss).length kx (Xp.compO f d zss) (Xp.compU f d zss) := by
  have hz : in64 0 := by unfold in64; omega
  have hh : ∀ x : Int, in64 x → in64 (Xp.compH b x) := fun x hx => by unfold Xp.compH; split <;> assumption
  have hw : (∀ o ∈ Xp.compO f d zss, in64 o.1 ∧ in64 o.2) ∧ ∀ x ∈ Xp.compU f d zss, in64 x := by
    cases b
    · unfold Xp.compO Xp.compU
      rw [hb]
      exact ⟨fun o (ho : o ∈ ([] : List (Int × Int))) => (by cases ho), fun o (ho : o ∈ ([] : List Int)) => (by cases ho)⟩
    · exact okS_in64 ((comp_okS f d zss).trans hb)
  exact ⟨hh _ hf, hh _ hd, hh _ (by unfold in64; omega), rfl, h1, h2, h3, hw.1, rfl, h4, h5, h6, hw.2⟩
theorem xcompile_say (w : World) (ht : Tab w) (hr : Grid w w.heap.size qp np zss) (hnp : np ≤ 9223372036854775807) (hf : in64 f) (hd : in64 d) (hnm : nm.oneCell' = true) {b : Bool} (hb : Xp.okC f d zss = b) :
    Calls Tryd.prog 11 #[.agg (codC nm f d qp np kp dom)] w fun e w' => (∃ qa ka qx kx, e = .returned (.tuple #[schV (Xp.compH b f) (Xp.compH b d) (Xp.compH b np) qa (Xp.compO f d zss).length ka qx (Xp.compU f d zss).length kx, .int .i64 (Xp.errB b)]) ∧ SchIn w' (Xp.compH b f) (Xp.compH b d) (Xp.compH b np) qa (Xp.compO f d zss).length ka qx (Xp.compU f d zss).length kx (Xp.compO f d zss) (Xp.compU f d zss)) ∧ Below w.heap.size w w' := by
  cases b
  · refine (compile_no nm f d qp np kp dom zss w ht hr hnp hnm hb).mono ?_
    rintro e w' ⟨rfl, hbl⟩
    have e1 : Xp.compO f d zss = [] := by unfold Xp.compO; rw [hb]; rfl
    have e2 : Xp.compU f d zss = [] := by unfold Xp.compU; rw [hb]; rfl
    refine ⟨⟨none, 0, none, 0, by rw [e1, e2]; rfl, ?_⟩, hbl⟩
    have hz : in64 0 := by unfold in64; omega
    rw [e1, e2]
    exact ⟨hz, hz, hz, rfl, Nat.le_refl _, by unfold maxLen; omega, Rd.nil _ _ _, (fun o ho => by cases ho), rfl, Nat.le_refl _, by unfold maxLen; omega, Rd.nil _ _ _, fun o ho => by cases ho⟩
  · obtain ⟨m, D, rows, rfl, rfl, hm, hD, hw, rfl, hrw⟩ := okC_get hb
    have hl : rows.length = np := by have := hr.len; unfold intsOf at this; rwa [List.length_map] at this
    have e : ((D : Int) * (m : Int)) = ((D * m : Nat) : Int) := by simp
    have e1 : Xp.compO m D (intsOf rows) = (Xp.fin ((D * m : Nat) : Int) [] (Xp.csets m rows)).1 := by unfold Xp.compO; rw [hb, if_pos rfl, rowsOf_ints, Int.toNat_natCast, e]
    have e2 : Xp.compU m D (intsOf rows) = (Xp.fin ((D * m : Nat) : Int) [] (Xp.csets m rows)).2 := by unfold Xp.compU; rw [hb, if_pos rfl, rowsOf_ints, Int.toNat_natCast, e]
    refine (compile_yes hm nm qp np kp dom rows w ht hr hnm hD (by omega) hrw hb).mono ?_
    rintro e' w' ⟨⟨q, k, qx, kx, rfl, ho, hx⟩, hbl⟩
    rw [← e1] at ho ⊢
    rw [← e2] at hx
    have hxl : (Xp.compU m D (intsOf rows)).length = np * m := by have := hx.len; unfold ints at this; rwa [List.length_map] at this
    refine ⟨⟨q, k, qx, kx, by rw [hxl]; rfl, ?_⟩, hbl⟩
    obtain ⟨c1, c2, _⟩ := ho.cap
    exact comp_in w' hb hr.len hf hd (by omega) c1 c2 ho.rd (by rw [hxl]; exact hx.cap) (own_capM hx) hx.rd
theorem scompile_say (w : World) (hr : Grid w w.heap.size qp np zss) (hnp : np ≤ 28) (hd4 : d ≤ 4) (hf : in64 f) (hd : in64 d) (hnm : nm.oneCell' = true) {b : Bool} (hb : Xp.okC f d zss = b) :
    Calls Tryd.prog 17 #[.agg (codC nm f d qp np kp dom)] w fun e w' => (∃ qa ka qx kx, e = .returned (.tuple #[schV (Xp.compH b f) (Xp.compH b d) (Xp.compH b np) qa (Xp.compO f d zss).length ka qx (Xp.compU f d zss).length kx, .int .i64 (Xp.errB b)]) ∧ SchIn w' (Xp.compH b f) (Xp.compH b d) (Xp.compH b np) qa (Xp.compO f d zss).length ka qx (Xp.compU f d zss).length kx (Xp.compO f d zss) (Xp.compU f d zss)) ∧ Below w.heap.size w w' := by
  cases b
  · refine (scompile_no nm f d qp np kp dom zss w hr hnp hd4 hnm hb).mono ?_
    rintro e w' ⟨rfl, hbl⟩
    have e1 : Xp.compO f d zss = [] := by unfold Xp.compO; rw [hb]; rfl
    have e2 : Xp.compU f d zss = [] := by unfold Xp.compU; rw [hb]; rfl
    refine ⟨⟨none, 0, none, 0, by rw [e1, e2]; rfl, ?_⟩, hbl⟩
    have hz : in64 0 := by unfold in64; omega
    rw [e1, e2]
    exact ⟨hz, hz, hz, rfl, Nat.le_refl _, by unfold maxLen; omega, Rd.nil _ _ _, (fun o ho => by cases ho), rfl, Nat.le_refl _, by unfold maxLen; omega, Rd.nil _ _ _, fun o ho => by cases ho⟩
  · obtain ⟨m, D, rows, rfl, rfl, hm, hD, hw, rfl, hrw⟩ := okC_get hb
    have hl : rows.length = np := by have := hr.len; unfold intsOf at this; rwa [List.length_map] at this
    have e : ((D : Int) * (m : Int)) = ((D * m : Nat) : Int) := by simp
    have e1 : Xp.compO m D (intsOf rows) = (Xp.fin ((D * m : Nat) : Int) [] (Xp.csets m rows)).1 := by unfold Xp.compO; rw [hb, if_pos rfl, rowsOf_ints, Int.toNat_natCast, e]
    have e2 : Xp.compU m D (intsOf rows) = (Xp.fin ((D * m : Nat) : Int) [] (Xp.csets m rows)).2 := by unfold Xp.compU; rw [hb, if_pos rfl, rowsOf_ints, Int.toNat_natCast, e]
    refine (scompile_yes hm nm qp np kp dom rows w hr hnm hD (by omega) hnp hrw hb).mono ?_
    rintro e' w' ⟨⟨q, k, qx, kx, rfl, ho, hx⟩, hbl⟩
    rw [← e1] at ho ⊢
    rw [← e2] at hx
    have hxl : (Xp.compU m D (intsOf rows)).length = np * m := by have := hx.len; unfold ints at this; rwa [List.length_map] at this
    refine ⟨⟨q, k, qx, kx, by rw [hxl]; rfl, ?_⟩, hbl⟩
    obtain ⟨c1, c2, _⟩ := ho.cap
    exact comp_in w' hb hr.len hf hd (by omega) c1 c2 ho.rd (by rw [hxl]; exact hx.cap) (own_capM hx) hx.rd
end
end Go.Proofs.YtghinmlpkgcdiaaDoor
