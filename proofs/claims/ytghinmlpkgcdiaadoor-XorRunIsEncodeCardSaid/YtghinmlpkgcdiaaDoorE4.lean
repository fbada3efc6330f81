/- Codes: Encode in one form; its parity units are what the compiled schedule computes. -/
import Derived.Test.YtghinmlpkgcdiaaDoorEA
import Derived.Test.YtghinmlpkgcdiaaDoorPA
namespace Go.Proofs.YtghinmlpkgcdiaaDoor
set_option linter.unusedSimpArgs false
set_option linter.unusedVariables false
open Go.RowKit Go.Lib

section
variable {m D : Nat} {rows : List (List Nat)} {ss : List ByteArray}
theorem comp_fin (hok : Xp.okC m D (intsOf rows) = true) :
    Xp.compO m D (intsOf rows) = (Xp.fin ((D * m : Nat) : Int) [] (Xp.csets m rows)).1 ∧ Xp.compU m D (intsOf rows) = (Xp.fin ((D * m : Nat) : Int) [] (Xp.csets m rows)).2 := by
  have e : ((D : Int) * (m : Int)) = ((D * m : Nat) : Int) := by simp
  exact ⟨by unfold Xp.compO; rw [hok, if_pos rfl, rowsOf_ints, Int.toNat_natCast, e], by unfold Xp.compU; rw [hok, if_pos rfl, rowsOf_ints, Int.toNat_natCast, e]⟩
theorem enc_yes (hm : Fld.IsM m) (hok : Xp.okC m D (intsOf rows) = true) (hr : ∀ r ∈ rows, r.length = D) (ha : Xp.acc m D rows.length (Xp.compO m D (intsOf rows)) (Xp.compU m D (intsOf rows)) ss = true) :
    ss.length = D ∧ (∀ s ∈ ss, s.size = Xp.unitN ss) ∧ Xp.unitN ss % Fld.size m = 0 ∧ Xp.parB m D rows.length (Xp.compO m D (intsOf rows)) (Xp.compU m D (intsOf rows)) ss = rows.map (unitC m (Xp.unitN ss) ss) := by
  obtain ⟨m', D', P', NS, e1, e2, e3, _, _, h1, h2, h3, _⟩ := acc_parts ha
  obtain rfl : m' = m := by omega
  obtain rfl : D' = D := by omega
  have h4 : Xp.unitN ss % Fld.size m' = 0 := by rw [h2]; exact Nat.mul_mod_left _ _
  refine ⟨h1, h3, h4, ?_⟩
  unfold Xp.parB
  rw [if_pos ha]
  unfold Xp.parity
  obtain ⟨c1, c2⟩ := comp_fin hok
  rw [c1, c2, Int.toNat_natCast, Int.toNat_natCast, Xp.par_comb hm hr h1 h3 h4, List.map_map]
  rfl
theorem enc_no (hm : Fld.IsM m) (hD : 1 ≤ D) {O : List (Int × Int)} {U : List Int} {p : Int} (hs : Xp.okS m D p O U = true) (ha : Xp.acc m D p O U ss = false) :
    (ss.length : Int) ≠ (D : Int) ∨ ((ss.length : Int) = (D : Int) ∧ ∃ s0, ss[0]? = some s0 ∧ ss.all (uniB (m : Int) s0.size) = false) := by
  by_cases hl : (ss.length : Int) = (D : Int)
  · right
    refine ⟨hl, ?_⟩
    cases ss with
    | nil => simp at hl; omega
    | cons s0 r =>
      refine ⟨s0, rfl, ?_⟩
      cases hall : (s0 :: r).all (uniB (m : Int) s0.size)
      · rfl
      · exfalso
        have hall2 := List.all_eq_true.1 hall
        have hf : Xp.fits m (s0 :: r) = true := by
          unfold Xp.fits
          rw [Bool.and_eq_true, Bool.not_eq_true', List.any_eq_false]
          refine ⟨decide_eq_true ?_, fun s hs2 => ?_⟩
          · have h9 := hall2 s0 (List.mem_cons_self ..)
            unfold uniB at h9
            rw [Bool.and_eq_true, Bool.or_eq_true, decide_eq_true_eq, decide_eq_true_eq, decide_eq_true_eq] at h9
            show s0.size % (m / 8) = 0
            rcases hm with rfl | rfl
            · exact Nat.mod_one _
            · rcases h9.2 with h | h
              · omega
              · exact h
          · have h9 := hall2 s hs2
            unfold uniB at h9
            rw [Bool.and_eq_true, decide_eq_true_eq] at h9
            show ¬ ((s.size : Int) != ((s0.size : Nat) : Int)) = true
            rw [h9.1]; simp
        unfold Xp.acc at ha
        rw [hs, decide_eq_true hl, Int.toNat_natCast, hf] at ha
        simp at ha
  · exact .inl hl
end
theorem encode_say {m D : Nat} (hm : Fld.IsM m) (nm : Value) (qp : Option Addr) (np kp : Nat) (dom : Int) (rows : List (List Nat)) (qd : Option Addr) (nd kd : Nat) (ss : List ByteArray) (w : World) (ht : Tab w) (hr : Grid w w.heap.size qp np (intsOf rows)) (hnm : nm.oneCell' = true)
    (hD : 1 ≤ D) (hw32 : D + np ≤ 32) (hrows : ∀ r ∈ rows, r.length = D ∧ ∀ x ∈ r, x < 2 ^ m) (hok : Xp.okC m D (intsOf rows) = true) (hl : ss.length = nd) (hnd : nd ≤ 1000000) (hrs : Rd w w.heap.size qd (strs ss)) (hsz : ∀ s ∈ ss, s.size ≤ 1000)
    {A : Bool} (hA : Xp.acc m D np (Xp.compO m D (intsOf rows)) (Xp.compU m D (intsOf rows)) ss = A) :
    Calls Tryd.prog 14 #[.agg (codC nm m D qp np kp dom), .slice qd nd kd] w fun e w' => (∃ q n k, e = .returned (.tuple #[.slice q n k, .int .i64 (Xp.errB A)]) ∧ (A = true → nd = D ∧ n = D + np ∧ ss.length = D ∧ (rows.map (unitC m (Xp.unitN ss) ss)).length = np ∧ Xp.parB m D np (Xp.compO m D (intsOf rows)) (Xp.compU m D (intsOf rows)) ss = rows.map (unitC m (Xp.unitN ss) ss) ∧ Own w' w.heap.size 9 q (D + np) k (strs (ss ++ rows.map (unitC m (Xp.unitN ss) ss))))) ∧ Below w.heap.size w w' := by
  have hnpl : rows.length = np := by have := hr.len; unfold intsOf at this; rwa [List.length_map] at this
  have hcs := comp_okS (m : Int) (D : Int) (intsOf rows)
  rw [hok, show (intsOf rows).length = np by unfold intsOf; rw [List.length_map, hnpl]] at hcs
  cases A
  · refine (encode_no nm m D qp np kp dom (intsOf rows) qd nd kd ss w ht hr (by omega) hnm hl hnd hrs ?_).mono ?_
    · rcases enc_no hm hD hcs hA with h | ⟨h, s0, h0, h2⟩
      · rw [hl] at h; exact .inr (.inl ⟨hok, h⟩)
      · rw [hl] at h; exact .inr (.inr ⟨hok, h, s0, h0, h2⟩)
    · rintro e w' ⟨rfl, hb⟩
      exact ⟨⟨none, 0, 0, rfl, fun h => by cases h⟩, hb⟩
  · subst hnpl
    obtain ⟨h1, h2, h3, h4⟩ := enc_yes hm hok (fun r hr => (hrows r hr).1) hA
    have hnd2 : nd = D := by omega
    subst hnd2
    have hn1 : Xp.unitN ss ≤ 1000 := by
      cases hss : ss with
      | nil => unfold Xp.unitN; simp
      | cons s r => exact hsz s (by rw [hss]; exact List.mem_cons_self ..)
    refine (encode_yes hm nm qp rows.length kp dom rows qd kd ss w ht hr hnm hD hw32 hrows hok h1 hrs h2 hn1 h3).mono ?_
    rintro e w' ⟨⟨q, k, rfl, ho⟩, hb⟩
    exact ⟨⟨q, _, k, rfl, fun _ => ⟨rfl, rfl, h1, by rw [List.length_map], h4, ho⟩⟩, hb⟩
/-- the end of a list that stands in memory -/
theorem rd_tail {w : World} {B g off : Nat} {a b : List Value} (h : Rd w B (some ⟨g, off, none⟩) (a ++ b)) : Rd w B (some ⟨g, off + a.length, none⟩) b := by
  intro j u hu
  obtain ⟨b2, o2, e, hb, hc⟩ := h (a.length + j) u (by rw [List.getElem?_append_right (by omega), Nat.add_sub_cancel_left]; exact hu)
  injection e with e
  injection e with e1 e2 e3
  subst e1; subst e2
  exact ⟨g, off + a.length, rfl, hb, by rw [Nat.add_assoc]; exact hc⟩
end Go.Proofs.YtghinmlpkgcdiaaDoor
