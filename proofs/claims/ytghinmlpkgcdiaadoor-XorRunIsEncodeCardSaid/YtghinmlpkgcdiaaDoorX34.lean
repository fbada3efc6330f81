/- Schedules: Sets and Run, the program's and the specification's, in one form. -/
import Derived.Test.YtghinmlpkgcdiaaDoorX33
namespace Go.Proofs.YtghinmlpkgcdiaaDoor
set_option linter.unusedSimpArgs false
set_option linter.unusedVariables false
open Go.RowKit Go.Lib

/-- the error of a call: none where b -/
def Xp.errB (b : Bool) : Int := if b then 0 else 1
/-- the sets, if the schedule is valid -/
def Xp.setsB (f d p : Int) (ops : List (Int × Int)) (out : List Int) : List (List Nat) :=
  if Xp.okS f d p ops out then Xp.sets (d * f).toNat (Xp.regs (Xp.inputs (d * f).toNat) (natO ops)) out else []
/-- the parity units, if Run accepts -/
def Xp.parB (f d p : Int) (ops : List (Int × Int)) (out : List Int) (ss : List ByteArray) : List ByteArray :=
  if Xp.acc f d p ops out ss then (Xp.parity f p ops out ss).map strB else []
theorem okS_parts {f d p : Int} {ops : List (Int × Int)} {out : List Int} (h : Xp.okS f d p ops out = true) :
    ∃ m D P : Nat, f = m ∧ d = D ∧ p = P ∧ Fld.IsM m ∧ 1 ≤ D ∧ D ≤ 32 ∧ P ≤ 32 ∧ ops.length ≤ 131072 ∧ out.length = P * m ∧ 8 ≤ D * m ∧ D * m ≤ 512 ∧ P * m ≤ 512 := by
  have h1' := h
  unfold Xp.okS at h1'
  rw [Bool.and_eq_true, Bool.and_eq_true] at h1'
  obtain ⟨⟨hh, _⟩, _⟩ := h1'
  unfold Xp.headOk at hh
  simp only [Bool.and_eq_true, Bool.or_eq_true, decide_eq_true_eq] at hh
  obtain ⟨⟨⟨⟨⟨⟨hf, hd1⟩, hp0⟩, hd32⟩, hp32⟩, hno⟩, hx⟩ := hh
  refine ⟨f.toNat, d.toNat, p.toNat, by omega, by omega, by omega, ?_, by omega, by omega, by omega, hno, ?_, ?_, ?_, ?_⟩
  · rcases hf with rfl | rfl
    · exact .inl rfl
    · exact .inr rfl
  all_goals rcases hf with rfl | rfl <;> simp <;> omega
theorem setsB_len {f d p : Int} {ops : List (Int × Int)} {out : List Int} : (Xp.setsB f d p ops out).length ≤ 512 := by
  unfold Xp.setsB
  split
  · next h =>
    obtain ⟨m, D, P, rfl, rfl, rfl, hm, h1, h2, h3, h4, h5, h6, h7, h8⟩ := okS_parts h
    rw [Xp.sets, List.length_map, h5]; omega
  · simp
theorem sets_small (n : Nat) (hn : n ≤ 512) (R : List Nat) (out : List Int) : ∀ l ∈ Xp.sets n R out, l.length ≤ 100000 := by
  intro l hl
  unfold Xp.sets at hl
  obtain ⟨x, _, rfl⟩ := List.mem_map.1 hl
  unfold Xp.outSet
  split
  · simp
  · exact Nat.le_trans (Xp.setOf_length_le n _) (by omega)
section
variable {f d p : Int} {qo : Option Addr} {no ko : Nat} {qx : Option Addr} {nx kx : Nat} {ops : List (Int × Int)} {out : List Int}
theorem xsets_say (w : World) (ht : Tab w) (hno : no ≤ 131072) (hs : SchIn w f d p qo no ko qx nx kx ops out) :
    Calls Tryd.prog 18 #[schV f d p qo no ko qx nx kx] w fun e w' => (∃ q n k vs, e = .returned (.tuple #[.slice q n k, .int .i64 (Xp.errB (Xp.okS f d p ops out))]) ∧ (Xp.setsB f d p ops out).length = n ∧ Rd w' w'.heap.size q vs ∧ SetsOf w' vs (Xp.setsB f d p ops out)) ∧ Below w.heap.size w w' := by
  cases h : Xp.okS f d p ops out
  · refine (xsets_no f d p qo no ko qx nx kx ops out w ht (by omega) hs.lo hs.ro hs.lx hs.rx h).mono ?_
    rintro e w' ⟨rfl, hb⟩
    unfold Xp.setsB
    rw [h]
    exact ⟨⟨none, 0, 0, [], rfl, rfl, Rd.nil _ _ _, SetsOf.nil _⟩, hb⟩
  · obtain ⟨m, D, P, rfl, rfl, rfl, hm, h1, h2, h3, h4, h5, h6, h7, h8⟩ := okS_parts h
    have e : ((D : Int) * (m : Int)) = ((D * m : Nat) : Int) := by simp
    refine (xsets_yes hm D P qo no ko qx nx kx (D * m) ops out w ht hno hs.lo hs.ro hs.lx hs.rx h e (by omega) h7).mono ?_
    rintro e' w' ⟨⟨q, k, vs, rfl, ho, hf⟩, hb⟩
    unfold Xp.setsB
    rw [h, e, Int.toNat_natCast, if_pos rfl]
    exact ⟨⟨q, nx, k, vs, rfl, by rw [Xp.sets, List.length_map, hs.lx], ho.rd, hf.setsOf (sets_small _ h7 _ _)⟩, hb⟩
theorem ssets_say (w : World) (hno : no ≤ 131072) (hs : SchIn w f d p qo no ko qx nx kx ops out) :
    Calls Tryd.prog 19 #[schV f d p qo no ko qx nx kx] w fun e w' => (∃ q n k vs, e = .returned (.tuple #[.slice q n k, .int .i64 (Xp.errB (Xp.okS f d p ops out))]) ∧ (Xp.setsB f d p ops out).length = n ∧ Rd w' w'.heap.size q vs ∧ SetsOf w' vs (Xp.setsB f d p ops out)) ∧ Below w.heap.size w w' := by
  have hnx : nx ≤ 9223372036854775807 := by have := hs.cx; have := hs.mx; unfold maxLen at this; omega
  cases h : Xp.okS f d p ops out
  · refine (ssets_no f d p qo no ko qx nx kx ops out w (by omega) hnx hs.lo hs.ro hs.lx hs.rx h).mono ?_
    rintro e w' ⟨rfl, hb⟩
    unfold Xp.setsB
    rw [h]
    exact ⟨⟨none, 0, 0, [], rfl, rfl, Rd.nil _ _ _, SetsOf.nil _⟩, hb⟩
  · obtain ⟨m, D, P, rfl, rfl, rfl, hm, h1, h2, h3, h4, h5, h6, h7, h8⟩ := okS_parts h
    have e : ((D : Int) * (m : Int)) = ((D * m : Nat) : Int) := by simp
    refine (ssets_yes hm D P qo no ko qx nx kx (D * m) ops out w hno hs.lo hs.ro hs.lx hs.rx h e (by omega) h7).mono ?_
    rintro e' w' ⟨⟨q, k, vs, rfl, ho, hf⟩, hb⟩
    unfold Xp.setsB
    rw [h, e, Int.toNat_natCast, if_pos rfl]
    exact ⟨⟨q, nx, k, vs, rfl, by rw [Xp.sets, List.length_map, hs.lx], ho.rd, hf⟩, hb⟩
theorem strs_strB (l : List (List UInt8)) : strsB l = strs (l.map strB) := by
  unfold strsB strs; rw [List.map_map]; rfl
theorem parity_len (P : Nat) (ss : List ByteArray) : ((Xp.parity f P ops out ss).map strB).length = P := by
  rw [List.length_map]; unfold Xp.parity Xp.runOut; simp
theorem xrun_say {qd : Option Addr} {nd kd : Nat} {ss : List ByteArray} (w : World) (ht : Tab w) (hno : no ≤ 131072) (hs : SchIn w f d p qo no ko qx nx kx ops out)
    (hl : ss.length = nd) (hnd : nd ≤ 1000000) (hr : Rd w w.heap.size qd (strs ss)) (hsz : ∀ s ∈ ss, s.size ≤ 1000) :
    Calls Tryd.prog 15 #[schV f d p qo no ko qx nx kx, .slice qd nd kd] w fun e w' => (∃ q n k, e = .returned (.tuple #[.slice q n k, .int .i64 (Xp.errB (Xp.acc f d p ops out ss))]) ∧ (Xp.parB f d p ops out ss).length = n ∧ Rd w' w'.heap.size q (strs (Xp.parB f d p ops out ss))) ∧ Below w.heap.size w w' := by
  cases h : Xp.acc f d p ops out ss
  · refine (run_rej w ht hno hs hl hnd hr hsz h).mono ?_
    rintro e w' ⟨rfl, hb⟩
    unfold Xp.parB
    rw [h]
    exact ⟨⟨none, 0, 0, rfl, rfl, Rd.nil _ _ _⟩, hb⟩
  · obtain ⟨m, D, P, NS, rfl, rfl, rfl, _⟩ := acc_parts h
    refine (run_acc (kd := kd) 0 w ht hno hs hl hr hsz h).mono ?_
    rintro e w' ⟨⟨q, k, rfl, ho⟩, hb⟩
    unfold Xp.parB
    rw [h, if_pos rfl, Int.toNat_natCast]
    refine ⟨⟨q, P, k, rfl, parity_len P ss, ?_⟩, hb⟩
    rw [← strs_strB]; exact ho.rd
theorem srun_say {qd : Option Addr} {nd kd : Nat} {ss : List ByteArray} (w : World) (hno : no ≤ 131072) (hs : SchIn w f d p qo no ko qx nx kx ops out)
    (hl : ss.length = nd) (hnd : nd ≤ 1000000) (hr : Rd w w.heap.size qd (strs ss)) (hsz : ∀ s ∈ ss, s.size ≤ 1000) :
    Calls Tryd.prog 24 #[schV f d p qo no ko qx nx kx, .slice qd nd kd] w fun e w' => (∃ q n k, e = .returned (.tuple #[.slice q n k, .int .i64 (Xp.errB (Xp.acc f d p ops out ss))]) ∧ (Xp.parB f d p ops out ss).length = n ∧ Rd w' w'.heap.size q (strs (Xp.parB f d p ops out ss))) ∧ Below w.heap.size w w' := by
  have hnx : nx ≤ 9223372036854775807 := by have := hs.cx; have := hs.mx; unfold maxLen at this; omega
  by_cases h0 : Xp.okS f d p ops out = false ∨ (nd : Int) ≠ d
  · have h : Xp.acc f d p ops out ss = false := by
      unfold Xp.acc
      rcases h0 with h0 | h0
      · rw [h0]; rfl
      · rw [hl, decide_eq_false h0, Bool.and_false, Bool.false_and]
    refine (srun_no0 f d p qo no ko qx nx kx ops out qd nd kd w (by omega) hnx hs.lo hs.ro hs.lx hs.rx h0).mono ?_
    rintro e w' ⟨rfl, hb⟩
    unfold Xp.parB
    rw [h]
    exact ⟨⟨none, 0, 0, rfl, rfl, Rd.nil _ _ _⟩, hb⟩
  · have h1 : Xp.okS f d p ops out = true := by
      cases h9 : Xp.okS f d p ops out
      · exact absurd (.inl h9) h0
      · rfl
    have h2 : (nd : Int) = d := by
      by_cases h9 : (nd : Int) = d
      · exact h9
      · exact absurd (.inr h9) h0
    obtain ⟨m, D, P, rfl, rfl, rfl, hm, hD1, hD2, h3, h4, h5, h6, h7, h8⟩ := okS_parts h1
    obtain rfl : nd = D := by omega
    obtain ⟨s0, hs0⟩ : ∃ s0, ss[0]? = some s0 := ⟨_, List.getElem?_eq_getElem (by omega)⟩
    have hu : Xp.unitN ss = s0.size := by
      unfold Xp.unitN
      cases ss with
      | nil => simp at hs0
      | cons a r => simp only [List.getElem?_cons_zero, Option.some.injEq] at hs0; subst hs0; rfl
    refine (srun_any hm P qo no ko qx nx kx s0.size _ ops out qd kd ss w hno hs.lo hs.ro hs.lx hs.rx h1 hD1 hl hr hsz s0 hs0 rfl rfl _ rfl).mono ?_
    have ha : Xp.acc m nd P ops out ss = Xp.fits m ss := by
      unfold Xp.acc
      rw [h1, hl, decide_eq_true rfl, Int.toNat_natCast, Bool.true_and, Bool.true_and]
    rintro e w' ⟨⟨hF, q, k, rfl, ho⟩ | ⟨hF, rfl⟩, hb⟩
    · rw [hF] at ha
      unfold Xp.parB
      rw [ha, if_pos rfl]
      refine ⟨⟨q, P, k, rfl, parity_len P ss, ?_⟩, hb⟩
      rw [← strs_strB]
      unfold Xp.parity
      rw [Int.toNat_natCast, Int.toNat_natCast, hu]
      exact ho.rd
    · rw [hF] at ha
      unfold Xp.parB
      rw [ha]
      exact ⟨⟨none, 0, 0, rfl, rfl, Rd.nil _ _ _⟩, hb⟩
end
end Go.Proofs.YtghinmlpkgcdiaaDoor
