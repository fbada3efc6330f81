/- The walks of quota's all, Valid, excess, Over, Need; claims in memory. -/
import Derived.Test.YtaoinpijicenhaaQ2
namespace Go.Proofs.Ytaoinpijicenhaa
set_option linter.unusedSimpArgs false
set_option linter.unusedVariables false
open Go.RowKit

@[reducible] def vi (z : Int) : Value := .int .i64 z
/-- claims, laid flat -/
def flat : List Cl → List Value
  | [] => []
  | c :: cs => .int .i64 c.g :: .int .i64 c.s :: .int .i64 c.b :: .int .i64 c.r :: .int .i64 c.v :: .int .i64 c.n :: flat cs
theorem flat_get (cs : List Cl) : ∀ (j : Nat) (c : Cl), cs[j]? = some c → (flat cs)[j * 6]? = some (.int .i64 c.g) ∧ (flat cs)[j * 6 + 1]? = some (.int .i64 c.s) ∧ (flat cs)[j * 6 + 2]? = some (.int .i64 c.b) ∧
    (flat cs)[j * 6 + 3]? = some (.int .i64 c.r) ∧ (flat cs)[j * 6 + 4]? = some (.int .i64 c.v) ∧ (flat cs)[j * 6 + 5]? = some (.int .i64 c.n) := by
  induction cs with
  | nil => intro j c h; simp at h
  | cons d ds ih =>
    intro j c h
    cases j with
    | zero => simp only [List.getElem?_cons_zero, Option.some.injEq] at h; subst h; simp [flat]
    | succ j =>
      have h2 : ds[j]? = some c := by simpa using h
      have h3 := ih j c h2
      have e : ∀ i, (flat (d :: ds))[(j + 1) * 6 + i]? = (flat ds)[j * 6 + i]? := by
        intro i
        have : (j + 1) * 6 + i = (j * 6 + i) + 6 := by omega
        rw [this]; simp [flat]
      exact ⟨(e 0).trans h3.1, (e 1).trans h3.2.1, (e 2).trans h3.2.2.1, (e 3).trans h3.2.2.2.1, (e 4).trans h3.2.2.2.2.1, (e 5).trans h3.2.2.2.2.2⟩
theorem flat_len (cs : List Cl) : (flat cs).length = cs.length * 6 := by
  induction cs with
  | nil => rfl
  | cons d ds ih => simp only [flat, List.length_cons, ih]; omega
theorem Rd.claim {w : World} {B : Nat} {a : Option Addr} {cs : List Cl} (h : Rd w B a (flat cs)) {j : Nat} {c : Cl} (hj : cs[j]? = some c) :
    ∃ b off, a = some ⟨b, off, none⟩ ∧ b < B ∧ w.cell? ⟨b, off + j * 6, none⟩ = some (.int .i64 c.g) ∧ w.cell? ⟨b, off + j * 6 + 1, none⟩ = some (.int .i64 c.s) ∧ w.cell? ⟨b, off + j * 6 + 2, none⟩ = some (.int .i64 c.b) ∧
      w.cell? ⟨b, off + j * 6 + 3, none⟩ = some (.int .i64 c.r) ∧ w.cell? ⟨b, off + j * 6 + 4, none⟩ = some (.int .i64 c.v) ∧ w.cell? ⟨b, off + j * 6 + 5, none⟩ = some (.int .i64 c.n) := by
  obtain ⟨f0, f1, f2, f3, f4, f5⟩ := flat_get cs j c hj
  obtain ⟨b, off, e, hb, h0⟩ := h _ _ f0
  have go : ∀ (i : Nat) (u : Value), (flat cs)[j * 6 + i]? = some u → w.cell? ⟨b, off + j * 6 + i, none⟩ = some u := by
    intro i u hu
    obtain ⟨b', off', e', _, hc⟩ := h _ _ hu
    rw [e] at e'
    injection e' with e'
    injection e' with e1 e2
    subst e1; subst e2
    rw [Nat.add_assoc]; exact hc
  exact ⟨b, off, e, hb, h0, go 1 _ f1, go 2 _ f2, go 3 _ f3, go 4 _ f4, go 5 _ f5⟩

theorem all1_any (n : Int) (w : World) :
    Calls Try.prog 32 #[.int .i64 n] w fun e w' => e = .returned (.bool (!fitB n)) ∧ w = w' := by
  by_cases h1 : n < 0
  · have hb : decide (n < 0) = true := by simpa using h1
    go_enter Try.func32, Try.ntmps32
    go_wp2_with fail
    go_ret
    exact ⟨ret_bool (by simp [fitB]; omega), rfl⟩
  · have hb : decide (n < 0) = false := by simpa using h1
    go_enter Try.func32, Try.ntmps32
    go_wp2_with fail
    go_ret
    exact ⟨ret_bool (by by_cases h2 : n ≤ 1099511627776 <;> simp [fitB, h1, h2] <;> omega), rfl⟩

/-- IndexFunc with all's test: not negative where a number does not fit -/
theorem idx1_any (a : Option Addr) (len cap B : Nat) (zs : List Int) (w : World) (hl : zs.length = len) (hm : len ≤ 9223372036854775807) (hrd : Rd w B a (zs.map vi)) :
    Calls Try.prog 35 #[.slice a len cap, .func (.func 32) #[] #[]] w fun e w' => ∃ r : Int, e = .returned (.int .i64 r) ∧ decide (0 ≤ r) = (!(zs.all fitB)) ∧ w = w' := by
  have HR := Lib.hid hrd
  clear hrd
  go_enter Try.func35, Try.ntmps35
  go_wp2_with fail
  go_loop [4, 5, 8] (fun r _ i => ∃ (k : Nat), k ≤ len ∧ i = .int .i64 k ∧ (zs.take k).all fitB = true) (fun _ _ i => len - (intOf i).toNat)
  case atStart => exact ⟨0, by omega, rfl, rfl⟩
  case round =>
    obtain ⟨k, hk, rfl, hd⟩ := hrel
    have HD := Lib.hid hd
    clear hd
    by_cases hlt : k < len
    · have hkb : k < zs.length := by omega
      obtain ⟨x, hx⟩ : ∃ x, x = zs[k] := ⟨_, rfl⟩
      obtain ⟨b, off, rfl, hb, hc⟩ := HR.out k (.int .i64 x) (by rw [List.getElem?_map, List.getElem?_eq_getElem hkb, hx]; rfl)
      have HT := Lib.hid (show zs.take (k + 1) = zs.take k ++ [x] by rw [hx]; exact List.take_succ_eq_append_getElem hkb)
      have HX := Lib.hid (show x ∈ zs by rw [hx]; exact List.getElem_mem hkb)
      clear hx hb
      cases hf : fitB x with
      | true =>
        have HF := Lib.hid hf
        clear hf
        go_wp2_with (first | (go_at_call 32; ((with_reducible refine (all1_any _ _).mono ?_)); rintro e w' ⟨rfl, rfl⟩; rw [HF.out]; simp only [Bool.not_true]))
        go_round
        case rel => exact ⟨k + 1, by omega, by go_num, by rw [HT.out, List.all_append, HD.out]; simp [HF.out]⟩
        case measure => simp [intOf]; omega
      | false =>
        have HF := Lib.hid hf
        clear hf
        go_wp2_with (first | (go_at_call 32; ((with_reducible refine (all1_any _ _).mono ?_)); rintro e w' ⟨rfl, rfl⟩; rw [HF.out]; simp only [Bool.not_false]))
        go_ret
        refine ⟨_, rfl, ?_, rfl⟩
        have : zs.all fitB = false := by
          rw [List.all_eq_false]; exact ⟨x, HX.out, by simp [HF.out]⟩
        rw [this]; simp
    · have hf : zs.all fitB = true := by have := HD.out; rwa [List.take_of_length_le (by omega)] at this
      go_wp2_with fail
      go_ret
      refine ⟨-1, rfl, ?_, rfl⟩
      first | omega | simp [hf]

theorem all_any (a : Option Addr) (len cap B : Nat) (zs : List Int) (w : World) (hl : zs.length = len) (hm : len ≤ 9223372036854775807) (hrd : Rd w B a (zs.map vi)) :
    Calls Try.prog 24 #[.slice a len cap] w fun e w' => e = .returned (.bool (zs.all fitB)) ∧ w = w' := by
  have HR := Lib.hid hrd
  clear hrd
  go_enter Try.func24, Try.ntmps24
  go_wp2_with fail
  go_enter Try.func31, Try.ntmps31
  go_wp2_with fail
  refine (idx1_any a len cap B zs _ hl hm HR.out).mono ?_
  rintro e w1 ⟨r, rfl, hr, rfl⟩
  go_wp2_with fail
  go_ret
  exact ⟨rfl, rfl⟩

theorem qvalid_any (c : Cl) (w : World) :
    Calls Try.prog 13 #[cv c] w fun e w' => e = .returned (.bool (okB c)) ∧ Below w.heap.size w w' := by
  obtain ⟨g, s, b, r, v, n⟩ := c
  simp only [cv]
  go_enter Try.func13, Try.ntmps13
  go_wp2_with fail
  have hr : Rd _ (w.heap.size + 2) (some ⟨w.heap.size + 1, 0, none⟩) ([g, s, b, v, n].map vi) := Rd.row (Row.made (w := w.alloc (.cells #[.int .i64 g, .int .i64 s, .int .i64 b, .int .i64 r, .int .i64 v, .int .i64 n] 23)) 3 #[.int .i64 g, .int .i64 s, .int .i64 b, .int .i64 v, .int .i64 n] (size1 _ _).symm) (by omega) fun j u hu => by rw [← hu, ← Array.getElem?_toList]; rfl
  refine (all_any _ 5 5 _ [g, s, b, v, n] _ rfl (by decide) hr).mono ?_
  rintro e w1 ⟨rfl, rfl⟩
  have HA := Lib.hid (show okB ⟨g, s, b, r, v, n⟩ = (List.all [g, s, b, v, n] fitB && decide (0 ≤ r) && decide (r ≤ 9)) by simp [okB, Bool.and_assoc])
  cases hx : List.all [g, s, b, v, n] fitB with
  | false =>
    have HX := Lib.hid hx
    clear hx hr
    go_wp2_with fail
    go_ret
    exact ⟨ret_bool (by rw [HA.out, HX.out]; rfl), ((Below.refl _ w).alloc (Nat.le_refl _) _).alloc (by simp) _⟩
  | true =>
    have HX := Lib.hid hx
    clear hx hr
    by_cases h0 : 0 ≤ r
    · have hd : decide (0 ≤ r) = true := by simpa using h0
      go_wp2_with fail
      go_ret
      exact ⟨ret_bool (by rw [HA.out, HX.out, hd]; rfl), ((Below.refl _ w).alloc (Nat.le_refl _) _).alloc (by simp) _⟩
    · have hd : decide (0 ≤ r) = false := by simpa using h0
      go_wp2_with fail
      go_ret
      exact ⟨ret_bool (by rw [HA.out, HX.out, hd]; rfl), ((Below.refl _ w).alloc (Nat.le_refl _) _).alloc (by simp) _⟩
theorem qexcess_any (c : Cl) (w : World) (hm : c.mid) :
    Calls Try.prog 25 #[cv c] w fun e w' => e = .returned (.int .i64 (exc c)) ∧ Below w.heap.size w w' := by
  obtain ⟨g, s, b, r, v, n⟩ := c
  obtain ⟨h1, h2, h3, h4⟩ := hm
  simp only at h1 h2 h3 h4
  simp only [cv]
  go_enter Try.func25, Try.ntmps25
  go_wp2_with fail
  all_goals go_ret
  all_goals exact ⟨ret_int (by simp only [exc]; omega), (Below.refl _ _).alloc (Nat.le_refl _) _⟩

theorem qover_any (c : Cl) (w : World) :
    Calls Try.prog 15 #[cv c] w fun e w' => e = .returned (.int .i64 (overV c)) ∧ Below w.heap.size w w' := by
  cases h : okB c with
  | true =>
    have hm := okB_mid h
    have HM := Lib.hid hm
    have HO := Lib.hid h
    clear hm h
    obtain ⟨g, s, b, r, v, n⟩ := c
    simp only [cv]
    go_enter Try.func15, Try.ntmps15
    go_wp2_with fail
    refine (qvalid_any ⟨g, s, b, r, v, n⟩ _).mono ?_
    rintro e w1 ⟨rfl, hb⟩
    rw [HO.out]
    have hc := fun o (_ : o < 6) => hb.cell (p := ⟨w.heap.size, o, none⟩) (by simp)
    have HB := Lib.hid (below_call ((Below.refl w.heap.size w).alloc (Nat.le_refl _) _) hb)
    have c0 := hc 0 (by decide); have c1 := hc 1 (by decide); have c2 := hc 2 (by decide); have c3 := hc 3 (by decide); have c4 := hc 4 (by decide); have c5 := hc 5 (by decide)
    simp [go_sem] at c0 c1 c2 c3 c4 c5
    clear hc hb
    go_wp2_with fail
    refine (qexcess_any ⟨g, s, b, r, v, n⟩ _ HM.out).mono ?_
    rintro e w2 ⟨rfl, hb⟩
    have HB2 := Lib.hid (below_call HB.out hb)
    clear hb
    go_wp2_with fail
    go_ret
    exact ⟨ret_int (by rw [overV, HO.out]; rfl), HB2.out⟩
  | false =>
    have HO := Lib.hid h
    clear h
    obtain ⟨g, s, b, r, v, n⟩ := c
    simp only [cv]
    go_enter Try.func15, Try.ntmps15
    go_wp2_with fail
    refine (qvalid_any ⟨g, s, b, r, v, n⟩ _).mono ?_
    rintro e w1 ⟨rfl, hb⟩
    rw [HO.out]
    have HB := Lib.hid (below_call ((Below.refl w.heap.size w).alloc (Nat.le_refl _) _) hb)
    clear hb
    go_wp2_with fail
    go_ret
    exact ⟨ret_int (by rw [overV, HO.out]; rfl), HB.out⟩
theorem qneed_any (c : Cl) (w : World) :
    Calls Try.prog 17 #[cv c] w fun e w' => e = .returned (.int .i64 (needV c)) ∧ Below w.heap.size w w' := by
  cases h : okB c with
  | true =>
    have hm := okB_iff.1 h
    have HO := Lib.hid h
    clear h
    obtain ⟨g, s, b, r, v, n⟩ := c
    obtain ⟨h1, h2, h3, h4, h5, h6, h7⟩ := hm
    simp only at h1 h2 h3 h4 h5 h6 h7
    simp only [cv]
    go_enter Try.func17, Try.ntmps17
    go_wp2_with fail
    refine (qvalid_any ⟨g, s, b, r, v, n⟩ _).mono ?_
    rintro e w1 ⟨rfl, hb⟩
    rw [HO.out]
    obtain ⟨c0, c1, c2, c3, c4, c5⟩ := box6 hb
    have HB := Lib.hid (below_call ((Below.refl w.heap.size w).alloc (Nat.le_refl _) _) hb)
    clear hb
    go_wp2_with fail
    all_goals go_ret
    all_goals exact ⟨ret_int (by rw [needV, if_pos HO.out]; simp only; omega), HB.out⟩
  | false =>
    have HO := Lib.hid h
    clear h
    obtain ⟨g, s, b, r, v, n⟩ := c
    simp only [cv]
    go_enter Try.func17, Try.ntmps17
    go_wp2_with fail
    refine (qvalid_any ⟨g, s, b, r, v, n⟩ _).mono ?_
    rintro e w1 ⟨rfl, hb⟩
    rw [HO.out]
    have HB := Lib.hid (below_call ((Below.refl w.heap.size w).alloc (Nat.le_refl _) _) hb)
    clear hb
    go_wp2_with fail
    go_ret
    exact ⟨ret_int (by rw [needV, HO.out]; rfl), HB.out⟩

end Go.Proofs.Ytaoinpijicenhaa
