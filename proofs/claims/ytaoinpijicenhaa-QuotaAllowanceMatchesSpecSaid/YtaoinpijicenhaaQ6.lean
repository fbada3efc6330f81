/- The members of a rank, their places, and the scattering of their shares: the plain law. The walks of Allowance's test. -/
import Derived.Test.YtaoinpijicenhaaQ5
namespace Go.Proofs.Ytaoinpijicenhaa
set_option linter.unusedSimpArgs false
set_option linter.unusedVariables false
open Go.RowKit

def posR (p : Int) : List Cl → Nat → List Nat
  | [], _ => []
  | c :: cs, i => if c.r = p then i :: posR p cs (i + 1) else posR p cs (i + 1)
def wsR (p : Int) : List Cl → List Int
  | [] => []
  | c :: cs => if c.r = p then wish c :: wsR p cs else wsR p cs
def sumL : List Int → Int
  | [] => 0
  | x :: xs => x + sumL xs
def scat : List Nat → List Int → List Int → List Int
  | i :: is, v :: vs, o => scat is vs (o.set i v)
  | _, _, o => o
theorem posR_app (p : Int) (xs ys : List Cl) : ∀ i, posR p (xs ++ ys) i = posR p xs i ++ posR p ys (i + xs.length) := by
  induction xs with
  | nil => intro i; simp [posR]
  | cons c cs ih =>
    intro i
    have e : i + 1 + cs.length = i + (c :: cs).length := by simp; omega
    simp only [List.cons_append, posR, ih, e]
    split <;> rfl
theorem wsR_app (p : Int) (xs ys : List Cl) : wsR p (xs ++ ys) = wsR p xs ++ wsR p ys := by
  induction xs with
  | nil => rfl
  | cons c cs ih => simp only [List.cons_append, wsR, ih]; split <;> rfl
theorem pos_ws_len (p : Int) (l : List Cl) : ∀ i, (posR p l i).length = (wsR p l).length := by
  induction l with
  | nil => intro i; rfl
  | cons c cs ih => intro i; simp only [posR, wsR]; split <;> simp [ih]
theorem ws_len (p : Int) (l : List Cl) : (wsR p l).length ≤ l.length := by
  induction l with
  | nil => simp [wsR]
  | cons c cs ih => simp only [wsR]; split <;> simp <;> omega
theorem pos_lt (p : Int) (l : List Cl) : ∀ i, ∀ x ∈ posR p l i, x < i + l.length := by
  induction l with
  | nil => intro i x h; simp [posR] at h
  | cons c cs ih =>
    intro i x h
    simp only [posR] at h
    simp only [List.length_cons]
    split at h
    · rcases List.mem_cons.1 h with rfl | h
      · omega
      · have := ih (i + 1) x h; omega
    · have := ih (i + 1) x h; omega
theorem ws_bd (p : Int) (l : List Cl) (h : ∀ c ∈ l, okB c = true) : ∀ x ∈ wsR p l, 0 ≤ x ∧ x ≤ 1099511627776 := by
  induction l with
  | nil => intro x hx; simp [wsR] at hx
  | cons c cs ih =>
    intro x hx
    have ih2 := ih fun d hd => h d (List.mem_cons_of_mem _ hd)
    simp only [wsR] at hx
    split at hx
    · rcases List.mem_cons.1 hx with rfl | hx
      · exact ⟨wish_nn c, wish_le c (h c (List.mem_cons_self ..))⟩
      · exact ih2 x hx
    · exact ih2 x hx
theorem cost_ws (p : Int) (l : List Cl) : costL (wsR p l) = costR p l := by
  funext L
  induction l with
  | nil => rfl
  | cons c cs ih => simp only [wsR, costR]; split <;> simp [costL, ih]
theorem lev_ws (p : Int) (l : List Cl) (F : Int) : levL (wsR p l) F = lev p l F := by unfold levL lev; rw [cost_ws]
theorem scat_give (p : Int) (l : List Cl) : ∀ (q o : List Int) (L r : Int), o.length = l.length → scat (posR p l q.length) (giveL (wsR p l) L r) (q ++ o) = q ++ giveR p l o L r := by
  induction l with
  | nil =>
    intro q o L r h
    have : o = [] := by cases o with
      | nil => rfl
      | cons x xs => simp at h
    subst this
    simp [posR, wsR, giveL, giveR, scat]
  | cons c cs ih =>
    intro q o L r h
    cases o with
    | nil => simp at h
    | cons x xs =>
      have hl : xs.length = cs.length := by simpa using h
      have step : ∀ v r2, scat (posR p cs (q.length + 1)) (giveL (wsR p cs) L r2) (q ++ v :: xs) = q ++ v :: giveR p cs xs L r2 := by
        intro v r2
        have := ih (q ++ [v]) xs L r2 hl
        simpa using this
      by_cases h1 : c.r = p
      · simp only [posR, wsR, giveR, h1, if_true, true_and, giveL, scat]
        rw [List.set_append_right _ _ (Nat.le_refl _), Nat.sub_self, List.set_cons_zero]
        exact step _ _
      · simp only [posR, wsR, giveR, h1, if_false, false_and]
        exact step _ _
theorem scat_sh (p : Int) (l : List Cl) (o : List Int) (F : Int) (h : o.length = l.length) : scat (posR p l 0) (shL (wsR p l) F) o = sh p l o F := by
  unfold shL sh
  rw [lev_ws, cost_ws]
  exact scat_give p l [] o _ _ h
theorem scat_app (is : List Nat) : ∀ (vs : List Int) (i : Nat) (v : Int) (o : List Int), is.length = vs.length → scat (is ++ [i]) (vs ++ [v]) o = (scat is vs o).set i v := by
  induction is with
  | nil => intro vs i v o h; cases vs with
    | nil => rfl
    | cons x xs => simp at h
  | cons j js ih => intro vs i v o h; cases vs with
    | nil => simp at h
    | cons x xs => simp only [List.cons_append, scat]; exact ih xs i v _ (by simpa using h)
theorem scat_len (is : List Nat) : ∀ (vs : List Int) (o : List Int), (scat is vs o).length = o.length := by
  induction is with
  | nil => intro vs o; cases vs <;> rfl
  | cons j js ih => intro vs o; cases vs with
    | nil => rfl
    | cons x xs => simp only [scat, ih, List.length_set]
def cntL : List Int → Int → Int
  | [], _ => 0
  | x :: xs, L => (if L < x then 1 else 0) + cntL xs L
theorem cntL_nn (xs : List Int) (L : Int) : 0 ≤ cntL xs L := by
  induction xs with
  | nil => exact Int.le_refl _
  | cons x xs ih => simp only [cntL]; split <;> omega
theorem costL_succ (xs : List Int) (L : Int) : costL xs (L + 1) = costL xs L + cntL xs L := by
  induction xs with
  | nil => rfl
  | cons x xs ih => simp only [costL, cntL, ih]; split <;> omega
theorem costL_sum (xs : List Int) (L : Int) : costL xs L ≤ sumL xs := by
  induction xs with
  | nil => exact Int.le_refl _
  | cons x xs ih => simp only [costL, sumL]; omega
theorem costL_all (xs : List Int) (L : Int) (h : ∀ x ∈ xs, x ≤ L) : costL xs L = sumL xs := by
  induction xs with
  | nil => rfl
  | cons x xs ih =>
    have := h x (List.mem_cons_self ..)
    simp only [costL, sumL, ih fun y hy => h y (List.mem_cons_of_mem _ hy)]; omega
theorem restL_val (xs : List Int) : ∀ (L r : Int), 0 ≤ r → restL xs L r = max 0 (r - cntL xs L) := by
  induction xs with
  | nil => intro L r h; simp only [restL, cntL]; omega
  | cons x xs ih =>
    intro L r h
    have hn := cntL_nn xs L
    simp only [restL, cntL]
    by_cases h1 : L < x ∧ 0 < r
    · simp only [h1, and_self, if_true]; rw [ih L _ (by omega)]; omega
    · simp only [h1, if_false]; rw [ih L _ h]; split <;> omega
theorem sum_give (xs : List Int) : ∀ (L r : Int), sumL (giveL xs L r) = costL xs L + (r - restL xs L r) := by
  induction xs with
  | nil => intro L r; simp [sumL, giveL, costL, restL]
  | cons x xs ih =>
    intro L r
    simp only [sumL, giveL, costL, restL, ih]
    by_cases h1 : L < x ∧ 0 < r
    · simp only [h1, and_self, if_true]; omega
    · simp only [h1, if_false]; omega
theorem levL_spec (xs : List Int) (F : Int) (hx : ∀ x ∈ xs, 0 ≤ x ∧ x ≤ 1099511627776) (h : 0 ≤ F) : 0 ≤ levL xs F ∧ levL xs F ≤ 1099511627776 ∧ costL xs (levL xs F) ≤ F ∧ (levL xs F = 1099511627776 ∨ F < costL xs (levL xs F + 1)) := by
  unfold levL
  have hk : ∃ k : Nat, k = (1099511627776 : Int).toNat ∧ (k : Int) = 1099511627776 := ⟨_, rfl, by omega⟩
  obtain ⟨k, hk, hk2⟩ := hk
  rw [← hk]
  have := levN_spec (costL xs) F (by rw [costL_zero xs hx]; exact h) k
  omega
theorem sum_sh (xs : List Int) (F : Int) (hx : ∀ x ∈ xs, 0 ≤ x ∧ x ≤ 1099511627776) (h : 0 ≤ F) : sumL (shL xs F) = min F (sumL xs) := by
  obtain ⟨h1, h2, h3, h4⟩ := levL_spec xs F hx h
  unfold shL
  rw [sum_give, restL_val _ _ _ (by omega)]
  have hs := costL_succ xs (levL xs F)
  have hc := costL_sum xs (levL xs F + 1)
  have hc2 := costL_sum xs (levL xs F)
  have hn := cntL_nn xs (levL xs F)
  rcases h4 with h4 | h4
  · have e := costL_all xs (levL xs F) (by rw [h4]; exact fun x hx2 => (hx x hx2).2)
    omega
  · omega
theorem sum_ws (p : Int) (l : List Cl) : sumL (wsR p l) = totR p l := by
  induction l with
  | nil => rfl
  | cons c cs ih => simp only [wsR, totR]; split <;> simp [sumL, ih]
theorem giveL_bd (xs : List Int) : ∀ (L r : Int), (∀ x ∈ xs, 0 ≤ x ∧ x ≤ 1099511627776) → 0 ≤ L → ∀ v ∈ giveL xs L r, 0 ≤ v ∧ v ≤ 1099511627776 := by
  induction xs with
  | nil => intro L r _ _ v hv; simp [giveL] at hv
  | cons x xs ih =>
    intro L r h hL v hv
    have h1 := h x (List.mem_cons_self ..)
    simp only [giveL] at hv
    rcases List.mem_cons.1 hv with rfl | hv
    · split <;> omega
    · exact ih L _ (fun y hy => h y (List.mem_cons_of_mem _ hy)) hL v hv
theorem shL_bd (xs : List Int) (F : Int) (hx : ∀ x ∈ xs, 0 ≤ x ∧ x ≤ 1099511627776) (h : 0 ≤ F) : ∀ v ∈ shL xs F, 0 ≤ v ∧ v ≤ 1099511627776 := giveL_bd xs _ _ hx (levL_spec xs F hx h).1
theorem shL_len (xs : List Int) (F : Int) : (shL xs F).length = xs.length := giveL_len xs _ _
theorem sumL_app (xs ys : List Int) : sumL (xs ++ ys) = sumL xs + sumL ys := by
  induction xs with
  | nil => simp [sumL]
  | cons x xs ih => simp only [List.cons_append, sumL, ih]; omega
theorem sumL_bd (xs : List Int) (hx : ∀ x ∈ xs, 0 ≤ x ∧ x ≤ 1099511627776) : 0 ≤ sumL xs ∧ sumL xs ≤ 1099511627776 * xs.length := by
  induction xs with
  | nil => simp [sumL]
  | cons x xs ih =>
    have h1 := hx x (List.mem_cons_self ..)
    have h2 := ih fun y hy => hx y (List.mem_cons_of_mem _ hy)
    simp only [sumL, List.length_cons]; omega

theorem allow1_any (c : Cl) (w : World) :
    Calls Try.prog 29 #[cv c] w fun e w' => e = .returned (.bool (!okB c)) ∧ Below w.heap.size w w' := by
  obtain ⟨g, s, b, r, v, n⟩ := c
  simp only [cv]
  go_enter Try.func29, Try.ntmps29
  go_wp2_with fail
  refine (qvalid_any ⟨g, s, b, r, v, n⟩ _).mono ?_
  rintro e w1 ⟨rfl, hb⟩
  have HB := Lib.hid (below_call ((Below.refl w.heap.size w).alloc (Nat.le_refl _) _) hb)
  clear hb
  obtain ⟨X, hX⟩ : ∃ X, X = okB ⟨g, s, b, r, v, n⟩ := ⟨_, rfl⟩
  rw [← hX]
  have HX := Lib.hid hX
  clear hX
  go_wp2_with fail
  go_ret
  exact ⟨ret_bool (by rw [HX.out]), HB.out⟩

theorem idx2_any (a : Option Addr) (len cap B : Nat) (cs : List Cl) (w : World) (hl : cs.length = len) (hm : len ≤ 9223372036854775807) (hB : B ≤ w.heap.size) (hrd : Rd w B a (flat cs)) :
    Calls Try.prog 33 #[.slice a len cap, .func (.func 29) #[] #[]] w fun e w' => ∃ r : Int, e = .returned (.int .i64 r) ∧ decide (0 ≤ r) = (!(cs.all okB)) ∧ Below w.heap.size w w' := by
  have HR := Lib.hid hrd
  clear hrd
  go_enter Try.func33, Try.ntmps33
  go_wp2_with fail
  go_loopw [4, 5, 8] (fun r _ i wr => ∃ (k : Nat), k ≤ len ∧ i = .int .i64 k ∧ (cs.take k).all okB = true ∧ Below w.heap.size w wr) (fun _ _ i _ => len - (intOf i).toNat)
  case atStart => exact ⟨0, by omega, rfl, rfl, Below.refl _ _⟩
  case round =>
    obtain ⟨k, hk, rfl, hd, hb⟩ := hrel
    have HD := Lib.hid hd
    have HB := Lib.hid hb
    clear hd hb
    by_cases hlt : k < len
    · have hkb : k < cs.length := by omega
      obtain ⟨c, hx⟩ : ∃ x, x = cs[k] := ⟨_, rfl⟩
      have hget : cs[k]? = some c := by rw [hx]; exact List.getElem?_eq_getElem hkb
      obtain ⟨b, off, rfl, hbB, d0, d1, d2, d3, d4, d5⟩ := (HR.out.below (HB.out.mono hB)).claim hget
      have HT := Lib.hid (show cs.take (k + 1) = cs.take k ++ [c] by rw [hx]; exact List.take_succ_eq_append_getElem hkb)
      have HX := Lib.hid (show c ∈ cs by rw [hx]; exact List.getElem_mem hkb)
      clear hx hget
      cases hf : okB c with
      | true =>
        have HF := Lib.hid hf
        clear hf
        obtain ⟨g, s, bu, r, v, n⟩ := c
        simp only at d0 d1 d2 d3 d4 d5
        go_wp2_with fail
        refine (allow1_any ⟨g, s, bu, r, v, n⟩ _).mono ?_
        rintro e w1 ⟨rfl, hb⟩
        rw [HF.out]
        have HB2 := Lib.hid (below_call HB.out hb)
        clear hb d0 d1 d2 d3 d4 d5
        go_wp2_with fail
        go_roundw
        case rel => exact ⟨k + 1, by omega, by go_num, by rw [HT.out, List.all_append, HD.out]; simp [HF.out], HB2.out⟩
        case measure => simp [intOf]; omega
      | false =>
        have HF := Lib.hid hf
        clear hf
        obtain ⟨g, s, bu, r, v, n⟩ := c
        simp only at d0 d1 d2 d3 d4 d5
        go_wp2_with fail
        refine (allow1_any ⟨g, s, bu, r, v, n⟩ _).mono ?_
        rintro e w1 ⟨rfl, hb⟩
        rw [HF.out]
        have HB2 := Lib.hid (below_call HB.out hb)
        clear hb d0 d1 d2 d3 d4 d5
        go_wp2_with fail
        go_ret
        refine ⟨_, rfl, ?_, HB2.out⟩
        have : cs.all okB = false := by
          rw [List.all_eq_false]; exact ⟨_, HX.out, by simp [HF.out]⟩
        rw [this]; simp
    · have hf : cs.all okB = true := by have := HD.out; rwa [List.take_of_length_le (by omega)] at this
      go_wp2_with fail
      go_ret
      refine ⟨-1, rfl, ?_, HB.out⟩
      first | omega | simp [hf]
theorem cont2_any (a : Option Addr) (len cap B : Nat) (cs : List Cl) (w : World) (hl : cs.length = len) (hm : len ≤ 9223372036854775807) (hB : B ≤ w.heap.size) (hrd : Rd w B a (flat cs)) :
    Calls Try.prog 28 #[.slice a len cap, .func (.func 29) #[] #[]] w fun e w' => e = .returned (.bool (!(cs.all okB))) ∧ Below w.heap.size w w' := by
  have HR := Lib.hid hrd
  clear hrd
  go_enter Try.func28, Try.ntmps28
  go_wp2_with fail
  refine (idx2_any a len cap B cs _ hl hm hB HR.out).mono ?_
  rintro e w1 ⟨r, rfl, hr, hb⟩
  have HB := Lib.hid hb
  clear hb
  go_wp2_with fail
  go_ret
  exact ⟨rfl, HB.out⟩
end Go.Proofs.Ytaoinpijicenhaa
