/- The walks of the reference's Same and Small, and of quota's share. -/
import Derived.Test.YtaoinpijicenhaaQ3
namespace Go.Proofs.Ytaoinpijicenhaa
set_option linter.unusedSimpArgs false
set_option linter.unusedVariables false
open Go.RowKit

theorem vi_get (xs : List Int) (k : Nat) (x : Int) (h : xs[k]? = some x) : (xs.map vi)[k]? = some (.int .i64 x) := by rw [List.getElem?_map, h]; rfl
theorem bool_or (b : Bool) (P : Prop) (h : P) : (Ending.returned (.bool b) = .returned (.bool true) ∧ P ∨ Ending.returned (.bool b) = .returned (.bool false)) := by
  cases b
  · exact .inr rfl
  · exact .inl ⟨rfl, h⟩
theorem bool_or2 (b : Bool) : (Ending.returned (.bool b) = .returned (.bool true) ∨ Ending.returned (.bool b) = .returned (.bool false)) := by
  cases b
  · exact .inr rfl
  · exact .inl rfl
theorem same_any (a a2 : Option Addr) (len cap cap2 B B2 : Nat) (xs : List Int) (w : World) (hl : xs.length = len) (hm : len ≤ 9223372036854775807) (hr : Rd w B a (xs.map vi)) (hr2 : Rd w B2 a2 (xs.map vi)) :
    Calls Try.prog 21 #[.slice a len cap, .slice a2 len cap2] w fun e w' => e = .returned (.bool true) ∧ ∃ n, w' = w.drewN n := by
  have HR := Lib.hid hr
  have HR2 := Lib.hid hr2
  clear hr hr2
  go_enter Try.func21, Try.ntmps21
  go_wp2_with fail
  go_loopw [5] (fun i wr => ∃ k : Nat, k ≤ len ∧ i = .int .i64 k ∧ ∃ n, wr = w.drewN n) (fun i _ => len - (intOf i).toNat)
  case atStart => exact ⟨0, by omega, rfl, 0, rfl⟩
  case round =>
    obtain ⟨k, hk, rfl, n, rfl⟩ := hrel
    by_cases hlt : k < len
    · obtain ⟨x, hx⟩ : ∃ x, xs[k]? = some x := ⟨_, List.getElem?_eq_getElem (by omega)⟩
      obtain ⟨b, off, rfl, _, hc⟩ := HR.out k _ (vi_get xs k x hx)
      obtain ⟨b2, off2, rfl, _, hc2⟩ := HR2.out k _ (vi_get xs k x hx)
      clear hx
      go_wp2_with fail
      go_quiet (fail)
      go_wp2_with fail
      go_roundw
      case rel => exact ⟨k + 1, by omega, by go_num, _, rfl⟩
      case measure => simp [intOf]; omega
    · go_wp2_with fail
      go_ret
      exact ⟨rfl, n, rfl⟩

set_option maxHeartbeats 800000 in
theorem small_any (a : Option Addr) (len cap B : Nat) (cs : List Cl) (F : Int) (w : World) (hl : cs.length = len) (hm : len ≤ 9223372036854775807) (hB : B ≤ w.heap.size) (hr : Rd w B a (flat cs)) :
    Calls Try.prog 19 #[.slice a len cap, .int .i64 F] w fun e w' => (e = .returned (.bool true) ∧ len ≤ 20 ∨ e = .returned (.bool false)) ∧ Below w.heap.size w w' := by
  have HR := Lib.hid hr
  clear hr
  by_cases h20 : 20 < len
  · go_enter Try.func19, Try.ntmps19
    go_wp2_with fail
    go_ret
    exact ⟨.inr rfl, Below.refl _ _⟩
  · have h20' : len ≤ 20 := by omega
    go_enter Try.func19, Try.ntmps19
    go_wp2_with fail
    go_loopw [5, 6] (fun n i wr => ∃ (k : Nat) (N : Int), k ≤ len ∧ i = .int .i64 k ∧ n = .int .i64 N ∧ Below w.heap.size w wr) (fun _ i _ => len - (intOf i).toNat)
    case atStart => exact ⟨0, 0, by omega, rfl, rfl, Below.refl _ _⟩
    case round =>
      obtain ⟨k, N, hk, rfl, rfl, hb⟩ := hrel
      have HB := Lib.hid hb
      clear hb
      by_cases hlt : k < len
      · obtain ⟨c, hc⟩ : ∃ c, cs[k]? = some c := ⟨_, List.getElem?_eq_getElem (by omega)⟩
        obtain ⟨b, off, rfl, hbB, d0, d1, d2, d3, d4, d5⟩ := (HR.out.below (HB.out.mono hB)).claim hc
        obtain ⟨wo, rfl⟩ : ∃ wo : World, wo = wr := ⟨_, rfl⟩
        obtain ⟨g, s, bu, r, v, n⟩ := c
        simp only at d0 d1 d2 d3 d4 d5
        cases hok : okB ⟨g, s, bu, r, v, n⟩ with
        | true =>
          have HO := Lib.hid hok
          clear hok hc
          go_wp2_with fail
          refine (rvalid_any ⟨g, s, bu, r, v, n⟩ _).mono ?_
          rintro e w1 ⟨rfl, hb⟩
          rw [HO.out]
          have hl2 : b < wo.heap.size := by have := HB.out.size; omega
          have e0 := (hb.cell (p := ⟨b, off + k * 6, none⟩) hl2).trans d0
          have e1 := (hb.cell (p := ⟨b, off + k * 6 + 1, none⟩) hl2).trans d1
          have e2 := (hb.cell (p := ⟨b, off + k * 6 + 2, none⟩) hl2).trans d2
          have e3 := (hb.cell (p := ⟨b, off + k * 6 + 3, none⟩) hl2).trans d3
          have e4 := (hb.cell (p := ⟨b, off + k * 6 + 4, none⟩) hl2).trans d4
          have e5 := (hb.cell (p := ⟨b, off + k * 6 + 5, none⟩) hl2).trans d5
          have HB2 := Lib.hid (below_call HB.out hb)
          clear hb d0 d1 d2 d3 d4 d5
          go_wp2_with fail
          refine (rwish_any ⟨g, s, bu, r, v, n⟩ _ HO.out).mono ?_
          rintro e w2 ⟨rfl, hb⟩
          have HB3 := Lib.hid (below_call HB2.out hb)
          clear hb
          go_wp2_with fail
          go_roundw
          case rel => exact ⟨k + 1, _, by omega, by go_num, rfl, HB3.out⟩
          case measure => simp [intOf]; omega
        | false =>
          have HO := Lib.hid hok
          clear hok hc
          go_wp2_with fail
          refine (rvalid_any ⟨g, s, bu, r, v, n⟩ _).mono ?_
          rintro e w1 ⟨rfl, hb⟩
          rw [HO.out]
          have HB2 := Lib.hid (below_call HB.out hb)
          clear hb d0 d1 d2 d3 d4 d5
          go_wp2_with fail
          go_roundw
          case rel => exact ⟨k + 1, _, by omega, by go_num, rfl, HB2.out⟩
          case measure => simp [intOf]; omega
      · go_wp2_with fail
        all_goals go_ret
        all_goals first | exact ⟨bool_or2 _, HB.out⟩ | exact ⟨bool_or _ _ h20', HB.out⟩

/-! ### shares of plain wishes -/
def costL : List Int → Int → Int
  | [], _ => 0
  | x :: xs, L => min x L + costL xs L
def giveL : List Int → Int → Int → List Int
  | [], _, _ => []
  | x :: xs, L, r => (if L < x ∧ 0 < r then L + 1 else min x L) :: giveL xs L (if L < x ∧ 0 < r then r - 1 else r)
def restL : List Int → Int → Int → Int
  | [], _, r => r
  | x :: xs, L, r => restL xs L (if L < x ∧ 0 < r then r - 1 else r)
theorem costL_app (xs ys : List Int) (L : Int) : costL (xs ++ ys) L = costL xs L + costL ys L := by
  induction xs with
  | nil => simp [costL]
  | cons x xs ih => simp only [List.cons_append, costL, ih]; omega
theorem giveL_app (xs : List Int) : ∀ (ys : List Int) (L r : Int), giveL (xs ++ ys) L r = giveL xs L r ++ giveL ys L (restL xs L r) := by
  induction xs with
  | nil => intro ys L r; rfl
  | cons x xs ih => intro ys L r; simp only [List.cons_append, giveL, restL, ih]
theorem restL_app (xs : List Int) : ∀ (ys : List Int) (L r : Int), restL (xs ++ ys) L r = restL ys L (restL xs L r) := by
  induction xs with
  | nil => intro ys L r; rfl
  | cons x xs ih => intro ys L r; simp only [List.cons_append, restL, ih]
theorem giveL_len (xs : List Int) : ∀ (L r : Int), (giveL xs L r).length = xs.length := by
  induction xs with
  | nil => intro L r; rfl
  | cons x xs ih => intro L r; simp [giveL, ih]
theorem restL_le (xs : List Int) : ∀ (L r : Int), restL xs L r ≤ r ∧ (0 ≤ r → 0 ≤ restL xs L r) := by
  induction xs with
  | nil => intro L r; exact ⟨Int.le_refl _, id⟩
  | cons x xs ih =>
    intro L r
    simp only [restL]
    by_cases h : L < x ∧ 0 < r
    · simp only [h, and_self, if_true]
      have := ih L (r - 1)
      exact ⟨by omega, fun _ => this.2 (by omega)⟩
    · simp only [h, if_false]
      exact ih L r
theorem costL_mono (xs : List Int) {L K : Int} (h : L ≤ K) : costL xs L ≤ costL xs K := by
  induction xs with
  | nil => exact Int.le_refl _
  | cons x xs ih => simp only [costL]; omega
theorem costL_bd (xs : List Int) (L : Int) (hx : ∀ x ∈ xs, 0 ≤ x ∧ x ≤ 1099511627776) (hL : 0 ≤ L) : 0 ≤ costL xs L ∧ costL xs L ≤ 1099511627776 * xs.length := by
  induction xs with
  | nil => simp [costL]
  | cons x xs ih =>
    have h1 := hx x (List.mem_cons_self ..)
    have h2 := ih fun y hy => hx y (List.mem_cons_of_mem _ hy)
    simp only [costL, List.length_cons]; omega
theorem costL_zero (xs : List Int) (hx : ∀ x ∈ xs, 0 ≤ x ∧ x ≤ 1099511627776) : costL xs 0 = 0 := by
  induction xs with
  | nil => rfl
  | cons x xs ih =>
    have h1 := hx x (List.mem_cons_self ..)
    simp only [costL, ih fun y hy => hx y (List.mem_cons_of_mem _ hy)]; omega
theorem lev_uniq (f : Int → Int) (F : Int) (hf : ∀ L K, L ≤ K → f L ≤ f K) (h0 : f 0 ≤ F) (n : Nat) (L : Int) (hL : 0 ≤ L) (hn : L ≤ n) (h1 : f L ≤ F) (h2 : L = n ∨ F < f (L + 1)) : L = levN f F n := by
  have := levN_spec f F h0 n
  rcases Int.lt_trichotomy L (levN f F n) with h | h | h
  · have := hf (L + 1) (levN f F n) (by omega)
    omega
  · exact h
  · have := hf ((levN f F n : Int) + 1) L (by omega)
    omega
def levL (xs : List Int) (F : Int) : Int := levN (costL xs) F (1099511627776 : Int).toNat
theorem levL_uniq (xs : List Int) (F : Int) (hx : ∀ x ∈ xs, 0 ≤ x ∧ x ≤ 1099511627776) (hF : 0 ≤ F) (L : Int) (hL : 0 ≤ L) (hn : L ≤ 1099511627776) (h1 : costL xs L ≤ F) (h2 : L = 1099511627776 ∨ F < costL xs (L + 1)) : L = levL xs F := by
  unfold levL
  have hk : ∃ k : Nat, k = (1099511627776 : Int).toNat ∧ (k : Int) = 1099511627776 := ⟨_, rfl, by omega⟩
  obtain ⟨k, hk, hk2⟩ := hk
  rw [← hk]
  exact lev_uniq _ F (fun _ _ h => costL_mono xs h) (by rw [costL_zero xs hx]; exact hF) k L hL (by omega) h1 (by omega)
def shL (xs : List Int) (F : Int) : List Int := giveL xs (levL xs F) (F - costL xs (levL xs F))

theorem cost_any (L : Int) (xs : List Int) (g : Nat) (a : Option Addr) (len cap B : Nat) (w : World) (hl : xs.length = len) (hm : len ≤ 20) (hx : ∀ x ∈ xs, 0 ≤ x ∧ x ≤ 1099511627776) (hL1 : 0 ≤ L) (hL2 : L ≤ 1099511627776)
    (hg : w.cell? ⟨g, 0, none⟩ = some (.slice a len cap)) (hr : Rd w B a (xs.map vi)) :
    Calls Try.prog 34 #[.int .i64 L, .pointer (some ⟨g, 0, none⟩)] w fun e w' => e = .returned (.int .i64 (costL xs L)) ∧ w = w' := by
  have HR := Lib.hid hr
  have HX := Lib.hid hx
  clear hr hx
  go_enter Try.func34, Try.ntmps34
  go_wp2_with fail
  go_loop [4, 6, 9] (fun n _ i => ∃ (k : Nat), k ≤ len ∧ i = .int .i64 k ∧ n = .int .i64 (costL (xs.take k) L)) (fun _ _ i => len - (intOf i).toNat)
  case atStart => exact ⟨0, by omega, rfl, rfl⟩
  case round =>
    obtain ⟨k, hk, rfl, rfl⟩ := hrel
    by_cases hlt : k < len
    · have hkb : k < xs.length := by omega
      obtain ⟨x, hx⟩ : ∃ x, x = xs[k] := ⟨_, rfl⟩
      obtain ⟨b, off, rfl, hb, hc⟩ := HR.out k (.int .i64 x) (by rw [List.getElem?_map, List.getElem?_eq_getElem hkb, hx]; rfl)
      have HT := Lib.hid (show costL (xs.take (k + 1)) L = costL (xs.take k) L + min x L by rw [hx, List.take_succ_eq_append_getElem hkb, costL_app]; simp [costL])
      have hxb := HX.out x (by rw [hx]; exact List.getElem_mem hkb)
      have hcb := costL_bd (xs.take k) L (fun y hy => HX.out y (List.mem_of_mem_take hy)) hL1
      rw [List.length_take] at hcb
      obtain ⟨C, hC⟩ : ∃ C, C = costL (xs.take k) L := ⟨_, rfl⟩
      rw [← hC] at hcb ⊢
      have HC := Lib.hid hC
      have hcb2 : 0 ≤ C ∧ C ≤ 21990232555520 := by omega
      clear hx hb hC hcb
      go_wp2_with fail
      all_goals
        go_round
        case rel => exact ⟨k + 1, by omega, by go_num, by rw [HT.out, ← HC.out]; congr 1; omega⟩
        case measure => simp [intOf]; omega
    · have HT := Lib.hid (show xs.take k = xs from List.take_of_length_le (by omega))
      obtain ⟨C, hC⟩ : ∃ C, C = costL (xs.take k) L := ⟨_, rfl⟩
      rw [← hC]
      have HC := Lib.hid hC
      clear hC
      go_wp2_with fail
      go_ret
      exact ⟨ret_int (by rw [HC.out, HT.out]), rfl⟩

theorem Own.more {w : World} {B B' : Nat} {e : TypeId} {a : Option Addr} {n c : Nat} {xs : List Value} (h : Own w B e a n c xs) (hB : B' ≤ B) : Own w B' e a n c xs := by
  refine ⟨h.1, ?_⟩
  rcases h.2 with hn | ⟨g, cap, cur, hv, h1, rest⟩
  · exact .inl hn
  · exact .inr ⟨g, cap, cur, hv, by omega, rest⟩
def zerosI (n : Nat) : List Int := List.replicate n 0
theorem info_int : (Try.prog.info? 3).map (fun i => (i.zero, i.size, i.bytes)) = some (some (.int .i64 0), 1, 8) := by kernel_rfl
theorem make_ints (m : Nat) (hm : m ≤ 1000000) (u : World) : (Instr.makeSlice 37 (.int .i64 (m : Int)) (.int .i64 (m : Int))).run Try.prog u =
    .ok (.slice (some ⟨u.heap.size, 0, none⟩) m m) (u.alloc (.cells (madeCells #[.int .i64 0] m) 3)) := by
  obtain ⟨i0, hi, hz0, hz1, hz2⟩ := info_parts info_int
  have h := run_make (P := Try.prog) u 37 3 i0 (.int .i64 0) Try.underlying37 hi hz0 .i64 .i64 (m : Int) (m : Int) (by omega) (Int.le_refl _) (by rw [hz2]; omega) (by omega)
  have e : (m : Int).toNat = m := by omega
  rw [e] at h
  simpa [hz1, Value.cells] using h
theorem made_list (m : Nat) : (madeCells #[Value.int .i64 0] m).toList = (zerosI m).map vi := by
  rw [toList_madeCells_one, zerosI, List.map_replicate]
theorem own_made (w : World) (m : Nat) (hm : m ≤ 1000000) : Own (w.alloc (.cells (madeCells #[.int .i64 0] m) 3)) w.heap.size 3 (some ⟨w.heap.size, 0, none⟩) m m ((zerosI m).map vi) := by
  rw [← made_list]
  exact Own.new w _ _ _ m (Nat.le_refl _) (by rw [← Array.length_toList, made_list]; simp [zerosI]) (by unfold maxLen; omega)

/-- the shares of the first k, and nothing yet for the others -/
def outL (xs : List Int) (L r : Int) (k : Nat) : List Int := giveL (xs.take k) L r ++ zerosI (xs.length - k)
theorem outL_len (xs : List Int) (L r : Int) (k : Nat) (h : k ≤ xs.length) : (outL xs L r k).length = xs.length := by
  simp only [outL, List.length_append, giveL_len, List.length_take, zerosI, List.length_replicate]; omega
theorem outL_get (xs : List Int) (L r : Int) (k : Nat) (h : k < xs.length) : (outL xs L r k)[k]? = some 0 := by
  have e : (giveL (xs.take k) L r).length = k := by rw [giveL_len, List.length_take]; omega
  rw [outL, List.getElem?_append_right (by omega), e, Nat.sub_self, zerosI, List.getElem?_replicate, if_pos (by omega)]
theorem outL_set (xs : List Int) (L r : Int) (k : Nat) (h : k < xs.length) (v : Int) (hv : v = if L < xs[k] ∧ 0 < restL (xs.take k) L r then L + 1 else min xs[k] L) :
    (outL xs L r k).set k v = outL xs L r (k + 1) := by
  have e : (giveL (xs.take k) L r).length = k := by rw [giveL_len, List.length_take]; omega
  have e2 : xs.length - k = (xs.length - (k + 1)) + 1 := by omega
  rw [outL, List.set_append_right _ _ (by omega), e, Nat.sub_self, e2, outL, List.take_succ_eq_append_getElem h, giveL_app, hv]
  simp [zerosI, List.replicate_succ, giveL]
theorem restL_step (xs : List Int) (L r : Int) (k : Nat) (h : k < xs.length) : restL (xs.take (k + 1)) L r = if L < xs[k] ∧ 0 < restL (xs.take k) L r then restL (xs.take k) L r - 1 else restL (xs.take k) L r := by
  rw [List.take_succ_eq_append_getElem h, restL_app]; rfl

set_option maxHeartbeats 1600000 in
set_option maxRecDepth 100000 in
theorem share_any (xs : List Int) (F : Int) (a : Option Addr) (len cap B : Nat) (w : World) (hl : xs.length = len) (hm : len ≤ 20) (hx : ∀ x ∈ xs, 0 ≤ x ∧ x ≤ 1099511627776) (hF1 : 0 ≤ F) (hF2 : F ≤ 9223372036854775807)
    (hB : B ≤ w.heap.size) (hr : Rd w B a (xs.map vi)) :
    Calls Try.prog 30 #[.slice a len cap, .int .i64 F] w fun e w' => ∃ a' : Option Addr, e = .returned (.slice a' len len) ∧ Own w' w.heap.size 3 a' len len ((shL xs F).map vi) ∧ Below w.heap.size w w' := by
  have HR := Lib.hid hr
  have HX := Lib.hid hx
  have hmk := fun u => make_ints len (by omega) u
  clear hr hx
  go_enter Try.func30, Try.ntmps30
  go_wp2_with fail
  obtain ⟨W, hW⟩ : ∃ W, W = (w.alloc (.cells #[.slice a len cap] 37)).alloc (.cells (madeCells #[.int .i64 0] len) 3) := ⟨_, rfl⟩
  rw [← hW]
  have HO := Lib.hid (show Own W (w.heap.size + 1) 3 (some ⟨w.heap.size + 1, 0, none⟩) len len ((zerosI len).map vi) by
    have := own_made (w.alloc (.cells #[.slice a len cap] 37)) len (by omega)
    rw [size1] at this
    rw [hW]; exact this)
  have HG := Lib.hid (show Row W w.heap.size 37 #[.slice a len cap] by rw [hW]; exact (Row.new _ _ _).alloc _)
  have HRW := Lib.hid (show Rd W B a (xs.map vi) by rw [hW]; exact (HR.out.alloc hB _).alloc (by simp; omega) _)
  have HB := Lib.hid (show Below w.heap.size w W by rw [hW]; exact ((Below.refl _ w).alloc (Nat.le_refl _) _).alloc (by simp) _)
  have hg : W.cell? ⟨w.heap.size, 0, none⟩ = some (.slice a len cap) := by rw [HG.out.cell]; rfl
  clear hW hmk
  go_loop [7, 8] (fun l h => ∃ lo hi : Int, l = .int .i64 lo ∧ h = .int .i64 hi ∧ 0 ≤ lo ∧ lo ≤ hi ∧ hi ≤ 1099511627776 ∧ costL xs lo ≤ F ∧ (hi = 1099511627776 ∨ F < costL xs (hi + 1))) (fun l h => (intOf h - intOf l).toNat)
  case atStart => exact ⟨0, 1099511627776, rfl, rfl, by omega, by omega, by omega, by rw [costL_zero xs HX.out]; exact hF1, .inl rfl⟩
  case round =>
    obtain ⟨lo, hi, rfl, rfl, h1, h2, h3, h4, h5⟩ := hrel
    have H4 := Lib.hid h4
    have H5 := Lib.hid h5
    clear h4 h5
    by_cases hlt : lo < hi
    · have hm1 : lo < (lo + hi + 1) / 2 := by omega
      have hm2 : (lo + hi + 1) / 2 ≤ hi := by omega
      have HC := Lib.hid (fun (u : World) (hc : u.cell? ⟨w.heap.size, 0, none⟩ = some (.slice a len cap)) (hr : Rd u B a (xs.map vi)) => cost_any ((lo + hi + 1) / 2) xs w.heap.size a len cap B u hl hm HX.out (by omega) (by omega) hc hr)
      go_wp2_with fail
      refine (HC.out _ hg HRW.out).mono ?_
      rintro e w' ⟨rfl, rfl⟩
      go_wp2_with fail
      · rename_i hc
        go_round
        case rel => exact ⟨(lo + hi + 1) / 2, hi, rfl, rfl, by omega, by omega, by omega, by omega, H5.out⟩
        case measure => simp [intOf]; omega
      · rename_i hc
        go_round
        case rel => exact ⟨lo, (lo + hi + 1) / 2 - 1, rfl, rfl, by omega, by omega, by omega, H4.out, .inr (by rw [Int.sub_add_cancel]; omega)⟩
        case measure => simp [intOf]; omega
    · have HL := Lib.hid (levL_uniq xs F HX.out hF1 lo h1 (by omega) H4.out (by have := H5.out; rw [show hi = lo by omega] at this; exact this))
      have HC := Lib.hid (fun (u : World) (hc : u.cell? ⟨w.heap.size, 0, none⟩ = some (.slice a len cap)) (hr : Rd u B a (xs.map vi)) => cost_any lo xs w.heap.size a len cap B u hl hm HX.out (by omega) (by omega) hc hr)
      have hcb := costL_bd xs lo HX.out h1
      go_wp2_with fail
      refine (HC.out _ hg HRW.out).mono ?_
      rintro e w' ⟨rfl, rfl⟩
      obtain ⟨r0, hr0⟩ : ∃ r0, r0 = F - costL xs lo := ⟨_, rfl⟩
      have hw0 : IntKind.i64.wrap (F - costL xs lo) = r0 := by rw [hr0]; exact IntWalk.i64_in _ (by have := H4.out; omega)
      have hr1 : 0 ≤ r0 := by have := H4.out; omega
      have hr2 : r0 ≤ 9223372036854775807 := by omega
      have HR0 := Lib.hid hr0
      clear hr0 hcb H4 H5
      go_wp2_with fail
      go_loopw [1, 10, 11, 39] (fun f _ _ i wr => ∃ (k : Nat), k ≤ len ∧ i = .int .i64 k ∧ f = .int .i64 (restL (xs.take k) lo r0) ∧ Own wr (w.heap.size + 1) 3 (some ⟨w.heap.size + 1, 0, none⟩) len len ((outL xs lo r0 k).map vi) ∧ Below (w.heap.size + 1) W wr) (fun _ _ _ i _ => len - (intOf i).toNat)
      case atStart => exact ⟨0, by omega, rfl, rfl, by rw [outL, List.take_zero]; rw [hl]; exact HO.out, Below.refl _ _⟩
      case round =>
        obtain ⟨k, hk, rfl, rfl, ho, hb⟩ := hrel
        have HO2 := Lib.hid ho
        have HB2 := Lib.hid hb
        clear ho hb
        by_cases hlt : k < len
        · have hkb : k < xs.length := by omega
          obtain ⟨x, hx⟩ : ∃ x, x = xs[k] := ⟨_, rfl⟩
          obtain ⟨b, off, rfl, hb, hc⟩ := (HRW.out.below (HB2.out.mono (by omega))) k (.int .i64 x) (by rw [List.getElem?_map, List.getElem?_eq_getElem hkb, hx]; rfl)
          have hgw : wr.cell? ⟨w.heap.size, 0, none⟩ = some (.slice (some ⟨b, off, none⟩) len cap) := by
            rw [← hg]; exact HB2.out.cell (p := ⟨w.heap.size, 0, none⟩) (by simp)
          obtain ⟨g2, e2, _, _, hc0, hf0⟩ := HO2.out.at_ hlt
          injection e2 with e2
          injection e2 with e2
          subst e2
          rw [vi_get _ _ _ (outL_get xs lo r0 k hkb)] at hc0
          obtain ⟨r, hr⟩ : ∃ r, r = restL (xs.take k) lo r0 := ⟨_, rfl⟩
          have hrb := restL_le (xs.take k) lo r0
          rw [← hr] at hrb ⊢
          have hxb := HX.out x (by rw [hx]; exact List.getElem_mem hkb)
          have HSET := Lib.hid (fun v hv => outL_set xs lo r0 k hkb v hv)
          have HSTEP := Lib.hid (restL_step xs lo r0 k hkb)
          rw [← hx, ← hr] at HSET HSTEP
          have hne : w.heap.size + 1 ≠ b := by omega
          have hr3 := hrb.2 hr1
          have hr4 := hrb.1
          clear hx hr hrb hkb
          go_wp2_with fail
          · go_roundw
            case rel => exact ⟨k + 1, by omega, by go_num, by rw [HSTEP.out, if_pos (by omega)], by rw [← HSET.out (lo + 1) (by rw [if_pos (by omega)]), List.map_set]; have h := (HO2.out.put hlt (.int .i64 lo)).put hlt (.int .i64 (lo + 1)); rw [List.set_set] at h; exact h, (HB2.out.setCell (Nat.le_refl _) _).setCell (Nat.le_refl _) _⟩
            case measure => simp [intOf]; omega
          · go_roundw
            case rel => exact ⟨k + 1, by omega, by go_num, by rw [HSTEP.out, if_neg (by omega)], by rw [← HSET.out lo (by rw [if_neg (by omega)]; omega), List.map_set]; exact HO2.out.put hlt (.int .i64 lo), HB2.out.setCell (Nat.le_refl _) _⟩
            case measure => simp [intOf]; omega
          · go_roundw
            case rel => exact ⟨k + 1, by omega, by go_num, by rw [HSTEP.out, if_neg (by omega)], by rw [← HSET.out x (by rw [if_neg (by omega)]; omega), List.map_set]; exact HO2.out.put hlt (.int .i64 x), HB2.out.setCell (Nat.le_refl _) _⟩
            case measure => simp [intOf]; omega
        · have HFIN := Lib.hid (show outL xs lo r0 k = shL xs F by
            rw [outL, List.take_of_length_le (by omega), show xs.length - k = 0 by omega, shL, ← HL.out, ← HR0.out]; simp [zerosI])
          go_wp2_with fail
          go_ret
          exact ⟨_, rfl, by rw [← HFIN.out]; exact HO2.out.more (Nat.le_succ _), HB.out.trans (HB2.out.mono (Nat.le_succ _))⟩
end Go.Proofs.Ytaoinpijicenhaa
