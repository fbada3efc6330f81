/- Schedules: bits as bytes, the plain words. Schedules: lists of rows of bits, a byte each, in memory. Schedules: the specification's Run: what it is made of; it refuses. -/
import Derived.Test.YtghinmlpkgcdiaaDoorXT
import Derived.Test.YtghinmlpkgcdiaaDoorOwnO
import Derived.Test.YtghinmlpkgcdiaaDoorXR
import Derived.Deep.RegionHeld3
/-! Schedules: bits as bytes, the plain words. -/
namespace Go.Proofs.YtghinmlpkgcdiaaDoor
set_option linter.unusedSimpArgs false
set_option linter.unusedVariables false
open Go.RowKit Go.Lib

theorem bitsL_xor (A B n : Nat) : Fld.xorL (bitsL A n) (bitsL B n) = bitsL (A ^^^ B) n := by
  unfold Fld.xorL bitsL
  rw [List.zipWith_map, List.zipWith_self]
  apply List.map_congr_left
  intro i _
  rw [Nat.testBit_xor]
  cases A.testBit i <;> cases B.testBit i <;> rfl
theorem bitsL_get {N n i : Nat} (h : i < n) : (bitsL N n)[i]? = some (if N.testBit i then 1 else 0) := by
  unfold bitsL; rw [List.getElem?_map, List.getElem?_range h]; rfl
/-- the sum of the first k bits at position i -/
def sumTo (R : Nat → Nat) (i : Nat) : Nat → Nat
  | 0 => 0
  | k + 1 => sumTo R i k + (if (R k).testBit i then 2 ^ k else 0)
theorem sumTo_lt (R : Nat → Nat) (i : Nat) : ∀ k, sumTo R i k < 2 ^ k
  | 0 => by simp [sumTo]
  | k + 1 => by
    have := sumTo_lt R i k
    unfold sumTo
    rw [Nat.pow_succ]
    split <;> omega
theorem sumTo_bit (R : Nat → Nat) (i j : Nat) : ∀ k, (sumTo R i k).testBit j = (decide (j < k) && (R j).testBit i)
  | 0 => by simp [sumTo]
  | k + 1 => by
    have hlt := sumTo_lt R i k
    have ih := sumTo_bit R i j k
    have e : sumTo R i (k + 1) = 2 ^ k * (if (R k).testBit i then 1 else 0) + sumTo R i k := by
      rw [sumTo]
      split
      · rw [Nat.mul_one, Nat.add_comm]
      · rw [Nat.mul_zero, Nat.zero_add, Nat.add_zero]
    rw [e, Nat.testBit_two_pow_mul_add _ hlt]
    by_cases hj : j < k
    · rw [if_pos hj, ih, decide_eq_true hj, decide_eq_true (show j < k + 1 by omega)]
    · rw [if_neg hj]
      by_cases hjk : j = k
      · subst hjk
        rw [Nat.sub_self, decide_eq_true (show j < j + 1 by omega), Bool.true_and]
        split <;> simp_all
      · rw [decide_eq_false (show ¬ j < k + 1 by omega), Bool.false_and]
        obtain ⟨d, hd⟩ : ∃ d, j - k = d + 1 := ⟨j - k - 1, by omega⟩
        rw [hd, Nat.testBit_succ]
        split <;> simp
/-- a byte of the unit out of the sum -/
theorem sum_byte {m : Nat} (hm : m = 8 ∨ m = 16) (R : Nat → Nat) (i : Nat) : sumTo R (i / (m / 8)) m / 2 ^ Xp.high m i % 256 = Xp.ubTo m R i 8 := by
  apply Nat.eq_of_testBit_eq
  intro j
  rw [show 256 = 2 ^ 8 from rfl, Nat.testBit_mod_two_pow, Nat.testBit_div_two_pow, sumTo_bit, Xp.ubTo_bit]
  by_cases hj : j < 8
  · have h1 := Xp.high_lt (m := m) (i := i) hm hj
    rw [decide_eq_true hj, Nat.add_comm j, decide_eq_true h1, Bool.true_and]
  · rw [decide_eq_false hj]; simp
end Go.Proofs.YtghinmlpkgcdiaaDoor
/-! Schedules: lists of rows of bits, a byte each, in memory. -/
namespace Go.Proofs.YtghinmlpkgcdiaaDoor
set_option linter.unusedSimpArgs false
set_option linter.unusedVariables false
open Go.RowKit Go.Lib

/-- rows of one type stand, whatever of them is frozen -/
def KeepF (e : TypeId) (w w' : World) : Prop := ∀ (g : Nat) (cs : Array Value) (fr : Nat × Nat), w.heap[g]? = some (.cells cs e fr) → w'.heap[g]? = some (.cells cs e fr)
theorem heap_lt {w : World} {g : Nat} {o : Obj} (h : w.heap[g]? = some o) : g < w.heap.size := (Array.getElem?_eq_some_iff.1 h).1
theorem KeepF.refl (e : TypeId) (w : World) : KeepF e w w := fun _ _ _ h => h
theorem KeepF.trans {e : TypeId} {a b c : World} (h : KeepF e a b) (k : KeepF e b c) : KeepF e a c := fun g cs fr hr => k g cs fr (h g cs fr hr)
theorem KeepF.of_below {e : TypeId} {w w' : World} (hb : Below w.heap.size w w') : KeepF e w w' := fun g cs fr hr => (hb.block g (heap_lt hr)).trans hr
theorem KeepF.drewN {e : TypeId} {a w : World} (h : KeepF e a w) (n : Nat) : KeepF e a (w.drewN n) := h
theorem KeepF.drew {e : TypeId} {a w : World} (h : KeepF e a w) : KeepF e a w.drew := h
theorem KeepF.alloc {e : TypeId} {a w : World} (h : KeepF e a w) (o : Obj) : KeepF e a (w.alloc o) := fun g cs fr hr => (Below.heap_alloc w o g (heap_lt (h g cs fr hr))).trans (h g cs fr hr)
theorem KeepF.grown {e e2 : TypeId} {a w w' : World} {B n c : Nat} {q : Option Addr} {xs : List Value} (h : KeepF e a w) (ho : Own w B e2 q n c xs) (hg : w.grownBy w' (Value.slice q n c).ownBlock) (hne : e ≠ e2) : KeepF e a w' := fun g cs fr hr => by
  have h1 := h g cs fr hr
  refine (hg.block g (heap_lt h1) (fun hx => ?_)).trans h1
  rcases ho.block_or with rfl | ⟨g2, rfl⟩
  · cases hx
  · injection hx with hx
    have hx2 : g2 = g := hx.symm
    subst hx2
    obtain ⟨cs2, hr2, _⟩ := ho.row rfl
    unfold Row at hr2
    rw [h1] at hr2
    injection hr2 with hr2
    injection hr2 with _ h3 _
    exact hne h3
/-- the value is a row of the n first bits of N, a byte each -/
def BitsV (w : World) (n : Nat) (v : Value) (N : Nat) : Prop := ∃ q k, v = .slice q n k ∧ (0 < n → ∃ g cs fr, q = some ⟨g, 0, none⟩ ∧ w.heap[g]? = some (.cells cs 5 fr) ∧ ∀ (p : Nat) (u : Value), ((bitsL N n).map v8)[p]? = some u → cs[p]? = some u)
theorem BitsV.keeps {w w' : World} {n N : Nat} {v : Value} (h : BitsV w n v N) (hk : KeepF 5 w w') : BitsV w' n v N := by
  obtain ⟨q, k, e, h⟩ := h
  refine ⟨q, k, e, fun hp => ?_⟩
  obtain ⟨g, cs, fr, e2, hr, hc⟩ := h hp
  exact ⟨g, cs, fr, e2, hk g cs fr hr, hc⟩
theorem BitsV.rd {w : World} {q : Option Addr} {n m k N : Nat} (h : BitsV w n (.slice q m k) N) : m = n ∧ Rd w w.heap.size q ((bitsL N n).map v8) := by
  obtain ⟨q', k', e, h⟩ := h
  injection e with e1 e2 e3
  subst e1
  refine ⟨e2, fun j u hu => ?_⟩
  have hj : j < n := by
    have := (List.getElem?_eq_some_iff.1 hu).1
    rwa [List.length_map, bitsL_length] at this
  obtain ⟨g, cs, fr, e4, hr, hc⟩ := h (by omega)
  exact ⟨g, 0, e4, heap_lt hr, by rw [Nat.zero_add, cell_of_row w g j cs _ fr hr]; exact hc j u hu⟩
theorem BitsV.of_own {w : World} {B k n N : Nat} {q : Option Addr} (h : Own w B 5 q n k ((bitsL N n).map v8)) : BitsV w n (.slice q n k) N := by
  refine ⟨q, k, rfl, fun hp => ?_⟩
  obtain ⟨g, e, _⟩ := h.at_ hp
  obtain ⟨cs, hr, hc⟩ := h.row e
  exact ⟨g, cs, _, e, hr, hc⟩
/-- the values are rows of the bits of these numbers -/
def BitsOf (w : World) (n : Nat) (vs : List Value) (ns : List Nat) : Prop := vs.length = ns.length ∧ ∀ (i : Nat) (N : Nat), ns[i]? = some N → ∃ v, vs[i]? = some v ∧ BitsV w n v N
theorem BitsOf.keeps {w w' : World} {n : Nat} {vs : List Value} {ns : List Nat} (h : BitsOf w n vs ns) (hk : KeepF 5 w w') : BitsOf w' n vs ns :=
  ⟨h.1, fun i l hl => by obtain ⟨v, h1, h2⟩ := h.2 i l hl; exact ⟨v, h1, h2.keeps hk⟩⟩
theorem BitsOf.nil (w : World) (n : Nat) : BitsOf w n [] [] := ⟨rfl, fun i l h => by simp at h⟩
theorem BitsOf.snoc {w : World} {n N : Nat} {vs : List Value} {ns : List Nat} {v : Value} (h : BitsOf w n vs ns) (hb : BitsV w n v N) : BitsOf w n (vs ++ [v]) (ns ++ [N]) := by
  refine ⟨by simp [h.1], fun i x hx => ?_⟩
  by_cases hi : i < ns.length
  · rw [List.getElem?_append_left hi] at hx
    obtain ⟨v', h1, h2⟩ := h.2 i x hx
    exact ⟨v', by rw [List.getElem?_append_left (by rw [h.1]; exact hi)]; exact h1, h2⟩
  · rw [List.getElem?_append_right (by omega)] at hx
    by_cases e : i - ns.length = 0
    · rw [e] at hx
      simp only [List.getElem?_cons_zero, Option.some.injEq] at hx
      subst hx
      exact ⟨v, by rw [List.getElem?_append_right (by rw [h.1]; omega), h.1, e]; rfl, hb⟩
    · rw [List.getElem?_eq_none (by simp; omega)] at hx; cases hx
end Go.Proofs.YtghinmlpkgcdiaaDoor
/-! Schedules: the specification's Run: what it is made of; it refuses. -/
namespace Go.Proofs.YtghinmlpkgcdiaaDoor
set_option linter.unusedSimpArgs false
set_option linter.unusedVariables false
open Go.RowKit Go.Lib

theorem plane_any {m : Nat} (hm : Fld.IsM m) (K : Nat) (hK : K < m) (s : ByteArray) (NS : Nat) (w : World) (hNS : s.size = NS * (m / 8)) (hs : s.size ≤ 1000) :
    Calls Tryd.prog 56 #[.int .i64 (m : Int), .int .i64 (K : Int), .string s] w fun e w' => (∃ q c, e = .returned (.slice q NS c) ∧ BitsV w' NS (.slice q NS c) (Xp.plTo m (Xp.bytesOf s) K s.size)) ∧ Below w.heap.size w w' := by
  rcases hm with rfl | rfl
  · obtain rfl : s.size = NS := by omega
    refine (plane_8 K hK s w hs).mono ?_
    rintro e w' ⟨⟨q, c, rfl, ho⟩, hb⟩
    exact ⟨⟨q, c, rfl, BitsV.of_own ho⟩, hb⟩
  · refine (plane_16 K hK s NS w (by omega) hs).mono ?_
    rintro e w' ⟨⟨q, c, rfl, ho⟩, hb⟩
    exact ⟨⟨q, c, rfl, BitsV.of_own ho⟩, hb⟩
/-- the bytes of a string, as a row -/
theorem conv_bits (w : World) (N n : Nat) : ∃ (c : Nat) (w' : World), (convert 9 91 (.string (strB (bitsL N n)))).run Tryd.prog w = .ok (.slice (some ⟨w.heap.size, 0, none⟩) n c) w' ∧
    Below w.heap.size w w' ∧ BitsV w' n (.slice (some ⟨w.heap.size, 0, none⟩) n c) N ∧ w.heap.size < w'.heap.size := by
  have e : (strB (bitsL N n)).size = n := by rw [strB_size, bitsL_length]
  have h := Go.Lib.run_convert_string_bytes (P := Tryd.prog) w 9 91 5 (strB (bitsL N n)) Tryd.underlying9 Tryd.underlying91 Tryd.underlying5
  rw [e] at h
  refine ⟨_, _, h, below_bytes _ _ _, ⟨_, _, rfl, fun hp => ⟨w.heap.size, _, _, rfl, bytesWorld_at_new _ _ _, fun p u hu => ?_⟩⟩, by rw [bytesWorld_size]; omega⟩
  rw [List.getElem?_map] at hu
  obtain ⟨x, hx, rfl⟩ := Option.map_eq_some_iff.1 hu
  obtain ⟨hj, e2⟩ := List.getElem?_eq_some_iff.1 hx
  have h9 := bytesWorld_cell w 5 (strB (bitsL N n)) p (by rw [e]; rwa [bitsL_length] at hj)
  rw [strB_data, List.getD_eq_getElem?_getD, hx] at h9
  rw [cell_of_row _ _ _ _ _ _ (bytesWorld_at_new w 5 (strB (bitsL N n)))] at h9
  exact h9
theorem runIn_snoc {m t k : Nat} {ss : List ByteArray} {s : ByteArray} (hk : k < m) : Xp.runIn m (ss.take t) ++ (Xp.plList m (Xp.bytesOf s) s.size 0).take (k + 1) = (Xp.runIn m (ss.take t) ++ (Xp.plList m (Xp.bytesOf s) s.size 0).take k) ++ [Xp.plTo m (Xp.bytesOf s) k s.size] := by
  rw [List.take_add_one, Xp.plList_get hk, Xp.plPart_zero, ← List.append_assoc]; rfl
theorem runIn_full {m t : Nat} {ss : List ByteArray} {s : ByteArray} (h : ss[t]? = some s) : Xp.runIn m (ss.take t) ++ (Xp.plList m (Xp.bytesOf s) s.size 0).take m = Xp.runIn m (ss.take (t + 1)) := by
  rw [Xp.runIn_take h, List.take_of_length_le (l := Xp.plList m (Xp.bytesOf s) s.size 0) (by rw [Xp.plList_length]; exact Nat.le_refl _)]
theorem rd_at {w : World} {B b o j : Nat} {xs : List Value} {u : Value} (h : Rd w B (some ⟨b, o, none⟩) xs) (hj : xs[j]? = some u) : b < B ∧ w.cell? ⟨b, o + j, none⟩ = some u := by
  obtain ⟨b', o', e, h1, h2⟩ := h j u hj
  injection e with e
  injection e with e1 e2
  subst e1; subst e2
  exact ⟨h1, h2⟩
theorem unitL_get {m n i : Nat} {R : Nat → Nat} (h : i < n) : (Xp.unitL m R n)[i]? = some (UInt8.ofNat (Xp.ubTo m R i 8)) := by
  unfold Xp.unitL; rw [List.getElem?_map, List.getElem?_range h]; rfl
theorem unitL_take {m n i : Nat} {R : Nat → Nat} (h : i < n) : ((Xp.unitL m R n).take (i + 1)).map v8 = ((Xp.unitL m R n).take i).map v8 ++ [.int .u8 (Xp.ubTo m R i 8 : Nat)] := by
  rw [List.take_add_one, unitL_get h, List.map_append]
  congr 1
  have h9 := Xp.ubTo_lt m R i 8
  show [v8 (UInt8.ofNat _)] = _
  unfold v8
  rw [UInt8.toNat_ofNat', Nat.mod_eq_of_lt h9]
theorem elem_bytes : Elem Tryd.prog 91 (.slice none 0 0) 24 := by unfold Elem; kernel_rfl
set_option maxRecDepth 100000 in
set_option maxHeartbeats 1600000 in
theorem srun_no0 (f d p : Int) (qo : Option Addr) (no ko : Nat) (qx : Option Addr) (nx kx : Nat) (ops : List (Int × Int)) (out : List Int) (qd : Option Addr) (nd kd : Nat) (w : World) (hno : no ≤ 9223372036854775807) (hnx : nx ≤ 9223372036854775807)
    (hlo : ops.length = no) (hro : Rd w w.heap.size qo (opsC ops)) (hlx : out.length = nx) (hrx : Rd w w.heap.size qx (ints out))
    (h : Xp.okS f d p ops out = false ∨ (nd : Int) ≠ d) :
    Calls Tryd.prog 24 #[schV f d p qo no ko qx nx kx, .slice qd nd kd] w fun e w' => e = .returned (.tuple #[.slice none 0 0, .int .i64 1]) ∧ Below w.heap.size w w' := by
  have HV := Lib.hid (fun (W : World) (hb : Below w.heap.size w W) => svalid_any f d p qo no ko qx nx kx ops out W hno hnx hlo ((hro.below hb).more hb.size) hlx ((hrx.below hb).more hb.size))
  obtain ⟨b1, e1⟩ : ∃ b, Xp.okS f d p ops out = b := ⟨_, rfl⟩
  obtain ⟨b2, e2⟩ : ∃ b, ((nd : Int) != d) = b := ⟨_, rfl⟩
  rw [e1] at HV h
  have hs : b1 = false ∨ (b1 = true ∧ b2 = true) := by
    rcases h with h | h
    · exact .inl h
    · cases b1
      · exact .inl rfl
      · exact .inr ⟨rfl, by rw [← e2]; simpa using h⟩
  unfold schV at HV ⊢
  have HW : Hid (Below w.heap.size w (w.alloc (.cells (schC f d p qo no ko qx nx kx) 30))) := Lib.hid ((Below.refl _ w).alloc (Nat.le_refl _) _)
  have HR : Hid (Row (w.alloc (.cells (schC f d p qo no ko qx nx kx) 30)) w.heap.size 30 (schC f d p qo no ko qx nx kx)) := Lib.hid (Row.new w _ _)
  clear hlo hro hlx hrx h e1
  rcases hs with rfl | ⟨rfl, rfl⟩
  · clear e2
    go_enter Tryd.func24, Tryd.ntmps24
    go_wp2_with fail
    refine (HV.out _ HW.out).mono ?_
    rintro e w1 ⟨rfl, hb⟩
    have HB1 := Lib.hid (below_call HW.out hb)
    clear hb
    go_wp2
    refine bodyPost_ret (v := .tuple #[.slice none 0 0, .int .i64 1]) ?_ rfl ⟨rfl, HB1.out⟩
    rw [results_tmp2 rfl]; rfl
  · go_enter Tryd.func24, Tryd.ntmps24
    go_wp2_with fail
    refine (HV.out _ HW.out).mono ?_
    rintro e w1 ⟨rfl, hb⟩
    have HB1 := Lib.hid (below_call HW.out hb)
    obtain ⟨c0, c1, c2, c3, c4⟩ := sbox (HR.out.below hb HR.out.lt)
    clear hb
    go_wp2
    refine bodyPost_ret (v := .tuple #[.slice none 0 0, .int .i64 1]) ?_ rfl ⟨rfl, HB1.out⟩
    rw [results_tmp2 rfl]; rfl
end Go.Proofs.YtghinmlpkgcdiaaDoor
