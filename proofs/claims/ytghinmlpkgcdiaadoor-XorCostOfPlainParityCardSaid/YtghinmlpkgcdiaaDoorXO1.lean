/- Schedules: the specification's Same, at equal schedules. Schedules: a finished schedule is valid, and means its sets: the plain law. Schedules: Compile, the program's and the specification's, in one form. -/
import Derived.Test.YtghinmlpkgcdiaaDoorXX
import Derived.BigQuiet
import Derived.Test.YtghinmlpkgcdiaaDoorXQ
/-! Schedules: the specification's Same, at equal schedules. -/
namespace Go.Proofs.YtghinmlpkgcdiaaDoor
set_option linter.unusedSimpArgs false
set_option linter.unusedVariables false
open Go.RowKit Go.Lib

set_option maxRecDepth 100000 in
set_option maxHeartbeats 3200000 in
theorem same_any (f d p : Int) (qa : Option Addr) (no ka : Nat) (qxa : Option Addr) (nx kxa : Nat) (qb : Option Addr) (kb : Nat) (qxb : Option Addr) (kxb : Nat) (ops : List (Int × Int)) (out : List Int) (w : World) (hno : no ≤ 9223372036854775807) (hnx : nx ≤ 9223372036854775807)
    (hlo : ops.length = no) (hlx : out.length = nx) (hra : Rd w w.heap.size qa (opsC ops)) (hxa : Rd w w.heap.size qxa (ints out)) (hrb : Rd w w.heap.size qb (opsC ops)) (hxb : Rd w w.heap.size qxb (ints out)) :
    Calls Tryd.prog 20 #[schV f d p qa no ka qxa nx kxa, schV f d p qb no kb qxb nx kxb] w fun e w' => e = .returned (.bool true) ∧ Below w.heap.size w w' := by
  unfold schV
  have HRA := Lib.hid hra
  have HXA := Lib.hid hxa
  have HRB := Lib.hid hrb
  have HXB := Lib.hid hxb
  have HLO := Lib.hid hlo
  have HLX := Lib.hid hlx
  obtain ⟨W, hW⟩ : ∃ W, W = ((w.alloc (.cells (schC f d p qa no ka qxa nx kxa) 30)).alloc (.cells (schC f d p qb no kb qxb nx kxb) 30)) := ⟨_, rfl⟩
  have HBW := Lib.hid (show Below w.heap.size w W by rw [hW]; exact ((Below.refl _ w).alloc (Nat.le_refl _) _).alloc (by simp) _)
  have HA := Lib.hid (show Row W w.heap.size 30 (schC f d p qa no ka qxa nx kxa) by rw [hW]; exact (Row.new w _ _).alloc _)
  have HB := Lib.hid (show Row W (w.heap.size + 1) 30 (schC f d p qb no kb qxb nx kxb) by rw [hW]; exact Row.made _ _ (by simp))
  have hf : (f != f) = false := by simp
  have hd : (d != d) = false := by simp
  have hp : (p != p) = false := by simp
  have ho : ((no : Int) != (no : Int)) = false := by simp
  have hx : ((nx : Int) != (nx : Int)) = false := by simp
  clear hlo hlx hra hxa hrb hxb
  go_enter Tryd.func20, Tryd.ntmps20
  go_upto_region 1 with fail
  rw [← hW]
  clear hW
  obtain ⟨a0, a1, a2, a3, a4⟩ := sbox HA.out
  obtain ⟨b0, b1, b2, b3, b4⟩ := sbox HB.out
  have hsw : w.heap.size ≤ W.heap.size := HBW.out.size
  go_wp2_with fail
  clear a0 a1 a2 a3 a4 b0 b1 b2 b3 b4 hf hd hp ho hx
  go_loopw [5] (fun i wr => ∃ t n : Nat, t ≤ no ∧ i = .int .i64 t ∧ Hid (wr = W.drewN n)) (fun i _ => no - (intOf i).toNat)
  case atStart => exact ⟨0, 0, Nat.zero_le _, rfl, Lib.hid rfl⟩
  case round =>
    obtain ⟨t, n, ht, rfl, hwr⟩ := hrel
    have HWR := Lib.hid hwr.out
    have HBR := Lib.hid (show Below w.heap.size w wr by rw [HWR.out]; exact below_drewN HBW.out n)
    obtain ⟨a0, a1, a2, a3, a4⟩ := sbox (show Row wr w.heap.size 30 (schC f d p qa no ka qxa nx kxa) by rw [HWR.out]; exact HA.out)
    obtain ⟨b0, b1, b2, b3, b4⟩ := sbox (show Row wr (w.heap.size + 1) 30 (schC f d p qb no kb qxb nx kxb) by rw [HWR.out]; exact HB.out)
    clear hwr
    by_cases hlt : t < no
    · have hd : decide ((t : Int) < no) = true := decide_eq_true (by omega)
      obtain ⟨⟨x, y⟩, hop⟩ : ∃ o, ops[t]? = some o := ⟨_, List.getElem?_eq_getElem (by rw [HLO.out]; exact hlt)⟩
      obtain ⟨ba, oa, rfl, hba, hxa, hya⟩ := (HRA.out.below HBR.out).op hop
      obtain ⟨bb, ob, rfl, hbb, hxb, hyb⟩ := (HRB.out.below HBR.out).op hop
      clear hop a0 a1 a2 a4 b0 b1 b2 b4
      go_wp2_with fail
      go_quiet (fail)
      go_wp2_with fail
      go_roundw
      case rel => exact ⟨t + 1, n + nq, by omega, by go_num, Lib.hid (by rw [HWR.out, World.drewN_drewN])⟩
      case measure => simp [intOf]; omega
    · have hd : decide ((t : Int) < no) = false := decide_eq_false (by omega)
      have hd2 : decide (t < no) = false := decide_eq_false (by omega)
      go_wp2_with fail
      clear a0 a1 a2 a3 a4 b0 b1 b2 b3 b4
      obtain ⟨wo, rfl⟩ : ∃ wo : World, wo = wr := ⟨_, rfl⟩
      go_loopw [6] (fun i wr => ∃ t n : Nat, t ≤ nx ∧ i = .int .i64 t ∧ Hid (wr = W.drewN n)) (fun i _ => nx - (intOf i).toNat)
      case atStart => exact ⟨0, n, Nat.zero_le _, rfl, Lib.hid HWR.out⟩
      case round =>
        obtain ⟨t2, n2, ht2, rfl, hwr⟩ := hrel
        have HWR2 := Lib.hid hwr.out
        have HBR2 := Lib.hid (show Below w.heap.size w wr by rw [HWR2.out]; exact below_drewN HBW.out n2)
        obtain ⟨a0, a1, a2, a3, a4⟩ := sbox (show Row wr w.heap.size 30 (schC f d p qa no ka qxa nx kxa) by rw [HWR2.out]; exact HA.out)
        obtain ⟨b0, b1, b2, b3, b4⟩ := sbox (show Row wr (w.heap.size + 1) 30 (schC f d p qb no kb qxb nx kxb) by rw [HWR2.out]; exact HB.out)
        clear hwr
        by_cases hlt2 : t2 < nx
        · have hdx : decide ((t2 : Int) < nx) = true := decide_eq_true (by omega)
          obtain ⟨x, hx⟩ : ∃ x, out[t2]? = some x := ⟨_, List.getElem?_eq_getElem (by rw [HLX.out]; exact hlt2)⟩
          have hxi : (ints out)[t2]? = some (.int .i64 x) := by rw [ints, List.getElem?_map, hx]; rfl
          obtain ⟨ba, oa, rfl, hba, hca⟩ := (HXA.out.below HBR2.out) t2 _ hxi
          obtain ⟨bb, ob, rfl, hbb, hcb⟩ := (HXB.out.below HBR2.out) t2 _ hxi
          have hxx : (x != x) = false := by simp
          clear hx hxi a0 a1 a2 a3 b0 b1 b2 b3
          go_wp2_with fail
          go_quiet (fail)
          go_wp2_with fail
          go_roundw
          case rel => exact ⟨t2 + 1, n2 + nq, by omega, by go_num, Lib.hid (by rw [HWR2.out, World.drewN_drewN])⟩
          case measure => simp [intOf]; omega
        · have hdx : decide ((t2 : Int) < nx) = false := decide_eq_false (by omega)
          have hdx2 : decide (t2 < nx) = false := decide_eq_false (by omega)
          go_wp2
          go_ret
          exact ⟨rfl, HBR2.out⟩
end Go.Proofs.YtghinmlpkgcdiaaDoor
/-! Schedules: a finished schedule is valid, and means its sets: the plain law. -/
namespace Go.Proofs.YtghinmlpkgcdiaaDoor
set_option linter.unusedSimpArgs false
set_option linter.unusedVariables false
namespace Xp

/-- rising -/
def Rising (l : List Nat) : Prop := l.Pairwise (· < ·)
theorem Rising.lt {l : List Nat} (h : Rising l) {i j x y : Nat} (hij : i < j) (hx : l[i]? = some x) (hy : l[j]? = some y) : x < y := by
  obtain ⟨hi, rfl⟩ := List.getElem?_eq_some_iff.1 hx
  obtain ⟨hj, rfl⟩ := List.getElem?_eq_some_iff.1 hy
  exact (List.pairwise_iff_getElem.1 h) i j hi hj hij
theorem rising_filter (n : Nat) (p : Nat → Bool) : Rising ((List.range n).filter p) := (List.pairwise_lt_range (n := n)).filter p
/-- the exclusive or of registers -/
def xorAll (R : List Nat) (l : List Nat) : Nat := l.foldl (fun a x => a ^^^ (R[x]?.getD 0)) 0
theorem xorAll_snoc (R : List Nat) (l : List Nat) (x : Nat) : xorAll R (l ++ [x]) = xorAll R l ^^^ (R[x]?.getD 0) := by
  unfold xorAll; rw [List.foldl_append]; rfl
theorem xorAll_congr {R R' : List Nat} : ∀ {k : Nat} {l : List Nat}, l.length = k → (∀ x ∈ l, R[x]?.getD 0 = R'[x]?.getD 0) → xorAll R l = xorAll R' l := by
  intro k
  induction k with
  | zero =>
    intro l hl _
    have : l = [] := List.length_eq_zero_iff.1 hl
    subst this; rfl
  | succ k ih =>
    intro l hl h
    have hne : l ≠ [] := by intro e; subst e; simp at hl
    have e := List.dropLast_concat_getLast hne
    rw [← e, xorAll_snoc, xorAll_snoc]
    rw [ih (by rw [List.length_dropLast, hl]; rfl) (fun x hx => h x (List.dropLast_subset _ hx)), h _ (List.getLast_mem hne)]
theorem regs_append : ∀ (a b : List (Nat × Nat)) (l : List Nat), regs l (a ++ b) = regs (regs l a) b
  | [], _, _ => rfl
  | x :: a, b, l => by
    show regs _ (a ++ b) = regs (regs _ a) b
    exact regs_append a b _
theorem regs_old : ∀ (os : List (Nat × Nat)) (l : List Nat) (x : Nat), x < l.length → (regs l os)[x]? = l[x]?
  | [], _, _, _ => rfl
  | o :: os, l, x, h => by
    show (regs _ os)[x]? = _
    rw [regs_old os _ x (by rw [List.length_append]; omega), List.getElem?_append_left h]
theorem natO_append (a b : List (Int × Int)) : natO (a ++ b) = natO a ++ natO b := by unfold natO; rw [List.map_append]
/-- what the registers hold behind one operation more -/
theorem regs_op (L : List Nat) (O : List (Int × Int)) (r : Int) (x : Nat) :
    regs L (natO (O ++ [(r, (x : Int))])) = regs L (natO O) ++ [((regs L (natO O))[r.toNat]?.getD 0) ^^^ ((regs L (natO O))[x]?.getD 0)] := by
  rw [natO_append]
  show regs L (natO O ++ [(r.toNat, ((x : Int)).toNat)]) = _
  rw [regs_snoc, Int.toNat_natCast]
theorem opsOk_mono {n : Int} {ops E : List (Int × Int)} : opsOk n (ops ++ E) = true → opsOk n ops = true := by
  induction ops generalizing n with
  | nil => intro _; rfl
  | cons o os ih =>
    intro h
    show (opOk n o && opsOk (n + 1) os) = true
    have h' : (opOk n o && opsOk (n + 1) (os ++ E)) = true := h
    rw [Bool.and_eq_true] at h' ⊢
    exact ⟨h'.1, ih h'.2⟩
/-- one set's operations: valid, and what they leave -/
theorem chain_says {n : Nat} {L : List Nat} (hL : L.length = n) {ops : List (Int × Int)} {l : List Nat} (hops : opsOk n ops = true) (hl : Rising l) (hb : ∀ x ∈ l, x < n + ops.length) : ∀ k, k ≤ l.length →
    ∃ (E : List (Int × Int)) (r : Int), chain n ops (l.take k) = (ops ++ E, r) ∧ E.length = k - 1 ∧ opsOk n (ops ++ E) = true ∧ (k = 0 → r = -1) ∧ (k = 1 → ∃ x : Nat, l[0]? = some x ∧ r = (x : Int)) ∧ (2 ≤ k → r = ((n + ops.length + (k - 2) : Nat) : Int)) ∧
      (1 ≤ k → (regs L (natO (ops ++ E)))[r.toNat]?.getD 0 = xorAll (regs L (natO ops)) (l.take k)) := by
  intro k
  induction k with
  | zero => intro _; exact ⟨[], -1, by simp [chain], rfl, by rw [List.append_nil]; exact hops, fun _ => rfl, fun h => by omega, fun h => by omega, fun h => by omega⟩
  | succ k ih =>
    intro hk
    obtain ⟨E, r, h1, h2, h3, h4, h5, h6, h7⟩ := ih (by omega)
    obtain ⟨x, hx⟩ : ∃ x, l[k]? = some x := ⟨_, List.getElem?_eq_getElem (by omega)⟩
    have hxb := hb x (List.mem_of_getElem? hx)
    have hlen : (regs L (natO (ops ++ E))).length = n + ops.length + E.length := by rw [regs_length, natO_length, List.length_append, hL]; omega
    have hR : (regs L (natO (ops ++ E)))[x]?.getD 0 = (regs L (natO ops))[x]?.getD 0 := by
      rw [natO_append, regs_append, regs_old _ _ _ (by rw [regs_length, natO_length, hL]; exact hxb)]
    have htk : l.take (k + 1) = l.take k ++ [x] := by rw [List.take_add_one, hx]; rfl
    rw [chain_take hx, h1, htk, xorAll_snoc]
    unfold chStep
    by_cases hk0 : k = 0
    · subst hk0
      rw [h4 rfl]
      rw [if_neg (show ¬ (0 : Int) ≤ -1 by decide)]
      have hE : E = [] := List.length_eq_zero_iff.1 (by omega)
      subst hE
      refine ⟨[], (x : Int), rfl, rfl, h3, fun h => by omega, fun _ => ⟨x, hx, rfl⟩, fun h => by omega, fun _ => ?_⟩
      rw [Int.toNat_natCast, List.append_nil, List.take_zero]
      show _ = 0 ^^^ _
      rw [Nat.zero_xor]
    · have hr : 0 ≤ r ∧ r < ((n + ops.length + E.length : Nat) : Int) ∧ r ≠ (x : Int) := by
        by_cases hk1 : k = 1
        · obtain ⟨x0, hx0, rfl⟩ := h5 hk1
          have hlt := hl.lt (show 0 < k by omega) hx0 hx
          have := hb x0 (List.mem_of_getElem? hx0)
          omega
        · rw [h6 (by omega)]
          omega
      rw [if_pos hr.1]
      refine ⟨E ++ [(r, (x : Int))], ((n + ops.length + E.length : Nat) : Int), ?_, ?_, ?_, fun h => by omega, fun h => by omega, fun _ => ?_, fun _ => ?_⟩
      · rw [← List.append_assoc]
        congr 1
        rw [List.length_append]; omega
      · clear h5; rw [List.length_append, h2]; simp; omega
      · rw [← List.append_assoc, opsOk_snoc, h3, Bool.true_and, opOk_iff]
        refine ⟨hr.1, by simp, ?_, ?_, hr.2.2⟩
        · have := hr.2.1; rw [List.length_append]; omega
        · show (x : Int) < _; rw [List.length_append]; omega
      · have : k + 1 - 2 = E.length := by clear h5; omega
        rw [this]
      · rw [← List.append_assoc, regs_op, Int.toNat_natCast, List.getElem?_append_right (by omega), hlen, Nat.sub_self, List.getElem?_cons_zero, Option.getD_some, h7 (by omega), hR]
/-- how many operations the sets cost -/
def cost (ls : List (List Nat)) : Nat := (ls.map fun l => l.length - 1).sum
theorem cost_snoc (ls : List (List Nat)) (l : List Nat) : cost (ls ++ [l]) = cost ls + (l.length - 1) := by
  unfold cost; rw [List.map_append, List.sum_append]; simp
/-- the finished schedule: valid, and each output is the exclusive or of its set's registers -/
theorem fin_says {n : Nat} {L : List Nat} (hL : L.length = n) {ops : List (Int × Int)} {ls : List (List Nat)} (hops : opsOk n ops = true) (hls : ∀ l ∈ ls, Rising l ∧ ∀ x ∈ l, x < n + ops.length) : ∀ k, k ≤ ls.length →
    ∃ (E : List (Int × Int)) (U : List Int), fin n ops (ls.take k) = (ops ++ E, U) ∧ E.length = cost (ls.take k) ∧ U.length = k ∧ opsOk n (ops ++ E) = true ∧
      ∀ (i : Nat) (r : Int) (l : List Nat), U[i]? = some r → ls[i]? = some l → -1 ≤ r ∧ r < ((n + (ops ++ E).length : Nat) : Int) ∧ outN (regs L (natO (ops ++ E))) r = xorAll (regs L (natO ops)) l := by
  intro k
  induction k with
  | zero => intro _; exact ⟨[], [], by simp [fin], rfl, rfl, by rw [List.append_nil]; exact hops, fun i r l h => by simp at h⟩
  | succ k ih =>
    intro hk
    obtain ⟨E, U, h1, h2, h3, h4, h5⟩ := ih (by omega)
    obtain ⟨l, hl⟩ : ∃ l, ls[k]? = some l := ⟨_, List.getElem?_eq_getElem (by omega)⟩
    obtain ⟨hri, hbd⟩ := hls l (List.mem_of_getElem? hl)
    obtain ⟨E2, r, g1, g2, g3, g4, g5, g6, g7⟩ := chain_says hL h4 hri (fun x hx => by have := hbd x hx; rw [List.length_append]; omega) l.length (Nat.le_refl _)
    rw [List.take_length] at g1 g7
    have htk : ls.take (k + 1) = ls.take k ++ [l] := by rw [List.take_add_one, hl]; rfl
    have hR : xorAll (regs L (natO (ops ++ E))) l = xorAll (regs L (natO ops)) l := xorAll_congr rfl fun x hx => by
      rw [natO_append, regs_append, regs_old _ _ _ (by rw [regs_length, natO_length, hL]; exact hbd x hx)]
    refine ⟨E ++ E2, U ++ [r], ?_, ?_, by simp [h3], by rw [← List.append_assoc]; exact g3, fun i r2 l2 hr hl2 => ?_⟩
    · rw [fin_take hl, h1]
      unfold fiStep
      rw [g1, List.append_assoc]
    · rw [htk, cost_snoc, List.length_append, h2, g2]
    · by_cases hi : i < U.length
      · rw [List.getElem?_append_left hi] at hr
        obtain ⟨a1, a2, a3⟩ := h5 i r2 l2 hr hl2
        refine ⟨a1, by rw [List.length_append] at a2 ⊢; rw [List.length_append]; omega, ?_⟩
        rw [← a3, ← List.append_assoc]
        unfold outN
        by_cases hneg : r2 < 0
        · rw [if_pos hneg, if_pos hneg]
        · rw [if_neg hneg, if_neg hneg, natO_append (ops ++ E), regs_append, regs_old _ _ _ (by rw [regs_length, natO_length, hL]; omega)]
      · have hik : i = k := by
          have := (List.getElem?_eq_some_iff.1 hr).1
          simp at this
          omega
        subst hik
        rw [List.getElem?_append_right (by omega), h3, Nat.sub_self, List.getElem?_cons_zero] at hr
        injection hr with hr
        subst hr
        rw [hl] at hl2
        injection hl2 with hl2
        subst hl2
        rw [← List.append_assoc]
        by_cases h0 : l.length = 0
        · have hr1 := g4 h0
          subst hr1
          have : l = [] := List.length_eq_zero_iff.1 h0
          subst this
          exact ⟨Int.le_refl _, by omega, rfl⟩
        · have hrr : 0 ≤ r ∧ r < ((n + ((ops ++ E) ++ E2).length : Nat) : Int) := by
            by_cases h1' : l.length = 1
            · obtain ⟨x, hx, rfl⟩ := g5 h1'
              have := hbd x (List.mem_of_getElem? hx)
              simp only [List.length_append]
              omega
            · rw [g6 (by omega)]
              have := g2
              simp only [List.length_append]
              omega
          refine ⟨by omega, hrr.2, ?_⟩
          unfold outN
          rw [if_neg (by omega), g7 (by omega), hR]
theorem cost_le_total (ls : List (List Nat)) : cost ls ≤ total ls := by
  induction ls with
  | nil => simp [cost]
  | cons l ls ih =>
    have e : cost (l :: ls) = (l.length - 1) + cost ls := by unfold cost; rw [List.map_cons, List.sum_cons]
    rw [e]
    show _ ≤ l.length + total ls
    omega
/-- the schedule that finish makes is valid -/
theorem fin_okS {m D P : Nat} (hm : Fld.IsM m) {ops : List (Int × Int)} {ls : List (List Nat)} (hops : opsOk ((D * m : Nat) : Int) ops = true) (hls : ∀ l ∈ ls, Rising l ∧ ∀ x ∈ l, x < D * m + ops.length) (hD : 1 ≤ D) (hDP : D + P ≤ 32) (hP : ls.length = P * m) (hc : ops.length + cost ls ≤ 131072) :
    okS m D P (fin ((D * m : Nat) : Int) ops ls).1 (fin ((D * m : Nat) : Int) ops ls).2 = true := by
  obtain ⟨E, U, h1, h2, h3, h4, h5⟩ := fin_says (L := List.replicate (D * m) 0) (by simp) hops hls ls.length (Nat.le_refl _)
  rw [List.take_length] at h1 h2
  rw [h1]
  unfold okS headOk
  have e : ((D : Int) * (m : Int)) = ((D * m : Nat) : Int) := by simp
  rw [e, h4, Bool.and_true, Bool.and_eq_true]
  refine ⟨?_, ?_⟩
  · simp only [Bool.and_eq_true, Bool.or_eq_true, decide_eq_true_eq]
    refine ⟨⟨⟨⟨⟨⟨?_, by omega⟩, by omega⟩, by omega⟩, by omega⟩, by rw [List.length_append, h2]; omega⟩, ?_⟩
    · rcases hm with rfl | rfl
      · exact .inl rfl
      · exact .inr rfl
    · show ((U.length : Nat) : Int) = _
      rw [h3, hP]; simp
  · rw [List.all_eq_true]
    intro r hr
    obtain ⟨i, hi, e2⟩ := List.getElem_of_mem hr
    have hi2 : i < ls.length := by
      have : U.length = ls.length := h3
      have : i < U.length := hi
      omega
    obtain ⟨a1, a2, _⟩ := h5 i r ls[i] (by rw [List.getElem?_eq_getElem (show i < U.length from hi)]; exact congrArg some e2) (List.getElem?_eq_getElem hi2)
    unfold outOk
    rw [decide_eq_true a1, Bool.true_and]
    refine decide_eq_true ?_
    show r < ((D * m : Nat) : Int) + ((ops ++ E).length : Int)
    omega
theorem plane_rising (m : Nat) (row : List Nat) (k T : Nat) : Rising (plane m row k T) := rising_filter _ _
theorem plane_lt {m : Nat} {row : List Nat} {k T x : Nat} (h : x ∈ plane m row k T) : x < T := by
  unfold plane at h
  exact List.mem_range.1 (List.mem_filter.1 h).1
theorem csets_rising {m D : Nat} {rows : List (List Nat)} (h : ∀ r ∈ rows, r.length = D) : ∀ l ∈ csets m rows, Rising l ∧ ∀ x ∈ l, x < D * m := by
  intro l hl
  unfold csets planes planesTo at hl
  obtain ⟨r, hr, hl⟩ := List.mem_flatMap.1 hl
  obtain ⟨k, _, rfl⟩ := List.mem_map.1 hl
  refine ⟨plane_rising _ _ _ _, fun x hx => ?_⟩
  have := plane_lt hx
  rwa [h r hr] at this
end Xp
end Go.Proofs.YtghinmlpkgcdiaaDoor
/-! Schedules: Compile, the program's and the specification's, in one form. -/
namespace Go.Proofs.YtghinmlpkgcdiaaDoor
set_option linter.unusedSimpArgs false
set_option linter.unusedVariables false
open Go.RowKit Go.Lib

theorem own_capM {w : World} {B : Nat} {e : TypeId} {a : Option Addr} {n c : Nat} {xs : List Value} (h : Own w B e a n c xs) : c ≤ maxLen := by
  rcases h.2 with ⟨hv, hn⟩ | ⟨g, cap, cur, hv, _, _, _, hcm, _⟩
  · injection hv with _ _ h3; unfold maxLen; omega
  · injection hv with _ _ h3; omega
def Xp.rowsOf (zss : List (List Int)) : List (List Nat) := zss.map fun zs => zs.map Int.toNat
theorem rowsOf_ints (rows : List (List Nat)) : Xp.rowsOf (intsOf rows) = rows := by
  unfold Xp.rowsOf intsOf
  rw [List.map_map]
  conv => rhs; rw [← List.map_id rows]
  apply List.map_congr_left
  intro r _
  show (r.map fun (x : Nat) => (x : Int)).map Int.toNat = r
  rw [List.map_map]
  conv => rhs; rw [← List.map_id r]
  apply List.map_congr_left
  intro x _
  exact Int.toNat_natCast x
def Xp.compH (b : Bool) (x : Int) : Int := if b then x else 0
/-- the operations and the outputs that Compile makes -/
def Xp.compO (f d : Int) (zss : List (List Int)) : List (Int × Int) := if Xp.okC f d zss then (Xp.fin (d * f) [] (Xp.csets f.toNat (Xp.rowsOf zss))).1 else []
def Xp.compU (f d : Int) (zss : List (List Int)) : List Int := if Xp.okC f d zss then (Xp.fin (d * f) [] (Xp.csets f.toNat (Xp.rowsOf zss))).2 else []
theorem okS_in64 {f d p : Int} {ops : List (Int × Int)} {out : List Int} (h : Xp.okS f d p ops out = true) : (∀ o ∈ ops, in64 o.1 ∧ in64 o.2) ∧ ∀ x ∈ out, in64 x := by
  obtain ⟨m, D, P, rfl, rfl, rfl, hm, h1, h2, h3, h4, h5, h6, h7, h8⟩ := okS_parts h
  unfold Xp.okS at h
  rw [Bool.and_eq_true, Bool.and_eq_true] at h
  have e : ((D : Int) * (m : Int)) = ((D * m : Nat) : Int) := by simp
  rw [e] at h
  refine ⟨fun o ho => ?_, fun x hx => ?_⟩
  · obtain ⟨i, hi, e2⟩ := List.getElem_of_mem ho
    obtain ⟨a1, a2, a3, a4, _⟩ := Xp.opOk_iff.1 (Xp.opsOk_get h.1.2 (k := i) (o := o) (by rw [List.getElem?_eq_getElem hi, e2]))
    unfold in64
    omega
  · have h9 := List.all_eq_true.1 h.2 x hx
    unfold Xp.outOk at h9
    simp only [Bool.and_eq_true, decide_eq_true_eq] at h9
    unfold in64
    omega
/-- what Compile makes is valid just when the code is -/
theorem comp_okS (f d : Int) (zss : List (List Int)) : Xp.okS (Xp.compH (Xp.okC f d zss) f) (Xp.compH (Xp.okC f d zss) d) (Xp.compH (Xp.okC f d zss) zss.length) (Xp.compO f d zss) (Xp.compU f d zss) = Xp.okC f d zss := by
  cases h : Xp.okC f d zss
  · unfold Xp.compO Xp.compU Xp.compH
    rw [h]; rfl
  · obtain ⟨m, D, rows, rfl, rfl, hm, hD, hw, rfl, hr⟩ := okC_get h
    unfold Xp.compO Xp.compU Xp.compH
    rw [h]
    simp only [if_true]
    rw [rowsOf_ints, Int.toNat_natCast, show (intsOf rows).length = rows.length by unfold intsOf; rw [List.length_map]]
    have e : ((D : Int) * (m : Int)) = ((D * m : Nat) : Int) := by simp
    rw [e]
    have hm16 : 8 ≤ m ∧ m ≤ 16 := by rcases hm with rfl | rfl <;> omega
    refine Xp.fin_okS hm rfl (fun l hl => ?_) hD hw (by rw [Xp.csets_length]) ?_
    · obtain ⟨a1, a2⟩ := Xp.csets_rising (fun r hr' => (hr r hr').1) l hl
      exact ⟨a1, fun x hx => by have := a2 x hx; show x < D * m + 0; omega⟩
    · have h1 := Xp.cost_le_total (Xp.csets m rows)
      have h2 := Xp.csets_total m D rows (fun r hr' => (hr r hr').1)
      have h3 : D * rows.length ≤ 256 := by
        by_cases hq : D ≤ 16
        · have h8 := Nat.mul_le_mul (Nat.le_refl D) (show rows.length ≤ 32 - D by omega)
          have : ∀ D : Nat, D ≤ 16 → D * (32 - D) ≤ 256 := by decide
          have := this D hq
          omega
        · have h8 := Nat.mul_le_mul (show D ≤ 32 - rows.length by omega) (Nat.le_refl rows.length)
          have : ∀ r : Nat, r ≤ 16 → (32 - r) * r ≤ 256 := by decide
          have := this rows.length (by omega)
          omega
      have h4 : rows.length * m * (D * m) = (D * rows.length) * (m * m) := by
        rw [Nat.mul_comm rows.length m, Nat.mul_comm D m, Nat.mul_assoc, ← Nat.mul_assoc rows.length, Nat.mul_comm rows.length m, Nat.mul_assoc m rows.length, ← Nat.mul_assoc m m, Nat.mul_comm rows.length D, Nat.mul_comm]
      have h5 := Nat.mul_le_mul h3 (Nat.mul_le_mul hm16.2 hm16.2)
      simp only [List.length_nil]
      omega
section
variable {nm : Value} {f d : Int} {qp : Option Addr} {np kp : Nat} {dom : Int} {zss : List (List Int)}
theorem comp_in (w : World) {b : Bool} (hb : Xp.okC f d zss = b) (hl : zss.length = np) (hf : in64 f) (hd : in64 d) (hnp : np ≤ 32) {qa : Option Addr} {ka : Nat} {qx : Option Addr} {kx : Nat}
    (h1 : (Xp.compO f d zss).length ≤ ka) (h2 : ka ≤ maxLen) (h3 : Rd w w.heap.size qa (opsC (Xp.compO f d zss))) (h4 : (Xp.compU f d zss).length ≤ kx) (h5 : kx ≤ maxLen) (h6 : Rd w w.heap.size qx (ints (Xp.compU f d zss))) :
    SchIn w (Xp.compH b f) (Xp.compH b d) (Xp.compH b np) qa (Xp.compO f d zss).length ka qx (Xp.compU f d zss).length kx (Xp.compO f d zss) (Xp.compU f d zss) := by
  have hz : in64 0 := by unfold in64; omega
  have hh : ∀ x : Int, in64 x → in64 (Xp.compH b x) := fun x hx => by unfold Xp.compH; split <;> assumption
  have hw : (∀ o ∈ Xp.compO f d zss, in64 o.1 ∧ in64 o.2) ∧ ∀ x ∈ Xp.compU f d zss, in64 x := by
    cases b
    · unfold Xp.compO Xp.compU
      rw [hb]
      exact ⟨fun o (ho : o ∈ ([] : List (Int × Int))) => (by cases ho), fun o (ho : o ∈ ([] : List Int)) => (by cases ho)⟩
    · exact okS_in64 ((comp_okS f d zss).trans hb)
  exact ⟨hh _ hf, hh _ hd, hh _ (by unfold in64; omega), rfl, h1, h2, h3, hw.1, rfl, h4, h5, h6, hw.2⟩
theorem xcompile_say (w : World) (ht : Tab w) (hr : Grid w w.heap.size qp np zss) (hnp : np ≤ 9223372036854775807) (hf : in64 f) (hd : in64 d) (hnm : nm.oneCell' = true) {b : Bool} (hb : Xp.okC f d zss = b) :
    Calls Tryd.prog 11 #[.agg (codC nm f d qp np kp dom)] w fun e w' => (∃ qa ka qx kx, e = .returned (.tuple #[schV (Xp.compH b f) (Xp.compH b d) (Xp.compH b np) qa (Xp.compO f d zss).length ka qx (Xp.compU f d zss).length kx, .int .i64 (Xp.errB b)]) ∧ SchIn w' (Xp.compH b f) (Xp.compH b d) (Xp.compH b np) qa (Xp.compO f d zss).length ka qx (Xp.compU f d zss).length kx (Xp.compO f d zss) (Xp.compU f d zss)) ∧ Below w.heap.size w w' := by
  cases b
  · refine (compile_no nm f d qp np kp dom zss w ht hr hnp hnm hb).mono ?_
    rintro e w' ⟨rfl, hbl⟩
    have e1 : Xp.compO f d zss = [] := by unfold Xp.compO; rw [hb]; rfl
    have e2 : Xp.compU f d zss = [] := by unfold Xp.compU; rw [hb]; rfl
    refine ⟨⟨none, 0, none, 0, by rw [e1, e2]; rfl, ?_⟩, hbl⟩
    have hz : in64 0 := by unfold in64; omega
    rw [e1, e2]
    exact ⟨hz, hz, hz, rfl, Nat.le_refl _, by unfold maxLen; omega, Rd.nil _ _ _, (fun o ho => by cases ho), rfl, Nat.le_refl _, by unfold maxLen; omega, Rd.nil _ _ _, fun o ho => by cases ho⟩
  · obtain ⟨m, D, rows, rfl, rfl, hm, hD, hw, rfl, hrw⟩ := okC_get hb
    have hl : rows.length = np := by have := hr.len; unfold intsOf at this; rwa [List.length_map] at this
    have e : ((D : Int) * (m : Int)) = ((D * m : Nat) : Int) := by simp
    have e1 : Xp.compO m D (intsOf rows) = (Xp.fin ((D * m : Nat) : Int) [] (Xp.csets m rows)).1 := by unfold Xp.compO; rw [hb, if_pos rfl, rowsOf_ints, Int.toNat_natCast, e]
    have e2 : Xp.compU m D (intsOf rows) = (Xp.fin ((D * m : Nat) : Int) [] (Xp.csets m rows)).2 := by unfold Xp.compU; rw [hb, if_pos rfl, rowsOf_ints, Int.toNat_natCast, e]
    refine (compile_yes hm nm qp np kp dom rows w ht hr hnm hD (by omega) hrw hb).mono ?_
    rintro e' w' ⟨⟨q, k, qx, kx, rfl, ho, hx⟩, hbl⟩
    rw [← e1] at ho ⊢
    rw [← e2] at hx
    have hxl : (Xp.compU m D (intsOf rows)).length = np * m := by have := hx.len; unfold ints at this; rwa [List.length_map] at this
    refine ⟨⟨q, k, qx, kx, by rw [hxl]; rfl, ?_⟩, hbl⟩
    obtain ⟨c1, c2, _⟩ := ho.cap
    exact comp_in w' hb hr.len hf hd (by omega) c1 c2 ho.rd (by rw [hxl]; exact hx.cap) (own_capM hx) hx.rd
theorem scompile_say (w : World) (hr : Grid w w.heap.size qp np zss) (hnp : np ≤ 28) (hd4 : d ≤ 4) (hf : in64 f) (hd : in64 d) (hnm : nm.oneCell' = true) {b : Bool} (hb : Xp.okC f d zss = b) :
    Calls Tryd.prog 17 #[.agg (codC nm f d qp np kp dom)] w fun e w' => (∃ qa ka qx kx, e = .returned (.tuple #[schV (Xp.compH b f) (Xp.compH b d) (Xp.compH b np) qa (Xp.compO f d zss).length ka qx (Xp.compU f d zss).length kx, .int .i64 (Xp.errB b)]) ∧ SchIn w' (Xp.compH b f) (Xp.compH b d) (Xp.compH b np) qa (Xp.compO f d zss).length ka qx (Xp.compU f d zss).length kx (Xp.compO f d zss) (Xp.compU f d zss)) ∧ Below w.heap.size w w' := by
  cases b
  · refine (scompile_no nm f d qp np kp dom zss w hr hnp hd4 hnm hb).mono ?_
    rintro e w' ⟨rfl, hbl⟩
    have e1 : Xp.compO f d zss = [] := by unfold Xp.compO; rw [hb]; rfl
    have e2 : Xp.compU f d zss = [] := by unfold Xp.compU; rw [hb]; rfl
    refine ⟨⟨none, 0, none, 0, by rw [e1, e2]; rfl, ?_⟩, hbl⟩
    have hz : in64 0 := by unfold in64; omega
    rw [e1, e2]
    exact ⟨hz, hz, hz, rfl, Nat.le_refl _, by unfold maxLen; omega, Rd.nil _ _ _, (fun o ho => by cases ho), rfl, Nat.le_refl _, by unfold maxLen; omega, Rd.nil _ _ _, fun o ho => by cases ho⟩
  · obtain ⟨m, D, rows, rfl, rfl, hm, hD, hw, rfl, hrw⟩ := okC_get hb
    have hl : rows.length = np := by have := hr.len; unfold intsOf at this; rwa [List.length_map] at this
    have e : ((D : Int) * (m : Int)) = ((D * m : Nat) : Int) := by simp
    have e1 : Xp.compO m D (intsOf rows) = (Xp.fin ((D * m : Nat) : Int) [] (Xp.csets m rows)).1 := by unfold Xp.compO; rw [hb, if_pos rfl, rowsOf_ints, Int.toNat_natCast, e]
    have e2 : Xp.compU m D (intsOf rows) = (Xp.fin ((D * m : Nat) : Int) [] (Xp.csets m rows)).2 := by unfold Xp.compU; rw [hb, if_pos rfl, rowsOf_ints, Int.toNat_natCast, e]
    refine (scompile_yes hm nm qp np kp dom rows w hr hnm hD (by omega) hnp hrw hb).mono ?_
    rintro e' w' ⟨⟨q, k, qx, kx, rfl, ho, hx⟩, hbl⟩
    rw [← e1] at ho ⊢
    rw [← e2] at hx
    have hxl : (Xp.compU m D (intsOf rows)).length = np * m := by have := hx.len; unfold ints at this; rwa [List.length_map] at this
    refine ⟨⟨q, k, qx, kx, by rw [hxl]; rfl, ?_⟩, hbl⟩
    obtain ⟨c1, c2, _⟩ := ho.cap
    exact comp_in w' hb hr.len hf hd (by omega) c1 c2 ho.rd (by rw [hxl]; exact hx.cap) (own_capM hx) hx.rd
end
end Go.Proofs.YtghinmlpkgcdiaaDoor
