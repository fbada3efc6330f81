/- Schedules: the program's Valid, the walk. -/
import Derived.Test.YtghinmlpkgcdiaaDoorX2
namespace Go.Proofs.YtghinmlpkgcdiaaDoor
set_option linter.unusedSimpArgs false
set_option linter.unusedVariables false
open Go.RowKit Go.Lib

set_option maxRecDepth 100000 in
set_option maxHeartbeats 1600000 in
theorem xvalid_low (f d p : Int) (qo : Option Addr) (no ko : Nat) (qx : Option Addr) (nx kx : Nat) (w : World) (ht : Tab w) (h : (decide (f = 8) || decide (f = 16)) = false ∨ d < 1 ∨ p < 0 ∨ 32 < d) :
    Calls Tryd.prog 22 #[schV f d p qo no ko qx nx kx] w fun e w' => e = .returned (.bool false) ∧ Below w.heap.size w w' := by
  unfold schV
  obtain ⟨b1, e1⟩ : ∃ b, allB f [0] = b := ⟨_, rfl⟩
  obtain ⟨b2, e2⟩ : ∃ b, decide (d < 1) = b := ⟨_, rfl⟩
  obtain ⟨b3, e3⟩ : ∃ b, decide (p < 0) = b := ⟨_, rfl⟩
  obtain ⟨b4, e4⟩ : ∃ b, decide (32 < d) = b := ⟨_, rfl⟩
  have hs : b1 = false ∨ (b1 = true ∧ b2 = true) ∨ (b1 = true ∧ b2 = false ∧ b3 = true) ∨ (b1 = true ∧ b2 = false ∧ b3 = false ∧ b4 = true) := by
    rw [← allB_zero, e1, ← decide_eq_true_iff (p := d < 1), e2, ← decide_eq_true_iff (p := p < 0), e3, ← decide_eq_true_iff (p := 32 < d), e4] at h
    cases b1 <;> cases b2 <;> cases b3 <;> cases b4 <;> simp_all
  have HV := Lib.hid (fun (W : World) (hb : Below w.heap.size w W) => valid_any f 0 W (ht.next hb))
  have HW : Hid (Below w.heap.size w (w.alloc (.cells (schC f d p qo no ko qx nx kx) 30))) := Lib.hid ((Below.refl _ w).alloc (Nat.le_refl _) _)
  have HR : Hid (Row (w.alloc (.cells (schC f d p qo no ko qx nx kx) 30)) w.heap.size 30 (schC f d p qo no ko qx nx kx)) := Lib.hid (Row.new w _ _)
  rw [e1] at HV
  clear h ht e1
  rcases hs with rfl | ⟨rfl, rfl⟩ | ⟨rfl, rfl, rfl⟩ | ⟨rfl, rfl, rfl, rfl⟩
  all_goals
    go_enter Tryd.func22, Tryd.ntmps22
    go_wp2_with fail
    refine (HV.out _ HW.out).mono ?_
    rintro e w1 ⟨rfl, hb⟩
    have HB1 := Lib.hid (below_call HW.out hb)
    obtain ⟨c0, c1, c2, c3, c4⟩ := sbox (HR.out.below hb HR.out.lt)
    clear hb
    go_wp2
    go_ret
    exact ⟨rfl, HB1.out⟩
set_option maxRecDepth 100000 in
set_option maxHeartbeats 1600000 in
theorem xvalid_high {m : Nat} (hm : Fld.IsM m) (d p : Int) (qo : Option Addr) (no ko : Nat) (qx : Option Addr) (nx kx : Nat) (w : World) (ht : Tab w) (hd1 : 1 ≤ d) (hd2 : d ≤ 32) (hp : 0 ≤ p) (hno : no ≤ 9223372036854775807) (h : 32 - d < p ∨ 131072 < no ∨ (nx : Int) ≠ p * m) :
    Calls Tryd.prog 22 #[schV m d p qo no ko qx nx kx] w fun e w' => e = .returned (.bool false) ∧ Below w.heap.size w w' := by
  unfold schV
  have hwd : IntKind.i64.wrap (32 - d) = 32 - d := by rw [IntKind.wrap_i64] <;> omega
  obtain ⟨pf, hpf⟩ : ∃ pf, p * (m : Int) = pf := ⟨_, rfl⟩
  have hwp : ¬ 32 - d < p → IntKind.i64.wrap (p * (m : Int)) = pf := fun hp2 => by
    rcases hm with rfl | rfl <;> (rw [IntKind.wrap_i64] <;> omega)
  rw [hpf] at h
  obtain ⟨b2, e2⟩ : ∃ b, decide (d < 1) = b := ⟨_, rfl⟩
  obtain ⟨b3, e3⟩ : ∃ b, decide (p < 0) = b := ⟨_, rfl⟩
  obtain ⟨b4, e4⟩ : ∃ b, decide (32 < d) = b := ⟨_, rfl⟩
  obtain rfl : b2 = false := by rw [← e2]; exact decide_eq_false (by omega)
  obtain rfl : b3 = false := by rw [← e3]; exact decide_eq_false (by omega)
  obtain rfl : b4 = false := by rw [← e4]; exact decide_eq_false (by omega)
  have hv1 : allB (m : Int) [0] = true := by
    have := allB_one hm (Nat.two_pow_pos m)
    rwa [show ((0 : Nat) : Int) = 0 from rfl] at this
  have HV := Lib.hid (fun (W : World) (hb : Below w.heap.size w W) => valid_any m 0 W (ht.next hb))
  have HW : Hid (Below w.heap.size w (w.alloc (.cells (schC m d p qo no ko qx nx kx) 30))) := Lib.hid ((Below.refl _ w).alloc (Nat.le_refl _) _)
  have HR : Hid (Row (w.alloc (.cells (schC m d p qo no ko qx nx kx) 30)) w.heap.size 30 (schC m d p qo no ko qx nx kx)) := Lib.hid (Row.new w _ _)
  rw [hv1] at HV
  clear ht hv1 hpf
  by_cases h5 : 32 - d < p
  · have hd5 : decide (32 - d < p) = true := decide_eq_true h5
    clear hwp h h5
    go_enter Tryd.func22, Tryd.ntmps22
    go_wp2_with fail
    refine (HV.out _ HW.out).mono ?_
    rintro e w1 ⟨rfl, hb⟩
    have HB1 := Lib.hid (below_call HW.out hb)
    obtain ⟨c0, c1, c2, c3, c4⟩ := sbox (HR.out.below hb HR.out.lt)
    clear hb
    go_wp2
    go_ret
    exact ⟨rfl, HB1.out⟩
  · have hd5 : decide (32 - d < p) = false := decide_eq_false h5
    have hwp2 := hwp h5
    clear hwp
    by_cases h6 : 131072 < no
    · have hd6 : decide (131072 < (no : Int)) = true := decide_eq_true (by omega)
      clear h h5 h6
      go_enter Tryd.func22, Tryd.ntmps22
      go_wp2_with fail
      refine (HV.out _ HW.out).mono ?_
      rintro e w1 ⟨rfl, hb⟩
      have HB1 := Lib.hid (below_call HW.out hb)
      obtain ⟨c0, c1, c2, c3, c4⟩ := sbox (HR.out.below hb HR.out.lt)
      clear hb
      go_wp2
      go_ret
      exact ⟨rfl, HB1.out⟩
    · have hd6 : decide (131072 < (no : Int)) = false := decide_eq_false (by omega)
      have hd7 : ((nx : Int) != pf) = true := by simp; omega
      clear h h5 h6
      go_enter Tryd.func22, Tryd.ntmps22
      go_wp2_with fail
      refine (HV.out _ HW.out).mono ?_
      rintro e w1 ⟨rfl, hb⟩
      have HB1 := Lib.hid (below_call HW.out hb)
      obtain ⟨c0, c1, c2, c3, c4⟩ := sbox (HR.out.below hb HR.out.lt)
      clear hb
      go_wp2
      go_ret
      exact ⟨rfl, HB1.out⟩
set_option maxRecDepth 100000 in
set_option maxHeartbeats 3200000 in
theorem xvalid_go {m : Nat} (hm : Fld.IsM m) (d p : Int) (qo : Option Addr) (no ko : Nat) (qx : Option Addr) (nx kx : Nat) (ops : List (Int × Int)) (out : List Int) (w : World) (ht : Tab w) (hd1 : 1 ≤ d) (hd2 : d ≤ 32) (hp : 0 ≤ p) (hp2 : p ≤ 32 - d) (hno : no ≤ 131072) (hnx : (nx : Int) = p * m)
    (hlo : ops.length = no) (hro : Rd w w.heap.size qo (opsC ops)) (hlx : out.length = nx) (hrx : Rd w w.heap.size qx (ints out)) :
    Calls Tryd.prog 22 #[schV m d p qo no ko qx nx kx] w fun e w' => e = .returned (.bool (Xp.opsOk (d * m) ops && out.all (Xp.outOk (d * m + no)))) ∧ Below w.heap.size w w' := by
  unfold schV
  have hwd : IntKind.i64.wrap (32 - d) = 32 - d := by rw [IntKind.wrap_i64] <;> omega
  obtain ⟨n, hn⟩ : ∃ n, d * (m : Int) = n := ⟨_, rfl⟩
  have hn1 : 0 ≤ n ∧ n ≤ 512 := by rcases hm with rfl | rfl <;> omega
  have hwn : IntKind.i64.wrap (d * (m : Int)) = n := by rw [hn, IntKind.wrap_i64] <;> omega
  obtain ⟨T, hT⟩ : ∃ T, n + (no : Int) = T := ⟨_, rfl⟩
  have hwT : IntKind.i64.wrap (n + (no : Int)) = T := by rw [hT, IntKind.wrap_i64] <;> omega
  rw [hn, hT]
  have hpn : p * (m : Int) = nx := hnx.symm
  have hnx2 : nx ≤ 512 := by rcases hm with rfl | rfl <;> omega
  have hwp : IntKind.i64.wrap (p * (m : Int)) = nx := by rw [hpn, IntKind.wrap_i64] <;> omega
  have h1 : decide (d < 1) = false := decide_eq_false (by omega)
  have h2 : decide (p < 0) = false := decide_eq_false (by omega)
  have h3 : decide (32 < d) = false := decide_eq_false (by omega)
  have h4 : decide (32 - d < p) = false := decide_eq_false (by omega)
  have h5 : decide (131072 < (no : Int)) = false := decide_eq_false (by omega)
  have hv1 : allB (m : Int) [0] = true := by
    have := allB_one hm (Nat.two_pow_pos m)
    rwa [show ((0 : Nat) : Int) = 0 from rfl] at this
  have HV := Lib.hid (fun (W : World) (hb : Below w.heap.size w W) => valid_any m 0 W (ht.next hb))
  rw [hv1] at HV
  have HIN := Lib.hid (fun (W : World) => inputs_any m d p (.slice qo no ko) (.slice qx nx kx) n hwn W)
  have HC := Lib.hid (fun (W : World) (hb : Below w.heap.size w W) (hg : Row W w.heap.size 30 (schC m d p qo no ko qx nx kx)) => xvalidc_any m d p qo no ko qx nx kx n T qx nx kx out w.heap.size W hlx (by omega) ((hrx.below hb).more hb.size) hg hwn hwT)
  have HLO := Lib.hid hlo
  have HRO := Lib.hid hro
  have HW : Hid (Below w.heap.size w (w.alloc (.cells (schC m d p qo no ko qx nx kx) 30))) := Lib.hid ((Below.refl _ w).alloc (Nat.le_refl _) _)
  have HR : Hid (Row (w.alloc (.cells (schC m d p qo no ko qx nx kx) 30)) w.heap.size 30 (schC m d p qo no ko qx nx kx)) := Lib.hid (Row.new w _ _)
  clear ht hv1 hn hT hpn hnx hlo hro hlx hrx hwT hwn
  go_enter Tryd.func22, Tryd.ntmps22
  go_wp2_with fail
  refine (HV.out _ HW.out).mono ?_
  rintro e w1 ⟨rfl, hb⟩
  have hs1 := hb.size
  simp only [size1] at hs1
  have HB1 := Lib.hid (below_call HW.out hb)
  have HR1 := Lib.hid (HR.out.below hb HR.out.lt)
  obtain ⟨c0, c1, c2, c3, c4⟩ := sbox HR1.out
  clear hb HW HR
  go_wp2_with fail
  clear c0 c1 c2 c3 c4
  go_loopw [53] (fun i wr => ∃ k : Nat, k ≤ no ∧ i = .int .i64 k ∧ Xp.opsOk n (ops.take k) = true ∧ Below w1.heap.size w1 wr) (fun i _ => no - (intOf i).toNat)
  case atStart => exact ⟨0, Nat.zero_le _, rfl, rfl, Below.refl _ _⟩
  case round =>
    obtain ⟨k, hk, rfl, hok, hbw⟩ := hrel
    have HOK := Lib.hid hok
    have HBW := Lib.hid hbw
    have hsw := hbw.size
    clear hok hbw
    by_cases hlt : k < no
    · have hdk : decide ((k : Int) < no) = true := decide_eq_true (by omega)
      obtain ⟨⟨x, y⟩, ho⟩ : ∃ o, ops[k]? = some o := ⟨_, List.getElem?_eq_getElem (by rw [HLO.out]; exact hlt)⟩
      obtain ⟨b, off, rfl, hb, hx, hy⟩ := ((HRO.out.below HB1.out).more HB1.out.size).below HBW.out |>.op ho
      have HOO := Lib.hid ho
      obtain ⟨r, hr⟩ : ∃ r, n + (k : Int) = r := ⟨_, rfl⟩
      have hwr : IntKind.i64.wrap (n + (k : Int)) = r := by rw [hr, IntKind.wrap_i64] <;> omega
      obtain ⟨v, hv⟩ : ∃ v, (if y < x then y else x) = v := ⟨_, rfl⟩
      obtain ⟨u, hu⟩ : ∃ u, (if x < y then y else x) = u := ⟨_, rfl⟩
      have hmin : ∀ (ts : Array TypeId) (t : TypeId) (W : World), (Builtin.min_ ts t #[.int .i64 x, .int .i64 y]).run Tryd.prog W = .ok (.int .i64 v) W := fun ts t W => by rw [min_two, hv]
      have hmax : ∀ (ts : Array TypeId) (t : TypeId) (W : World), (Builtin.max_ ts t #[.int .i64 x, .int .i64 y]).run Tryd.prog W = .ok (.int .i64 u) W := fun ts t W => by rw [max_two, hu]
      have HOP := Lib.hid (show Xp.opOk (n + (k : Int)) (x, y) = (!decide (v < 0) && !decide (r ≤ u) && !(x == y)) by
        rw [hr, Bool.eq_iff_iff, Xp.opOk_iff]
        simp only [Bool.and_eq_true, Bool.not_eq_true', decide_eq_false_iff_not, beq_eq_false_iff_ne]
        split at hv <;> split at hu <;> omega)
      obtain ⟨b1, e1⟩ : ∃ b, decide (v < 0) = b := ⟨_, rfl⟩
      obtain ⟨b2, e2⟩ : ∃ b, decide (r ≤ u) = b := ⟨_, rfl⟩
      obtain ⟨b3, e3⟩ : ∃ b, (x == y) = b := ⟨_, rfl⟩
      rw [e1, e2, e3] at HOP
      have hs : (b1 = true ∨ (b1 = false ∧ b2 = true) ∨ (b1 = false ∧ b2 = false ∧ b3 = true)) ∨ (b1 = false ∧ b2 = false ∧ b3 = false) := by
        cases b1 <;> cases b2 <;> cases b3 <;> simp
      clear ho hr hv hu
      obtain ⟨c0, c1, c2, c3, c4⟩ := sbox (HR1.out.below HBW.out (by omega))
      have hb0 : w.heap.size < wr.heap.size := by omega
      have HBX := Lib.hid (HBW.out.alloc HBW.out.size (.cells #[.int .i64 x, .int .i64 y] 66))
      have HRX := Lib.hid (Row.new wr 66 #[.int .i64 x, .int .i64 y])
      go_wp2_with fail
      refine (HIN.out _).mono ?_
      rintro e w2 ⟨rfl, hb2⟩
      have HB2 := Lib.hid (below_call HBX.out hb2)
      have HRX2 := HRX.out.below hb2 HRX.out.lt
      have x0 := HRX2.cell 0
      have x1 := HRX2.cell 1
      clear HRX2 hb2 c0 c1 c2 c3 c4
      simp only [List.getElem?_toArray, List.getElem?_cons_zero, List.getElem?_cons_succ] at x0 x1
      rcases hs with hs | ⟨rfl, rfl, rfl⟩
      · have HBAD := Lib.hid (show Xp.opsOk n ops = false from Xp.opsOk_bad HOO.out (by
          rw [HOP.out]
          rcases hs with rfl | ⟨rfl, rfl⟩ | ⟨rfl, rfl, rfl⟩ <;> simp))
        rcases hs with rfl | ⟨rfl, rfl⟩ | ⟨rfl, rfl, rfl⟩
        all_goals
          go_wp2
          go_ret
          exact ⟨ret_bool (by rw [HBAD.out, Bool.false_and]), HB1.out.trans (HB2.out.mono HB1.out.size)⟩
      · have HGO := Lib.hid (show Xp.opsOk n (ops.take (k + 1)) = true by
          rw [Xp.opsOk_take HOO.out, HOK.out, HOP.out]; rfl)
        go_wp2_with fail
        go_roundw
        case rel => exact ⟨k + 1, by omega, by go_num, HGO.out, HB2.out⟩
        case measure => simp [intOf]; omega
    · have hdk : decide ((k : Int) < no) = false := decide_eq_false (by omega)
      have hkn : k = no := by omega
      have HGO := Lib.hid (show Xp.opsOk n ops = true by
        have := HOK.out
        rwa [List.take_of_length_le (by rw [HLO.out]; omega)] at this)
      have HRW := Lib.hid (HR1.out.below HBW.out (by omega))
      obtain ⟨c0, c1, c2, c3, c4⟩ := sbox HRW.out
      have HBW2 := Lib.hid (HB1.out.trans (HBW.out.mono HB1.out.size))
      clear hkn
      go_wp2_with fail
      refine (HC.out _ HBW2.out HRW.out).mono ?_
      rintro e w2 ⟨rfl, hb2⟩
      have HB2 := Lib.hid (below_call HBW2.out hb2)
      clear hb2 c0 c1 c2 c3 c4
      go_wp2
      go_ret
      exact ⟨ret_bool (by rw [HGO.out, Bool.true_and]), HB2.out⟩
theorem xvalid_any (f d p : Int) (qo : Option Addr) (no ko : Nat) (qx : Option Addr) (nx kx : Nat) (ops : List (Int × Int)) (out : List Int) (w : World) (ht : Tab w) (hno : no ≤ 9223372036854775807)
    (hlo : ops.length = no) (hro : Rd w w.heap.size qo (opsC ops)) (hlx : out.length = nx) (hrx : Rd w w.heap.size qx (ints out)) :
    Calls Tryd.prog 22 #[schV f d p qo no ko qx nx kx] w fun e w' => e = .returned (.bool (Xp.okS f d p ops out)) ∧ Below w.heap.size w w' := by
  by_cases h : (decide (f = 8) || decide (f = 16)) = false ∨ d < 1 ∨ p < 0 ∨ 32 < d
  · have e : Xp.okS f d p ops out = false := by unfold Xp.okS; rw [headOk_no h]; rfl
    rw [e]
    exact xvalid_low f d p qo no ko qx nx kx w ht h
  · have hf : (decide (f = 8) || decide (f = 16)) = true := by
      cases e : (decide (f = 8) || decide (f = 16)) with
      | true => rfl
      | false => exact absurd (.inl e) h
    obtain ⟨m, hm, rfl⟩ : ∃ m : Nat, Fld.IsM m ∧ f = m := by
      rw [Bool.or_eq_true, decide_eq_true_eq, decide_eq_true_eq] at hf
      rcases hf with rfl | rfl
      · exact ⟨8, .inl rfl, rfl⟩
      · exact ⟨16, .inr rfl, rfl⟩
    have h1 : 1 ≤ d := by omega
    have h2 : d ≤ 32 := by omega
    have h3 : 0 ≤ p := by omega
    have ehead : Xp.headOk (m : Int) d p ops.length out.length = (decide (p ≤ 32 - d) && decide (no ≤ 131072) && decide ((nx : Int) = p * m)) := by
      unfold Xp.headOk
      rw [hf, decide_eq_true h1, decide_eq_true h2, decide_eq_true h3, hlo, hlx]; simp
    by_cases h4 : 32 - d < p ∨ 131072 < no ∨ (nx : Int) ≠ p * m
    · have e : Xp.okS (m : Int) d p ops out = false := by
        unfold Xp.okS
        rw [ehead]
        rcases h4 with h4 | h4 | h4
        · rw [decide_eq_false (show ¬ p ≤ 32 - d by omega)]; simp
        · rw [decide_eq_false (show ¬ no ≤ 131072 by omega)]; simp
        · rw [decide_eq_false h4]; simp
      rw [e]
      exact xvalid_high hm d p qo no ko qx nx kx w ht h1 h2 h3 hno h4
    · have h5 : p ≤ 32 - d := by omega
      have h6 : no ≤ 131072 := by omega
      have h7 : (nx : Int) = p * m := by
        by_cases e : (nx : Int) = p * m
        · exact e
        · exact absurd (.inr (.inr e)) h4
      have e : Xp.okS (m : Int) d p ops out = (Xp.opsOk (d * m) ops && out.all (Xp.outOk (d * m + no))) := by
        unfold Xp.okS
        rw [ehead, decide_eq_true h5, decide_eq_true h6, decide_eq_true h7, hlo]; simp
      rw [e]
      exact xvalid_go hm d p qo no ko qx nx kx ops out w ht h1 h2 h3 h5 h6 h7 hlo hro hlx hrx
end Go.Proofs.YtghinmlpkgcdiaaDoor
