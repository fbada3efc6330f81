/- Schedules: Shorten, the specification's walk. -/
import Derived.Test.YtghinmlpkgcdiaaDoorZ2
namespace Go.Proofs.YtghinmlpkgcdiaaDoor
set_option linter.unusedSimpArgs false
set_option linter.unusedVariables false
open Go.RowKit Go.Lib

/-! ### the scan for the best pair -/
structure ScanI (n : Nat) (PL : List (Nat × Nat)) (t best x y : Nat) : Prop where
  ge : 1 ≤ best
  all : ∀ p, p < t → cntF n PL p ≤ best
  two : 2 ≤ best → ∃ p, p < t ∧ x = p / n ∧ y = p % n ∧ cntF n PL p = best ∧ ∀ p', p' < p → cntF n PL p' < best
theorem ScanI.start (n : Nat) (PL : List (Nat × Nat)) : ScanI n PL 0 1 0 0 := ⟨Nat.le_refl _, fun p h => by omega, fun h => by omega⟩
theorem ScanI.more {n : Nat} {PL : List (Nat × Nat)} {t best x y C : Nat} (h : ScanI n PL t best x y) (e : cntF n PL t = C) (hC : best < C) : ScanI n PL (t + 1) C (t / n) (t % n) :=
  ⟨by have := h.ge; omega, fun p hp => by
    by_cases e2 : p = t
    · subst e2; omega
    · have := h.all p (by omega); omega, fun _ => ⟨t, by omega, rfl, rfl, e, fun p' hp' => by have := h.all p' hp'; omega⟩⟩
theorem ScanI.less {n : Nat} {PL : List (Nat × Nat)} {t best x y C : Nat} (h : ScanI n PL t best x y) (e : cntF n PL t = C) (hC : ¬ best < C) : ScanI n PL (t + 1) best x y :=
  ⟨h.ge, fun p hp => by
    by_cases e2 : p = t
    · subst e2; omega
    · exact h.all p (by omega), fun h2 => by
    obtain ⟨p, hp, r⟩ := h.two h2
    exact ⟨p, by omega, r⟩⟩
theorem ScanI.best {n best x y : Nat} {ls : List (List Nat)} (h : ScanI n (Xp.allPairs ls) (n * n) best x y) (hok : Xp.SetsOk n ls) : Xp.IsBest (Xp.allPairs ls) (if best = 1 then none else some (x, y)) := by
  have hcnt : ∀ q : Nat × Nat, (Xp.allPairs ls).count q = 0 ∨ (q.1 < n ∧ q.2 < n ∧ (Xp.allPairs ls).count q = cntF n (Xp.allPairs ls) (q.1 * n + q.2)) := by
    intro q
    by_cases hq : q ∈ Xp.allPairs ls
    · right
      unfold Xp.allPairs at hq
      obtain ⟨l, hl, hq⟩ := List.mem_flatMap.1 hq
      obtain ⟨h1, h2⟩ := Xp.mem_pairsOf (a := q.1) (b := q.2) hq
      have a1 := (hok l hl).2 _ h1
      have a2 := (hok l hl).2 _ h2
      obtain ⟨e1, e2⟩ := pair_no (x := q.1) a2
      exact ⟨a1, a2, by unfold cntF; rw [e1, e2]⟩
    · exact .inl (List.count_eq_zero_of_not_mem hq)
  have hge := h.ge
  by_cases hb : best = 1
  · rw [if_pos hb]
    intro q
    rcases hcnt q with e | ⟨a1, a2, e⟩
    · omega
    · have := h.all _ (cnt_at a1 a2)
      omega
  · rw [if_neg hb]
    obtain ⟨p, hp, rfl, rfl, hc, hlt⟩ := h.two (by omega)
    have hn : 0 < n := by
      rcases Nat.eq_zero_or_pos n with e | e
      · subst e; omega
      · exact e
    refine ⟨by show 2 ≤ cntF n _ p; omega, fun q => ?_⟩
    have hce : (Xp.allPairs ls).count (p / n, p % n) = best := hc
    rw [hce]
    rcases hcnt q with e | ⟨a1, a2, e⟩
    · exact ⟨by omega, fun e2 => by omega⟩
    · refine ⟨by have := h.all _ (cnt_at a1 a2); omega, fun e2 => ?_⟩
      have hpq : p ≤ q.1 * n + q.2 := by
        apply Nat.le_of_not_lt
        intro hh
        have := hlt _ hh
        omega
      obtain ⟨e3, e4⟩ := pair_no (x := q.1) a2
      have hd := Nat.div_le_div_right (c := n) hpq
      rw [e3] at hd
      unfold Xp.ple
      simp only
      by_cases heq : p / n = q.1
      · right
        refine ⟨heq, ?_⟩
        have h1 := Nat.div_add_mod p n
        rw [heq, Nat.mul_comm] at h1
        omega
      · left; omega
theorem RowsR.keeps {w w' : World} {qs : Option Addr} {ns : Nat} {ls : List (List Nat)} (h : RowsR w qs ns ls) (h1 : Keeps 27 w w') (h2 : Keeps 3 w w') : RowsR w' qs ns ls :=
  ⟨h.len, fun i l hl => by
    obtain ⟨g, cs, q, k, e, hr, hc, hx⟩ := h.row i l hl
    exact ⟨g, cs, q, k, e, h1 g cs hr, hc, fun p x hp => by
      obtain ⟨g2, cs2, e2, hr2, hc2⟩ := hx p x hp
      exact ⟨g2, cs2, e2, h2 g2 cs2 hr2, hc2⟩⟩⟩
/-- what stands in memory while the specification shortens -/
structure ShR (w1 wr : World) (f d p : Int) (qs : Option Addr) (ns : Nat) (ls : List (List Nat)) (wO : Nat) (q : Option Addr) (n1 k : Nat) (O : List (Int × Int)) : Prop where
  out : Row wr wO 30 (schC f d p q n1 k none 0 0)
  ops : OpsR wr w1.heap.size q n1 k O
  rows : RowsR wr qs ns ls
  oB : w1.heap.size ≤ wO
  below : Below w1.heap.size w1 wr
section
variable {w1 wr w' : World} {f d p : Int} {qs q : Option Addr} {ns n1 k wO : Nat} {ls : List (List Nat)} {O : List (Int × Int)}
theorem ShR.next (h : ShR w1 wr f d p qs ns ls wO q n1 k O) (hb : Below wr.heap.size wr w') : ShR w1 w' f d p qs ns ls wO q n1 k O :=
  ⟨h.out.below hb h.out.lt, h.ops.keeps (Keeps.of_below hb), h.rows.keeps (Keeps.of_below hb) (Keeps.of_below hb), h.oB, h.below.trans (hb.mono h.below.size)⟩
theorem ShR.op {a' : Option Addr} {c' : Nat} {x y : Int} (h : ShR w1 wr f d p qs ns ls wO q n1 k O) (ho : OpsR w' w1.heap.size a' (n1 + 1) c' (O ++ [(x, y)])) (hg : wr.grownBy w' (Value.slice q n1 k).ownBlock) :
    Row w' wO 30 (schC f d p q n1 k none 0 0) ∧ ShR w1 (w'.setCell ⟨wO, 3, none⟩ (.slice a' (n1 + 1) c')) f d p qs ns ls wO a' (n1 + 1) c' (O ++ [(x, y)]) := by
  have hk : ∀ e : TypeId, e ≠ 66 → Keeps e wr w' := fun e he => (Keeps.refl e wr).ops h.ops hg he
  have h1 := hk _ (by decide) _ _ h.out
  have hk2 : ∀ e : TypeId, e ≠ 30 → Keeps e w' (w'.setCell ⟨wO, 3, none⟩ (.slice a' (n1 + 1) c')) := fun e he => (Keeps.refl e w').put (p := ⟨wO, 3, none⟩) h1 he _
  have hb : Below w1.heap.size w1 w' := below_ops h.below hg h.ops h.below.size (Nat.le_refl _)
  exact ⟨h1, h1.put 3 _, ho.keeps (hk2 _ (by decide)), (h.rows.keeps (hk _ (by decide)) (hk _ (by decide))).keeps (hk2 _ (by decide)) (hk2 _ (by decide)), h.oB, hb.setCell (p := ⟨wO, 3, none⟩) h.oB _⟩
end
set_option maxRecDepth 100000 in
set_option maxHeartbeats 1600000 in
theorem sshorten_no (f d p : Int) (qo : Option Addr) (no ko : Nat) (qx : Option Addr) (nx kx : Nat) (ops : List (Int × Int)) (out : List Int) (w : World) (hno : no ≤ 9223372036854775807) (hnx : nx ≤ 9223372036854775807)
    (hlo : ops.length = no) (hro : Rd w w.heap.size qo (opsC ops)) (hlx : out.length = nx) (hrx : Rd w w.heap.size qx (ints out)) (h : Xp.okS f d p ops out = false) :
    Calls Tryd.prog 27 #[schV f d p qo no ko qx nx kx] w fun e w' => e = .returned (.tuple #[schV 0 0 0 none 0 0 none 0 0, .int .i64 1]) ∧ Below w.heap.size w w' := by
  have HV := Lib.hid (fun (W : World) (hb : Below w.heap.size w W) => ssets_no f d p qo no ko qx nx kx ops out W hno hnx hlo ((hro.below hb).more hb.size) hlx ((hrx.below hb).more hb.size) h)
  unfold schV at HV ⊢
  have HW : Hid (Below w.heap.size w ((w.alloc (.cells (schC f d p qo no ko qx nx kx) 30)).alloc (.cells (schC 0 0 0 none 0 0 none 0 0) 30))) := Lib.hid (((Below.refl _ w).alloc (Nat.le_refl _) _).alloc (by simp) _)
  have HZ : Hid (Row ((w.alloc (.cells (schC f d p qo no ko qx nx kx) 30)).alloc (.cells (schC 0 0 0 none 0 0 none 0 0) 30)) (w.heap.size + 1) 30 (schC 0 0 0 none 0 0 none 0 0)) := Lib.hid (Row.made _ _ (by simp))
  clear hlo hro hlx hrx h
  go_enter Tryd.func27, Tryd.ntmps27
  go_wp2_with fail
  refine (HV.out _ HW.out).mono ?_
  rintro e w1 ⟨rfl, hb⟩
  have HB1 := Lib.hid (below_call HW.out hb)
  have HZ1 := Lib.hid (HZ.out.below hb HZ.out.lt)
  clear hb
  go_wp2_with (refine wpList_store_row rfl _ _ _ rfl (w.heap.size + 1) (schC 0 0 0 none 0 0 none 0 0) rfl rfl _ _ HZ1.out (by kernel_rfl) rfl (schC_one _ _ _ _ _ _ _ _ _) ?_)
  refine bodyPost_ret (v := .tuple #[schV 0 0 0 none 0 0 none 0 0, .int .i64 1]) ?_ rfl ⟨rfl, below_whole HB1.out (by omega) _⟩
  exact results_row_tmp rfl _ _ (w.heap.size + 1) _ _ _ _ rfl rfl (HZ1.out.whole _) Tryd.underlying30 (by rfl) (by kernel_rfl)
theorem quo_rem {t n : Nat} (hn : 0 < n) (ht : t ≤ 1000000) : (t : Int).tdiv (n : Int) = ((t / n : Nat) : Int) ∧ (t : Int).tmod (n : Int) = ((t % n : Nat) : Int) ∧ t / n ≤ 1000000 ∧ t % n ≤ 1000000 := by
  refine ⟨by rw [Int.tdiv_eq_ediv_of_nonneg (by omega)]; simp, by rw [Int.tmod_eq_emod_of_nonneg (by omega)]; simp, ?_, ?_⟩
  · have := Nat.div_le_self t n; omega
  · have := Nat.mod_le t n; omega
set_option maxRecDepth 100000 in
set_option maxHeartbeats 25600000 in
theorem sshorten_yes {m D P : Nat} (hm : Fld.IsM m) (qo : Option Addr) (no ko : Nat) (qx : Option Addr) (nx kx : Nat) (ops : List (Int × Int)) (out : List Int) (w : World) (hno : no ≤ 300)
    (hlo : ops.length = no) (hro : Rd w w.heap.size qo (opsC ops)) (hlx : out.length = nx) (hrx : Rd w w.heap.size qx (ints out)) (hok : Xp.okS m D P ops out = true) (n0 : Nat) (hn0 : D * m = n0) (h8 : 8 ≤ n0) (h40 : n0 ≤ 40) (hnx : nx ≤ 40)
    (RES : List (Int × Int) × List (List Nat)) (FO : List (Int × Int)) (FU : List Int) (hRES : Xp.shr n0 (Xp.total (Xp.sets n0 (Xp.regs (Xp.inputs n0) (natO ops)) out)) [] (Xp.sets n0 (Xp.regs (Xp.inputs n0) (natO ops)) out) = RES) (hFO : (Xp.fin n0 RES.1 RES.2).1 = FO) (hFU : (Xp.fin n0 RES.1 RES.2).2 = FU) :
    Calls Tryd.prog 27 #[schV m D P qo no ko qx nx kx] w fun e w' =>
      ((FO.length < no ∧ ∃ q k q2 k2, e = .returned (.tuple #[schV m D P q FO.length k q2 nx k2, .int .i64 0]) ∧ OpsR w' w.heap.size q FO.length k FO ∧ Own w' w.heap.size 3 q2 nx k2 (ints FU)) ∨
       (no ≤ FO.length ∧ e = .returned (.tuple #[schV m D P qo no ko qx nx kx, .int .i64 0]))) ∧ Below w.heap.size w w' := by
  have e : ((D : Int) * (m : Int)) = ((D * m : Nat) : Int) := by simp
  have HV := Lib.hid (fun (W : World) (hb : Below w.heap.size w W) => ssets_yes hm D P qo no ko qx nx kx n0 ops out W (by omega) hlo ((hro.below hb).more hb.size) hlx ((hrx.below hb).more hb.size) hok (by rw [e, hn0]) (by omega) (by omega))
  have HSOK := Lib.hid (sets_ok n0 (Xp.regs (Xp.inputs n0) (natO ops)) out)
  have hT := sets_total n0 (Xp.regs (Xp.inputs n0) (natO ops)) out
  have hTT : nx * n0 ≤ 40 * 40 := Nat.mul_le_mul hnx h40
  rw [hlx] at hT
  have HLS := Lib.hid (show (Xp.sets n0 (Xp.regs (Xp.inputs n0) (natO ops)) out).length = nx by rw [Xp.sets, List.length_map, hlx])
  obtain ⟨ls0, hls0⟩ : ∃ ls0, Xp.sets n0 (Xp.regs (Xp.inputs n0) (natO ops)) out = ls0 := ⟨_, rfl⟩
  rw [hls0] at HV HSOK hT HLS hRES
  obtain ⟨M, hM⟩ : ∃ M, Xp.total ls0 = M := ⟨_, rfl⟩
  rw [hM] at hT hRES
  have hM3 : M ≤ 1600 := by omega
  have HM := Lib.hid hM
  have HRES := Lib.hid hRES
  have HFO := Lib.hid hFO
  have HFU := Lib.hid hFU
  have HN0 := Lib.hid hn0
  have HNW := Lib.hid e
  have hwd : IntKind.i64.wrap ((D : Int) * (m : Int)) = (n0 : Int) := by rw [e, hn0, IntKind.wrap_i64] <;> omega
  obtain ⟨FN, hFN⟩ : ∃ FN, FO.length = FN := ⟨_, rfl⟩
  rw [hFN]
  have HFN := Lib.hid hFN
  clear hFN
  unfold schV at HV ⊢
  have HW : Hid (Below w.heap.size w ((w.alloc (.cells (schC m D P qo no ko qx nx kx) 30)).alloc (.cells (schC 0 0 0 none 0 0 none 0 0) 30))) := Lib.hid (((Below.refl _ w).alloc (Nat.le_refl _) _).alloc (by simp) _)
  have HA : Hid (Row ((w.alloc (.cells (schC m D P qo no ko qx nx kx) 30)).alloc (.cells (schC 0 0 0 none 0 0 none 0 0) 30)) w.heap.size 30 (schC m D P qo no ko qx nx kx)) := Lib.hid ((Row.new w _ _).alloc _)
  have HZ : Hid (Row ((w.alloc (.cells (schC m D P qo no ko qx nx kx) 30)).alloc (.cells (schC 0 0 0 none 0 0 none 0 0) 30)) (w.heap.size + 1) 30 (schC 0 0 0 none 0 0 none 0 0)) := Lib.hid (Row.made _ _ (by simp))
  clear hlo hro hlx hrx hok hm hRES hFO hFU hM hls0 hTT hT hn0 e
  go_enter Tryd.func27, Tryd.ntmps27
  go_upto_region 1 with fail
  obtain ⟨w1, hw1⟩ : ∃ w1, w1 = ((w.alloc (.cells (schC m D P qo no ko qx nx kx) 30)).alloc (.cells (schC 0 0 0 none 0 0 none 0 0) 30)) := ⟨_, rfl⟩
  rw [← hw1] at HW HA HZ ⊢
  clear hw1
  obtain ⟨c0, c1, c2, c3, c4⟩ := sbox HA.out
  have hz1 : w.heap.size + 1 < w1.heap.size := HZ.out.lt
  go_wp2_with fail
  clear c0 c1 c2 c3 c4
  refine (HV.out _ HW.out).mono ?_
  rintro e w2 ⟨⟨qs, ks, vs, rfl, ho, hf⟩, hb⟩
  have HB2 := Lib.hid hb
  have HA2 := Lib.hid (HA.out.below hb HA.out.lt)
  have HZ2 := Lib.hid (HZ.out.below hb HZ.out.lt)
  have HRR2 := Lib.hid (RowsR.of ho hf)
  clear ho hf hb
  obtain ⟨c0, c1, c2, c3, c4⟩ := sbox HA2.out
  have hz2 : w.heap.size < w2.heap.size := HA2.out.lt
  go_upto_region 5 with fail
  obtain ⟨w3, hw3⟩ : ∃ w3, w3 = w2.alloc (.cells (schC m D P none 0 0 none 0 0) 30) := ⟨_, rfl⟩
  have hb23 : Below w2.heap.size w2 w3 := by rw [hw3]; exact (Below.refl _ w2).alloc (Nat.le_refl _) _
  have HB3 := Lib.hid (show Below w1.heap.size w1 w3 from below_call HB2.out hb23)
  have HR3 := Lib.hid (show Row w3 w2.heap.size 30 (schC m D P none 0 0 none 0 0) by rw [hw3]; exact Row.new _ _ _)
  rw [← hw3]
  have HRR3 := Lib.hid (HRR2.out.keeps (Keeps.of_below hb23) (Keeps.of_below hb23))
  clear hw3 hb23 c0 c1 c2 c3 c4
  obtain ⟨wO, hwO⟩ : ∃ wO, w2.heap.size = wO := ⟨_, rfl⟩
  have HWO := Lib.hid (show w1.heap.size ≤ wO by rw [← hwO]; exact HB2.out.size)
  rw [hwO] at HR3 ⊢
  clear hwO
  have HSH3 := Lib.hid (show ShR w1 w3 m D P qs nx ls0 wO none 0 0 [] from ⟨HR3.out, OpsR.nil _ _, HRR3.out, HWO.out, HB3.out⟩)
  go_wp2_with fail
  go_loopw [4] (fun s wr => ∃ (K : Nat) (O : List (Int × Int)) (ls : List (List Nat)) (qs : Option Addr) (ks : Nat) (q : Option Addr) (n1 k : Nat), s = .slice qs nx ks ∧ ShR w1 wr m D P qs nx ls wO q n1 k O ∧ Hid (Xp.SetsOk (n0 + O.length) ls ∧ Xp.shr n0 K O ls = RES ∧ Xp.total ls ≤ K) ∧ 2 * n1 + Xp.total ls ≤ M) (fun _ wr => M - lenAt wr wO 3)
  case atStart => exact ⟨M, [], ls0, qs, ks, none, 0, 0, rfl, HSH3.out, Lib.hid ⟨HSOK.out, HRES.out, by rw [HM.out]; exact Nat.le_refl _⟩, by rw [HM.out]; omega⟩
  case round =>
    obtain ⟨K, O, ls, qs, ks, q, n1, k, rfl, hsh, hst, hnt⟩ := hrel
    have HSH := Lib.hid hsh
    have HST := Lib.hid hst.out
    have HAW := Lib.hid (HA.out.below hsh.below HA.out.lt)
    obtain ⟨a0, a1, a2, a3, a4⟩ := sbox HAW.out
    obtain ⟨c0, c1, c2, c3, c4⟩ := sbox hsh.out
    have hzA := HAW.out.lt
    have hzO := hsh.out.lt
    have hol : O.length = n1 := hsh.ops.len
    obtain ⟨N, hN⟩ : ∃ N, n0 + n1 = N := ⟨_, rfl⟩
    have HNN := Lib.hid hN
    have hN1 : N ≤ 1000 := by omega
    have hN0 : 0 < N := by omega
    have hwN : IntKind.i64.wrap ((n0 : Int) + (n1 : Int)) = (N : Int) := by rw [← hN, IntKind.wrap_i64] <;> omega
    have HSO := Lib.hid (show Xp.SetsOk N ls from by
      have h9 := hst.out.1
      rwa [hol, hN] at h9)
    have HOL := Lib.hid hol
    have HLEN := Lib.hid (fun (l : List Nat) (h : l ∈ ls) => show l.length ≤ 50000 from by have := len_total h; omega)
    have HCO := Lib.hid (rcounts_any qs nx ks ls N wr hsh.rows (by omega) hN1 HSO.out (fun l hl => by have := HLEN.out l hl; omega) (by
      have h1 := allPairs_length ls
      have h2 := Nat.mul_le_mul (show Xp.total ls ≤ 1600 by omega) (show Xp.total ls ≤ 1600 by omega)
      omega))
    have HLI := Lib.hid (show lenAt wr wO 3 = n1 by unfold lenAt; rw [c3])
    have HPL := Lib.hid (fun p => show cntF N (Xp.allPairs ls) p ≤ 2560000 from by
      have h1 := allPairs_length ls
      have h2 := Nat.mul_le_mul (show Xp.total ls ≤ 1600 by omega) (show Xp.total ls ≤ 1600 by omega)
      have h3 : cntF N (Xp.allPairs ls) p ≤ (Xp.allPairs ls).length := List.count_le_length
      omega)
    have hNN : N * N ≤ 1000 * 1000 := Nat.mul_le_mul hN1 hN1
    obtain ⟨NN, hNN2⟩ : ∃ NN, N * N = NN := ⟨_, rfl⟩
    rw [hNN2] at HCO hNN
    have HNQ := Lib.hid hNN2
    clear hsh hst hol hN hNN2
    go_wp2_with fail
    clear a0 a1 a2 a3 a4 c0 c1 c2 c3 c4
    refine HCO.out.mono ?_
    rintro e w4 ⟨rfl, hcc, hb⟩
    have HC4 := Lib.hid hcc
    have HB4 := Lib.hid hb
    have HSH4 := Lib.hid (HSH.out.next hb)
    obtain ⟨wC, hwC⟩ : ∃ wC, wr.heap.size = wC := ⟨_, rfl⟩
    rw [hwC] at HC4 ⊢
    clear hcc hb hwC
    obtain ⟨PL, hPL⟩ : ∃ PL, Xp.allPairs ls = PL := ⟨_, rfl⟩
    rw [hPL] at HC4 HPL
    have HPE := Lib.hid hPL
    clear hPL
    obtain ⟨wr0, rfl⟩ : ∃ W : World, W = wr := ⟨_, rfl⟩
    go_wp2_with fail
    go_loopw [8, 9, 10, 12] (fun s8 s9 s10 i wr => ∃ t best x y : Nat, t ≤ NN ∧ i = .int .i64 t ∧ s8 = .int .i64 best ∧ s9 = .int .i64 x ∧ s10 = .int .i64 y ∧ best ≤ 2560000 ∧ Hid (ScanI N PL t best x y) ∧ wr = w4) (fun _ _ _ i _ => NN - (intOf i).toNat)
    case atStart => exact ⟨0, 1, 0, 0, Nat.zero_le _, rfl, rfl, rfl, rfl, by omega, Lib.hid (ScanI.start N PL), rfl⟩
    case round =>
      obtain ⟨t, best, x, y, ht, rfl, rfl, rfl, rfl, hbs, hsc, rfl⟩ := hrel
      have HSC := Lib.hid hsc.out
      clear hsc
      by_cases hlt : t < NN
      · have hd : decide ((t : Int) < NN) = true := decide_eq_true (by omega)
        have hcell := HC4.out.cell hlt
        obtain ⟨C, hC⟩ : ∃ C, cntF N PL t = C := ⟨_, rfl⟩
        have HC := Lib.hid hC
        rw [hC] at hcell
        have hC2 : C ≤ 2560000 := by rw [← hC]; exact HPL.out t
        clear hC
        obtain ⟨q1, q2, q3, q4⟩ := quo_rem (t := t) hN0 (by omega)
        obtain ⟨tq, htq⟩ : ∃ tq, t / N = tq := ⟨_, rfl⟩
        obtain ⟨tr, htr⟩ : ∃ tr, t % N = tr := ⟨_, rfl⟩
        rw [htq] at q1 q3
        rw [htr] at q2 q4
        have hwq : IntKind.i64.wrap ((tq : Nat) : Int) = (tq : Int) := by rw [IntKind.wrap_i64] <;> omega
        have hwr : IntKind.i64.wrap ((tr : Nat) : Int) = (tr : Int) := by rw [IntKind.wrap_i64] <;> omega
        have HTQ := Lib.hid htq
        have HTR := Lib.hid htr
        have hNz : ((N : Int) == 0) = false := by rw [beq_eq_false_iff_ne]; omega
        have hNz2 : ((N : Int) = 0) = False := by simp; omega
        clear htq htr
        by_cases hbc : best < C
        · have hd2 : decide ((best : Int) < C) = true := decide_eq_true (by omega)
          have HS2 := Lib.hid (HSC.out.more HC.out hbc)
          rw [HTQ.out, HTR.out] at HS2
          go_wp2_with fail
          go_roundw
          case rel => exact ⟨t + 1, C, tq, tr, by omega, by go_num, rfl, rfl, rfl, hC2, Lib.hid HS2.out, trivial⟩
          case measure => simp [intOf]; omega
        · have hd2 : decide ((best : Int) < C) = false := decide_eq_false (by omega)
          have HS2 := Lib.hid (HSC.out.less HC.out hbc)
          go_wp2_with fail
          go_roundw
          case rel => exact ⟨t + 1, best, x, y, by omega, by go_num, rfl, rfl, rfl, hbs, Lib.hid HS2.out, trivial⟩
          case measure => simp [intOf]; omega
      · have hd : decide ((t : Int) < NN) = false := decide_eq_false (by omega)
        have hbest : Xp.IsBest (Xp.allPairs ls) (if best = 1 then none else some (x, y)) := by
          have h9 := HSC.out
          rw [show t = N * N by rw [HNQ.out]; omega, ← HPE.out] at h9
          exact h9.best HSO.out
        by_cases hb1 : best = 1
        · have hd2 : ((best : Int) == 1) = true := by rw [beq_iff_eq]; omega
          rw [if_pos hb1] at hbest
          have hres : RES = (O, ls) := by rw [← HST.out.2.1, Xp.shr_none (Xp.bestOf_is hbest)]
          have hfo := HFO.out
          have hfu := HFU.out
          rw [hres] at hfo hfu
          simp only at hfo hfu
          have HFI := Lib.hid (sfinish_any (m : Int) D P w1.heap.size q n1 k O qs nx ks ls n0 wr (by rw [HNW.out, HN0.out, IntKind.wrap_i64] <;> omega) (by omega) (by omega) HSH4.out.ops HSH4.out.below.size HSH4.out.rows (by omega) (by omega))
          rw [hfo, hfu] at HFI
          unfold schV at HFI
          rw [HFN.out] at HFI
          obtain ⟨c0, c1, c2, c3, c4⟩ := sbox HSH4.out.out
          have hzO4 := HSH4.out.out.lt
          clear hres hfo hfu hnt hbest hb1
          go_wp2_with fail
          clear c0 c1 c2 c3 c4
          refine HFI.out.mono ?_
          rintro e w13 ⟨⟨q2, k2, qx2, kx2, rfl, ho2, hx2, hlie⟩, hon⟩
          have hXB : ∀ j, FinX wr q j → w1.heap.size ≤ j := fun j hj => by
            rcases hj with hj | hj
            · exact (HSH4.out.ops.lt hj).1
            · have := HSH4.out.below.size; omega
          have HB13 := Lib.hid (show Below w1.heap.size w1 w13 from HSH4.out.below.trans (hon.below HSH4.out.below.size hXB))
          have HR13 := Lib.hid (show Row w13 wO 30 (schC m D P q n1 k none 0 0) from hon.row HSH4.out.out (fun hj => by
            rcases hj with hj | hj
            · obtain ⟨_, _, cur, hr⟩ := HSH4.out.ops.lt hj
              exact absurd (hr.type HSH4.out.out) (by decide)
            · omega))
          have HO13 := Lib.hid ho2
          have HX13 := Lib.hid hx2
          have hx13 : w1.heap.size ≤ wr.heap.size := HSH4.out.below.size
          have hz13 := HR13.out.lt
          clear ho2 hx2 hlie hon hXB
          go_upto_region 21 with (refine wpList_store_row rfl _ _ _ rfl wO (schC m D P q2 FN k2 qx2 nx kx2) rfl rfl _ _ HR13.out (by kernel_rfl) rfl (schC_one _ _ _ _ _ _ _ _ _) ?_)
          obtain ⟨w14, hw14⟩ : ∃ w14, w14 = w13.setRow wO (schC m D P q2 FN k2 qx2 nx kx2) := ⟨_, rfl⟩
          have HR14 := Lib.hid (show Row w14 wO 30 (schC m D P q2 FN k2 qx2 nx kx2) by rw [hw14]; exact HR13.out.whole _)
          have HB14 := Lib.hid (show Below w1.heap.size w1 w14 by rw [hw14]; exact below_whole HB13.out HWO.out _)
          have HO14 := Lib.hid (show OpsR w14 w1.heap.size q2 FN k2 FO by
            rw [hw14]
            exact HO13.out.kept fun g hg => setRow_other _ _ _ _ (fun e => by
              obtain ⟨_, _, cur, hr⟩ := HO13.out.lt hg
              subst e
              exact absurd (hr.type HR13.out) (by decide)))
          have HX14 := Lib.hid (show Own w14 w1.heap.size 3 qx2 nx kx2 (ints FU) by
            rw [hw14]
            exact (Own.mono HX13.out hx13).kept fun g hg => setRow_other _ _ _ _ (fun e => by
              obtain ⟨cur, hr, _⟩ := HX13.out.row hg
              subst e
              exact absurd (hr.type HR13.out) (by decide)))
          rw [← hw14]
          clear hw14 hz13 HR13 HB13 HO13 HX13
          have HA14 := Lib.hid (HA.out.below HB14.out HA.out.lt)
          have HZ14 := Lib.hid (HZ.out.below HB14.out HZ.out.lt)
          obtain ⟨a0, a1, a2, a3, a4⟩ := sbox HA14.out
          obtain ⟨c0, c1, c2, c3, c4⟩ := sbox HR14.out
          have hzA := HA14.out.lt
          have hzZ := HZ14.out.lt
          have hzO := HR14.out.lt
          have hww : w.heap.size ≤ w1.heap.size := by omega
          have HBW := Lib.hid (fun (W : World) (h : Below w1.heap.size w1 W) => (HW.out.trans (h.mono hww) : Below w.heap.size w W))
          by_cases hge : no ≤ FN
          · have hdg : decide ((FN : Int) < (no : Int)) = false := decide_eq_false (by omega)
            have hdg2 : decide (FN < no) = false := decide_eq_false (by omega)
            go_wp2_with (refine wpList_store_row rfl _ _ _ rfl (w.heap.size + 1) (schC m D P qo no ko qx nx kx) rfl rfl _ _ HZ14.out (by kernel_rfl) rfl (schC_one _ _ _ _ _ _ _ _ _) ?_)
            refine bodyPost_ret (v := .tuple #[.agg (schC m D P qo no ko qx nx kx), .int .i64 0]) ?_ rfl ⟨.inr ⟨by omega, rfl⟩, below_whole (HBW.out _ HB14.out) (by omega) _⟩
            exact results_row_tmp rfl _ _ (w.heap.size + 1) _ _ _ _ rfl rfl (HZ14.out.whole _) Tryd.underlying30 (by rfl) (by kernel_rfl)
          · have hdg : decide ((FN : Int) < (no : Int)) = true := decide_eq_true (by omega)
            have hdg2 : decide (FN < no) = true := decide_eq_true (by omega)
            go_wp2_with (refine wpList_store_row rfl _ _ _ rfl (w.heap.size + 1) (schC m D P q2 FN k2 qx2 nx kx2) rfl rfl _ _ HZ14.out (by kernel_rfl) rfl (schC_one _ _ _ _ _ _ _ _ _) ?_)
            refine bodyPost_ret (v := .tuple #[.agg (schC m D P q2 FN k2 qx2 nx kx2), .int .i64 0]) ?_ rfl ⟨.inl ⟨by omega, q2, k2, qx2, kx2, rfl, ?_, ?_⟩, below_whole (HBW.out _ HB14.out) (by omega) _⟩
            · exact results_row_tmp rfl _ _ (w.heap.size + 1) _ _ _ _ rfl rfl (HZ14.out.whole _) Tryd.underlying30 (by rfl) (by kernel_rfl)
            · exact (HO14.out.mono hww).kept fun g hg => setRow_other _ _ _ _ (fun e => by
                have h9 := (HO14.out.lt hg).1
                omega)
            · exact (Own.mono HX14.out hww).kept fun g hg => setRow_other _ _ _ _ (fun e => by
                have h9 := (HX14.out.lt hg).1
                omega)
        · have hd2 : ((best : Int) == 1) = false := by rw [beq_eq_false_iff_ne]; omega
          rw [if_neg hb1] at hbest
          obtain ⟨hab, hbN, htot⟩ := Xp.best_facts HSO.out hbest
          simp only at hab hbN htot
          obtain ⟨K', rfl⟩ : ∃ K', K = K' + 1 := ⟨K - 1, by have := HST.out.2.2; omega⟩
          have HRES2 := Lib.hid (show Xp.shr n0 K' (O ++ [((x : Int), (y : Int))]) (ls.map (Xp.repl x y N)) = RES by
            have h9 := HST.out.2.1
            rw [Xp.shr_some (Xp.bestOf_is hbest), HOL.out, HNN.out] at h9
            exact h9)
          have HSO2 := Lib.hid (show Xp.SetsOk (N + 1) (ls.map (Xp.repl x y N)) from HSO.out.repl)
          have HTK := Lib.hid (show Xp.total ls ≤ K' + 1 from HST.out.2.2)
          have HTT := Lib.hid htot
          have HRE := Lib.hid (fun (W : World) (hs : RowsR W qs nx ls) => replace_any qs nx ks ls x y N W hs (by omega) HLEN.out)
          have HMA := Lib.hid (HSH4.out.next ((Below.refl wr.heap.size wr).alloc (Nat.le_refl _) (.cells #[.int .i64 (x : Int), .int .i64 (y : Int)] 66)))
          have HN := Lib.hid (show Row (wr.alloc (.cells #[.int .i64 (x : Int), .int .i64 (y : Int)] 66)) wr.heap.size 66 #[.int .i64 (x : Int), .int .i64 (y : Int)] from Row.new _ _ _)
          obtain ⟨c0, c1, c2, c3, c4⟩ := sbox HSH4.out.out
          have hzO4 := HSH4.out.out.lt
          have hsB : w1.heap.size ≤ wr.heap.size := HSH4.out.below.size
          have hn1s : n1 ≤ 300000 := by omega
          clear hbest htot
          go_upto_region 19 with (refine wpList_op rfl (.tmp 66) (.tmp 70) rfl w1.heap.size q n1 k O rfl HMA.out.ops wr.heap.size 1 (x : Int) (y : Int) rfl (HN.out.cell 0) (HN.out.cell 1) (by omega) (by rw [size1]; omega) ?_; intro a6 k6 w9 ho6 hg6 hn6; have HF6 := Lib.hid (HMA.out.op ho6 hg6); obtain ⟨c0, c1, c2, c3, c4⟩ := sbox HF6.out.1; have hfz := HF6.out.1.frozen 3; clear ho6 hg6 hn6)
          obtain ⟨w10, hw10⟩ : ∃ w10, w10 = w9.setCell ⟨wO, 3, none⟩ (.slice a6 (n1 + 1) k6) := ⟨_, rfl⟩
          have HM10 := Lib.hid (show ShR w1 w10 m D P qs nx ls wO a6 (n1 + 1) k6 (O ++ [((x : Int), (y : Int))]) by rw [hw10]; exact HF6.out.2)
          rw [← hw10]
          clear hw10 c0 c1 c2 c3 c4 hfz HF6 hzO4 hsB HMA HN
          obtain ⟨O2, hO2⟩ : ∃ O2, O ++ [((x : Int), (y : Int))] = O2 := ⟨_, rfl⟩
          have HO2L := Lib.hid (show O2.length = n1 + 1 by rw [← hO2, List.length_append, HOL.out]; rfl)
          rw [hO2] at HM10 HRES2
          clear hO2
          obtain ⟨ls2, hls2⟩ : ∃ ls2, ls.map (Xp.repl x y N) = ls2 := ⟨_, rfl⟩
          rw [hls2] at HRE HSO2 HRES2 HTT
          clear hls2
          go_wp2_with fail
          refine (HRE.out _ HM10.out.rows).mono ?_
          rintro e w11 ⟨⟨q7, k7, rfl, hr7⟩, hb⟩
          have HM11 := Lib.hid (show ShR w1 w11 m D P q7 nx ls2 wO a6 (n1 + 1) k6 O2 from by
            have h9 := HM10.out.next hb
            exact ⟨h9.out, h9.ops, hr7, h9.oB, h9.below⟩)
          clear hr7 hb
          go_wp2_with fail
          go_roundw
          case rel => exact ⟨K', O2, ls2, q7, k7, a6, n1 + 1, k6, rfl, HM11.out, Lib.hid ⟨by rw [HO2L.out, ← Nat.add_assoc, HNN.out]; exact HSO2.out, HRES2.out, by have := HTT.out; have := HTK.out; omega⟩, by have := HTT.out; omega⟩
          case measure =>
            have e1 : lenAt w11 wO 3 = n1 + 1 := by
              unfold lenAt
              rw [(sbox HM11.out.out).2.2.2.1]
            rw [e1, HLI.out]
            have := HTT.out
            omega
end Go.Proofs.YtghinmlpkgcdiaaDoor
