/- Schedules: Run refuses. -/
import Derived.Test.YtghinmlpkgcdiaaDoorX18
import Derived.Test.YtghinmlpkgcdiaaDoorXL
namespace Go.Proofs.YtghinmlpkgcdiaaDoor
set_option linter.unusedSimpArgs false
set_option linter.unusedVariables false
open Go.RowKit Go.Lib

set_option maxRecDepth 100000 in
set_option maxHeartbeats 1600000 in
theorem run_no {m : Nat} (f d p : Int) (qo : Option Addr) (no ko : Nat) (qx : Option Addr) (nx kx : Nat) (ops : List (Int × Int)) (out : List Int) (qd : Option Addr) (nd kd : Nat) (ss : List ByteArray) (w : World) (ht : Tab w) (hno : no ≤ 9223372036854775807)
    (hlo : ops.length = no) (hro : Rd w w.heap.size qo (opsC ops)) (hlx : out.length = nx) (hrx : Rd w w.heap.size qx (ints out)) (hld : ss.length = nd) (hnd : nd ≤ 1000000) (hrd : Rd w w.heap.size qd (strs ss)) (hsz : ∀ s ∈ ss, s.size ≤ 1000)
    (h : Xp.okS f d p ops out = false ∨ (nd : Int) ≠ d ∨ (f = m ∧ Fld.IsM m ∧ 0 < nd ∧ Xp.okS f d p ops out = true ∧ (nd : Int) = d ∧ Xp.fits m ss = false)) :
    Calls Tryd.prog 15 #[schV f d p qo no ko qx nx kx, .slice qd nd kd] w fun e w' => e = .returned (.tuple #[.slice none 0 0, .int .i64 1]) ∧ Below w.heap.size w w' := by
  have HV := Lib.hid (fun (W : World) (hb : Below w.heap.size w W) => xvalid_any f d p qo no ko qx nx kx ops out W (ht.next hb) hno hlo ((hro.below hb).more hb.size) hlx ((hrx.below hb).more hb.size))
  have HCF := Lib.hid (fun (n : Int) (g : Nat) (W : World) (hb : Below w.heap.size w W) (hg : Row W g 3 #[.int .i64 n]) => rcont_any n g qd nd kd ss W hld hnd ((hrd.below hb).more hb.size) hg)
  have HRD := Lib.hid hrd
  have HLD := Lib.hid hld
  have HSZ := Lib.hid hsz
  obtain ⟨b1, e1⟩ : ∃ b, Xp.okS f d p ops out = b := ⟨_, rfl⟩
  obtain ⟨b2, e2⟩ : ∃ b, ((nd : Int) != d) = b := ⟨_, rfl⟩
  rw [e1] at HV h
  have HE2 := Lib.hid e2
  have hs : b1 = false ∨ (b1 = true ∧ b2 = true) ∨ (b1 = true ∧ b2 = false ∧ f = m ∧ Fld.IsM m ∧ 0 < nd ∧ Xp.fits m ss = false) := by
    rcases h with h | h | ⟨h1, h2, h3, h4, h5, h6⟩
    · exact .inl h
    · cases b1
      · exact .inl rfl
      · exact .inr (.inl ⟨rfl, by rw [← e2]; simpa using h⟩)
    · exact .inr (.inr ⟨h4, by rw [← e2]; simpa using h5, h1, h2, h3, h6⟩)
  unfold schV at HV ⊢
  have HW : Hid (Below w.heap.size w (w.alloc (.cells (schC f d p qo no ko qx nx kx) 30))) := Lib.hid ((Below.refl _ w).alloc (Nat.le_refl _) _)
  have HR : Hid (Row (w.alloc (.cells (schC f d p qo no ko qx nx kx) 30)) w.heap.size 30 (schC f d p qo no ko qx nx kx)) := Lib.hid (Row.new w _ _)
  clear ht hlo hro hlx hrx hld hrd hsz h e1
  rcases hs with rfl | ⟨rfl, rfl⟩ | ⟨rfl, rfl, rfl, hm, hnd0, hfit⟩
  · clear e2
    go_enter Tryd.func15, Tryd.ntmps15
    go_wp2_with fail
    refine (HV.out _ HW.out).mono ?_
    rintro e w1 ⟨rfl, hb⟩
    have HB1 := Lib.hid (below_call HW.out hb)
    clear hb
    go_wp2
    refine bodyPost_ret (v := .tuple #[.slice none 0 0, .int .i64 1]) ?_ rfl ⟨rfl, HB1.out⟩
    rw [results_tmp2 rfl]; rfl
  · go_enter Tryd.func15, Tryd.ntmps15
    go_wp2_with fail
    refine (HV.out _ HW.out).mono ?_
    rintro e w1 ⟨rfl, hb⟩
    have HB1 := Lib.hid (below_call HW.out hb)
    obtain ⟨c0, c1, c2, c3, c4⟩ := sbox (HR.out.below hb HR.out.lt)
    clear hb
    go_wp2
    refine bodyPost_ret (v := .tuple #[.slice none 0 0, .int .i64 1]) ?_ rfl ⟨rfl, HB1.out⟩
    rw [results_tmp2 rfl]; rfl
  · obtain ⟨s0, hs0⟩ : ∃ s0, ss[0]? = some s0 := ⟨_, List.getElem?_eq_getElem (by rw [HLD.out]; exact hnd0)⟩
    have hs0n := HSZ.out s0 (List.mem_of_getElem? hs0)
    unfold Xp.fits at hfit
    have hhd : ss.headD ByteArray.empty = s0 := by
      cases ss with
      | nil => simp at hs0
      | cons a l => simpa using hs0
    rw [hhd] at hfit
    have HFIT := Lib.hid hfit
    have HS0 := Lib.hid hs0
    obtain ⟨z, hz⟩ : ∃ z, m / 8 = z := ⟨_, rfl⟩
    have hz12 : 1 ≤ z ∧ z ≤ 2 := by rcases hm with rfl | rfl <;> omega
    have hm16 : 8 ≤ m ∧ m ≤ 16 := by rcases hm with rfl | rfl <;> omega
    have hq1 : (m : Int) / 8 = (z : Int) := by omega
    have HZ := Lib.hid hz
    obtain ⟨r, hr⟩ : ∃ r, s0.size % z = r := ⟨_, rfl⟩
    have hq2 : ((s0.size : Nat) : Int) % (z : Int) = (r : Int) := by rw [← Int.natCast_emod, hr]
    have HRR := Lib.hid hr
    clear hs0 hfit hz hr hm hhd
    go_enter Tryd.func15, Tryd.ntmps15
    go_wp2_with fail
    refine (HV.out _ HW.out).mono ?_
    rintro e w1 ⟨rfl, hb⟩
    have HB1 := Lib.hid (below_call HW.out hb)
    have HR1 := Lib.hid (HR.out.below hb HR.out.lt)
    obtain ⟨c0, c1, c2, c3, c4⟩ := sbox HR1.out
    obtain ⟨b, off, rfl, hbl, hc⟩ := (HRD.out.below HB1.out) 0 (.string s0) (by rw [strs, List.getElem?_map, HS0.out]; rfl)
    rw [Nat.add_zero] at hc
    have hz1 : w.heap.size < w1.heap.size := HR1.out.lt
    have HG := Lib.hid (show Row (w1.alloc (.cells #[.int .i64 ((s0.size : Nat) : Int)] 3)) w1.heap.size 3 #[.int .i64 ((s0.size : Nat) : Int)] from Row.new _ _ _)
    have HB2 := Lib.hid (HB1.out.alloc HB1.out.size (.cells #[.int .i64 ((s0.size : Nat) : Int)] 3))
    clear hb
    by_cases hr0 : r = 0
    · have hd : ((r : Int) != 0) = false := by simp; omega
      have hany : (ss.any fun s => (s.size : Int) != ((s0.size : Nat) : Int)) = true := by
        have h9 := HFIT.out
        rw [HZ.out, HRR.out, decide_eq_true hr0, Bool.true_and, Bool.not_eq_false'] at h9
        exact h9
      have HC2 := Lib.hid (HCF.out ((s0.size : Nat) : Int) w1.heap.size _ HB2.out HG.out)
      rw [hany] at HC2
      clear hany hr0
      go_wp2_with fail
      refine HC2.out.mono ?_
      rintro e w2 ⟨rfl, rfl⟩
      go_wp2
      refine bodyPost_ret (v := .tuple #[.slice none 0 0, .int .i64 1]) ?_ rfl ⟨rfl, HB2.out⟩
      rw [results_tmp2 rfl]; rfl
    · have hd : ((r : Int) != 0) = true := by simp; omega
      go_wp2
      refine bodyPost_ret (v := .tuple #[.slice none 0 0, .int .i64 1]) ?_ rfl ⟨rfl, HB2.out⟩
      rw [results_tmp2 rfl]; rfl
end Go.Proofs.YtghinmlpkgcdiaaDoor
