/- XorShortenMatchesSpec: for every schedule the statement returns true; the argument reads as it did. -/
import Derived.Test.YtghinmlpkgcdiaaDoorZ3
import Derived.Deep.RegionHeld3
namespace Go.Proofs.YtghinmlpkgcdiaaDoor
set_option linter.unusedSimpArgs false
set_option linter.unusedVariables false
open Go.ChangeShapes Go.WideShapes Go.ChangeAt Go.RowKit Go.Lib

section
variable (f d p : Int) (qo : Option Addr) (no ko : Nat) (qx : Option Addr) (nx kx : Nat) (ops : List (Int × Int)) (out : List Int) (w : World)
/-- what Shorten returns, valid or not -/
noncomputable def Xp.shB (b : Bool) (f d p : Int) (ops : List (Int × Int)) (out : List Int) : List (Int × Int) × List Int := if b then Xp.shorten f d p ops out else ([], [])
theorem zero_sched (w : World) : SchIn w 0 0 0 none 0 0 none 0 0 [] [] :=
  ⟨by unfold in64; omega, by unfold in64; omega, by unfold in64; omega, rfl, Nat.le_refl _, by unfold maxLen; omega, Rd.nil _ _ _, (fun o h => by cases h), rfl, Nat.le_refl _, by unfold maxLen; omega, Rd.nil _ _ _, (fun x h => by cases h)⟩
theorem xsh_any {b : Bool} (ht : Tab w) (hno : no ≤ 131072) (hs : SchIn w f d p qo no ko qx nx kx ops out) (hb : Xp.okS f d p ops out = b) :
    Calls Tryd.prog 12 #[schV f d p qo no ko qx nx kx] w fun e w' => (∃ qa ka qy ky, e = .returned (.tuple #[schV (Xp.compH b f) (Xp.compH b d) (Xp.compH b p) qa (Xp.shB b f d p ops out).1.length ka qy (Xp.shB b f d p ops out).2.length ky, .int .i64 (Xp.errB b)]) ∧
      SchIn w' (Xp.compH b f) (Xp.compH b d) (Xp.compH b p) qa (Xp.shB b f d p ops out).1.length ka qy (Xp.shB b f d p ops out).2.length ky (Xp.shB b f d p ops out).1 (Xp.shB b f d p ops out).2) ∧ Below w.heap.size w w' := by
  cases b
  · refine (shorten_no f d p qo no ko qx nx kx ops out w ht (by omega) hs.lo hs.ro hs.lx hs.rx hb).mono ?_
    rintro e w' ⟨rfl, hb2⟩
    exact ⟨⟨none, 0, none, 0, rfl, zero_sched w'⟩, hb2⟩
  · refine (xshorten_say w ht hno hs hb).mono ?_
    rintro e w' ⟨⟨qa, ka, qy, ky, rfl, hi⟩, hb2⟩
    have e1 : (Xp.shB true f d p ops out) = Xp.shorten f d p ops out := rfl
    rw [e1]
    have e2 := hi.lx
    rw [e2]
    exact ⟨⟨qa, ka, qy, ky, rfl, hi⟩, hb2⟩
theorem ssh_any {b : Bool} (hs : SchIn w f d p qo no ko qx nx kx ops out) (hf : few11 f d no nx = true) (hb : Xp.okS f d p ops out = b) :
    Calls Tryd.prog 27 #[schV f d p qo no ko qx nx kx] w fun e w' => (∃ qa ka qy ky, e = .returned (.tuple #[schV (Xp.compH b f) (Xp.compH b d) (Xp.compH b p) qa (Xp.shB b f d p ops out).1.length ka qy (Xp.shB b f d p ops out).2.length ky, .int .i64 (Xp.errB b)]) ∧
      SchIn w' (Xp.compH b f) (Xp.compH b d) (Xp.compH b p) qa (Xp.shB b f d p ops out).1.length ka qy (Xp.shB b f d p ops out).2.length ky (Xp.shB b f d p ops out).1 (Xp.shB b f d p ops out).2) ∧ Below w.heap.size w w' := by
  unfold few11 at hf
  simp only [Bool.and_eq_true, decide_eq_true_eq] at hf
  obtain ⟨⟨⟨⟨hf1, hf2⟩, hf3⟩, hf4⟩, hf5⟩ := hf
  cases b
  · refine (sshorten_no f d p qo no ko qx nx kx ops out w (by omega) (by omega) hs.lo hs.ro hs.lx hs.rx hb).mono ?_
    rintro e w' ⟨rfl, hb2⟩
    exact ⟨⟨none, 0, none, 0, rfl, zero_sched w'⟩, hb2⟩
  · obtain ⟨m, D, P, rfl, rfl, rfl, hm, h1, h2, h3, h4, h5, h6, h7, h8⟩ := okS_parts hb
    obtain ⟨f1, f2, f3, _⟩ := Xp.shorten_facts hm hb
    have e : ((D : Int) * (m : Int)) = ((D * m : Nat) : Int) := by simp
    have h40 : D * m ≤ 40 := by
      rw [e] at hf3
      generalize D * m = y at hf3 h7 ⊢
      unfold wrap64 at hf3
      omega
    obtain ⟨RES, hRES⟩ : ∃ R, Xp.shr (D * m) (Xp.total (Xp.sets (D * m) (Xp.regs (Xp.inputs (D * m)) (natO ops)) out)) [] (Xp.sets (D * m) (Xp.regs (Xp.inputs (D * m)) (natO ops)) out) = R := ⟨_, rfl⟩
    have hsh : Xp.shorten m D P ops out = if (Xp.fin ((D * m : Nat) : Int) RES.1 RES.2).1.length < ops.length then Xp.fin ((D * m : Nat) : Int) RES.1 RES.2 else (ops, out) := by
      unfold Xp.shorten
      rw [e, Int.toNat_natCast]
      simp only
      rw [hRES]
    have e1 : (Xp.shB true m D P ops out) = Xp.shorten m D P ops out := rfl
    have hin := okS_in64 f1
    rw [e1]
    have e2 : (Xp.shorten m D P ops out).2.length = nx := by rw [f3, hs.lx]
    rw [e2]
    refine (sshorten_yes hm qo no ko qx nx kx ops out w hf5 hs.lo hs.ro hs.lx hs.rx hb (D * m) rfl h6 h40 hf4 RES _ _ hRES rfl rfl).mono ?_
    rintro e' w' ⟨⟨hlt, q, k, q2, k2, rfl, ho, hx⟩ | ⟨hge, rfl⟩, hbw⟩
    · rw [if_pos (by rw [hs.lo]; exact hlt)] at hsh
      rw [hsh] at hin ⊢
      refine ⟨⟨q, k, q2, k2, rfl, ?_⟩, hbw⟩
      obtain ⟨c1, c2, _⟩ := ho.cap
      exact ⟨hs.f64, hs.d64, hs.p64, rfl, c1, c2, ho.rd, hin.1, by have := hx.len; unfold ints at this; rwa [List.length_map] at this, hx.cap, own_capM hx, hx.rd, hin.2⟩
    · rw [if_neg (by rw [hs.lo]; omega)] at hsh
      rw [hsh]
      simp only
      rw [hs.lo]
      exact ⟨⟨qo, ko, qx, kx, rfl, hs.next hbw⟩, hbw⟩
set_option maxRecDepth 100000 in
set_option maxHeartbeats 6400000 in
theorem sm_0 (ht : Tab w) (hf1 : few11 f d no nx = false) :
    Calls Tryd.prog 8 #[schV f d p qo no ko qx nx kx] w fun e w' => e = .returned (.bool true) ∧ Below w.heap.size w w' := by
  have HB0 := Lib.hid ((Below.refl _ w).alloc (Nat.le_refl _) (.cells (schC f d p qo no ko qx nx kx) 30))
  have HX0 := Lib.hid (Row.new w 30 (schC f d p qo no ko qx nx kx))
  have HT := Lib.hid ht
  unfold schV
  clear ht
  go_enter Tryd.func8, Tryd.ntmps8
  go_wp2_with fail
  refine (sanity11_any _ (HT.out.next HB0.out)).mono ?_
  rintro e v1 ⟨rfl, hb⟩
  have HB1 := Lib.hid (below_call HB0.out hb)
  have HX1 := Lib.hid (HX0.out.below hb (by first | exact HX0.out.lt | simp))
  clear hb
  obtain ⟨c0, c1, c2, c3, c4⟩ := sbox HX1.out
  have h9 := few11_any f d p qo no ko qx nx kx v1
  rw [hf1] at h9
  unfold schV at h9
  go_wp2_with fail
  clear c0 c1 c2 c3 c4
  refine (h9).mono ?_
  rintro e v2 ⟨rfl, hb⟩
  have HB2 := Lib.hid (below_call HB1.out hb)
  clear hb h9
  go_wp2
  go_ret
  exact ⟨rfl, HB2.out⟩
set_option maxRecDepth 100000 in
set_option maxHeartbeats 12800000 in
theorem sm_1 {b : Bool} (ht : Tab w) (hs : SchIn w f d p qo no ko qx nx kx ops out) (hf1 : few11 f d no nx = true) (hb : Xp.okS f d p ops out = b) :
    Calls Tryd.prog 8 #[schV f d p qo no ko qx nx kx] w fun e w' => e = .returned (.bool true) ∧ Below w.heap.size w w' := by
  have hno : no ≤ 300 := by
    have hf1 := hf1
    unfold few11 at hf1
    simp only [Bool.and_eq_true, decide_eq_true_eq] at hf1
    exact hf1.2
  have HB0 := Lib.hid ((Below.refl _ w).alloc (Nat.le_refl _) (.cells (schC f d p qo no ko qx nx kx) 30))
  have HX0 := Lib.hid (Row.new w 30 (schC f d p qo no ko qx nx kx))
  have HT := Lib.hid ht
  have hsl : (Xp.shB b f d p ops out).1.length ≤ 300 ∧ (Xp.shB b f d p ops out).2.length ≤ 1000 := by
    cases b
    · exact ⟨Nat.zero_le _, Nat.zero_le _⟩
    · obtain ⟨m, D, P, rfl, rfl, rfl, hm, h1, h2, h3, h4, h5, h6, h7, h8⟩ := okS_parts hb
      obtain ⟨f1, f2, f3, _⟩ := Xp.shorten_facts hm hb
      have e1 : (Xp.shB true m D P ops out) = Xp.shorten m D P ops out := rfl
      rw [e1]
      rw [hs.lo] at f2
      exact ⟨by omega, by rw [f3]; omega⟩
  have HSX := Lib.hid (fun (W : World) (h : Below w.heap.size w W) => xsh_any f d p qo no ko qx nx kx ops out W (ht.next h) (by omega) (hs.next h) hb)
  have HSR := Lib.hid (fun (W : World) (h : Below w.heap.size w W) => ssh_any f d p qo no ko qx nx kx ops out W (hs.next h) hf1 hb)
  obtain ⟨E, hE⟩ : ∃ E, Xp.errB b = E := ⟨_, rfl⟩
  obtain ⟨F, hF⟩ : ∃ F, Xp.compH b f = F := ⟨_, rfl⟩
  obtain ⟨G, hG⟩ : ∃ G, Xp.compH b d = G := ⟨_, rfl⟩
  obtain ⟨P, hP⟩ : ∃ P, Xp.compH b p = P := ⟨_, rfl⟩
  obtain ⟨O, hO⟩ : ∃ O, (Xp.shB b f d p ops out).1 = O := ⟨_, rfl⟩
  obtain ⟨U, hU⟩ : ∃ U, (Xp.shB b f d p ops out).2 = U := ⟨_, rfl⟩
  rw [hF, hG, hP, hO, hU, hE] at HSX HSR
  rw [hO, hU] at hsl
  obtain ⟨NO, hNO⟩ : ∃ n, O.length = n := ⟨_, rfl⟩
  obtain ⟨NX, hNX⟩ : ∃ n, U.length = n := ⟨_, rfl⟩
  rw [hNO, hNX] at hsl HSX HSR
  have HSM := Lib.hid (fun (qa : Option Addr) (ka : Nat) (qxa : Option Addr) (kxa : Nat) (qb : Option Addr) (kb : Nat) (qxb : Option Addr) (kxb : Nat) (W : World) (hi : SchIn W F G P qa NO ka qxa NX kxa O U) (hj : SchIn W F G P qb NO kb qxb NX kxb O U) => same_any F G P qa NO ka qxa NX kxa qb kb qxb kxb O U W (by omega) (by omega) hNO hNX hi.ro hi.rx hj.ro hj.rx)
  have h9 := fun (v1 : World) => few11_any f d p qo no ko qx nx kx v1
  rw [hf1] at h9
  have HFE := Lib.hid h9
  unfold schV at HSX HSR HSM HFE ⊢
  clear ht hs hE hF hG hP hO hU hNO hNX hb hsl h9
  go_enter Tryd.func8, Tryd.ntmps8
  go_wp2_with fail
  refine (sanity11_any _ (HT.out.next HB0.out)).mono ?_
  rintro e v1 ⟨rfl, hb⟩
  have HB1 := Lib.hid (below_call HB0.out hb)
  have HX1 := Lib.hid (HX0.out.below hb (by first | exact HX0.out.lt | simp))
  clear hb
  obtain ⟨c0, c1, c2, c3, c4⟩ := sbox HX1.out
  go_wp2_with fail
  clear c0 c1 c2 c3 c4
  refine (HFE.out _).mono ?_
  rintro e v2 ⟨rfl, hb⟩
  have HB2 := Lib.hid (below_call HB1.out hb)
  have HX2 := Lib.hid (HX1.out.below hb HX1.out.lt)
  clear hb
  obtain ⟨c0, c1, c2, c3, c4⟩ := sbox HX2.out
  go_wp2_with fail
  clear c0 c1 c2 c3 c4
  refine (HSX.out _ HB2.out).mono ?_
  rintro e v3 ⟨⟨qa, ka, qxa, kxa, rfl, hin⟩, hb⟩
  have HB3 := Lib.hid (below_call HB2.out hb)
  have HX3 := Lib.hid (HX2.out.below hb HX2.out.lt)
  have HI3 := Lib.hid hin
  clear hb hin
  go_upto_region 5 with fail
  obtain ⟨v4, hv4⟩ : ∃ v4, v4 = v3.alloc (.cells (schC F G P qa NO ka qxa NX kxa) 30) := ⟨_, rfl⟩
  rw [← hv4]
  have hb34 : Below v3.heap.size v3 v4 := by rw [hv4]; exact (Below.refl _ v3).alloc (Nat.le_refl _) _
  have HB4 := Lib.hid (below_call HB3.out hb34)
  have HX4 := Lib.hid (HX3.out.below hb34 HX3.out.lt)
  have HI4 := Lib.hid (HI3.out.next hb34)
  have HA4 := Lib.hid (show Row v4 v3.heap.size 30 (schC F G P qa NO ka qxa NX kxa) by rw [hv4]; exact Row.new _ _ _)
  clear hv4 hb34
  obtain ⟨c0, c1, c2, c3, c4⟩ := sbox HX4.out
  have hz4 : w.heap.size < v4.heap.size := HX4.out.lt
  have hz4b : v3.heap.size < v4.heap.size := HA4.out.lt
  go_wp2_with fail
  clear c0 c1 c2 c3 c4
  refine (HSR.out _ HB4.out).mono ?_
  rintro e v5 ⟨⟨qb, kb, qxb, kxb, rfl, hin⟩, hb⟩
  have HB5 := Lib.hid (below_call HB4.out hb)
  have HA5 := Lib.hid (HA4.out.below hb HA4.out.lt)
  have HI5 := Lib.hid (HI4.out.next hb)
  have HJ5 := Lib.hid hin
  clear hb hin hz4 hz4b
  go_upto_region 6 with fail
  obtain ⟨v6, hv6⟩ : ∃ v6, v6 = v5.alloc (.cells (schC F G P qb NO kb qxb NX kxb) 30) := ⟨_, rfl⟩
  rw [← hv6]
  have hb56 : Below v5.heap.size v5 v6 := by rw [hv6]; exact (Below.refl _ v5).alloc (Nat.le_refl _) _
  have HB6 := Lib.hid (below_call HB5.out hb56)
  have HA6 := Lib.hid (HA5.out.below hb56 HA5.out.lt)
  have HI6 := Lib.hid (HI5.out.next hb56)
  have HJ6 := Lib.hid (HJ5.out.next hb56)
  have HC6 := Lib.hid (show Row v6 v5.heap.size 30 (schC F G P qb NO kb qxb NX kxb) by rw [hv6]; exact Row.new _ _ _)
  clear hv6 hb56
  obtain ⟨a0, a1, a2, a3, a4⟩ := sbox HA6.out
  obtain ⟨c0, c1, c2, c3, c4⟩ := sbox HC6.out
  have hz6 : v3.heap.size < v6.heap.size := HA6.out.lt
  have hz6b : v5.heap.size < v6.heap.size := HC6.out.lt
  have hee : (E == E) = true := by simp
  go_wp2_with fail
  clear a0 a1 a2 a3 a4 c0 c1 c2 c3 c4
  refine (HSM.out _ _ _ _ _ _ _ _ _ HI6.out HJ6.out).mono ?_
  rintro e v7 ⟨rfl, hb⟩
  have HB7 := Lib.hid (below_call HB6.out hb)
  clear hb
  go_wp2
  go_ret
  exact ⟨rfl, HB7.out⟩
theorem walk_XorShortenMatchesSpec (hs : SchIn w f d p qo no ko qx nx kx ops out) (ht : Tab w) :
    Calls Tryd.prog 8 #[schV f d p qo no ko qx nx kx] w fun e w' => e = .returned (.bool true) ∧ Below w.heap.size w w' := by
  cases hf1 : few11 f d no nx
  · exact sm_0 f d p qo no ko qx nx kx w ht hf1
  · exact sm_1 f d p qo no ko qx nx kx ops out w ht hs hf1 rfl
end
set_option maxRecDepth 100000
/-! ### the frame: the arguments opened and shut -/
theorem contract_XorShortenMatchesSpec (H : Type) (enc : TypeId × Value → H) (W : World) (base : Nat) (args : Array Value) (ds gs : List (DataW H)) (before : List MemPlace)
    (hval0 : ∀ (j : Nat) t v, Tryd.f8.params[j]? = some t → args[j]? = some v → Value.okWide Tryd.prog W .any base t v)
    (hW : DataW.Whole enc Tryd.prog Tryd.f8.params.toList Rows.xorShortenMatchesSpecSpec.vars false W args.toList ds gs before) (hL : laidMetH Tryd.prog Rows.xorShortenMatchesSpecRow.laid W) :
    Calls Tryd.prog 8 args W fun e W' => ∃ v, e = .returned v ∧ Rows.xorShortenMatchesSpecSpec.post enc Tryd.prog Tryd.f8 false true false false W args v W' := by
  have hval : ∀ (j : Nat) t v, Tryd.f8.params[j]? = some t → args[j]? = some v → Value.okWide Tryd.prog W .any base t v := hval0
  have hW' := hW
  obtain ⟨p, q, hA0, hV, rfl, hfz, hnd⟩ := hW
  have hA : DataW.TrodAll enc Tryd.prog W 0 (fun _ => true) true Tryd.f8.params.toList args.toList ds p := hA0
  rw [Tryd.params8] at hA hval
  obtain ⟨v0, vs0, d0, ds0, p0, q0, hargs, rfl, rfl, h0, r0⟩ := trodAll_cons hA
  obtain ⟨rfl, rfl, rfl⟩ := trodAll_nil r0
  obtain rfl : args = #[v0] := by cases args; simp_all
  obtain ⟨rfl, rfl⟩ := trodVars_none hV
  have k0 := h0
  have lt0 : ∀ x ∈ p0, x.block < W.heap.size := by obtain ⟨m, hm⟩ := k0; exact DataW.trod_lt m _ _ _ hm
  obtain ⟨cs0, rfl, _⟩ := okWide_struct Tryd.underlying30 (hval 0 30 v0 rfl rfl)
  obtain ⟨fuel0, hf0⟩ := h0
  obtain ⟨sf0, sd0, sp0, sqo0, sno0, sko0, sqx0, snx0, skx0, sops0, sout0, hcs0, hsc0⟩ := open_sched hf0
  obtain rfl : cs0 = schC sf0 sd0 sp0 sqo0 sno0 sko0 sqx0 snx0 skx0 := by apply Array.toList_inj.1; simpa [Value.cells] using hcs0
  refine (walk_XorShortenMatchesSpec sf0 sd0 sp0 sqo0 sno0 sko0 sqx0 snx0 skx0 sops0 sout0 W hsc0 (tab_of hL)).mono fun e W' ⟨he, bel⟩ => ?_
  subst he
  exact ⟨_, rfl, _, _, _, [], _, [], hW', trodAll_mk1 (shut_bool Tryd.underlying4 _), (trodAll_cons_mk (Below.trod laidOut (by kernel_rfl) (of_decide_eq_true (by kernel_rfl)) k0 bel lt0) trodAll_mk0), rfl, bel.frame _, fun h => by cases h⟩
theorem laid_XorShortenMatchesSpec (os : Os) : laidMet Tryd.prog Rows.xorShortenMatchesSpecRow.laid ((laidWorld os).forCall (fun _ _ => 0) ⟨#[], #[.agg #[.int .i64 0, .int .i64 0, .int .i64 0, .slice none 0 0, .slice none 0 0]], []⟩).memory :=
  laidMet_of_run' 8 (by kernel_rfl) (by kernel_rfl)
theorem reads_XorShortenMatchesSpec (os : Os) {H : Type} (enc : TypeId × Value → H) : ∃ places, DataW.whole enc Tryd.prog ((laidWorld os).forCall (fun _ _ => 0) ⟨#[], #[.agg #[.int .i64 0, .int .i64 0, .int .i64 0, .slice none 0 0, .slice none 0 0]], []⟩).memory Tryd.f8.params.toList Rows.xorShortenMatchesSpecSpec.vars false (#[.agg #[.int .i64 0, .int .i64 0, .int .i64 0, .slice none 0 0, .slice none 0 0]] : Array Value).toList 8 = some ([.agg [.lit (.int .i64 0), .lit (.int .i64 0), .lit (.int .i64 0), .nil, .nil]], [], places) :=
  ⟨[], by kernel_rfl⟩
set_option maxRecDepth 100000 in
theorem lifted_XorShortenMatchesSpec (os : Os) (started : os.Started) (H : Type) (enc : TypeId × Value → H) (F : Stop.Interp) :
    ReturnsInHanded {} Tryd.checked os 8 .any ((OpenSpec.ofChange Rows.xorShortenMatchesSpecSpec).preRow enc Tryd.prog Tryd.f8 Rows.xorShortenMatchesSpecRow.domain false Rows.xorShortenMatchesSpecRow.laid) (((OpenSpec.ofChange Rows.xorShortenMatchesSpecSpec).at F).post enc Tryd.prog Tryd.f8 false true false false) := by
  obtain ⟨places, hx⟩ := reads_XorShortenMatchesSpec os enc
  refine returnsInHanded_of_row (C := Tryd.checked) (s := OpenSpec.ofChange Rows.xorShortenMatchesSpecSpec) own started (by kernel_rfl) Tryd.func8
    (witness_row_at (enc := enc) (C := Tryd.checked) false (laidWorld os) #[.agg #[.int .i64 0, .int .i64 0, .int .i64 0, .slice none 0 0, .slice none 0 0]] rfl (by kernel_rfl) (by kernel_rfl) (by kernel_rfl)
      (OpenSpec.preRow_of_cond 8 hx (by kernel_rfl) (fun k hk => by cases hk) (by kernel_rfl) (laid_XorShortenMatchesSpec os))) ?_
  intro W base args ds gs before hval hW _ hcond _ hL _ _
  exact contract_XorShortenMatchesSpec H enc W base args ds gs before hval hW hL

theorem said_XorShortenMatchesSpec : Rows.XorShortenMatchesSpecSaid :=
  OpenClaim.holds_of_cond 8 Tryd.f8 rfl rfl rfl rfl rfl rfl rfl ⟨rfl, rfl, rfl, rfl, rfl⟩ rfl rfl rfl rfl rfl (by kernel_rfl) Tryd.func8 (by kernel_rfl)
    (of_decide_eq_true (by kernel_rfl)) (by unfold Func.isWrapper; first | (rw [if_pos (by decide +kernel)]; kernel_rfl) | (rw [if_neg (by decide +kernel)]; exact ⟨rfl, rfl⟩))
    (fun os started H enc _ F => by rw [OpenClaim.pre_eq_preRow]; exact lifted_XorShortenMatchesSpec os started H enc F)
theorem plain_XorShortenMatchesSpec (f : FuncId) (fn : Func) (hf : Tryd.pinned.checked.prog.funcNamed "solvent/solventlaw11.XorShortenMatchesSpec" = some f) (hfn : Tryd.pinned.checked.prog.funcs[f]? = some fn) :
    false = Tryd.pinned.checked.prog.looks [] ∧ ∀ (j : Nat) t, fn.params[j]? = some t → Tryd.pinned.checked.prog.wantsStandIn t = false := by
  obtain rfl : f = 8 := Option.some.inj ((show Tryd.prog.funcNamed "solvent/solventlaw11.XorShortenMatchesSpec" = some 8 by kernel_rfl).symm.trans hf) |>.symm
  obtain rfl : fn = Tryd.f8 := (Option.some.inj (Tryd.func8.symm.trans hfn)).symm
  refine ⟨by kernel_rfl, fun j t ht => ?_⟩
  rw [Tryd.params8] at ht
  have hm := Array.mem_of_getElem? ht
  simp only [List.mem_toArray, List.mem_cons, List.not_mem_nil, or_false] at hm
  subst hm
  exact (show Tryd.prog.wantsStandIn 30 = false by kernel_rfl)
theorem proved_XorShortenMatchesSpec : Rows.XorShortenMatchesSpecCardSaid :=
  Claim7.holds_tied_plain_at .later [] _ _ _ _ said_XorShortenMatchesSpec (fun _ h => by cases h) (by kernel_rfl) (fun _ h => by cases h) xorShortenMatchesSpec_row_tie rfl ⟨rfl, rfl⟩ (by kernel_rfl) rfl plain_XorShortenMatchesSpec (by kernel_rfl)
end Go.Proofs.YtghinmlpkgcdiaaDoor
