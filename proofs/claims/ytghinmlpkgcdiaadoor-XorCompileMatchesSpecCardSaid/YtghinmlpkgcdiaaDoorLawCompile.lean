/- XorCompileMatchesSpec: for every code the statement returns true; the argument reads as it did. -/
import Derived.Test.YtghinmlpkgcdiaaDoorOpenC
import Derived.Deep.RegionHeld3
import Derived.BigQuiet
import Derived.Deep.Cut
namespace Go.Proofs.YtghinmlpkgcdiaaDoor
set_option linter.unusedSimpArgs false
set_option linter.unusedVariables false
open Go.ChangeShapes Go.WideShapes Go.ChangeAt Go.RowKit Go.Lib

section
variable (nm : ByteArray) (f d : Int) (qp : Option Addr) (np kp : Nat) (dom : Int) (zss : List (List Int)) (w : World)
set_option maxRecDepth 100000 in
set_option maxHeartbeats 6400000 in
theorem cm_0 (ht : Tab w) (h : 4 < d ∨ 3 < np) :
    Calls Tryd.prog 5 #[.agg (codC (.string nm) f d qp np kp dom)] w fun e w' => e = .returned (.bool true) ∧ Below w.heap.size w w' := by
  have HB0 := Lib.hid ((Below.refl _ w).alloc (Nat.le_refl _) (.cells (codC (.string nm) f d qp np kp dom) 26))
  have HX0 := Lib.hid (Row.new w 26 (codC (.string nm) f d qp np kp dom))
  have HT := Lib.hid ht
  clear ht
  obtain ⟨b1, h1⟩ : ∃ b, decide (4 < d) = b := ⟨_, rfl⟩
  cases b1
  · have h2 : decide ((3 : Int) < (np : Int)) = true := decide_eq_true (by have := of_decide_eq_false h1; omega)
    clear h
    go_enter Tryd.func5, Tryd.ntmps5
    go_wp2_with fail
    refine (sanity11_any _ (HT.out.next HB0.out)).mono ?_
    rintro e v1 ⟨rfl, hb⟩
    have HB1 := Lib.hid (below_call HB0.out hb)
    obtain ⟨c0, c1, c2, c3, c4⟩ := cbox (HX0.out.below hb (by first | exact HX0.out.lt | simp))
    clear hb
    go_wp2
    go_ret
    exact ⟨rfl, HB1.out⟩
  · clear h
    go_enter Tryd.func5, Tryd.ntmps5
    go_wp2_with fail
    refine (sanity11_any _ (HT.out.next HB0.out)).mono ?_
    rintro e v1 ⟨rfl, hb⟩
    have HB1 := Lib.hid (below_call HB0.out hb)
    obtain ⟨c0, c1, c2, c3, c4⟩ := cbox (HX0.out.below hb (by first | exact HX0.out.lt | simp))
    clear hb
    go_wp2
    go_ret
    exact ⟨rfl, HB1.out⟩
theorem comp_small {b : Bool} (hb : Xp.okC f d zss = b) : (Xp.compO f d zss).length ≤ 131072 ∧ (Xp.compU f d zss).length ≤ 512 := by
  cases b
  · unfold Xp.compO Xp.compU
    rw [hb]; simp
  · have h9 := comp_okS f d zss
    rw [hb] at h9
    obtain ⟨m, D, P, _, _, _, _, _, _, _, h4, h5, _, _, h8⟩ := okS_parts h9
    exact ⟨h4, by omega⟩
set_option maxRecDepth 100000 in
set_option maxHeartbeats 12800000 in
theorem cm_1 (ht : Tab w) (hc : CodeIn w f d qp np kp zss) (hd4 : d ≤ 4) (hnp : np ≤ 3) :
    Calls Tryd.prog 5 #[.agg (codC (.string nm) f d qp np kp dom)] w fun e w' => e = .returned (.bool true) ∧ Below w.heap.size w w' := by
  have HB0 := Lib.hid ((Below.refl _ w).alloc (Nat.le_refl _) (.cells (codC (.string nm) f d qp np kp dom) 26))
  have HX0 := Lib.hid (Row.new w 26 (codC (.string nm) f d qp np kp dom))
  have HT := Lib.hid ht
  obtain ⟨b, hb⟩ : ∃ b, Xp.okC f d zss = b := ⟨_, rfl⟩
  obtain ⟨E, hE⟩ : ∃ E, Xp.errB b = E := ⟨_, rfl⟩
  have hEb : (E == 0) = b := by rw [← hE]; cases b <;> rfl
  have h1 : decide (4 < d) = false := decide_eq_false (by omega)
  have h2 : decide ((3 : Int) < (np : Int)) = false := decide_eq_false (by omega)
  have HCX := Lib.hid (fun (W : World) (h : Below w.heap.size w W) => xcompile_say (nm := .string nm) (kp := kp) (dom := dom) W (ht.next h) (hc.next h).grid (by omega) hc.f64 hc.d64 rfl hb)
  have HCR := Lib.hid (fun (W : World) (h : Below w.heap.size w W) => scompile_say (nm := .string nm) (kp := kp) (dom := dom) W (hc.next h).grid (by omega) hd4 hc.f64 hc.d64 rfl hb)
  have hok := comp_okS f d zss
  obtain ⟨hno, hnx⟩ := comp_small f d zss hb
  rw [hb, hc.grid.len] at hok
  obtain ⟨F, hF⟩ : ∃ F, Xp.compH b f = F := ⟨_, rfl⟩
  obtain ⟨G, hG⟩ : ∃ G, Xp.compH b d = G := ⟨_, rfl⟩
  obtain ⟨P, hP⟩ : ∃ P, Xp.compH b np = P := ⟨_, rfl⟩
  obtain ⟨O, hO⟩ : ∃ O, Xp.compO f d zss = O := ⟨_, rfl⟩
  obtain ⟨U, hU⟩ : ∃ U, Xp.compU f d zss = U := ⟨_, rfl⟩
  rw [hF, hG, hP, hO, hU] at hok
  rw [hF, hG, hP, hO, hU, hE] at HCX HCR
  rw [hO] at hno
  rw [hU] at hnx
  obtain ⟨NO, hNO⟩ : ∃ n, O.length = n := ⟨_, rfl⟩
  obtain ⟨NX, hNX⟩ : ∃ n, U.length = n := ⟨_, rfl⟩
  rw [hNO] at hno HCX HCR
  rw [hNX] at hnx HCX HCR
  have HNO := Lib.hid hNO
  have HNX := Lib.hid hNX
  have HOK := Lib.hid hok
  have HE := Lib.hid hE
  obtain ⟨SE, hSE⟩ : ∃ SE, Xp.setsB F G P O U = SE := ⟨_, rfl⟩
  have HSL := Lib.hid (show SE.length ≤ 512 by rw [← hSE]; exact setsB_len)
  have HSX := Lib.hid (fun (q : Option Addr) (k : Nat) (qx : Option Addr) (kx : Nat) (W : World) (h : Below w.heap.size w W) (hi : SchIn W F G P q NO k qx NX kx O U) => by
    have h9 := xsets_say W (ht.next h) hno hi
    rw [hok, hSE, hE] at h9
    exact h9)
  have HSR := Lib.hid (fun (q : Option Addr) (k : Nat) (qx : Option Addr) (kx : Nat) (W : World) (hi : SchIn W F G P q NO k qx NX kx O U) => by
    have h9 := ssets_say W hno hi
    rw [hok, hSE, hE] at h9
    exact h9)
  have HVX := Lib.hid (fun (q : Option Addr) (k : Nat) (qx : Option Addr) (kx : Nat) (W : World) (h : Below w.heap.size w W) (hi : SchIn W F G P q NO k qx NX kx O U) => by
    have h9 := xvalid_any F G P q NO k qx NX kx O U W (ht.next h) (by omega) hNO hi.ro hNX hi.rx
    rw [hok] at h9
    exact h9)
  have HSM := Lib.hid (fun (qa : Option Addr) (ka : Nat) (qxa : Option Addr) (kxa : Nat) (qb : Option Addr) (kb : Nat) (qxb : Option Addr) (kxb : Nat) (W : World) (hi : SchIn W F G P qa NO ka qxa NX kxa O U) (hj : SchIn W F G P qb NO kb qxb NX kxb O U) => same_any F G P qa NO ka qxa NX kxa qb kb qxb kxb O U W (by omega) (by omega) hNO hNX hi.ro hi.rx hj.ro hj.rx)
  unfold schV at HCX HCR HSX HSR HVX HSM
  clear ht hc hE hF hG hP hO hU hNO hNX hSE hok hb
  go_enter Tryd.func5, Tryd.ntmps5
  go_wp2_with fail
  refine (sanity11_any _ (HT.out.next HB0.out)).mono ?_
  rintro e v1 ⟨rfl, hb⟩
  have HB1 := Lib.hid (below_call HB0.out hb)
  have HX1 := Lib.hid (HX0.out.below hb (by first | exact HX0.out.lt | simp))
  obtain ⟨c0, c1, c2, c3, c4⟩ := cbox HX1.out
  clear hb
  go_wp2_with fail
  clear c0 c1 c2 c3 c4 h1 h2
  refine (HCX.out _ HB1.out).mono ?_
  rintro e v2 ⟨⟨qa, ka, qxa, kxa, rfl, hin⟩, hb⟩
  have HB2 := Lib.hid (below_call HB1.out hb)
  have HX2 := Lib.hid (HX1.out.below hb HX1.out.lt)
  have HI2 := Lib.hid hin
  clear hb hin
  go_upto_region 5 with fail
  obtain ⟨v3, hv3⟩ : ∃ v3, v3 = v2.alloc (.cells (schC F G P qa NO ka qxa NX kxa) 30) := ⟨_, rfl⟩
  rw [← hv3]
  have hb23 : Below v2.heap.size v2 v3 := by rw [hv3]; exact (Below.refl _ v2).alloc (Nat.le_refl _) _
  have HB3 := Lib.hid (below_call HB2.out hb23)
  have HX3 := Lib.hid (HX2.out.below hb23 HX2.out.lt)
  have HI3 := Lib.hid (HI2.out.next hb23)
  have HA3 := Lib.hid (show Row v3 v2.heap.size 30 (schC F G P qa NO ka qxa NX kxa) by rw [hv3]; exact Row.new _ _ _)
  clear hv3 hb23
  obtain ⟨c0, c1, c2, c3, c4⟩ := cbox HX3.out
  have hz3 : w.heap.size < v3.heap.size := HX3.out.lt
  have hz3b : v2.heap.size < v3.heap.size := HA3.out.lt
  go_wp2_with fail
  clear c0 c1 c2 c3 c4
  refine (HCR.out _ HB3.out).mono ?_
  rintro e v4 ⟨⟨qb, kb, qxb, kxb, rfl, hin⟩, hb⟩
  have HB4 := Lib.hid (below_call HB3.out hb)
  have HA4 := Lib.hid (HA3.out.below hb HA3.out.lt)
  have HI4 := Lib.hid (HI3.out.next hb)
  have HJ4 := Lib.hid hin
  clear hb hin hz3 hz3b
  go_upto_region 6 with fail
  obtain ⟨v5, hv5⟩ : ∃ v5, v5 = v4.alloc (.cells (schC F G P qb NO kb qxb NX kxb) 30) := ⟨_, rfl⟩
  rw [← hv5]
  have hb45 : Below v4.heap.size v4 v5 := by rw [hv5]; exact (Below.refl _ v4).alloc (Nat.le_refl _) _
  have HB5 := Lib.hid (below_call HB4.out hb45)
  have HA5 := Lib.hid (HA4.out.below hb45 HA4.out.lt)
  have HI5 := Lib.hid (HI4.out.next hb45)
  have HJ5 := Lib.hid (HJ4.out.next hb45)
  have HC5 := Lib.hid (show Row v5 v4.heap.size 30 (schC F G P qb NO kb qxb NX kxb) by rw [hv5]; exact Row.new _ _ _)
  clear hv5 hb45
  obtain ⟨c0, c1, c2, c3, c4⟩ := sbox HA5.out
  have hz5 : v2.heap.size < v5.heap.size := HA5.out.lt
  have hz5b : v4.heap.size < v5.heap.size := HC5.out.lt
  go_wp2_with fail
  clear c0 c1 c2 c3 c4
  refine (HSX.out _ _ _ _ _ HB5.out HI5.out).mono ?_
  rintro e v6 ⟨⟨qu, nu, ku, vu, rfl, hlu, hru, hsu⟩, hb⟩
  have HB6 := Lib.hid (below_call HB5.out hb)
  have HA6 := Lib.hid (HA5.out.below hb HA5.out.lt)
  have HC6 := Lib.hid (HC5.out.below hb HC5.out.lt)
  have HI6 := Lib.hid (HI5.out.next hb)
  have HJ6 := Lib.hid (HJ5.out.next hb)
  have HLU := Lib.hid hlu
  have HRU6 := Lib.hid hru
  have HSU6 := Lib.hid hsu
  clear hb hlu hru hsu hz5 hz5b
  obtain ⟨c0, c1, c2, c3, c4⟩ := sbox HC6.out
  have hz6 : v2.heap.size < v6.heap.size := HA6.out.lt
  have hz6b : v4.heap.size < v6.heap.size := HC6.out.lt
  go_wp2_with fail
  clear c0 c1 c2 c3 c4
  refine (HSR.out _ _ _ _ _ HJ6.out).mono ?_
  rintro e v7 ⟨⟨qv, nv, kv, vv, rfl, hlv, hrv, hsv⟩, hb⟩
  have HB7 := Lib.hid (below_call HB6.out hb)
  have HA7 := Lib.hid (HA6.out.below hb HA6.out.lt)
  have HC7 := Lib.hid (HC6.out.below hb HC6.out.lt)
  have HI7 := Lib.hid (HI6.out.next hb)
  have HJ7 := Lib.hid (HJ6.out.next hb)
  have HRU7 := Lib.hid ((HRU6.out.below hb).more hb.size)
  have HSU7 := Lib.hid (HSU6.out.keeps (Keeps.of_below hb))
  have HLV := Lib.hid hlv
  have HRV7 := Lib.hid hrv
  have HSV7 := Lib.hid hsv
  clear hb hlv hrv hsv hz6 hz6b
  obtain rfl : nu = nv := by rw [← HLU.out, ← HLV.out]
  obtain ⟨a0, a1, a2, a3, a4⟩ := sbox HA7.out
  obtain ⟨c0, c1, c2, c3, c4⟩ := sbox HC7.out
  have hee : (E == E) = true := by simp
  go_wp2_with fail
  clear a0 a1 a2 a3 a4 c0 c1 c2 c3 c4
  refine (HSM.out _ _ _ _ _ _ _ _ _ HI7.out HJ7.out).mono ?_
  rintro e v8 ⟨rfl, hb⟩
  have HB8 := Lib.hid (below_call HB7.out hb)
  have HA8 := Lib.hid (HA7.out.below hb HA7.out.lt)
  have HI8 := Lib.hid (HI7.out.next hb)
  have HSS := Lib.hid (same_sets SE qu nu ku vu qv kv vv v8 HLU.out (by have := HSL.out; have := HLU.out; omega) ((HRU7.out.below hb).more hb.size) ((HRV7.out.below hb).more hb.size) (HSU7.out.keeps (Keeps.of_below hb)) (HSV7.out.keeps (Keeps.of_below hb)))
  clear hb
  go_wp2_with fail
  refine HSS.out.mono ?_
  rintro e v9 ⟨rfl, m9, hv9⟩
  have hb9 : Below v8.heap.size v8 v9 := by rw [hv9]; exact below_drewN (Below.refl _ _) m9
  have HB9 := Lib.hid (below_call HB8.out hb9)
  have HA9 := Lib.hid (HA8.out.below hb9 HA8.out.lt)
  have HI9 := Lib.hid (HI8.out.next hb9)
  clear hv9 hb9
  obtain ⟨c0, c1, c2, c3, c4⟩ := sbox HA9.out
  go_wp2_with fail
  clear c0 c1 c2 c3 c4
  refine (HVX.out _ _ _ _ _ HB9.out HI9.out).mono ?_
  rintro e v10 ⟨rfl, hb⟩
  have HB10 := Lib.hid (below_call HB9.out hb)
  clear hb
  have hbb : (b == b) = true := by simp
  go_wp2
  go_ret
  exact ⟨rfl, HB10.out⟩
theorem walk_XorCompileMatchesSpec (hc : CodeIn w f d qp np kp zss) (ht : Tab w) :
    Calls Tryd.prog 5 #[.agg (codC (.string nm) f d qp np kp dom)] w fun e w' => e = .returned (.bool true) ∧ Below w.heap.size w w' := by
  by_cases h : 4 < d ∨ 3 < np
  · exact cm_0 nm f d qp np kp dom w ht h
  · exact cm_1 nm f d qp np kp dom zss w ht hc (by omega) (by omega)
end
set_option maxRecDepth 100000
/-! ### the frame: the arguments opened and shut -/
theorem contract_XorCompileMatchesSpec (H : Type) (enc : TypeId × Value → H) (W : World) (base : Nat) (args : Array Value) (ds gs : List (DataW H)) (before : List MemPlace)
    (hval0 : ∀ (j : Nat) t v, Tryd.f5.params[j]? = some t → args[j]? = some v → Value.okWide Tryd.prog W .any base t v)
    (hW : DataW.Whole enc Tryd.prog Tryd.f5.params.toList Rows.xorCompileMatchesSpecSpec.vars false W args.toList ds gs before) (hL : laidMetH Tryd.prog Rows.xorCompileMatchesSpecRow.laid W) :
    Calls Tryd.prog 5 args W fun e W' => ∃ v, e = .returned v ∧ Rows.xorCompileMatchesSpecSpec.post enc Tryd.prog Tryd.f5 false true false false W args v W' := by
  have hval : ∀ (j : Nat) t v, Tryd.f5.params[j]? = some t → args[j]? = some v → Value.okWide Tryd.prog W .any base t v := hval0
  have hW' := hW
  obtain ⟨p, q, hA0, hV, rfl, hfz, hnd⟩ := hW
  have hA : DataW.TrodAll enc Tryd.prog W 0 (fun _ => true) true Tryd.f5.params.toList args.toList ds p := hA0
  rw [Tryd.params5] at hA hval
  obtain ⟨v0, vs0, d0, ds0, p0, q0, hargs, rfl, rfl, h0, r0⟩ := trodAll_cons hA
  obtain ⟨rfl, rfl, rfl⟩ := trodAll_nil r0
  obtain rfl : args = #[v0] := by cases args; simp_all
  obtain ⟨rfl, rfl⟩ := trodVars_none hV
  have k0 := h0
  have lt0 : ∀ x ∈ p0, x.block < W.heap.size := by obtain ⟨m, hm⟩ := k0; exact DataW.trod_lt m _ _ _ hm
  obtain ⟨cs0, rfl, _⟩ := okWide_struct Tryd.underlying26 (hval 0 26 v0 rfl rfl)
  obtain ⟨fuel0, hf0⟩ := h0
  obtain ⟨cs_0, cf0, cd0, cqp0, cnp0, ckp0, cdom0, czss0, hcs0, hco0⟩ := open_code hf0
  obtain rfl : cs0 = codC (.string cs_0) cf0 cd0 cqp0 cnp0 ckp0 cdom0 := by apply Array.toList_inj.1; simpa [Value.cells] using hcs0
  refine (walk_XorCompileMatchesSpec cs_0 cf0 cd0 cqp0 cnp0 ckp0 cdom0 czss0 W hco0 (tab_of hL)).mono fun e W' ⟨he, bel⟩ => ?_
  subst he
  exact ⟨_, rfl, _, _, _, [], _, [], hW', trodAll_mk1 (shut_bool Tryd.underlying4 _), (trodAll_cons_mk (Below.trod laidOut (by kernel_rfl) (of_decide_eq_true (by kernel_rfl)) k0 bel lt0) trodAll_mk0), rfl, bel.frame _, fun h => by cases h⟩
theorem laid_XorCompileMatchesSpec (os : Os) : laidMet Tryd.prog Rows.xorCompileMatchesSpecRow.laid ((laidWorld os).forCall (fun _ _ => 0) ⟨#[], #[.agg #[.string .empty, .int .i64 0, .int .i64 0, .slice none 0 0, .int .i64 0]], []⟩).memory :=
  laidMet_of_run' 8 (by kernel_rfl) (by kernel_rfl)
theorem reads_XorCompileMatchesSpec (os : Os) {H : Type} (enc : TypeId × Value → H) : ∃ places, DataW.whole enc Tryd.prog ((laidWorld os).forCall (fun _ _ => 0) ⟨#[], #[.agg #[.string .empty, .int .i64 0, .int .i64 0, .slice none 0 0, .int .i64 0]], []⟩).memory Tryd.f5.params.toList Rows.xorCompileMatchesSpecSpec.vars false (#[.agg #[.string .empty, .int .i64 0, .int .i64 0, .slice none 0 0, .int .i64 0]] : Array Value).toList 8 = some ([.agg [.lit (.string []), .lit (.int .i64 0), .lit (.int .i64 0), .nil, .lit (.int .i64 0)]], [], places) :=
  ⟨[], by kernel_rfl⟩
set_option maxRecDepth 100000 in
theorem lifted_XorCompileMatchesSpec (os : Os) (started : os.Started) (H : Type) (enc : TypeId × Value → H) (F : Stop.Interp) :
    ReturnsInHanded {} Tryd.checked os 5 .any ((OpenSpec.ofChange Rows.xorCompileMatchesSpecSpec).preRow enc Tryd.prog Tryd.f5 Rows.xorCompileMatchesSpecRow.domain false Rows.xorCompileMatchesSpecRow.laid) (((OpenSpec.ofChange Rows.xorCompileMatchesSpecSpec).at F).post enc Tryd.prog Tryd.f5 false true false false) := by
  obtain ⟨places, hx⟩ := reads_XorCompileMatchesSpec os enc
  refine returnsInHanded_of_row (C := Tryd.checked) (s := OpenSpec.ofChange Rows.xorCompileMatchesSpecSpec) own started (by kernel_rfl) Tryd.func5
    (witness_row_at (enc := enc) (C := Tryd.checked) false (laidWorld os) #[.agg #[.string .empty, .int .i64 0, .int .i64 0, .slice none 0 0, .int .i64 0]] rfl (by kernel_rfl) (by kernel_rfl) (by kernel_rfl)
      (OpenSpec.preRow_of_cond 8 hx (by kernel_rfl) (fun k hk => by cases hk) (by kernel_rfl) (laid_XorCompileMatchesSpec os))) ?_
  intro W base args ds gs before hval hW _ hcond _ hL _ _
  exact contract_XorCompileMatchesSpec H enc W base args ds gs before hval hW hL

theorem said_XorCompileMatchesSpec : Rows.XorCompileMatchesSpecSaid :=
  OpenClaim.holds_of_cond 5 Tryd.f5 rfl rfl rfl rfl rfl rfl rfl ⟨rfl, rfl, rfl, rfl, rfl⟩ rfl rfl rfl rfl rfl (by kernel_rfl) Tryd.func5 (by kernel_rfl)
    (of_decide_eq_true (by kernel_rfl)) (by unfold Func.isWrapper; first | (rw [if_pos (by decide +kernel)]; kernel_rfl) | (rw [if_neg (by decide +kernel)]; exact ⟨rfl, rfl⟩))
    (fun os started H enc _ F => by rw [OpenClaim.pre_eq_preRow]; exact lifted_XorCompileMatchesSpec os started H enc F)
theorem plain_XorCompileMatchesSpec (f : FuncId) (fn : Func) (hf : Tryd.pinned.checked.prog.funcNamed "solvent/solventlaw11.XorCompileMatchesSpec" = some f) (hfn : Tryd.pinned.checked.prog.funcs[f]? = some fn) :
    false = Tryd.pinned.checked.prog.looks [] ∧ ∀ (j : Nat) t, fn.params[j]? = some t → Tryd.pinned.checked.prog.wantsStandIn t = false := by
  obtain rfl : f = 5 := Option.some.inj ((show Tryd.prog.funcNamed "solvent/solventlaw11.XorCompileMatchesSpec" = some 5 by kernel_rfl).symm.trans hf) |>.symm
  obtain rfl : fn = Tryd.f5 := (Option.some.inj (Tryd.func5.symm.trans hfn)).symm
  refine ⟨by kernel_rfl, fun j t ht => ?_⟩
  rw [Tryd.params5] at ht
  have hm := Array.mem_of_getElem? ht
  simp only [List.mem_toArray, List.mem_cons, List.not_mem_nil, or_false] at hm
  subst hm
  exact (show Tryd.prog.wantsStandIn 26 = false by kernel_rfl)
theorem proved_XorCompileMatchesSpec : Rows.XorCompileMatchesSpecCardSaid :=
  Claim7.holds_tied_plain_at .later [] _ _ _ _ said_XorCompileMatchesSpec (fun _ h => by cases h) (by kernel_rfl) (fun _ h => by cases h) xorCompileMatchesSpec_row_tie rfl ⟨rfl, rfl⟩ (by kernel_rfl) rfl plain_XorCompileMatchesSpec (by kernel_rfl)
end Go.Proofs.YtghinmlpkgcdiaaDoor
