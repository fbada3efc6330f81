/- CrcMatchesSpec: for every string, register values and number of zero bytes the law returns true, and its arguments read as they did. No condition. -/
import Derived.Test.YtgnafdpondmjfaaCrcS
import Derived.Test.YtgnafdpondmjfaaCrcR
import Derived.Test.YtgnafdpondmjfaaOpen
namespace Go.Proofs.Ytgnafdpondmjfaa
open Go.ChangeShapes Go.WideShapes Go.ChangeAt Go.RowKit
set_option linter.unusedVariables false

set_option maxRecDepth 100000 in
theorem walk_CrcMatchesSpec_out (a : Option Addr) (len cap : Nat) (bs : List UInt8) (c d : BitVec 32) (n : Int) (w : World)
    (h : (2000 < (len : Int)) ∨ ((len : Int) ≤ 2000 ∧ 2000 < n)) :
    Calls Try.prog 3 #[.slice a len cap, v32 c, v32 d, .int .i64 n] w fun e w' => e = .returned (.bool true) ∧ Below w.heap.size w w' := by
  simp only [v32]
  rcases h with h | ⟨h1, h⟩
  all_goals
    go_enter Try.func3, Try.ntmps3
    go_wp2_with fail
    refine (sanity_any _).mono ?_
    rintro e w1 ⟨rfl, hb⟩
    have H1 := Lib.hid hb
    clear hb
    go_wp2_with fail
    go_ret
    exact ⟨rfl, H1.out⟩

set_option maxRecDepth 100000 in
theorem walk_CrcMatchesSpec (a : Option Addr) (len cap : Nat) (bs : List UInt8) (c d : BitVec 32) (n : Int) (w : World) (hl : bs.length = len) (hm : len ≤ 9223372036854775807) (hrd : Rd w w.heap.size a (bs.map v8))
    (hn1 : -9223372036854775808 ≤ n) (hn2 : n ≤ 9223372036854775807) :
    Calls Try.prog 3 #[.slice a len cap, v32 c, v32 d, .int .i64 n] w fun e w' => e = .returned (.bool true) ∧ Below w.heap.size w w' := by
  by_cases h : (2000 < (len : Int)) ∨ ((len : Int) ≤ 2000 ∧ 2000 < n)
  · exact walk_CrcMatchesSpec_out a len cap bs c d n w h
  · have h1 : (len : Int) ≤ 2000 := by omega
    have h2 : n ≤ 2000 := by omega
    have HR := Lib.hid hrd
    clear h hrd
    simp only [v32]
    go_enter Try.func3, Try.ntmps3
    go_wp2_with fail
    refine (sanity_any _).mono ?_
    rintro e w1 ⟨rfl, hb⟩
    have H1 := Lib.hid hb
    clear hb
    go_wp2_with fail
    refine (of_any a len cap w.heap.size bs _ hl hm H1.out.size (HR.out.below H1.out)).mono ?_
    rintro e w2 ⟨rfl, hb⟩
    have H2 := Lib.hid (below_call H1.out hb)
    clear hb
    obtain ⟨X, hX⟩ : ∃ X, X = Crc.crc bs := ⟨_, rfl⟩
    rw [← hX]
    have HX := Lib.hid hX
    clear hX
    simp only [v32]
    go_wp2_with fail
    refine (rof_any a len cap w.heap.size bs _ hl hm (HR.out.below H2.out)).mono ?_
    rintro e w3 ⟨rfl, rfl⟩
    rw [← HX.out]
    simp only [v32]
    go_wp2_with fail
    refine (extend_any c a len cap w.heap.size bs _ hl hm H2.out.size (HR.out.below H2.out)).mono ?_
    rintro e w3 ⟨rfl, hb⟩
    have H3 := Lib.hid (below_call H2.out hb)
    clear hb
    obtain ⟨Y, hY⟩ : ∃ Y, Y = Crc.ext c bs := ⟨_, rfl⟩
    rw [← hY]
    have HY := Lib.hid hY
    clear hY
    simp only [v32]
    go_wp2_with fail
    refine (rextend_any c a len cap w.heap.size bs _ hl hm (HR.out.below H3.out)).mono ?_
    rintro e w4 ⟨rfl, rfl⟩
    rw [← HY.out]
    simp only [v32]
    go_wp2_with fail
    refine (zeros_any c n _ hn1 hn2).mono ?_
    rintro e w4 ⟨rfl, hb⟩
    have H4 := Lib.hid (below_call H3.out hb)
    clear hb
    obtain ⟨Z, hZ⟩ : ∃ Z, Z = Crc.zeros c n.toNat := ⟨_, rfl⟩
    rw [← hZ]
    have HZ := Lib.hid hZ
    clear hZ
    simp only [v32]
    go_wp2_with fail
    refine (rzeros_any c n _ hn1 (by omega)).mono ?_
    rintro e w5 ⟨rfl, hb⟩
    have H5 := Lib.hid (below_call H4.out hb)
    clear hb
    rw [← HZ.out]
    simp only [v32]
    go_wp2_with fail
    refine (combine_any c d n _ hn1 hn2).mono ?_
    rintro e w6 ⟨rfl, hb⟩
    have H6 := Lib.hid (below_call H5.out hb)
    clear hb
    obtain ⟨T, hT⟩ : ∃ T, T = Crc.comb c d n.toNat := ⟨_, rfl⟩
    rw [← hT]
    have HT := Lib.hid hT
    clear hT
    simp only [v32]
    go_wp2_with fail
    refine (rcombine_any c d n _ hn1 (by omega)).mono ?_
    rintro e w7 ⟨rfl, hb⟩
    have H7 := Lib.hid (below_call H6.out hb)
    clear hb
    rw [← HT.out]
    simp only [v32]
    go_wp2_with fail
    go_ret
    exact ⟨rfl, H7.out⟩

/-! ### the frame: the arguments opened and shut -/
theorem contract_CrcMatchesSpec (H : Type) (enc : TypeId × Value → H) (W : World) (base : Nat) (args : Array Value) (ds gs : List (DataW H)) (before : List MemPlace)
    (hval0 : ∀ (j : Nat) t v, Try.f3.params[j]? = some t → args[j]? = some v → Value.okWide Try.prog W .any base t v)
    (hW : DataW.Whole enc Try.prog Try.f3.params.toList Rows.crcMatchesSpecSpec.vars false W args.toList ds gs before) :
    Calls Try.prog 3 args W fun e W' => ∃ v, e = .returned v ∧ Rows.crcMatchesSpecSpec.post enc Try.prog Try.f3 false true false false W args v W' := by
  have hval : ∀ (j : Nat) t v, Try.f3.params[j]? = some t → args[j]? = some v → Value.okWide Try.prog W .any base t v := hval0
  have hW' := hW
  obtain ⟨p, q, hA0, hV, rfl, hfz, hnd⟩ := hW
  have hA : DataW.TrodAll enc Try.prog W 0 (fun _ => true) true Try.f3.params.toList args.toList ds p := hA0
  rw [Try.params3] at hA hval
  obtain ⟨v0, vs0, d0, ds0, p0, q0, hargs, rfl, rfl, h0, r0⟩ := trodAll_cons hA
  obtain ⟨v1, vs1, d1, ds1, p1, q1, rfl, rfl, rfl, h1, r1⟩ := trodAll_cons r0
  obtain ⟨v2, vs2, d2, ds2, p2, q2, rfl, rfl, rfl, h2, r2⟩ := trodAll_cons r1
  obtain ⟨v3, vs3, d3, ds3, p3, q3, rfl, rfl, rfl, h3, r3⟩ := trodAll_cons r2
  obtain ⟨rfl, rfl, rfl⟩ := trodAll_nil r3
  obtain rfl : args = #[v0, v1, v2, v3] := by cases args; simp_all
  obtain ⟨rfl, rfl⟩ := trodVars_none hV
  have k0 := h0
  have lt0 : ∀ x ∈ p0, x.block < W.heap.size := by obtain ⟨m, hm⟩ := k0; exact DataW.trod_lt m _ _ _ hm
  have k1 := h1
  have lt1 : ∀ x ∈ p1, x.block < W.heap.size := by obtain ⟨m, hm⟩ := k1; exact DataW.trod_lt m _ _ _ hm
  have k2 := h2
  have lt2 : ∀ x ∈ p2, x.block < W.heap.size := by obtain ⟨m, hm⟩ := k2; exact DataW.trod_lt m _ _ _ hm
  have k3 := h3
  have lt3 : ∀ x ∈ p3, x.block < W.heap.size := by obtain ⟨m, hm⟩ := k3; exact DataW.trod_lt m _ _ _ hm
  obtain ⟨a0, len0, cap0, rfl⟩ := okWide_slice Try.underlying22 (hval 0 22 v0 rfl rfl)
  obtain ⟨fuel0, hf0⟩ := h0
  obtain ⟨x0, y0, z0, bs0, hcs0, hbl0, hlc0, hcm0, hrd0, hso0⟩ := open_u8s Try.underlying22 Try.underlying5 (by kernel_rfl) hf0
  simp only [Value.cells, List.cons.injEq, Value.slice.injEq, and_true] at hcs0
  obtain ⟨rfl, rfl, rfl⟩ := hcs0
  have hmx0 : len0 ≤ 9223372036854775807 := by unfold maxLen at hcm0; omega
  obtain ⟨m1, rfl, rfl, rfl, w1⟩ := open_int Try.underlying23 (hval 1 23 v1 rfl rfl) h1
  obtain ⟨n1, rfl⟩ := wf_u32 w1
  obtain ⟨m2, rfl, rfl, rfl, w2⟩ := open_int Try.underlying23 (hval 2 23 v2 rfl rfl) h2
  obtain ⟨n2, rfl⟩ := wf_u32 w2
  obtain ⟨n3, rfl, rfl, rfl, w3⟩ := open_int Try.underlying3 (hval 3 3 v3 rfl rfl) h3
  refine (walk_CrcMatchesSpec a0 len0 cap0 bs0 n1 n2 n3 W hbl0 hmx0 hrd0 (wf_i64 w3).1 (wf_i64 w3).2).mono fun e W' ⟨he, bel⟩ => ?_
  subst he
  exact ⟨_, rfl, _, _, _, [], _, [], hW', trodAll_mk1 (shut_bool Try.underlying4 _), (trodAll_cons_mk (Below.trod laidOut (by kernel_rfl) (of_decide_eq_true (by kernel_rfl)) k0 bel lt0) (trodAll_cons_mk (Below.trod laidOut (by kernel_rfl) (of_decide_eq_true (by kernel_rfl)) k1 bel lt1) (trodAll_cons_mk (Below.trod laidOut (by kernel_rfl) (of_decide_eq_true (by kernel_rfl)) k2 bel lt2) (trodAll_cons_mk (Below.trod laidOut (by kernel_rfl) (of_decide_eq_true (by kernel_rfl)) k3 bel lt3) trodAll_mk0)))), rfl, bel.frame _, fun h => by cases h⟩

set_option maxRecDepth 100000 in
theorem lifted_CrcMatchesSpec (os : Os) (started : os.Started) (H : Type) (enc : TypeId × Value → H) :
    ReturnsInHanded {} Try.checked os 3 .any (Rows.crcMatchesSpecSpec.pre6 enc Try.prog Try.f3 Rows.crcMatchesSpecRow.domain false) (Rows.crcMatchesSpecSpec.post enc Try.prog Try.f3 false true false false) := by
  refine returnsInHanded_of_change (C := Try.checked) own started (by kernel_rfl) Try.func3
    (ChangeSpec.witness6 (enc := enc) (C := Try.checked) false ⟨#[], #[.slice none 0 0, .int .u32 0, .int .u32 0, .int .i64 0], []⟩ 8 (by kernel_rfl) (by kernel_rfl) (by kernel_rfl) (by kernel_rfl)) ?_
  intro W base args ds gs before hval hW _ _
  exact contract_CrcMatchesSpec H enc W base args ds gs before hval hW

theorem proved_CrcMatchesSpec : Rows.CrcMatchesSpecSaid :=
  OpenClaim.holds_of_wide 3 Try.f3 rfl rfl rfl rfl rfl rfl rfl ⟨rfl, rfl, rfl, rfl, rfl⟩ rfl rfl rfl rfl rfl (by kernel_rfl) Try.func3 (by kernel_rfl)
    (of_decide_eq_true (by kernel_rfl)) (by unfold Func.isWrapper; first | (rw [if_pos (by decide +kernel)]; kernel_rfl) | (rw [if_neg (by decide +kernel)]; exact ⟨rfl, rfl⟩))
    (fun os started H enc _ => lifted_CrcMatchesSpec os started H enc)
end Go.Proofs.Ytgnafdpondmjfaa
