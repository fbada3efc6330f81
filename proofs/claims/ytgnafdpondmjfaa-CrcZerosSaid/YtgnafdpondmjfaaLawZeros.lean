/- CrcZeros: for every register value and all numbers of zero bytes the law returns true, and its arguments read as they did. No condition. -/
import Derived.Test.YtgnafdpondmjfaaCrcS
import Derived.Test.YtgnafdpondmjfaaOpen
namespace Go.Proofs.Ytgnafdpondmjfaa
open Go.ChangeShapes Go.WideShapes Go.ChangeAt Go.RowKit
set_option linter.unusedVariables false

set_option maxRecDepth 100000 in
theorem walk_CrcZeros_out (c : BitVec 32) (m n : Int) (w : World) (hm1 : -9223372036854775808 ≤ m) (hm2 : m ≤ 9223372036854775807) (hn1 : -9223372036854775808 ≤ n) (hn2 : n ≤ 9223372036854775807)
    (h : m < 0 ∨ (0 ≤ m ∧ n < 0) ∨ (0 ≤ m ∧ 0 ≤ n ∧ 1073741824 ≤ m) ∨ (0 ≤ m ∧ 0 ≤ n ∧ m < 1073741824 ∧ 1073741824 ≤ n)) :
    Calls Try.prog 6 #[v32 c, .int .i64 m, .int .i64 n] w fun e w' => e = .returned (.bool true) ∧ Below w.heap.size w w' := by
  simp only [v32]
  rcases h with h | ⟨h1, h⟩ | ⟨h1, h2, h⟩ | ⟨h1, h2, h3, h⟩
  all_goals
    go_enter Try.func6, Try.ntmps6
    go_wp2_with fail
    refine (sanity_any _).mono ?_
    rintro e w1 ⟨rfl, hb⟩
    have H1 := Lib.hid hb
    clear hb
    go_wp2_with fail
    go_ret
    exact ⟨rfl, H1.out⟩

set_option maxRecDepth 100000 in
theorem walk_CrcZeros (c : BitVec 32) (m n : Int) (w : World) (hm1 : -9223372036854775808 ≤ m) (hm2 : m ≤ 9223372036854775807) (hn1 : -9223372036854775808 ≤ n) (hn2 : n ≤ 9223372036854775807) :
    Calls Try.prog 6 #[v32 c, .int .i64 m, .int .i64 n] w fun e w' => e = .returned (.bool true) ∧ Below w.heap.size w w' := by
  by_cases h : m < 0 ∨ (0 ≤ m ∧ n < 0) ∨ (0 ≤ m ∧ 0 ≤ n ∧ 1073741824 ≤ m) ∨ (0 ≤ m ∧ 0 ≤ n ∧ m < 1073741824 ∧ 1073741824 ≤ n)
  · exact walk_CrcZeros_out c m n w hm1 hm2 hn1 hn2 h
  · have h1 : 0 ≤ m := by omega
    have h2 : 0 ≤ n := by omega
    have h3 : m < 1073741824 := by omega
    have h4 : n < 1073741824 := by omega
    clear h
    simp only [v32]
    go_enter Try.func6, Try.ntmps6
    go_wp2_with fail
    refine (sanity_any _).mono ?_
    rintro e w1 ⟨rfl, hb⟩
    have H1 := Lib.hid hb
    clear hb
    go_wp2_with fail
    refine (zeros_any c m _ hm1 hm2).mono ?_
    rintro e w2 ⟨rfl, hb⟩
    have H2 := Lib.hid (below_call H1.out hb)
    clear hb
    obtain ⟨X, hX⟩ : ∃ X, X = Crc.zeros c m.toNat := ⟨_, rfl⟩
    rw [← hX]
    have HX := Lib.hid hX
    clear hX
    simp only [v32]
    go_wp2_with fail
    refine (zeros_any X n _ hn1 hn2).mono ?_
    rintro e w3 ⟨rfl, hb⟩
    have H3 := Lib.hid (below_call H2.out hb)
    clear hb
    have hv : v32 (Crc.zeros X n.toNat) = v32 (Crc.zeros c (m + n).toNat) := by
      rw [HX.out, Crc.zeros_add, show m.toNat + n.toNat = (m + n).toNat by omega]
    rw [hv]
    clear hv
    obtain ⟨Y, hY⟩ : ∃ Y, Y = Crc.zeros c (m + n).toNat := ⟨_, rfl⟩
    rw [← hY]
    have HY := Lib.hid hY
    clear hY
    simp only [v32]
    go_wp2_with fail
    refine (zeros_any c (m + n) _ (by omega) (by omega)).mono ?_
    rintro e w4 ⟨rfl, hb⟩
    have H4 := Lib.hid (below_call H3.out hb)
    clear hb
    rw [← HY.out]
    simp only [v32]
    go_wp2_with fail
    refine (zeros_any c 0 _ (by omega) (by omega)).mono ?_
    rintro e w5 ⟨rfl, hb⟩
    have H5 := Lib.hid (below_call H4.out hb)
    clear hb
    rw [show (0 : Int).toNat = 0 from rfl, Crc.zeros_none]
    simp only [v32]
    go_wp2_with fail
    go_ret
    exact ⟨rfl, H5.out⟩

/-! ### the frame: the arguments opened and shut -/
theorem contract_CrcZeros (H : Type) (enc : TypeId × Value → H) (W : World) (base : Nat) (args : Array Value) (ds gs : List (DataW H)) (before : List MemPlace)
    (hval0 : ∀ (j : Nat) t v, Try.f6.params[j]? = some t → args[j]? = some v → Value.okWide Try.prog W .any base t v)
    (hW : DataW.Whole enc Try.prog Try.f6.params.toList Rows.crcZerosSpec.vars false W args.toList ds gs before) :
    Calls Try.prog 6 args W fun e W' => ∃ v, e = .returned v ∧ Rows.crcZerosSpec.post enc Try.prog Try.f6 false true false false W args v W' := by
  have hval : ∀ (j : Nat) t v, Try.f6.params[j]? = some t → args[j]? = some v → Value.okWide Try.prog W .any base t v := hval0
  have hW' := hW
  obtain ⟨p, q, hA0, hV, rfl, hfz, hnd⟩ := hW
  have hA : DataW.TrodAll enc Try.prog W 0 (fun _ => true) true Try.f6.params.toList args.toList ds p := hA0
  rw [Try.params6] at hA hval
  obtain ⟨v0, vs0, d0, ds0, p0, q0, hargs, rfl, rfl, h0, r0⟩ := trodAll_cons hA
  obtain ⟨v1, vs1, d1, ds1, p1, q1, rfl, rfl, rfl, h1, r1⟩ := trodAll_cons r0
  obtain ⟨v2, vs2, d2, ds2, p2, q2, rfl, rfl, rfl, h2, r2⟩ := trodAll_cons r1
  obtain ⟨rfl, rfl, rfl⟩ := trodAll_nil r2
  obtain rfl : args = #[v0, v1, v2] := by cases args; simp_all
  obtain ⟨rfl, rfl⟩ := trodVars_none hV
  have k0 := h0
  have lt0 : ∀ x ∈ p0, x.block < W.heap.size := by obtain ⟨m, hm⟩ := k0; exact DataW.trod_lt m _ _ _ hm
  have k1 := h1
  have lt1 : ∀ x ∈ p1, x.block < W.heap.size := by obtain ⟨m, hm⟩ := k1; exact DataW.trod_lt m _ _ _ hm
  have k2 := h2
  have lt2 : ∀ x ∈ p2, x.block < W.heap.size := by obtain ⟨m, hm⟩ := k2; exact DataW.trod_lt m _ _ _ hm
  obtain ⟨m0, rfl, rfl, rfl, w0⟩ := open_int Try.underlying23 (hval 0 23 v0 rfl rfl) h0
  obtain ⟨n0, rfl⟩ := wf_u32 w0
  obtain ⟨n1, rfl, rfl, rfl, w1⟩ := open_int Try.underlying3 (hval 1 3 v1 rfl rfl) h1
  obtain ⟨n2, rfl, rfl, rfl, w2⟩ := open_int Try.underlying3 (hval 2 3 v2 rfl rfl) h2
  refine (walk_CrcZeros n0 n1 n2 W (wf_i64 w1).1 (wf_i64 w1).2 (wf_i64 w2).1 (wf_i64 w2).2).mono fun e W' ⟨he, bel⟩ => ?_
  subst he
  exact ⟨_, rfl, _, _, _, [], _, [], hW', trodAll_mk1 (shut_bool Try.underlying4 _), (trodAll_cons_mk (Below.trod laidOut (by kernel_rfl) (of_decide_eq_true (by kernel_rfl)) k0 bel lt0) (trodAll_cons_mk (Below.trod laidOut (by kernel_rfl) (of_decide_eq_true (by kernel_rfl)) k1 bel lt1) (trodAll_cons_mk (Below.trod laidOut (by kernel_rfl) (of_decide_eq_true (by kernel_rfl)) k2 bel lt2) trodAll_mk0))), rfl, bel.frame _, fun h => by cases h⟩

set_option maxRecDepth 100000 in
theorem lifted_CrcZeros (os : Os) (started : os.Started) (H : Type) (enc : TypeId × Value → H) :
    ReturnsInHanded {} Try.checked os 6 .any (Rows.crcZerosSpec.pre6 enc Try.prog Try.f6 Rows.crcZerosRow.domain false) (Rows.crcZerosSpec.post enc Try.prog Try.f6 false true false false) := by
  refine returnsInHanded_of_change (C := Try.checked) own started (by kernel_rfl) Try.func6
    (ChangeSpec.witness6 (enc := enc) (C := Try.checked) false ⟨#[], #[.int .u32 0, .int .i64 0, .int .i64 0], []⟩ 8 (by kernel_rfl) (by kernel_rfl) (by kernel_rfl) (by kernel_rfl)) ?_
  intro W base args ds gs before hval hW _ _
  exact contract_CrcZeros H enc W base args ds gs before hval hW

theorem proved_CrcZeros : Rows.CrcZerosSaid :=
  OpenClaim.holds_of_wide 6 Try.f6 rfl rfl rfl rfl rfl rfl rfl ⟨rfl, rfl, rfl, rfl, rfl⟩ rfl rfl rfl rfl rfl (by kernel_rfl) Try.func6 (by kernel_rfl)
    (of_decide_eq_true (by kernel_rfl)) (by unfold Func.isWrapper; first | (rw [if_pos (by decide +kernel)]; kernel_rfl) | (rw [if_neg (by decide +kernel)]; exact ⟨rfl, rfl⟩))
    (fun os started H enc _ => lifted_CrcZeros os started H enc)
end Go.Proofs.Ytgnafdpondmjfaa
