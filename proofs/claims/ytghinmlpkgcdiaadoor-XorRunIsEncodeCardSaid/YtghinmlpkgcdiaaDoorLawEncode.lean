/- XorRunIsEncode: for every code and list of data units the statement returns true; the arguments read as they did. -/
import Derived.Test.YtghinmlpkgcdiaaDoorE6
import Derived.Deep.RegionHeld3
import Derived.Deep.DeepCutAuto
import Derived.BigQuiet
namespace Go.Proofs.YtghinmlpkgcdiaaDoor
set_option linter.unusedSimpArgs false
set_option linter.unusedVariables false
open Go.ChangeShapes Go.WideShapes Go.ChangeAt Go.RowKit Go.Lib

section
variable (nm : ByteArray) (f d : Int) (qp : Option Addr) (np kp : Nat) (dom : Int) (zss : List (List Int)) (qd : Option Addr) (nd kd : Nat) (ss : List ByteArray) (w : World)
theorem walk_XorRunIsEncode (hc : CodeIn w f d qp np kp zss) (ha : StrIn w qd nd kd ss) (ht : Tab w) :
    Calls Tryd.prog 4 #[.agg (codC (.string nm) f d qp np kp dom), .slice qd nd kd] w fun e w' => e = .returned (.bool true) ∧ Below w.heap.size w w' := by
  cases h : encOut f d np ss
  · cases hok : Xp.okC f d zss
    · exact re_1 nm f d qp np kp dom zss qd nd kd ss w ht hc ha h hok
    · exact re_2 nm f d qp np kp dom zss qd nd kd ss w ht hc ha h hok rfl
  · exact re_0 nm f d qp np kp dom qd nd kd ss w ht ha h
end
set_option maxRecDepth 100000
/-! ### the frame: the arguments opened and shut -/
theorem contract_XorRunIsEncode (H : Type) (enc : TypeId × Value → H) (W : World) (base : Nat) (args : Array Value) (ds gs : List (DataW H)) (before : List MemPlace)
    (hval0 : ∀ (j : Nat) t v, Tryd.f4.params[j]? = some t → args[j]? = some v → Value.okWide Tryd.prog W .any base t v)
    (hW : DataW.Whole enc Tryd.prog Tryd.f4.params.toList Rows.xorRunIsEncodeSpec.vars false W args.toList ds gs before) (hL : laidMetH Tryd.prog Rows.xorRunIsEncodeRow.laid W) :
    Calls Tryd.prog 4 args W fun e W' => ∃ v, e = .returned v ∧ Rows.xorRunIsEncodeSpec.post enc Tryd.prog Tryd.f4 false true false false W args v W' := by
  have hval : ∀ (j : Nat) t v, Tryd.f4.params[j]? = some t → args[j]? = some v → Value.okWide Tryd.prog W .any base t v := hval0
  have hW' := hW
  obtain ⟨p, q, hA0, hV, rfl, hfz, hnd⟩ := hW
  have hA : DataW.TrodAll enc Tryd.prog W 0 (fun _ => true) true Tryd.f4.params.toList args.toList ds p := hA0
  rw [Tryd.params4] at hA hval
  obtain ⟨v0, vs0, d0, ds0, p0, q0, hargs, rfl, rfl, h0, r0⟩ := trodAll_cons hA
  obtain ⟨v1, vs1, d1, ds1, p1, q1, rfl, rfl, rfl, h1, r1⟩ := trodAll_cons r0
  obtain ⟨rfl, rfl, rfl⟩ := trodAll_nil r1
  obtain rfl : args = #[v0, v1] := by cases args; simp_all
  obtain ⟨rfl, rfl⟩ := trodVars_none hV
  have k0 := h0
  have lt0 : ∀ x ∈ p0, x.block < W.heap.size := by obtain ⟨m, hm⟩ := k0; exact DataW.trod_lt m _ _ _ hm
  have k1 := h1
  have lt1 : ∀ x ∈ p1, x.block < W.heap.size := by obtain ⟨m, hm⟩ := k1; exact DataW.trod_lt m _ _ _ hm
  obtain ⟨cs0, rfl, _⟩ := okWide_struct Tryd.underlying26 (hval 0 26 v0 rfl rfl)
  obtain ⟨fuel0, hf0⟩ := h0
  obtain ⟨cs_0, cf0, cd0, cqp0, cnp0, ckp0, cdom0, czss0, hcs0, hco0⟩ := open_code hf0
  obtain rfl : cs0 = codC (.string cs_0) cf0 cd0 cqp0 cnp0 ckp0 cdom0 := by apply Array.toList_inj.1; simpa [Value.cells] using hcs0
  obtain ⟨ta1, tn1, tk1, ts1, rfl, hst1⟩ := got_strIn (show Got enc Tryd.prog W 36 v1 from by
    obtain ⟨ga1, gn1, gk1, rfl⟩ := okWide_slice Tryd.underlying36 (hval 1 36 v1 rfl rfl)
    obtain ⟨fuel1, hf1⟩ := h1
    exact ⟨fuel1, _, hf1⟩)
  refine (walk_XorRunIsEncode cs_0 cf0 cd0 cqp0 cnp0 ckp0 cdom0 czss0 ta1 tn1 tk1 ts1 W hco0 hst1 (tab_of hL)).mono fun e W' ⟨he, bel⟩ => ?_
  subst he
  exact ⟨_, rfl, _, _, _, [], _, [], hW', trodAll_mk1 (shut_bool Tryd.underlying4 _), (trodAll_cons_mk (Below.trod laidOut (by kernel_rfl) (of_decide_eq_true (by kernel_rfl)) k0 bel lt0) (trodAll_cons_mk (Below.trod laidOut (by kernel_rfl) (of_decide_eq_true (by kernel_rfl)) k1 bel lt1) trodAll_mk0)), rfl, bel.frame _, fun h => by cases h⟩
theorem laid_XorRunIsEncode (os : Os) : laidMet Tryd.prog Rows.xorRunIsEncodeRow.laid ((laidWorld os).forCall (fun _ _ => 0) ⟨#[], #[.agg #[.string .empty, .int .i64 0, .int .i64 0, .slice none 0 0, .int .i64 0], .slice none 0 0], []⟩).memory :=
  laidMet_of_run' 8 (by kernel_rfl) (by kernel_rfl)
theorem reads_XorRunIsEncode (os : Os) {H : Type} (enc : TypeId × Value → H) : ∃ places, DataW.whole enc Tryd.prog ((laidWorld os).forCall (fun _ _ => 0) ⟨#[], #[.agg #[.string .empty, .int .i64 0, .int .i64 0, .slice none 0 0, .int .i64 0], .slice none 0 0], []⟩).memory Tryd.f4.params.toList Rows.xorRunIsEncodeSpec.vars false (#[.agg #[.string .empty, .int .i64 0, .int .i64 0, .slice none 0 0, .int .i64 0], .slice none 0 0] : Array Value).toList 8 = some ([.agg [.lit (.string []), .lit (.int .i64 0), .lit (.int .i64 0), .nil, .lit (.int .i64 0)], .nil], [], places) :=
  ⟨[], by kernel_rfl⟩
set_option maxRecDepth 100000 in
theorem lifted_XorRunIsEncode (os : Os) (started : os.Started) (H : Type) (enc : TypeId × Value → H) (F : Stop.Interp) :
    ReturnsInHanded {} Tryd.checked os 4 .any ((OpenSpec.ofChange Rows.xorRunIsEncodeSpec).preRow enc Tryd.prog Tryd.f4 Rows.xorRunIsEncodeRow.domain false Rows.xorRunIsEncodeRow.laid) (((OpenSpec.ofChange Rows.xorRunIsEncodeSpec).at F).post enc Tryd.prog Tryd.f4 false true false false) := by
  obtain ⟨places, hx⟩ := reads_XorRunIsEncode os enc
  refine returnsInHanded_of_row (C := Tryd.checked) (s := OpenSpec.ofChange Rows.xorRunIsEncodeSpec) own started (by kernel_rfl) Tryd.func4
    (witness_row_at (enc := enc) (C := Tryd.checked) false (laidWorld os) #[.agg #[.string .empty, .int .i64 0, .int .i64 0, .slice none 0 0, .int .i64 0], .slice none 0 0] rfl (by kernel_rfl) (by kernel_rfl) (by kernel_rfl)
      (OpenSpec.preRow_of_cond 8 hx (by kernel_rfl) (fun k hk => by cases hk) (by kernel_rfl) (laid_XorRunIsEncode os))) ?_
  intro W base args ds gs before hval hW _ hcond _ hL _ _
  exact contract_XorRunIsEncode H enc W base args ds gs before hval hW hL

theorem said_XorRunIsEncode : Rows.XorRunIsEncodeSaid :=
  OpenClaim.holds_of_cond 4 Tryd.f4 rfl rfl rfl rfl rfl rfl rfl ⟨rfl, rfl, rfl, rfl, rfl⟩ rfl rfl rfl rfl rfl (by kernel_rfl) Tryd.func4 (by kernel_rfl)
    (of_decide_eq_true (by kernel_rfl)) (by unfold Func.isWrapper; first | (rw [if_pos (by decide +kernel)]; kernel_rfl) | (rw [if_neg (by decide +kernel)]; exact ⟨rfl, rfl⟩))
    (fun os started H enc _ F => by rw [OpenClaim.pre_eq_preRow]; exact lifted_XorRunIsEncode os started H enc F)
theorem plain_XorRunIsEncode (f : FuncId) (fn : Func) (hf : Tryd.pinned.checked.prog.funcNamed "solvent/solventlaw11.XorRunIsEncode" = some f) (hfn : Tryd.pinned.checked.prog.funcs[f]? = some fn) :
    false = Tryd.pinned.checked.prog.looks [] ∧ ∀ (j : Nat) t, fn.params[j]? = some t → Tryd.pinned.checked.prog.wantsStandIn t = false := by
  obtain rfl : f = 4 := Option.some.inj ((show Tryd.prog.funcNamed "solvent/solventlaw11.XorRunIsEncode" = some 4 by kernel_rfl).symm.trans hf) |>.symm
  obtain rfl : fn = Tryd.f4 := (Option.some.inj (Tryd.func4.symm.trans hfn)).symm
  refine ⟨by kernel_rfl, fun j t ht => ?_⟩
  rw [Tryd.params4] at ht
  have hm := Array.mem_of_getElem? ht
  simp only [List.mem_toArray, List.mem_cons, List.not_mem_nil, or_false] at hm
  rcases hm with rfl | rfl
  all_goals first | exact (show Tryd.prog.wantsStandIn 26 = false by kernel_rfl) | exact (show Tryd.prog.wantsStandIn 36 = false by kernel_rfl)
theorem proved_XorRunIsEncode : Rows.XorRunIsEncodeCardSaid :=
  Claim7.holds_tied_plain_at .later [] _ _ _ _ said_XorRunIsEncode (fun _ h => by cases h) (by kernel_rfl) (fun _ h => by cases h) xorRunIsEncode_row_tie rfl ⟨rfl, rfl⟩ (by kernel_rfl) rfl plain_XorRunIsEncode (by kernel_rfl)
end Go.Proofs.YtghinmlpkgcdiaaDoor
