/- QuotaAllowanceMatchesSpec: for every list of claims and every number the law returns true, and its arguments read as they did. No condition. -/
import Derived.Test.YtaoinpijicenhaaQ12
import Derived.Test.YtaoinpijicenhaaQ16
import Derived.Test.YtaoinpijicenhaaOpenQ
import Derived.Deep.AppendLies
import Derived.Deep.RegionHeld3
namespace Go.Proofs.Ytaoinpijicenhaa
set_option linter.unusedSimpArgs false
open Go.ChangeShapes Go.WideShapes Go.ChangeAt Go.RowKit
set_option linter.unusedVariables false

theorem run_append_nothing6 (W : World) (g : Nat) (t ty e : TypeId) (i : TypeInfo) (ht : Try.prog.underlying t = some (.slice e)) (hi : Try.prog.info? e = some i) (A : Option Addr) (n m mc : Nat) :
    (Builtin.append_ #[t, t] ty #[.slice (some ⟨g, 0, none⟩) 0 0, .slice A 0 mc]).run Try.prog W = .ok (.slice (some ⟨g, 0, none⟩) 0 0) W := by
  cases A <;> simp [Builtin.append_, run_underlying ht, sizeOf, typeInfo, hi, Builtin.lenOf, Builtin.firstCells, storeCells, loadCellsFrom, loadCells]
theorem flat_one (cs : List Cl) : ∀ u ∈ flat cs, u.oneCell' = true := by
  induction cs with
  | nil => intro u hu; simp [flat] at hu
  | cons c cs ih =>
    intro u hu
    simp only [flat, List.mem_cons] at hu
    rcases hu with rfl | rfl | rfl | rfl | rfl | rfl | hu
    all_goals first | rfl | exact ih u hu
theorem info_claim6 : (Try.prog.info? 23).map (fun i => (i.zero, i.size, i.bytes)) = some (some (.agg #[.int .i64 0, .int .i64 0, .int .i64 0, .int .i64 0, .int .i64 0, .int .i64 0]), 6, 48) := by kernel_rfl
theorem append_claims (W : World) (g : Nat) (hW : Row W g 23 #[]) (a : Option Addr) (len mc : Nat) (cs : List Cl) {B : Nat} (hl : cs.length = len) (hm : len ≤ 20) (hr : Rd W B a (flat cs)) :
    ∃ (a' : Option Addr) (c' : Nat) (w' : World), (Builtin.append_ #[35, 35] 35 #[.slice (some ⟨g, 0, none⟩) 0 0, .slice a len mc]).run Try.prog W = .ok (.slice a' len c') w' ∧ Rd w' w'.heap.size a' (flat cs) ∧ W.grownBy w' (some g) := by
  obtain ⟨i, hi, hz0, hz1, hz2⟩ := info_parts info_claim6
  have hown : W.ownsRow g 23 6 (.slice (some ⟨g, 0, none⟩) 0 0) 0 [] := ⟨by simp, .inr ⟨g, 0, #[], rfl, Nat.le_refl _, hW, Nat.le_refl _, by unfold maxLen; omega, by simp, by simp⟩⟩
  by_cases h0 : len = 0
  · subst h0
    have hn : cs = [] := List.eq_nil_of_length_eq_zero hl
    subst hn
    refine ⟨some ⟨g, 0, none⟩, 0, W, ?_, Rd.nil _ _ _, World.grownBy.refl W _⟩
    cases a with
    | none => exact run_append_nothing6 W g 35 35 23 i Try.underlying35 hi _ 0 0 mc
    | some ad => exact run_append_nothing6 W g 35 35 23 i Try.underlying35 hi _ 0 0 mc
  · obtain ⟨c0, h1⟩ : ∃ c, cs[0]? = some c := ⟨_, List.getElem?_eq_getElem (by omega)⟩
    obtain ⟨b, off, rfl, _⟩ := hr.claim h1
    have hcells : ∀ j u, (flat cs)[j]? = some u → W.cell? ((⟨b, off, none⟩ : Addr).add j) = some u := by
      intro j u hu
      obtain ⟨b', off', e, _, hc⟩ := hr j u hu
      injection e with e
      injection e with e1 e2
      subst e1 e2
      have : (⟨b, off, none⟩ : Addr).add j = ⟨b, off + j, none⟩ := by unfold Addr.add; split <;> simp_all
      rw [this]; exact hc
    obtain ⟨g', cap, w', hrun, h3, h4, h5, h6⟩ := run_append_lies (P := Try.prog) W 35 35 g 23 i _ 6 48 Try.underlying35 hi hz0 hz1 hz2 rfl (by decide) (.slice (some ⟨g, 0, none⟩) 0 0) 0 [] hown ⟨b, off, none⟩ len mc (flat cs) (by rw [flat_len, hl]) hcells (flat_one cs) (by omega) (by unfold maxLen; omega) (by omega) (Nat.le_of_lt hW.lt) _ rfl
    rw [Nat.zero_add] at hrun h3
    refine ⟨some ⟨g', 0, none⟩, cap, w', hrun, ?_, by simpa [Value.ownBlock] using h4⟩
    intro j u hu
    have := h3.cells (g := g') rfl j u (by simpa using hu)
    refine ⟨g', 0, rfl, h6, ?_⟩
    have e : (⟨g', 0, none⟩ : Addr).add j = ⟨g', 0 + j, none⟩ := by unfold Addr.add; split <;> simp_all
    rw [← e]; exact this
theorem wpList_run {P : Program} {w w' : World} {ops : Array Oper} {rest : List Oper} {o : Oper} {act : Act} {Q : Exit → Act → World → Prop} (hgd : o.guard = none) (s x : Operand) (t : TypeId)
    (ho : o.op = .call { callee := .builtin .append, args := #[s, x], argTypes := #[t, t] }) (v1 v2 r : Value) (hs : act.eval s = v1) (hx : act.eval x = v2)
    (hr : (Builtin.append_ #[t, t] o.type #[v1, v2]).run P w = .ok r w') (h : wpList P ops Q rest (act.put o.dst r) w') : wpList P ops Q (o :: rest) act w := by
  refine wpList_plain hgd fun K hK => ?_
  unfold Oper.wp execOp
  simp only [ho, resolve, invoke, builtin, Sem.run_bind, Sem.run_pure, Result.andThen_ok, List.map_toArray, List.map_cons, List.map_nil, hs, hx, hr]
  exact hK _ _ h
set_option maxHeartbeats 1600000 in
set_option maxRecDepth 100000 in
theorem walk0_QuotaAllowanceMatchesSpec (a : Option Addr) (len cap : Nat) (cs : List Cl) (F : Int) (w : World) (hl : cs.length = len) (hm : len ≤ 9223372036854775807) (hr : Rd w w.heap.size a (flat cs)) (hF2 : F ≤ 9223372036854775807) :
    Calls Try.prog 4 #[.slice a len cap, .int .i64 F] w fun e w' => e = .returned (.bool true) ∧ Below w.heap.size w w' := by
  have HR := Lib.hid hr
  clear hr
  go_enter Try.func4, Try.ntmps4
  go_wp2_with fail
  refine (sanity_any _).mono ?_
  rintro e w1 ⟨rfl, hb⟩
  have HB := Lib.hid hb
  clear hb
  go_wp2_with fail
  refine (small_any a len cap w.heap.size cs F w1 hl hm HB.out.size (HR.out.below HB.out)).mono ?_
  rintro e w2 ⟨he, hb⟩
  have HB := Lib.hid (below_call HB.out hb)
  clear hb
  rcases he with ⟨rfl, h20⟩ | rfl
  · obtain ⟨W, hW⟩ : ∃ W, W = w2.alloc (.cells #[] 23) := ⟨_, rfl⟩
    have hbW : Below w2.heap.size w2 W := by rw [hW]; exact (Below.refl _ _).alloc (Nat.le_refl _) _
    obtain ⟨a4, c4, w3, hap, hrd4, hg4⟩ := append_claims W w2.heap.size (by rw [hW]; exact Row.new w2 _ _) a len cap cs hl h20 ((HR.out.below HB.out).below (hbW.mono (HB.out.size)))
    have hb3 : Below w2.heap.size w2 w3 := hbW.grown hg4 (by rw [hW]; simp) (fun k hk => by injection hk with hk; omega)
    have HAP := Lib.hid hap
    have HR4 := Lib.hid hrd4
    have HB := Lib.hid (below_call HB.out hb3)
    clear hap hrd4 hg4 hbW hb3
    rw [hW] at HAP
    clear hW
    go_wp2_with (refine wpList_run rfl _ _ 35 rfl _ _ _ rfl rfl HAP.out ?_)
    refine (qallow_any a len cap w.heap.size cs F w3 hl (by omega) HB.out.size (HR.out.below HB.out) hF2).mono ?_
    rintro e w4 ⟨a5, n5, c5, rfl, ho, hb⟩
    have HO := Lib.hid ho
    have HR4 := Lib.hid (HR4.out.below hb)
    have HB := Lib.hid (below_call HB.out hb)
    have hH4 : w3.heap.size ≤ w4.heap.size := hb.size
    have HH4 := Lib.hid hH4
    clear ho hb HAP hH4
    go_wp2_with fail
    go_loopw [8] (fun iv wr => ∃ j : Nat, j ≤ len ∧ iv = .int .i64 j ∧ ∃ n, wr = w4.drewN n) (fun iv _ => len - (intOf iv).toNat)
    case atStart => exact ⟨0, by omega, rfl, 0, rfl⟩
    case round =>
      obtain ⟨j, hj, rfl, n, rfl⟩ := hrel
      by_cases hlt : j < len
      · have hd : decide ((j : Int) < (len : Int)) = true := by simpa using hlt
        obtain ⟨c, hget⟩ : ∃ x, cs[j]? = some x := ⟨_, List.getElem?_eq_getElem (by omega)⟩
        obtain ⟨b, off, rfl, hbB, d0, d1, d2, d3, d4, d5⟩ := ((HR.out.below HB.out).drewN n).claim hget
        obtain ⟨b2, off2, rfl, hbB2, k0, k1, k2, k3, k4, k5⟩ := (HR4.out.drewN n).claim hget
        obtain ⟨g, s, bu, r, v, m⟩ := c
        simp only at d0 d1 d2 d3 d4 d5 k0 k1 k2 k3 k4 k5
        clear hget
        go_wp2_with fail
        have hj0 : (0 : Int) ≤ (j : Int) := by omega
        have hj1 : (j : Int) < (len : Int) := by omega
        refine wp_region_held_drew (S := fun wn => wn.cell? ⟨b, off + j * 6, none⟩ = some (.int .i64 g) ∧ wn.cell? ⟨b, off + j * 6 + 1, none⟩ = some (.int .i64 s) ∧ wn.cell? ⟨b, off + j * 6 + 2, none⟩ = some (.int .i64 bu) ∧ wn.cell? ⟨b, off + j * 6 + 3, none⟩ = some (.int .i64 r) ∧ wn.cell? ⟨b, off + j * 6 + 4, none⟩ = some (.int .i64 v) ∧ wn.cell? ⟨b, off + j * 6 + 5, none⟩ = some (.int .i64 m) ∧ wn.cell? ⟨b2, off2 + j * 6, none⟩ = some (.int .i64 g) ∧ wn.cell? ⟨b2, off2 + j * 6 + 1, none⟩ = some (.int .i64 s) ∧ wn.cell? ⟨b2, off2 + j * 6 + 2, none⟩ = some (.int .i64 bu) ∧ wn.cell? ⟨b2, off2 + j * 6 + 3, none⟩ = some (.int .i64 r) ∧ wn.cell? ⟨b2, off2 + j * 6 + 4, none⟩ = some (.int .i64 v) ∧ wn.cell? ⟨b2, off2 + j * 6 + 5, none⟩ = some (.int .i64 m)) (by kernel_rfl) ⟨d0, d1, d2, d3, d4, d5, k0, k1, k2, k3, k4, k5⟩ (fun hHeld => ?_)
        refine wpAnyH_take (i := 0) (v := ?_) rfl (by kernel_rfl) (by kernel_rfl) (by kernel_rfl) (fun _ _ _ h => h) (Or.inl ⟨by kernel_rfl, by intro w hSw; (try dsimp only at hSw); go_simp; first | done | with_reducible rfl⟩) (by assumption) ?_
        try simp only [Act.put, List.getElem_toArray, List.getElem_cons_zero, List.getElem_cons_succ, List.setIfInBounds_toArray, List.set_cons_zero, List.set_cons_succ]
        refine wpAnyH_take (i := 1) (v := ?_) rfl (by kernel_rfl) (by kernel_rfl) (by kernel_rfl) (fun _ _ _ h => h) (Or.inl ⟨by kernel_rfl, by intro w hSw; (try dsimp only at hSw); go_simp; first | done | with_reducible rfl⟩) (by assumption) ?_
        try simp only [Act.put, List.getElem_toArray, List.getElem_cons_zero, List.getElem_cons_succ, List.setIfInBounds_toArray, List.set_cons_zero, List.set_cons_succ]
        refine wpAnyH_take (i := 2) (v := ?_) rfl (by kernel_rfl) (by kernel_rfl) (by kernel_rfl) (fun _ _ _ h => h) (Or.inl ⟨by kernel_rfl, by intro w hSw; (try dsimp only at hSw); go_simp; first | done | with_reducible rfl⟩) (by assumption) ?_
        try simp only [Act.put, List.getElem_toArray, List.getElem_cons_zero, List.getElem_cons_succ, List.setIfInBounds_toArray, List.set_cons_zero, List.set_cons_succ]
        refine wpAnyH_take (i := 3) (v := ?_) rfl (by kernel_rfl) (by kernel_rfl) (by kernel_rfl) (fun _ _ _ h => h) (Or.inl ⟨by kernel_rfl, by intro w hSw; (try dsimp only at hSw); go_simp; first | done | with_reducible rfl⟩) (by assumption) ?_
        try simp only [Act.put, List.getElem_toArray, List.getElem_cons_zero, List.getElem_cons_succ, List.setIfInBounds_toArray, List.set_cons_zero, List.set_cons_succ]
        refine wpAnyH_take (i := 4) (v := ?_) rfl (by kernel_rfl) (by kernel_rfl) (by kernel_rfl) (fun _ _ _ h => h) (Or.inl ⟨by kernel_rfl, by intro w hSw; (try dsimp only at hSw); go_simp; first | done | with_reducible rfl⟩) (by assumption) ?_
        try simp only [Act.put, List.getElem_toArray, List.getElem_cons_zero, List.getElem_cons_succ, List.setIfInBounds_toArray, List.set_cons_zero, List.set_cons_succ]
        refine wpAnyH_take (i := 5) (v := ?_) rfl (by kernel_rfl) (by kernel_rfl) (by kernel_rfl) (fun _ _ _ h => h) (Or.inl ⟨by kernel_rfl, by intro w hSw; (try dsimp only at hSw); go_simp; first | done | with_reducible rfl⟩) (by assumption) ?_
        try simp only [Act.put, List.getElem_toArray, List.getElem_cons_zero, List.getElem_cons_succ, List.setIfInBounds_toArray, List.set_cons_zero, List.set_cons_succ]
        refine wpAnyH_take (i := 6) (v := ?_) rfl (by kernel_rfl) (by kernel_rfl) (by kernel_rfl) (fun _ _ _ h => h) (Or.inl ⟨by kernel_rfl, by intro w hSw; (try dsimp only at hSw); go_simp; first | done | with_reducible rfl⟩) (by assumption) ?_
        try simp only [Act.put, List.getElem_toArray, List.getElem_cons_zero, List.getElem_cons_succ, List.setIfInBounds_toArray, List.set_cons_zero, List.set_cons_succ]
        refine wpAnyH_take (i := 7) (v := ?_) rfl (by kernel_rfl) (by kernel_rfl) (by kernel_rfl) (fun _ _ _ h => h) (Or.inl ⟨by kernel_rfl, by intro w hSw; (try dsimp only at hSw); go_simp; first | done | with_reducible rfl⟩) (by assumption) ?_
        try simp only [Act.put, List.getElem_toArray, List.getElem_cons_zero, List.getElem_cons_succ, List.setIfInBounds_toArray, List.set_cons_zero, List.set_cons_succ]
        refine wpAnyH_take (i := 8) (v := ?_) rfl (by kernel_rfl) (by kernel_rfl) (by kernel_rfl) (fun _ _ _ h => h) (Or.inl ⟨by kernel_rfl, by intro w hSw; (try dsimp only at hSw); go_simp; first | done | with_reducible rfl⟩) (by assumption) ?_
        try simp only [Act.put, List.getElem_toArray, List.getElem_cons_zero, List.getElem_cons_succ, List.setIfInBounds_toArray, List.set_cons_zero, List.set_cons_succ]
        refine wpAnyH_done (by kernel_rfl) ?_ _
        go_wp2_with fail
        go_roundw
        case rel => exact ⟨j + 1, by omega, by go_num, n + 1, rfl⟩
        case measure => simp [intOf]; omega
      · have hd : decide ((j : Int) < (len : Int)) = false := by simp; omega
        go_wp2_with fail
        refine (rallow_any a4 len c4 w4.heap.size cs F (w4.drewN n) hl (by omega) (Nat.le_refl _) ((HR4.out.drewN n).more HH4.out) hF2).mono ?_
        rintro e w5 ⟨a6, n6, c6, rfl, ho6, hb⟩
        have hn5 : (allowV cs F).length = n5 := by have := HO.out.len; rwa [List.length_map] at this
        obtain rfl : n6 = n5 := by have := ho6.len; rw [List.length_map] at this; omega
        have HO5 := Lib.hid ((HO.out.drewN n).below hb)
        have HO6 := Lib.hid ho6
        have HB := Lib.hid (below_call (below_drewN HB.out n) hb)
        have hcap := HO.out.cap
        have hcl := HO.out.le
        have hn6 : n6 ≤ 9223372036854775807 := by unfold maxLen at hcl; omega
        clear ho6 hb hcap hcl
        go_wp2_with fail
        refine (same_any a5 a6 n6 c5 c6 w5.heap.size w5.heap.size (allowV cs F) w5 hn5 hn6 HO5.out.rd HO6.out.rd).mono ?_
        rintro e w6 ⟨rfl, q, rfl⟩
        go_wp2_with fail
        go_ret
        exact ⟨rfl, below_drewN HB.out q⟩
  · go_wp2_with fail
    go_ret
    exact ⟨rfl, HB.out⟩
theorem walk_QuotaAllowanceMatchesSpec (a : Option Addr) (len cap : Nat) (cs : List Cl) (F : Int) (w : World) (hl : cs.length = len) (hm : len ≤ 9223372036854775807) (hr : Rd w w.heap.size a (flat cs)) (hF1 : -9223372036854775808 ≤ F) (hF2 : F ≤ 9223372036854775807) :
    Calls Try.prog 4 #[.slice a len cap, .int .i64 F] w fun e w' => e = .returned (.bool true) ∧ Below w.heap.size w w' := walk0_QuotaAllowanceMatchesSpec a len cap cs F w hl hm hr hF2

/-! ### the frame: the arguments opened and shut -/
theorem contract_QuotaAllowanceMatchesSpec (H : Type) (enc : TypeId × Value → H) (W : World) (base : Nat) (args : Array Value) (ds gs : List (DataW H)) (before : List MemPlace)
    (hval0 : ∀ (j : Nat) t v, Try.f4.params[j]? = some t → args[j]? = some v → Value.okWide Try.prog W .any base t v)
    (hW : DataW.Whole enc Try.prog Try.f4.params.toList Rows.quotaAllowanceMatchesSpecSpec.vars false W args.toList ds gs before) :
    Calls Try.prog 4 args W fun e W' => ∃ v, e = .returned v ∧ Rows.quotaAllowanceMatchesSpecSpec.post enc Try.prog Try.f4 false true false false W args v W' := by
  have hval : ∀ (j : Nat) t v, Try.f4.params[j]? = some t → args[j]? = some v → Value.okWide Try.prog W .any base t v := hval0
  have hW' := hW
  obtain ⟨p, q, hA0, hV, rfl, hfz, hnd⟩ := hW
  have hA : DataW.TrodAll enc Try.prog W 0 (fun _ => true) true Try.f4.params.toList args.toList ds p := hA0
  rw [Try.params4] at hA hval
  obtain ⟨v0, vs0, d0, ds0, p0, q0, hargs, rfl, rfl, h0, r0⟩ := trodAll_cons hA
  obtain ⟨v1, vs1, d1, ds1, p1, q1, rfl, rfl, rfl, h1, r1⟩ := trodAll_cons r0
  obtain ⟨rfl, rfl, rfl⟩ := trodAll_nil r1
  obtain rfl : args = #[v0, v1] := by cases args; simp_all
  obtain ⟨rfl, rfl⟩ := trodVars_none hV
  have k0 := h0
  have lt0 : ∀ x ∈ p0, x.block < W.heap.size := by obtain ⟨m, hm⟩ := k0; exact DataW.trod_lt m _ _ _ hm
  have k1 := h1
  have lt1 : ∀ x ∈ p1, x.block < W.heap.size := by obtain ⟨m, hm⟩ := k1; exact DataW.trod_lt m _ _ _ hm
  obtain ⟨a0, len0, cap0, rfl⟩ := okWide_slice Try.underlying35 (hval 0 35 v0 rfl rfl)
  obtain ⟨fuel0, hf0⟩ := h0
  obtain ⟨x0, y0, z0, cl0, hcs0, hbl0, hlc0, hcm0, hrd0⟩ := open_claims Try.underlying35 hf0
  simp only [Value.cells, List.cons.injEq, Value.slice.injEq, and_true] at hcs0
  obtain ⟨rfl, rfl, rfl⟩ := hcs0
  have hmx0 : len0 ≤ 9223372036854775807 := by unfold maxLen at hcm0; omega
  obtain ⟨n1, rfl, rfl, rfl, w1⟩ := open_int Try.underlying3 (hval 1 3 v1 rfl rfl) h1
  refine (walk_QuotaAllowanceMatchesSpec a0 len0 cap0 cl0 n1 W hbl0 hmx0 hrd0 (wf_i64 w1).1 (wf_i64 w1).2).mono fun e W' ⟨he, bel⟩ => ?_
  subst he
  exact ⟨_, rfl, _, _, _, [], _, [], hW', trodAll_mk1 (shut_bool Try.underlying4 _), (trodAll_cons_mk (Below.trod laidOut (by kernel_rfl) (of_decide_eq_true (by kernel_rfl)) k0 bel lt0) (trodAll_cons_mk (Below.trod laidOut (by kernel_rfl) (of_decide_eq_true (by kernel_rfl)) k1 bel lt1) trodAll_mk0)), rfl, bel.frame _, fun h => by cases h⟩

set_option maxRecDepth 100000 in
theorem lifted_QuotaAllowanceMatchesSpec (os : Os) (started : os.Started) (H : Type) (enc : TypeId × Value → H) :
    ReturnsInHanded {} Try.checked os 4 .any (Rows.quotaAllowanceMatchesSpecSpec.pre6 enc Try.prog Try.f4 Rows.quotaAllowanceMatchesSpecRow.domain false) (Rows.quotaAllowanceMatchesSpecSpec.post enc Try.prog Try.f4 false true false false) := by
  refine returnsInHanded_of_change (C := Try.checked) own started (by kernel_rfl) Try.func4
    (ChangeSpec.witness6 (enc := enc) (C := Try.checked) false ⟨#[], #[.slice none 0 0, .int .i64 0], []⟩ 8 (by kernel_rfl) (by kernel_rfl) (by kernel_rfl) (by kernel_rfl)) ?_
  intro W base args ds gs before hval hW _ _
  exact contract_QuotaAllowanceMatchesSpec H enc W base args ds gs before hval hW

theorem proved_QuotaAllowanceMatchesSpec : Rows.QuotaAllowanceMatchesSpecSaid :=
  OpenClaim.holds_of_wide 4 Try.f4 rfl rfl rfl rfl rfl rfl rfl ⟨rfl, rfl, rfl, rfl, rfl⟩ rfl rfl rfl rfl rfl (by kernel_rfl) Try.func4 (by kernel_rfl)
    (of_decide_eq_true (by kernel_rfl)) (by unfold Func.isWrapper; first | (rw [if_pos (by decide +kernel)]; kernel_rfl) | (rw [if_neg (by decide +kernel)]; exact ⟨rfl, rfl⟩))
    (fun os started H enc _ => lifted_QuotaAllowanceMatchesSpec os started H enc)
end Go.Proofs.Ytaoinpijicenhaa
