/- Schedules: the registers, the walk of evaluate. -/
import Derived.Test.YtghinmlpkgcdiaaDoorX4
import Derived.Deep.RegionLaw
namespace Go.Proofs.YtghinmlpkgcdiaaDoor
set_option linter.unusedSimpArgs false
set_option linter.unusedVariables false
open Go.RowKit Go.Lib

def natO (ops : List (Int × Int)) : List (Nat × Nat) := ops.map fun o => (o.1.toNat, o.2.toNat)
theorem natO_take {ops : List (Int × Int)} {k : Nat} {o : Int × Int} (h : ops[k]? = some o) : natO (ops.take (k + 1)) = natO (ops.take k) ++ [(o.1.toNat, o.2.toNat)] := by
  obtain ⟨hk, e⟩ := List.getElem?_eq_some_iff.1 h
  unfold natO
  rw [List.take_succ_eq_append_getElem hk, e, List.map_append]; rfl
theorem natO_length (ops : List (Int × Int)) : (natO ops).length = ops.length := by simp [natO]
/-- the registers' values: lists of W words, with the bits of ns -/
def RegsOf (w : World) (W : Nat) (vs : List Value) (ns : List Nat) : Prop := vs.length = ns.length ∧ ∀ (i : Nat) (m : Nat), ns[i]? = some m → ∃ v, vs[i]? = some v ∧ Bit w W v m
theorem RegsOf.keeps {w w' : World} {W : Nat} {vs : List Value} {ns : List Nat} (h : RegsOf w W vs ns) (hk : Keeps 85 w w') : RegsOf w' W vs ns :=
  ⟨h.1, fun i m hm => by obtain ⟨v, h1, h2⟩ := h.2 i m hm; exact ⟨v, h1, h2.keeps hk⟩⟩
theorem RegsOf.nil (w : World) (W : Nat) : RegsOf w W [] [] := ⟨rfl, fun i m h => by simp at h⟩
theorem RegsOf.snoc {w : World} {W m : Nat} {vs : List Value} {ns : List Nat} {v : Value} (h : RegsOf w W vs ns) (hb : Bit w W v m) : RegsOf w W (vs ++ [v]) (ns ++ [m]) := by
  refine ⟨by simp [h.1], fun i x hx => ?_⟩
  by_cases hi : i < ns.length
  · rw [List.getElem?_append_left hi] at hx
    obtain ⟨v', h1, h2⟩ := h.2 i x hx
    exact ⟨v', by rw [List.getElem?_append_left (by rw [h.1]; exact hi)]; exact h1, h2⟩
  · rw [List.getElem?_append_right (by omega)] at hx
    by_cases e : i - ns.length = 0
    · rw [e] at hx
      simp only [List.getElem?_cons_zero, Option.some.injEq] at hx
      subst hx
      exact ⟨v, by rw [List.getElem?_append_right (by rw [h.1]; omega), h.1, e]; rfl, hb⟩
    · rw [List.getElem?_eq_none (by simp; omega)] at hx; cases hx
theorem RegsOf.append {w : World} {W : Nat} {vs us : List Value} {ns ms : List Nat} (h : RegsOf w W vs ns) (h2 : RegsOf w W us ms) : RegsOf w W (vs ++ us) (ns ++ ms) := by
  refine ⟨by simp [h.1, h2.1], fun i x hx => ?_⟩
  by_cases hi : i < ns.length
  · rw [List.getElem?_append_left hi] at hx
    obtain ⟨v', h1, h2⟩ := h.2 i x hx
    exact ⟨v', by rw [List.getElem?_append_left (by rw [h.1]; exact hi)]; exact h1, h2⟩
  · rw [List.getElem?_append_right (by omega)] at hx
    obtain ⟨v', h3, h4⟩ := h2.2 _ x hx
    exact ⟨v', by rw [List.getElem?_append_right (by rw [h.1]; omega), h.1]; exact h3, h4⟩
theorem RegsOf.one {w : World} {W : Nat} {vs : List Value} {ns : List Nat} (h : RegsOf w W vs ns) : ∀ u ∈ vs, u.oneCell' = true := fun u hu => by
  obtain ⟨i, hi, rfl⟩ := List.getElem_of_mem hu
  obtain ⟨v, h1, q, k, e, _⟩ := h.2 i _ (List.getElem?_eq_getElem (by rw [← h.1]; exact hi))
  rw [List.getElem?_eq_getElem hi] at h1
  injection h1 with h1
  rw [h1, e]; rfl

set_option maxRecDepth 100000 in
set_option maxHeartbeats 3200000 in
theorem eval_any (f d p : Int) (qo : Option Addr) (no ko : Nat) (qx : Option Addr) (nx kx : Nat) (ops : List (Int × Int)) (W ni : Nat) (qi : Option Addr) (ki : Nat) (us : List Value) (ns : List Nat) (w : World)
    (hW : W ≤ 1000) (hni : ni ≤ 1000) (hno : no ≤ 131072) (hlo : ops.length = no) (hro : Rd w w.heap.size qo (opsC ops)) (hok : Xp.opsOk (ni : Int) ops = true)
    (hln : ns.length = ni) (hri : Rd w w.heap.size qi us) (hrg : RegsOf w W us ns) :
    Calls Tryd.prog 45 #[schV f d p qo no ko qx nx kx, .slice qi ni ki] w fun e w' => (∃ q k vs, e = .returned (.slice q (ni + no) k) ∧ Own w' w.heap.size 80 q (ni + no) k vs ∧ RegsOf w' W vs (Xp.regs ns (natO ops))) ∧ Below w.heap.size w w' := by
  unfold schV
  have hlu : us.length = ni := by rw [hrg.1, hln]
  have HCL := Lib.hid (fun (W0 : World) (hb : Below w.heap.size w W0) => clone_lists qi ni ki us W0 hlu (by omega) ((hri.below hb).more hb.size) hrg.one)
  have HLO := Lib.hid hlo
  have HRO := Lib.hid hro
  have HOK := Lib.hid (fun k o (h : ops[k]? = some o) => Xp.opOk_iff.1 (Xp.opsOk_get hok h))
  have HLN := Lib.hid hln
  have HRG := Lib.hid hrg
  clear hlo hro hok hln hri hrg hlu
  have HW : Hid (Below w.heap.size w (w.alloc (.cells (schC f d p qo no ko qx nx kx) 30))) := Lib.hid ((Below.refl _ w).alloc (Nat.le_refl _) _)
  have HR : Hid (Row (w.alloc (.cells (schC f d p qo no ko qx nx kx) 30)) w.heap.size 30 (schC f d p qo no ko qx nx kx)) := Lib.hid (Row.new w _ _)
  go_enter Tryd.func45, Tryd.ntmps45
  go_wp2_with fail
  refine (HCL.out _ HW.out).mono ?_
  rintro e w1 ⟨q, k, rfl, ho, hb⟩
  have HB1 := Lib.hid (below_call HW.out hb)
  have HR1 := Lib.hid (HR.out.below hb HR.out.lt)
  have hs1 := hb.size
  simp only [size1] at hs1
  have HO1 := Lib.hid (show Own w1 (w.heap.size + 1) 80 q ni k us by simpa using ho)
  have HG1 := Lib.hid (show RegsOf w1 W us (Xp.regs ns (natO (ops.take 0))) from HRG.out.keeps (Keeps.of_below HB1.out))
  obtain ⟨c0, c1, c2, c3, c4⟩ := sbox HR1.out
  clear hb ho HW HR
  go_wp2_with fail
  clear c0 c1 c2 c3 c4
  go_loopw [5, 13] (fun s i wr => ∃ (t : Nat) (q : Option Addr) (n k : Nat) (vs : List Value), t ≤ no ∧ i = .int .i64 t ∧ s = .slice q n k ∧ Hid (n = ni + t) ∧ Own wr (w.heap.size + 1) 80 q n k vs ∧ RegsOf wr W vs (Xp.regs ns (natO (ops.take t))) ∧ Below w.heap.size w wr) (fun _ i _ => no - (intOf i).toNat)
  case atStart => exact ⟨0, q, ni, k, us, Nat.zero_le _, rfl, rfl, Lib.hid rfl, HO1.out, HG1.out, HB1.out⟩
  case round =>
    obtain ⟨t, q, n, k, vs, ht, rfl, rfl, hn, ho, hg, hb⟩ := hrel
    have HN := Lib.hid hn.out
    have HO := Lib.hid ho
    have HG := Lib.hid hg
    have HB := Lib.hid hb
    have hsw := hb.size
    have hnle : n ≤ 132072 := by have := hn.out; omega
    clear hn ho hg hb HO1 HG1
    by_cases hlt : t < no
    · have hd : decide ((t : Int) < no) = true := decide_eq_true (by omega)
      obtain ⟨⟨x, y⟩, hop⟩ : ∃ o, ops[t]? = some o := ⟨_, List.getElem?_eq_getElem (by rw [HLO.out]; exact hlt)⟩
      obtain ⟨hx0, hy0, hxl, hyl, hxy⟩ := HOK.out t _ hop
      obtain ⟨X, rfl⟩ : ∃ X : Nat, x = X := ⟨x.toNat, by simp only at hx0; omega⟩
      obtain ⟨Y, rfl⟩ : ∃ Y : Nat, y = Y := ⟨y.toNat, by simp only at hy0; omega⟩
      have hXn : X < n := by have := HN.out; simp only at hxl; omega
      have hYn : Y < n := by have := HN.out; simp only at hyl; omega
      obtain ⟨R, hR⟩ : ∃ R, Xp.regs ns (natO (ops.take t)) = R := ⟨_, rfl⟩
      have hRl : R.length = n := by rw [← hR, Xp.regs_length, natO_length, HLN.out, HN.out, List.length_take, HLO.out, Nat.min_eq_left ht]
      obtain ⟨a, ha⟩ : ∃ a, R[X]? = some a := ⟨_, List.getElem?_eq_getElem (by omega)⟩
      obtain ⟨b, hb⟩ : ∃ b, R[Y]? = some b := ⟨_, List.getElem?_eq_getElem (by omega)⟩
      have HREG := Lib.hid (show Xp.regs ns (natO (ops.take (t + 1))) = R ++ [a ^^^ b] by
        rw [natO_take hop, Xp.regs_snoc, hR]
        simp only [Int.toNat_natCast]
        rw [ha, hb]; rfl)
      rw [hR] at HG
      obtain ⟨v1, hv1, q1, k1, rfl, hB1⟩ := HG.out.2 X a ha
      obtain ⟨v2, hv2, q2, k2, rfl, hB2⟩ := HG.out.2 Y b hb
      have HBA := Lib.hid (show Bit wr W (.slice q1 W k1) a from ⟨q1, k1, rfl, hB1⟩)
      have HBB := Lib.hid (show Bit wr W (.slice q2 W k2) b from ⟨q2, k2, rfl, hB2⟩)
      obtain ⟨bo, off, rfl, hbo, hx, hy⟩ := (HRO.out.below HB.out).op hop
      obtain ⟨g, rfl, hBg, hgl, hcx, hfx⟩ := HO.out.at_ hXn
      obtain ⟨g', eg, _, _, hcy, hfy⟩ := HO.out.at_ hYn
      injection eg with eg
      injection eg with eg
      subst eg
      rw [hv1] at hcx
      rw [hv2] at hcy
      have HLX := Lib.hid (fun (W0 : World) (hk : Keeps 85 wr W0) => lxor_any W a b q1 q2 k1 k2 W0 hW (HBA.out.keeps hk).rd (HBB.out.keeps hk).rd)
      have HWA := Lib.hid (HB.out.alloc hsw (.cells #[.int .i64 (X : Int), .int .i64 (Y : Int)] 66)).drew
      have HKA := Lib.hid (((Keeps.refl 85 wr).alloc (.cells #[.int .i64 (X : Int), .int .i64 (Y : Int)] 66)).drew)
      have HOA := Lib.hid (show Own ((wr.alloc (.cells #[.int .i64 (X : Int), .int .i64 (Y : Int)] 66)).drew) (w.heap.size + 1) 80 (some ⟨g, 0, none⟩) n k vs from HO.out.alloc _)
      have HGA := Lib.hid (HG.out.keeps HKA.out)
      clear hB1 hB2 ha hb hop hR hRl hxy hv1 hv2 hx0 hy0 hxl hyl
      go_wp2_with fail
      go_region_law (first
        | (refine step_app rfl (.tmp 17) (.tmp 29) 76 rfl (w.heap.size + 1) 80 (.slice none 0 0) 24 Tryd.underlying76 elem_lists rfl (some ⟨g, 0, none⟩) n k _ rfl (HO5.out.alloc _) _ (some ⟨w5.heap.size, 0, none⟩) 1 1 [.slice q5 W k5] rfl (Rd.one w5 _ _) rfl (by intro u hu; simp only [List.mem_singleton] at hu; subst hu; rfl) (by unfold maxLen; omega) (by omega) (by simp; omega) ?_; intro a6 k6 w6 ho6 hg6; have HO6 := Lib.hid ho6; have HB6 := Lib.hid (below_grown2 (HB5.out.alloc (by omega) _) hg6 (HO5.out.alloc _) (by simp; omega) (by omega)); have HG6 := Lib.hid ((HG5.out.snoc HBIT5.out).keeps (((Keeps.refl 85 w5).alloc _).grown (HO5.out.alloc _) hg6 (by decide))); clear ho6 hg6)
        | (go_simp; go_at_call 77; (with_reducible refine (HLX.out _ HKA.out).mono ?_); rintro e5 w5 ⟨⟨q5, k5, rfl, hbit⟩, hb5⟩; have HBIT5 := Lib.hid hbit; have HB5 := Lib.hid (below_call HWA hb5); have HO5 := Lib.hid (HOA.out.below hb5); have HG5 := Lib.hid (HGA.out.keeps (Keeps.of_below hb5)); have hs5 := HB5.out.size; clear hbit hb5; dsimp only))
      all_goals
        go_wp2
        go_roundw
        case rel => exact ⟨t + 1, a6, n + 1, k6, _, by omega, by go_num, rfl, Lib.hid (by have := HN.out; omega), HO6.out, by rw [HREG.out]; exact HG6.out, HB6.out⟩
        case measure => simp [intOf]; omega
    · have hd : decide ((t : Int) < no) = false := decide_eq_false (by omega)
      have hE : n = ni + no := by have := HN.out; omega
      have HGE := Lib.hid (show RegsOf wr W vs (Xp.regs ns (natO ops)) from by
        have := HG.out
        rwa [List.take_of_length_le (by rw [HLO.out]; omega)] at this)
      subst hE
      go_wp2_with fail
      go_ret
      exact ⟨⟨q, k, vs, rfl, Own.mono HO.out (Nat.le_succ _), HGE.out⟩, HB.out⟩
end Go.Proofs.YtghinmlpkgcdiaaDoor
