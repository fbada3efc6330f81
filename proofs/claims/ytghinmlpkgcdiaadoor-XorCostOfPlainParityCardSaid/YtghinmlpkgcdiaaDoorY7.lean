/- Schedules: Shorten, what stands in memory. -/
import Derived.Test.YtghinmlpkgcdiaaDoorY6
namespace Go.Proofs.YtghinmlpkgcdiaaDoor
set_option linter.unusedSimpArgs false
set_option linter.unusedVariables false
open Go.RowKit Go.Lib

theorem only_grown {w w' : World} {g : Nat} (h : Only (fun k => k = g) w w') : w.grownBy w' (some g) :=
  ⟨h.os, h.tape, h.output, h.size, fun i hi hne => h.block i hi (fun e => hne (by rw [e]))⟩
/-- what stands in memory while a schedule is shortened -/
structure ShM (w1 wr : World) (f d p : Int) (qs : Option Addr) (ns ks : Nat) (vs : List Value) (ls : List (List Nat)) (wO gp : Nat) (q : Option Addr) (n1 k : Nat) (O : List (Int × Int)) (X Y : Int) : Prop where
  out : Row wr wO 30 (schC f d p q n1 k none 0 0)
  ops : OpsR wr w1.heap.size q n1 k O
  rows : Own wr w1.heap.size 27 qs ns ks vs
  fam : Fam wr w1.heap.size vs ls
  pair : Row wr gp 59 (pkC X Y)
  oB : w1.heap.size ≤ wO
  gB : w1.heap.size ≤ gp
  below : Below w1.heap.size w1 wr
section
variable {w1 wr w' : World} {f d p : Int} {qs q : Option Addr} {ns ks n1 k wO gp : Nat} {vs : List Value} {ls : List (List Nat)} {O : List (Int × Int)} {X Y : Int}
theorem ShM.next (h : ShM w1 wr f d p qs ns ks vs ls wO gp q n1 k O X Y) (hb : Below wr.heap.size wr w') : ShM w1 w' f d p qs ns ks vs ls wO gp q n1 k O X Y :=
  ⟨h.out.below hb h.out.lt, h.ops.keeps (Keeps.of_below hb), h.rows.below hb, h.fam.keeps (Keeps.of_below hb), h.pair.below hb h.pair.lt, h.oB, h.gB, h.below.trans (hb.mono h.below.size)⟩
theorem ShM.rowsT (h : ShM w1 wr f d p qs ns ks vs ls wO gp q n1 k O X Y) : RowsT wr qs ns ls := RowsT.of h.rows h.fam
/-- one operation more -/
theorem ShM.op {a' : Option Addr} {c' : Nat} {x y : Int} (h : ShM w1 wr f d p qs ns ks vs ls wO gp q n1 k O X Y) (ho : OpsR w' w1.heap.size a' (n1 + 1) c' (O ++ [(x, y)])) (hg : wr.grownBy w' (Value.slice q n1 k).ownBlock) :
    Row w' wO 30 (schC f d p q n1 k none 0 0) ∧ ShM w1 (w'.setCell ⟨wO, 3, none⟩ (.slice a' (n1 + 1) c')) f d p qs ns ks vs ls wO gp a' (n1 + 1) c' (O ++ [(x, y)]) X Y := by
  have hk : ∀ e : TypeId, e ≠ 66 → Keeps e wr w' := fun e he => (Keeps.refl e wr).ops h.ops hg he
  have h1 := hk _ (by decide) _ _ h.out
  have hk2 : ∀ e : TypeId, e ≠ 30 → Keeps e w' (w'.setCell ⟨wO, 3, none⟩ (.slice a' (n1 + 1) c')) := fun e he => (Keeps.refl e w').put (p := ⟨wO, 3, none⟩) h1 he _
  have hb : Below w1.heap.size w1 w' := below_ops h.below hg h.ops h.below.size (Nat.le_refl _)
  refine ⟨h1, h1.put 3 _, ho.keeps (hk2 _ (by decide)), (h.rows.keeps (hk _ (by decide))).keeps (hk2 _ (by decide)), (h.fam.keeps (hk _ (by decide))).keeps (hk2 _ (by decide)), hk2 _ (by decide) _ _ (hk _ (by decide) _ _ h.pair), h.oB, h.gB, hb.setCell (p := ⟨wO, 3, none⟩) h.oB _⟩
/-- one set replaced -/
theorem ShM.set {a' : Option Addr} {c' kl i gS : Nat} {ql : Option Addr} {l l' : List Nat} (h : ShM w1 wr f d p qs ns ks vs ls wO gp q n1 k O X Y) (hi : i < ns) (hl : ls[i]? = some l) (hv : vs[i]? = some (.slice ql l.length kl)) (hgS : qs = some ⟨gS, 0, none⟩) (hg : wr.grownBy w' (Value.slice ql l.length kl).ownBlock)
    (ho : Own w' w1.heap.size 3 a' l'.length c' (nts l')) (hn : a' = ql ∨ ∃ g, a' = some ⟨g, 0, none⟩ ∧ wr.heap.size ≤ g) :
    Own w' w1.heap.size 27 qs ns ks vs ∧ ShM w1 (w'.setCell ⟨gS, i, none⟩ (.slice a' l'.length c')) f d p qs ns ks (vs.set i (.slice a' l'.length c')) (ls.set i l') wO gp q n1 k O X Y := by
  obtain ⟨q0, k0, e0, ho0⟩ := h.fam.own i l hl
  rw [hv] at e0
  have e0 := Option.some.inj e0
  injection e0 with e1 _ e2
  subst e1; subst e2
  have hk : ∀ e : TypeId, e ≠ 3 → Keeps e wr w' := fun e he => (Keeps.refl e wr).grown ho0 hg he
  have hr := h.rows.keeps (hk _ (by decide))
  subst hgS
  obtain ⟨cs, hrow, _⟩ := hr.row rfl
  have hk2 : ∀ e : TypeId, e ≠ 27 → Keeps e w' (w'.setCell ⟨gS, i, none⟩ (.slice a' l'.length c')) := fun e he => (Keeps.refl e w').put (p := ⟨gS, i, none⟩) hrow he _
  have hb : Below w1.heap.size w1 w' := below_grown2 h.below hg ho0 h.below.size (Nat.le_refl _)
  have hgB : w1.heap.size ≤ gS := (hr.lt rfl).1
  exact ⟨hr, hk2 _ (by decide) _ _ (hk _ (by decide) _ _ h.out), (h.ops.keeps (hk _ (by decide))).keeps (hk2 _ (by decide)), hr.put hi _, (h.fam.set hl hv hg ho hn).keeps (hk2 _ (by decide)), hk2 _ (by decide) _ _ (hk _ (by decide) _ _ h.pair), h.oB, h.gB, hb.setCell (p := ⟨gS, i, none⟩) hgB _⟩
/-- another pair -/
theorem ShM.whole {X' Y' : Int} (h : ShM w1 wr f d p qs ns ks vs ls wO gp q n1 k O X Y) : ShM w1 (wr.setRow gp (pkC X' Y')) f d p qs ns ks vs ls wO gp q n1 k O X' Y' := by
  have hg := grown_setRow (w := wr) (g := gp) (pkC X' Y')
  have hk : ∀ e : TypeId, e ≠ 59 → Keeps e wr (wr.setRow gp (pkC X' Y')) := fun e he g cs hr => hr.apart (fun e2 => by subst e2; exact he (hr.type h.pair)) _
  exact ⟨hk _ (by decide) _ _ h.out, h.ops.keeps (hk _ (by decide)), h.rows.keeps (hk _ (by decide)), h.fam.keeps (hk _ (by decide)), h.pair.whole _, h.oB, h.gB, below_whole h.below h.gB _⟩
end
set_option maxRecDepth 100000 in
set_option maxHeartbeats 1600000 in
theorem shorten_no (f d p : Int) (qo : Option Addr) (no ko : Nat) (qx : Option Addr) (nx kx : Nat) (ops : List (Int × Int)) (out : List Int) (w : World) (ht : Tab w) (hno : no ≤ 9223372036854775807)
    (hlo : ops.length = no) (hro : Rd w w.heap.size qo (opsC ops)) (hlx : out.length = nx) (hrx : Rd w w.heap.size qx (ints out)) (h : Xp.okS f d p ops out = false) :
    Calls Tryd.prog 12 #[schV f d p qo no ko qx nx kx] w fun e w' => e = .returned (.tuple #[schV 0 0 0 none 0 0 none 0 0, .int .i64 1]) ∧ Below w.heap.size w w' := by
  have HV := Lib.hid (fun (W : World) (hb : Below w.heap.size w W) => xsets_no f d p qo no ko qx nx kx ops out W (ht.next hb) hno hlo ((hro.below hb).more hb.size) hlx ((hrx.below hb).more hb.size) h)
  unfold schV at HV ⊢
  have HW : Hid (Below w.heap.size w ((w.alloc (.cells (schC f d p qo no ko qx nx kx) 30)).alloc (.cells (schC 0 0 0 none 0 0 none 0 0) 30))) := Lib.hid (((Below.refl _ w).alloc (Nat.le_refl _) _).alloc (by simp) _)
  have HZ : Hid (Row ((w.alloc (.cells (schC f d p qo no ko qx nx kx) 30)).alloc (.cells (schC 0 0 0 none 0 0 none 0 0) 30)) (w.heap.size + 1) 30 (schC 0 0 0 none 0 0 none 0 0)) := Lib.hid (Row.made _ _ (by simp))
  clear ht hlo hro hlx hrx h
  go_enter Tryd.func12, Tryd.ntmps12
  go_wp2_with fail
  refine (HV.out _ HW.out).mono ?_
  rintro e w1 ⟨rfl, hb⟩
  have HB1 := Lib.hid (below_call HW.out hb)
  have HZ1 := Lib.hid (HZ.out.below hb HZ.out.lt)
  clear hb
  go_wp2_with (refine wpList_store_row rfl _ _ _ rfl (w.heap.size + 1) (schC 0 0 0 none 0 0 none 0 0) rfl rfl _ _ HZ1.out (by kernel_rfl) rfl (schC_one _ _ _ _ _ _ _ _ _) ?_)
  refine bodyPost_ret (v := .tuple #[schV 0 0 0 none 0 0 none 0 0, .int .i64 1]) ?_ rfl ⟨rfl, below_whole HB1.out (by omega) _⟩
  exact results_row_tmp rfl _ _ (w.heap.size + 1) _ _ _ _ rfl rfl (HZ1.out.whole _) Tryd.underlying30 (by rfl) (by kernel_rfl)
/-! ### how many pairs -/
theorem pairsOf_length : ∀ l : List Nat, (Xp.pairsOf l).length ≤ l.length * l.length
  | [] => by simp [Xp.pairsOf, Xp.pairsTo]
  | x :: l => by
    rw [Xp.pairsOf_cons, List.length_append, List.length_map, List.length_cons]
    have := pairsOf_length l
    have e : (l.length + 1) * (l.length + 1) = l.length * l.length + l.length + l.length + 1 := by
      rw [Nat.add_mul, Nat.mul_add]; omega
    omega
theorem allPairs_length : ∀ ls : List (List Nat), (Xp.allPairs ls).length ≤ Xp.total ls * Xp.total ls
  | [] => by simp [Xp.allPairs]
  | l :: ls => by
    have e : Xp.allPairs (l :: ls) = Xp.pairsOf l ++ Xp.allPairs ls := by unfold Xp.allPairs; rw [List.flatMap_cons]
    rw [e, List.length_append]
    have h1 := pairsOf_length l
    have h2 := allPairs_length ls
    show _ ≤ (l.length + Xp.total ls) * (l.length + Xp.total ls)
    have e2 : (l.length + Xp.total ls) * (l.length + Xp.total ls) = l.length * l.length + Xp.total ls * Xp.total ls + (l.length * Xp.total ls + Xp.total ls * l.length) := by
      rw [Nat.add_mul, Nat.mul_add, Nat.mul_add]; omega
    omega
theorem len_total {ls : List (List Nat)} : ∀ {l : List Nat}, l ∈ ls → l.length ≤ Xp.total ls := by
  induction ls with
  | nil => intro l h; cases h
  | cons a ls ih =>
    intro l h
    show _ ≤ a.length + Xp.total ls
    rcases List.mem_cons.1 h with rfl | h
    · omega
    · have := ih h; omega
/-- the best pair of the sets, by two calls -/
theorem pairs_small {ls : List (List Nat)} {N : Nat} (h : Xp.SetsOk N ls) (hN : N ≤ 1000000000) : ∀ p ∈ Xp.allPairs ls, p.1 ≤ 1000000000 ∧ p.2 ≤ 1000000000 := by
  intro p hp
  unfold Xp.allPairs at hp
  obtain ⟨l, hl, hp⟩ := List.mem_flatMap.1 hp
  obtain ⟨h1, h2⟩ := Xp.mem_pairsOf hp
  have := (h l hl).2 p.1 h1
  have := (h l hl).2 p.2 h2
  omega
theorem counts_at {ls : List (List Nat)} {N : Nat} (h : Xp.SetsOk N ls) (hN : N ≤ 1000000000) (htot : Xp.total ls ≤ 300000) (qs : Option Addr) (ns ks : Nat) (w : World) (hs : RowsT w qs ns ls) (hns : ns ≤ 1000000) :
    Calls Tryd.prog 32 #[.slice qs ns ks] w fun e w' => (∃ n, n ≤ 1000000000000 ∧ e = .returned (.map (some w.heap.size)) ∧ CntM w' w.heap.size n (Xp.allPairs ls)) ∧ Below w.heap.size w w' :=
  counts_any qs ns ks ls w hs hns (fun l hl => by have := len_total hl; omega) (fun l hl x hx => by have := (h l hl).2 x hx; omega) (by
    have h1 := allPairs_length ls
    have h2 := Nat.mul_le_mul htot htot
    omega)
theorem best_at {ls : List (List Nat)} {N : Nat} (h : Xp.SetsOk N ls) (hN : N ≤ 1000000000) (htot : Xp.total ls ≤ 300000) (b n : Nat) (w : World) (hc : CntM w b n (Xp.allPairs ls)) :
    Calls Tryd.prog 31 #[.map (some b)] w fun e w' => (∃ (r : Option (Nat × Nat)) (X Y : Int), e = .returned (.tuple #[.agg (pkC X Y), .bool r.isSome]) ∧ Xp.IsBest (Xp.allPairs ls) r ∧ ∀ p, r = some p → X = (p.1 : Int) ∧ Y = (p.2 : Int)) ∧ Below w.heap.size w w' :=
  best_any b n _ w hc (pairs_small h hN) (by
    have h1 := allPairs_length ls
    have h2 := Nat.mul_le_mul htot htot
    omega)
end Go.Proofs.YtghinmlpkgcdiaaDoor
