/- Schedules: rows by their element's type; lists of bits in memory, their exclusive or. Schedules: the registers, the walk of evaluate. Schedules: the sets of inputs, the plain words. Schedules: rows of rows of numbers, each of one's own and apart from the others. Schedules: the program's Sets. -/
import Derived.Test.YtghinmlpkgcdiaaDoorXA
import Derived.Test.YtghinmlpkgcdiaaDoorRF
import Derived.Laws.Bits64
import Derived.Deep.RegionLaw
import Derived.Laws.Bits64b
/-! Schedules: rows by their element's type; lists of bits in memory, their exclusive or. -/
namespace Go.Proofs.YtghinmlpkgcdiaaDoor
set_option linter.unusedSimpArgs false
set_option linter.unusedVariables false
open Go.RowKit Go.Lib

/-- all rows of elements of type e stand as they stood -/
def Keeps (e : TypeId) (w w' : World) : Prop := ∀ g cs, Row w g e cs → Row w' g e cs
theorem Keeps.refl (e : TypeId) (w : World) : Keeps e w w := fun _ _ h => h
theorem Keeps.trans {e : TypeId} {a b c : World} (h : Keeps e a b) (k : Keeps e b c) : Keeps e a c := fun g cs hr => k g cs (h g cs hr)
theorem Keeps.below {e : TypeId} {a w w' : World} (h : Keeps e a w) (hb : Below w.heap.size w w') : Keeps e a w' := fun g cs hr => (h g cs hr).below hb (h g cs hr).lt
theorem Keeps.of_below {e : TypeId} {w w' : World} (hb : Below w.heap.size w w') : Keeps e w w' := (Keeps.refl e w).below hb
theorem Keeps.drewN {e : TypeId} {a w : World} (h : Keeps e a w) (n : Nat) : Keeps e a (w.drewN n) := h
theorem Keeps.drew {e : TypeId} {a w : World} (h : Keeps e a w) : Keeps e a w.drew := h
theorem Keeps.alloc {e : TypeId} {a w : World} (h : Keeps e a w) (o : Obj) : Keeps e a (w.alloc o) := fun g cs hr => (h g cs hr).alloc o
theorem Row.type {w : World} {g : Nat} {e e2 : TypeId} {cs cs2 : Array Value} (h : Row w g e cs) (h2 : Row w g e2 cs2) : e = e2 := by
  unfold Row at h h2; rw [h] at h2; injection h2 with h2; injection h2
theorem Keeps.put {e : TypeId} {a w : World} (h : Keeps e a w) {p : Addr} {e2 : TypeId} {cs2 : Array Value} (hr2 : Row w p.block e2 cs2) (hne : e ≠ e2) (u : Value) : Keeps e a (w.setCell p u) := fun g cs hr =>
  (h g cs hr).far (fun eq => by subst eq; exact hne (Row.type (h _ cs hr) hr2)) u
theorem Own.row {w : World} {B : Nat} {e : TypeId} {a : Option Addr} {n c : Nat} {xs : List Value} (h : Own w B e a n c xs) {g : Nat} (ha : a = some ⟨g, 0, none⟩) : ∃ cs : Array Value, Row w g e cs ∧ ∀ (p : Nat) (u : Value), xs[p]? = some u → cs[p]? = some u := by
  rcases h.2 with ⟨hv, _⟩ | ⟨g1, cap, cur, hv, _, hg, _, _, _, ht⟩
  · injection hv with e1; rw [e1] at ha; cases ha
  · injection hv with e1
    rw [e1] at ha
    injection ha with ha; injection ha with ha
    subst ha
    refine ⟨cur, hg, fun p u hp => ?_⟩
    rw [← ht, List.getElem?_take] at hp
    split at hp
    · rwa [← Array.getElem?_toList]
    · cases hp
theorem Own.block_or {w : World} {B : Nat} {e : TypeId} {a : Option Addr} {n c : Nat} {xs : List Value} (h : Own w B e a n c xs) : a = none ∨ ∃ g, a = some ⟨g, 0, none⟩ := by
  rcases h.2 with ⟨hv, _⟩ | ⟨g1, cap, cur, hv, _⟩
  · injection hv with e1; exact .inl e1
  · injection hv with e1; exact .inr ⟨g1, e1⟩
theorem Own.mono {w : World} {B B' : Nat} {e : TypeId} {a : Option Addr} {n c : Nat} {xs : List Value} (h : Own w B e a n c xs) (hB : B' ≤ B) : Own w B' e a n c xs := by
  refine ⟨h.1, ?_⟩
  rcases h.2 with h | ⟨g, cap, cur, h1, h2, h3⟩
  · exact .inl h
  · exact .inr ⟨g, cap, cur, h1, Nat.le_trans hB h2, h3⟩
/-- a row of one type grows: the rows of another stand -/
theorem Keeps.grown {e e2 : TypeId} {a w w' : World} {B n c : Nat} {q : Option Addr} {xs : List Value} (h : Keeps e a w) (ho : Own w B e2 q n c xs) (hg : w.grownBy w' (Value.slice q n c).ownBlock) (hne : e ≠ e2) : Keeps e a w' := fun g cs hr => by
  have h1 := h g cs hr
  refine (hg.block g h1.lt (fun hx => ?_)).trans h1
  rcases ho.block_or with rfl | ⟨g2, rfl⟩
  · cases hx
  · injection hx with hx
    have hx2 : g2 = g := hx.symm
    subst hx2
    obtain ⟨cs2, hr2, _⟩ := ho.row rfl
    exact hne (h1.type hr2)

/-- W words -/
def wordsL (W : Nat) (f : Nat → Nat) : List Value := (List.range W).map fun p => .int .u64 (f p : Int)
theorem wordsL_length (W : Nat) (f : Nat → Nat) : (wordsL W f).length = W := by simp [wordsL]
theorem wordsL_get {W p : Nat} (f : Nat → Nat) (h : p < W) : (wordsL W f)[p]? = some (.int .u64 (f p : Int)) := by
  unfold wordsL; rw [List.getElem?_map, List.getElem?_range h]; rfl
theorem wordsL_out {W p : Nat} (f : Nat → Nat) {u : Value} (h : (wordsL W f)[p]? = some u) : p < W ∧ u = .int .u64 (f p : Int) := by
  by_cases hp : p < W
  · rw [wordsL_get f hp] at h; injection h with h; exact ⟨hp, h.symm⟩
  · rw [List.getElem?_eq_none (by rw [wordsL_length]; omega)] at h; cases h
theorem wordsL_set {W p : Nat} (f : Nat → Nat) (v : Nat) : (wordsL W f).set p (.int .u64 (v : Int)) = wordsL W (fun q => if q = p then v else f q) := by
  apply List.ext_getElem?
  intro j
  rw [List.getElem?_set]
  by_cases hj : j < W
  · rw [wordsL_get _ hj, wordsL_get _ hj, wordsL_length]
    by_cases e : p = j
    · subst e; rw [if_pos rfl, if_pos hj, if_pos rfl]
    · rw [if_neg e, if_neg (fun h => e h.symm)]
  · rw [List.getElem?_eq_none (by rw [wordsL_length]; omega), List.getElem?_eq_none (by rw [wordsL_length]; omega), wordsL_length]
    by_cases e : p = j
    · rw [if_pos e, if_neg (by omega)]
    · rw [if_neg e]
theorem wordsL_congr {W : Nat} {f f' : Nat → Nat} (h : ∀ p, p < W → f p = f' p) : wordsL W f = wordsL W f' := by
  unfold wordsL
  apply List.map_congr_left
  intro p hp
  rw [h p (List.mem_range.1 hp)]
theorem wordsL_one (W : Nat) (f : Nat → Nat) : ∀ u ∈ wordsL W f, u.oneCell' = true := by
  intro u hu
  obtain ⟨p, _, rfl⟩ := List.mem_map.1 hu
  rfl
/-- the value is a list of W words: the bits of n -/
def Bit (w : World) (W : Nat) (v : Value) (n : Nat) : Prop := ∃ q k, v = .slice q W k ∧ (0 < W → ∃ g cs, q = some ⟨g, 0, none⟩ ∧ Row w g 85 cs ∧ ∀ p, p < W → cs[p]? = some (.int .u64 (Xp.word n p : Int)))
theorem Bit.keeps {w w' : World} {W n : Nat} {v : Value} (h : Bit w W v n) (hk : Keeps 85 w w') : Bit w' W v n := by
  obtain ⟨q, k, e, h⟩ := h
  refine ⟨q, k, e, fun hW => ?_⟩
  obtain ⟨g, cs, e2, hr, hc⟩ := h hW
  exact ⟨g, cs, e2, hk g cs hr, hc⟩
theorem Bit.rd {w : World} {W n k : Nat} {q : Option Addr} (h : Bit w W (.slice q W k) n) : Rd w w.heap.size q (wordsL W (Xp.word n)) := fun j u hu => by
  obtain ⟨hj, rfl⟩ := wordsL_out _ hu
  obtain ⟨q', k', e, h⟩ := h
  injection e with e1 _ _
  subst e1
  obtain ⟨g, cs, e2, hr, hc⟩ := h (by omega)
  exact ⟨g, 0, e2, hr.lt, by rw [Nat.zero_add, hr.cell]; exact hc j hj⟩
theorem Bit.of_own {w : World} {B W k n : Nat} {q : Option Addr} {f : Nat → Nat} (h : Own w B 85 q W k (wordsL W f)) (hf : ∀ p, p < W → f p = Xp.word n p) : Bit w W (.slice q W k) n := by
  refine ⟨q, k, rfl, fun hW => ?_⟩
  obtain ⟨g, e, _⟩ := h.at_ hW
  obtain ⟨cs, hr, hc⟩ := h.row e
  exact ⟨g, cs, e, hr, fun p hp => by rw [← hf p hp]; exact hc p _ (wordsL_get f hp)⟩

set_option maxRecDepth 100000 in
set_option maxHeartbeats 1600000 in
theorem lxor_any (W : Nat) (a b : Nat) (qa qb : Option Addr) (ka kb : Nat) (w : World) (hW : W ≤ 1000) (ha : Rd w w.heap.size qa (wordsL W (Xp.word a))) (hb : Rd w w.heap.size qb (wordsL W (Xp.word b))) :
    Calls Tryd.prog 77 #[.slice qa W ka, .slice qb W kb] w fun e w' => (∃ q k, e = .returned (.slice q W k) ∧ Bit w' W (.slice q W k) (a ^^^ b)) ∧ Below w.heap.size w w' := by
  have HCL := Lib.hid (clone_lst qa W ka (wordsL W (Xp.word a)) w (wordsL_length _ _) (by omega) ha (wordsL_one _ _))
  have HB := Lib.hid hb
  clear ha hb
  go_enter Tryd.func77, Tryd.ntmps77
  go_wp2_with fail
  refine HCL.out.mono ?_
  rintro e w1 ⟨q, k, rfl, ho, hb⟩
  have HO := Lib.hid (show Own w1 w.heap.size 85 q W k (wordsL W (fun p => if p < 0 then Xp.word (a ^^^ b) p else Xp.word a p)) from (by simpa using ho))
  have HBW := Lib.hid hb
  clear ho hb
  go_wp2_with fail
  go_loopw [11] (fun i wr => ∃ i' : Nat, i' ≤ W ∧ i = .int .i64 i' ∧ Own wr w.heap.size 85 q W k (wordsL W (fun p => if p < i' then Xp.word (a ^^^ b) p else Xp.word a p)) ∧ Below w.heap.size w wr) (fun i _ => W - (intOf i).toNat)
  case atStart => exact ⟨0, Nat.zero_le _, rfl, HO.out, HBW.out⟩
  case round =>
    obtain ⟨i, hi, rfl, ho, hb⟩ := hrel
    have HO2 := Lib.hid ho
    have HB2 := Lib.hid hb
    clear ho hb
    by_cases hlt : i < W
    · have hd : decide ((i : Int) < W) = true := decide_eq_true (by omega)
      obtain ⟨g, rfl, hBg, hgl, hc, hf⟩ := HO2.out.at_ hlt
      rw [wordsL_get _ hlt, if_neg (Nat.lt_irrefl _)] at hc
      obtain ⟨gb, ob, rfl, hgb, hcb⟩ := (HB.out.below HB2.out) i _ (wordsL_get _ hlt)
      obtain ⟨x, hx⟩ : ∃ x, Xp.word a i = x := ⟨_, rfl⟩
      obtain ⟨y, hy⟩ : ∃ y, Xp.word b i = y := ⟨_, rfl⟩
      have hbx : bits .xor .u64 (x : Int) (y : Int) = ((x ^^^ y : Nat) : Int) := bits_xor_u64_nat x y (by rw [← hx]; exact Xp.word_lt _ _) (by rw [← hy]; exact Xp.word_lt _ _)
      rw [hx] at hc
      rw [hy] at hcb
      have HXY := Lib.hid (show x ^^^ y = Xp.word (a ^^^ b) i by rw [Xp.word_xor, hx, hy])
      have HO3 := Lib.hid (show Own (wr.setCell ⟨g, i, none⟩ (.int .u64 ((x ^^^ y : Nat) : Int))) w.heap.size 85 (some ⟨g, 0, none⟩) W k (wordsL W (fun p => if p < i + 1 then Xp.word (a ^^^ b) p else Xp.word a p)) from by
        have h9 := HO2.out.put hlt (.int .u64 ((x ^^^ y : Nat) : Int))
        rw [wordsL_set] at h9
        rwa [wordsL_congr (f' := fun p => if p < i + 1 then Xp.word (a ^^^ b) p else Xp.word a p)] at h9
        intro p hp
        by_cases e : p = i
        · rw [if_pos e, if_pos (by omega), HXY.out, e]
        · rw [if_neg e]
          by_cases e2 : p < i
          · rw [if_pos e2, if_pos (by omega)]
          · rw [if_neg e2, if_neg (by omega)])
      have HB3 := Lib.hid (HB2.out.setCell (p := ⟨g, i, none⟩) hBg (.int .u64 ((x ^^^ y : Nat) : Int)))
      clear hx hy
      go_wp2_with fail
      go_region
      go_wp2_with fail
      go_roundw
      case rel => exact ⟨i + 1, by omega, by go_num, HO3.out.drewN 1, HB3.out.drew⟩
      case measure => simp [intOf]; omega
    · have hd : decide ((i : Int) < W) = false := decide_eq_false (by omega)
      go_wp2_with fail
      go_ret
      exact ⟨⟨q, k, rfl, Bit.of_own HO2.out (fun p hp => if_pos (by omega))⟩, HB2.out⟩
end Go.Proofs.YtghinmlpkgcdiaaDoor
/-! Schedules: the registers, the walk of evaluate. -/
namespace Go.Proofs.YtghinmlpkgcdiaaDoor
set_option linter.unusedSimpArgs false
set_option linter.unusedVariables false
open Go.RowKit Go.Lib

def natO (ops : List (Int × Int)) : List (Nat × Nat) := ops.map fun o => (o.1.toNat, o.2.toNat)
theorem natO_take {ops : List (Int × Int)} {k : Nat} {o : Int × Int} (h : ops[k]? = some o) : natO (ops.take (k + 1)) = natO (ops.take k) ++ [(o.1.toNat, o.2.toNat)] := by
  obtain ⟨hk, e⟩ := List.getElem?_eq_some_iff.1 h
  unfold natO
  rw [List.take_succ_eq_append_getElem hk, e, List.map_append]; rfl
theorem natO_length (ops : List (Int × Int)) : (natO ops).length = ops.length := by simp [natO]
/-- the registers' values: lists of W words, with the bits of ns -/
def RegsOf (w : World) (W : Nat) (vs : List Value) (ns : List Nat) : Prop := vs.length = ns.length ∧ ∀ (i : Nat) (m : Nat), ns[i]? = some m → ∃ v, vs[i]? = some v ∧ Bit w W v m
theorem RegsOf.keeps {w w' : World} {W : Nat} {vs : List Value} {ns : List Nat} (h : RegsOf w W vs ns) (hk : Keeps 85 w w') : RegsOf w' W vs ns :=
  ⟨h.1, fun i m hm => by obtain ⟨v, h1, h2⟩ := h.2 i m hm; exact ⟨v, h1, h2.keeps hk⟩⟩
theorem RegsOf.nil (w : World) (W : Nat) : RegsOf w W [] [] := ⟨rfl, fun i m h => by simp at h⟩
theorem RegsOf.snoc {w : World} {W m : Nat} {vs : List Value} {ns : List Nat} {v : Value} (h : RegsOf w W vs ns) (hb : Bit w W v m) : RegsOf w W (vs ++ [v]) (ns ++ [m]) := by
  refine ⟨by simp [h.1], fun i x hx => ?_⟩
  by_cases hi : i < ns.length
  · rw [List.getElem?_append_left hi] at hx
    obtain ⟨v', h1, h2⟩ := h.2 i x hx
    exact ⟨v', by rw [List.getElem?_append_left (by rw [h.1]; exact hi)]; exact h1, h2⟩
  · rw [List.getElem?_append_right (by omega)] at hx
    by_cases e : i - ns.length = 0
    · rw [e] at hx
      simp only [List.getElem?_cons_zero, Option.some.injEq] at hx
      subst hx
      exact ⟨v, by rw [List.getElem?_append_right (by rw [h.1]; omega), h.1, e]; rfl, hb⟩
    · rw [List.getElem?_eq_none (by simp; omega)] at hx; cases hx
theorem RegsOf.append {w : World} {W : Nat} {vs us : List Value} {ns ms : List Nat} (h : RegsOf w W vs ns) (h2 : RegsOf w W us ms) : RegsOf w W (vs ++ us) (ns ++ ms) := by
  refine ⟨by simp [h.1, h2.1], fun i x hx => ?_⟩
  by_cases hi : i < ns.length
  · rw [List.getElem?_append_left hi] at hx
    obtain ⟨v', h1, h2⟩ := h.2 i x hx
    exact ⟨v', by rw [List.getElem?_append_left (by rw [h.1]; exact hi)]; exact h1, h2⟩
  · rw [List.getElem?_append_right (by omega)] at hx
    obtain ⟨v', h3, h4⟩ := h2.2 _ x hx
    exact ⟨v', by rw [List.getElem?_append_right (by rw [h.1]; omega), h.1]; exact h3, h4⟩
theorem RegsOf.one {w : World} {W : Nat} {vs : List Value} {ns : List Nat} (h : RegsOf w W vs ns) : ∀ u ∈ vs, u.oneCell' = true := fun u hu => by
  obtain ⟨i, hi, rfl⟩ := List.getElem_of_mem hu
  obtain ⟨v, h1, q, k, e, _⟩ := h.2 i _ (List.getElem?_eq_getElem (by rw [← h.1]; exact hi))
  rw [List.getElem?_eq_getElem hi] at h1
  injection h1 with h1
  rw [h1, e]; rfl

set_option maxRecDepth 100000 in
set_option maxHeartbeats 3200000 in
theorem eval_any (f d p : Int) (qo : Option Addr) (no ko : Nat) (qx : Option Addr) (nx kx : Nat) (ops : List (Int × Int)) (W ni : Nat) (qi : Option Addr) (ki : Nat) (us : List Value) (ns : List Nat) (w : World)
    (hW : W ≤ 1000) (hni : ni ≤ 1000) (hno : no ≤ 131072) (hlo : ops.length = no) (hro : Rd w w.heap.size qo (opsC ops)) (hok : Xp.opsOk (ni : Int) ops = true)
    (hln : ns.length = ni) (hri : Rd w w.heap.size qi us) (hrg : RegsOf w W us ns) :
    Calls Tryd.prog 45 #[schV f d p qo no ko qx nx kx, .slice qi ni ki] w fun e w' => (∃ q k vs, e = .returned (.slice q (ni + no) k) ∧ Own w' w.heap.size 80 q (ni + no) k vs ∧ RegsOf w' W vs (Xp.regs ns (natO ops))) ∧ Below w.heap.size w w' := by
  unfold schV
  have hlu : us.length = ni := by rw [hrg.1, hln]
  have HCL := Lib.hid (fun (W0 : World) (hb : Below w.heap.size w W0) => clone_lists qi ni ki us W0 hlu (by omega) ((hri.below hb).more hb.size) hrg.one)
  have HLO := Lib.hid hlo
  have HRO := Lib.hid hro
  have HOK := Lib.hid (fun k o (h : ops[k]? = some o) => Xp.opOk_iff.1 (Xp.opsOk_get hok h))
  have HLN := Lib.hid hln
  have HRG := Lib.hid hrg
  clear hlo hro hok hln hri hrg hlu
  have HW : Hid (Below w.heap.size w (w.alloc (.cells (schC f d p qo no ko qx nx kx) 30))) := Lib.hid ((Below.refl _ w).alloc (Nat.le_refl _) _)
  have HR : Hid (Row (w.alloc (.cells (schC f d p qo no ko qx nx kx) 30)) w.heap.size 30 (schC f d p qo no ko qx nx kx)) := Lib.hid (Row.new w _ _)
  go_enter Tryd.func45, Tryd.ntmps45
  go_wp2_with fail
  refine (HCL.out _ HW.out).mono ?_
  rintro e w1 ⟨q, k, rfl, ho, hb⟩
  have HB1 := Lib.hid (below_call HW.out hb)
  have HR1 := Lib.hid (HR.out.below hb HR.out.lt)
  have hs1 := hb.size
  simp only [size1] at hs1
  have HO1 := Lib.hid (show Own w1 (w.heap.size + 1) 80 q ni k us by simpa using ho)
  have HG1 := Lib.hid (show RegsOf w1 W us (Xp.regs ns (natO (ops.take 0))) from HRG.out.keeps (Keeps.of_below HB1.out))
  obtain ⟨c0, c1, c2, c3, c4⟩ := sbox HR1.out
  clear hb ho HW HR
  go_wp2_with fail
  clear c0 c1 c2 c3 c4
  go_loopw [5, 13] (fun s i wr => ∃ (t : Nat) (q : Option Addr) (n k : Nat) (vs : List Value), t ≤ no ∧ i = .int .i64 t ∧ s = .slice q n k ∧ Hid (n = ni + t) ∧ Own wr (w.heap.size + 1) 80 q n k vs ∧ RegsOf wr W vs (Xp.regs ns (natO (ops.take t))) ∧ Below w.heap.size w wr) (fun _ i _ => no - (intOf i).toNat)
  case atStart => exact ⟨0, q, ni, k, us, Nat.zero_le _, rfl, rfl, Lib.hid rfl, HO1.out, HG1.out, HB1.out⟩
  case round =>
    obtain ⟨t, q, n, k, vs, ht, rfl, rfl, hn, ho, hg, hb⟩ := hrel
    have HN := Lib.hid hn.out
    have HO := Lib.hid ho
    have HG := Lib.hid hg
    have HB := Lib.hid hb
    have hsw := hb.size
    have hnle : n ≤ 132072 := by have := hn.out; omega
    clear hn ho hg hb HO1 HG1
    by_cases hlt : t < no
    · have hd : decide ((t : Int) < no) = true := decide_eq_true (by omega)
      obtain ⟨⟨x, y⟩, hop⟩ : ∃ o, ops[t]? = some o := ⟨_, List.getElem?_eq_getElem (by rw [HLO.out]; exact hlt)⟩
      obtain ⟨hx0, hy0, hxl, hyl, hxy⟩ := HOK.out t _ hop
      obtain ⟨X, rfl⟩ : ∃ X : Nat, x = X := ⟨x.toNat, by simp only at hx0; omega⟩
      obtain ⟨Y, rfl⟩ : ∃ Y : Nat, y = Y := ⟨y.toNat, by simp only at hy0; omega⟩
      have hXn : X < n := by have := HN.out; simp only at hxl; omega
      have hYn : Y < n := by have := HN.out; simp only at hyl; omega
      obtain ⟨R, hR⟩ : ∃ R, Xp.regs ns (natO (ops.take t)) = R := ⟨_, rfl⟩
      have hRl : R.length = n := by rw [← hR, Xp.regs_length, natO_length, HLN.out, HN.out, List.length_take, HLO.out, Nat.min_eq_left ht]
      obtain ⟨a, ha⟩ : ∃ a, R[X]? = some a := ⟨_, List.getElem?_eq_getElem (by omega)⟩
      obtain ⟨b, hb⟩ : ∃ b, R[Y]? = some b := ⟨_, List.getElem?_eq_getElem (by omega)⟩
      have HREG := Lib.hid (show Xp.regs ns (natO (ops.take (t + 1))) = R ++ [a ^^^ b] by
        rw [natO_take hop, Xp.regs_snoc, hR]
        simp only [Int.toNat_natCast]
        rw [ha, hb]; rfl)
      rw [hR] at HG
      obtain ⟨v1, hv1, q1, k1, rfl, hB1⟩ := HG.out.2 X a ha
      obtain ⟨v2, hv2, q2, k2, rfl, hB2⟩ := HG.out.2 Y b hb
      have HBA := Lib.hid (show Bit wr W (.slice q1 W k1) a from ⟨q1, k1, rfl, hB1⟩)
      have HBB := Lib.hid (show Bit wr W (.slice q2 W k2) b from ⟨q2, k2, rfl, hB2⟩)
      obtain ⟨bo, off, rfl, hbo, hx, hy⟩ := (HRO.out.below HB.out).op hop
      obtain ⟨g, rfl, hBg, hgl, hcx, hfx⟩ := HO.out.at_ hXn
      obtain ⟨g', eg, _, _, hcy, hfy⟩ := HO.out.at_ hYn
      injection eg with eg
      injection eg with eg
      subst eg
      rw [hv1] at hcx
      rw [hv2] at hcy
      have HLX := Lib.hid (fun (W0 : World) (hk : Keeps 85 wr W0) => lxor_any W a b q1 q2 k1 k2 W0 hW (HBA.out.keeps hk).rd (HBB.out.keeps hk).rd)
      have HWA := Lib.hid (HB.out.alloc hsw (.cells #[.int .i64 (X : Int), .int .i64 (Y : Int)] 66)).drew
      have HKA := Lib.hid (((Keeps.refl 85 wr).alloc (.cells #[.int .i64 (X : Int), .int .i64 (Y : Int)] 66)).drew)
      have HOA := Lib.hid (show Own ((wr.alloc (.cells #[.int .i64 (X : Int), .int .i64 (Y : Int)] 66)).drew) (w.heap.size + 1) 80 (some ⟨g, 0, none⟩) n k vs from HO.out.alloc _)
      have HGA := Lib.hid (HG.out.keeps HKA.out)
      clear hB1 hB2 ha hb hop hR hRl hxy hv1 hv2 hx0 hy0 hxl hyl
      go_wp2_with fail
      go_region_law (first
        | (refine step_app rfl (.tmp 17) (.tmp 29) 76 rfl (w.heap.size + 1) 80 (.slice none 0 0) 24 Tryd.underlying76 elem_lists rfl (some ⟨g, 0, none⟩) n k _ rfl (HO5.out.alloc _) _ (some ⟨w5.heap.size, 0, none⟩) 1 1 [.slice q5 W k5] rfl (Rd.one w5 _ _) rfl (by intro u hu; simp only [List.mem_singleton] at hu; subst hu; rfl) (by unfold maxLen; omega) (by omega) (by simp; omega) ?_; intro a6 k6 w6 ho6 hg6; have HO6 := Lib.hid ho6; have HB6 := Lib.hid (below_grown2 (HB5.out.alloc (by omega) _) hg6 (HO5.out.alloc _) (by simp; omega) (by omega)); have HG6 := Lib.hid ((HG5.out.snoc HBIT5.out).keeps (((Keeps.refl 85 w5).alloc _).grown (HO5.out.alloc _) hg6 (by decide))); clear ho6 hg6)
        | (go_simp; go_at_call 77; (with_reducible refine (HLX.out _ HKA.out).mono ?_); rintro e5 w5 ⟨⟨q5, k5, rfl, hbit⟩, hb5⟩; have HBIT5 := Lib.hid hbit; have HB5 := Lib.hid (below_call HWA hb5); have HO5 := Lib.hid (HOA.out.below hb5); have HG5 := Lib.hid (HGA.out.keeps (Keeps.of_below hb5)); have hs5 := HB5.out.size; clear hbit hb5; dsimp only))
      all_goals
        go_wp2
        go_roundw
        case rel => exact ⟨t + 1, a6, n + 1, k6, _, by omega, by go_num, rfl, Lib.hid (by have := HN.out; omega), HO6.out, by rw [HREG.out]; exact HG6.out, HB6.out⟩
        case measure => simp [intOf]; omega
    · have hd : decide ((t : Int) < no) = false := decide_eq_false (by omega)
      have hE : n = ni + no := by have := HN.out; omega
      have HGE := Lib.hid (show RegsOf wr W vs (Xp.regs ns (natO ops)) from by
        have := HG.out
        rwa [List.take_of_length_le (by rw [HLO.out]; omega)] at this)
      subst hE
      go_wp2_with fail
      go_ret
      exact ⟨⟨q, k, vs, rfl, Own.mono HO.out (Nat.le_succ _), HGE.out⟩, HB.out⟩
end Go.Proofs.YtghinmlpkgcdiaaDoor
/-! Schedules: the sets of inputs, the plain words. -/
set_option linter.unusedVariables false
namespace Go.Proofs.YtghinmlpkgcdiaaDoor
namespace Xp

/-- the inputs: register i holds the set of i alone -/
def inputs (n : Nat) : List Nat := (List.range n).map fun i => 1 <<< i
theorem inputs_length (n : Nat) : (inputs n).length = n := by simp [inputs]
theorem inputs_get {n i : Nat} (h : i < n) : (inputs n)[i]? = some (1 <<< i) := by
  unfold inputs; rw [List.getElem?_map, List.getElem?_range h]; rfl
theorem inputs_take {n t : Nat} (h : t < n) : (inputs n).take (t + 1) = (inputs n).take t ++ [1 <<< t] := by
  rw [List.take_add_one, inputs_get h]; rfl
theorem word_one (i k : Nat) : word (1 <<< i) k = if k = i / 64 then 1 <<< (i % 64) else 0 := by
  have h := word_or 0 i 1 k (by decide)
  rw [Nat.zero_or] at h
  rw [h]
  have h0 : word 0 k = 0 := by unfold word; simp
  rw [h0, Nat.zero_or]
/-- the elements of a set below n, in order -/
def setOf (n N : Nat) : List Nat := (List.range n).filter fun x => N.testBit x
def setTo (n N t : Nat) : List Nat := (List.range t).filter fun x => N.testBit x
theorem setTo_succ (n N t : Nat) : setTo n N (t + 1) = if N.testBit t then setTo n N t ++ [t] else setTo n N t := by
  unfold setTo
  rw [List.range_succ, List.filter_append]
  by_cases h : N.testBit t
  · rw [if_pos h, List.filter_cons_of_pos h]; rfl
  · rw [if_neg h, List.filter_cons_of_neg h]; simp
theorem setTo_length (n N t : Nat) : (setTo n N t).length ≤ t := by
  unfold setTo; have := List.length_filter_le (fun x => N.testBit x) (List.range t); simpa using this
/-- what the outputs compute -/
def outSet (n : Nat) (R : List Nat) (r : Int) : List Nat := if r < 0 then [] else setOf n (R[r.toNat]?.getD 0)
def sets (n : Nat) (R : List Nat) (out : List Int) : List (List Nat) := out.map (outSet n R)
/-- bit x of a list, as the program reads it -/
theorem bit_read (N x : Nat) : word N (x / 64) / 2 ^ (x % 64) % 2 = if N.testBit x then 1 else 0 := by
  have h := word_bit N x
  rw [Nat.testBit, Nat.shiftRight_eq_div_pow] at h
  rw [← h]
  have e : 1 &&& word N (x / 64) / 2 ^ (x % 64) = word N (x / 64) / 2 ^ (x % 64) % 2 := by
    rw [Nat.and_comm, Nat.and_one_is_mod]
  rw [e]
  have := Nat.mod_lt (word N (x / 64) / 2 ^ (x % 64)) (show 2 > 0 by decide)
  rcases (show word N (x / 64) / 2 ^ (x % 64) % 2 = 0 ∨ word N (x / 64) / 2 ^ (x % 64) % 2 = 1 by omega) with h0 | h0
  · rw [h0]; rfl
  · rw [h0]; rfl
/-- the first j rows made, row j as far as l, the others empty -/
def lsAt (S : List (List Nat)) (N j : Nat) (l : List Nat) : List (List Nat) := S.take j ++ l :: List.replicate (N - j - 1) []
theorem lsAt_get {S : List (List Nat)} {N j : Nat} {l : List Nat} (h : j ≤ S.length) : (lsAt S N j l)[j]? = some l := by
  unfold lsAt
  rw [List.getElem?_append_right (by rw [List.length_take]; omega), List.length_take, Nat.min_eq_left h, Nat.sub_self]; rfl
theorem lsAt_set {S : List (List Nat)} {N j : Nat} {l l' : List Nat} (h : j ≤ S.length) : (lsAt S N j l).set j l' = lsAt S N j l' := by
  unfold lsAt
  rw [List.set_append_right _ _ (by rw [List.length_take]; omega), List.length_take, Nat.min_eq_left h, Nat.sub_self]; rfl
theorem lsAt_next {S : List (List Nat)} {N j : Nat} {l : List Nat} (h : S[j]? = some l) (hj : j + 1 < N) : lsAt S N j l = lsAt S N (j + 1) [] := by
  unfold lsAt
  rw [List.take_add_one, h]
  rw [show N - j - 1 = (N - (j + 1) - 1) + 1 by omega, List.replicate_succ]
  simp
theorem lsAt_last {S : List (List Nat)} {N j : Nat} {l : List Nat} (h : S[j]? = some l) (hj : j + 1 = N) (hS : S.length = N) : lsAt S N j l = S := by
  unfold lsAt
  rw [show N - j - 1 = 0 by omega]
  obtain ⟨h1, h2⟩ := List.getElem?_eq_some_iff.1 h
  have : S.take (j + 1) = S := List.take_of_length_le (by omega)
  rw [List.take_succ_eq_append_getElem h1, h2] at this
  simpa using this
/-- the rows when j of them are made -/
def lsTo (S : List (List Nat)) (N j : Nat) : List (List Nat) := S.take j ++ List.replicate (N - j) []
theorem lsTo_zero (S : List (List Nat)) (N : Nat) : lsTo S N 0 = List.replicate N [] := by unfold lsTo; simp
theorem lsTo_at {S : List (List Nat)} {N j : Nat} (hj : j < N) : lsTo S N j = lsAt S N j [] := by
  unfold lsTo lsAt
  rw [show N - j = (N - j - 1) + 1 by omega, List.replicate_succ]; rfl
theorem lsTo_end {S : List (List Nat)} {N : Nat} (hS : S.length = N) : lsTo S N N = S := by
  unfold lsTo; rw [Nat.sub_self, List.take_of_length_le (by omega)]; simp
theorem lsTo_step {S : List (List Nat)} {N j : Nat} {l : List Nat} (h : S[j]? = some l) (hj : j < N) : lsAt S N j l = lsTo S N (j + 1) := by
  unfold lsAt lsTo
  rw [List.take_add_one, h]
  rw [show N - j - 1 = N - (j + 1) by omega]
  simp
end Xp
end Go.Proofs.YtghinmlpkgcdiaaDoor
/-! Schedules: rows of rows of numbers, each of one's own and apart from the others. -/
namespace Go.Proofs.YtghinmlpkgcdiaaDoor
set_option linter.unusedSimpArgs false
set_option linter.unusedVariables false
open Go.RowKit Go.Lib

def nts (l : List Nat) : List Value := l.map fun (x : Nat) => Value.int .i64 (x : Int)
theorem nts_length (l : List Nat) : (nts l).length = l.length := by simp [nts]
theorem nts_snoc (l : List Nat) (x : Nat) : nts (l ++ [x]) = nts l ++ [.int .i64 (x : Int)] := by simp [nts]
theorem nts_append (l l2 : List Nat) : nts (l ++ l2) = nts l ++ nts l2 := by simp [nts]
theorem nts_get {l : List Nat} {i x : Nat} (h : l[i]? = some x) : (nts l)[i]? = some (.int .i64 (x : Int)) := by simp [nts, h]
theorem nts_one (l : List Nat) : ∀ u ∈ nts l, u.oneCell' = true := by
  intro u hu; obtain ⟨x, _, rfl⟩ := List.mem_map.1 hu; rfl
theorem Own.keeps {w w' : World} {B : Nat} {e : TypeId} {a : Option Addr} {n c : Nat} {xs : List Value} (h : Own w B e a n c xs) (hk : Keeps e w w') : Own w' B e a n c xs :=
  h.kept fun g hg => by
    obtain ⟨cs, hr, _⟩ := h.row hg
    exact (hk g cs hr).trans hr.symm
theorem Own.keeps_grown {w w' : World} {B B2 : Nat} {e e2 : TypeId} {a a2 : Option Addr} {n c n2 c2 : Nat} {xs ys : List Value} (h : Own w B e a n c xs) (hg : w.grownBy w' (Value.slice a2 n2 c2).ownBlock) (ho : Own w B2 e2 a2 n2 c2 ys) (hne : e ≠ e2) : Own w' B e a n c xs :=
  h.keeps ((Keeps.refl e w).grown ho hg hne)

/-- the values are rows of numbers, of the call's own, each in a block of its own -/
structure Fam (w : World) (B : Nat) (vs : List Value) (ls : List (List Nat)) : Prop where
  len : vs.length = ls.length
  own : ∀ (i : Nat) (l : List Nat), ls[i]? = some l → ∃ q k, vs[i]? = some (.slice q l.length k) ∧ Own w B 3 q l.length k (nts l)
  apart : ∀ (i j : Nat) (q q' : Option Addr) (n n' k k' : Nat), i ≠ j → vs[i]? = some (.slice q n k) → vs[j]? = some (.slice q' n' k') → Apart q q'
section
variable {w w' : World} {B : Nat} {vs : List Value} {ls : List (List Nat)}
theorem Fam.keeps (h : Fam w B vs ls) (hk : Keeps 3 w w') : Fam w' B vs ls :=
  ⟨h.len, fun i l hl => by obtain ⟨q, k, h1, h2⟩ := h.own i l hl; exact ⟨q, k, h1, h2.keeps hk⟩, h.apart⟩
theorem Fam.one (h : Fam w B vs ls) : ∀ u ∈ vs, u.oneCell' = true := fun u hu => by
  obtain ⟨i, hi, rfl⟩ := List.getElem_of_mem hu
  obtain ⟨q, k, e, _⟩ := h.own i _ (List.getElem?_eq_getElem (by rw [← h.len]; exact hi))
  rw [List.getElem?_eq_getElem hi] at e
  injection e with e
  rw [e]; rfl
theorem Fam.mono (h : Fam w B vs ls) {B' : Nat} (hB : B' ≤ B) : Fam w B' vs ls :=
  ⟨h.len, fun i l hl => by obtain ⟨q, k, h1, h2⟩ := h.own i l hl; exact ⟨q, k, h1, h2.mono hB⟩, h.apart⟩
theorem Fam.nil (w : World) (B : Nat) : Fam w B [] [] := ⟨rfl, fun i l h => by simp at h, fun i j q q' n n' k k' _ h => by simp at h⟩
theorem Fam.empty (w : World) (B n : Nat) : Fam w B (List.replicate n (.slice none 0 0)) (List.replicate n []) := by
  refine ⟨by simp, fun i l h => ?_, fun i j q q' n1 n' k k' _ h _ => ?_⟩
  · rw [List.getElem?_replicate] at h ⊢
    split at h
    · injection h with h
      subst h
      rename_i hi
      exact ⟨none, 0, by rw [if_pos hi]; rfl, Own.nil _ _ _⟩
    · cases h
  · rw [List.getElem?_replicate] at h
    split at h
    · injection h with h
      injection h with h1
      rw [← h1]
      exact Apart.none_left _
    · cases h
/-- a row is replaced by another, which lies where the old one lay or in a new block -/
theorem Fam.set (h : Fam w B vs ls) {i : Nat} {l l' : List Nat} {q q' : Option Addr} {k k' : Nat} (hl : ls[i]? = some l) (hv : vs[i]? = some (.slice q l.length k)) (hg : w.grownBy w' (Value.slice q l.length k).ownBlock) (ho : Own w' B 3 q' l'.length k' (nts l'))
    (hn : q' = q ∨ ∃ g, q' = some ⟨g, 0, none⟩ ∧ w.heap.size ≤ g) : Fam w' B (vs.set i (.slice q' l'.length k')) (ls.set i l') := by
  obtain ⟨hi, _⟩ := List.getElem?_eq_some_iff.1 hl
  obtain ⟨q0, k0, e0, ho0⟩ := h.own i l hl
  rw [hv] at e0
  injection e0 with e0
  injection e0 with e1 _ e2
  subst e1; subst e2
  have hAp : ∀ (j : Nat) (q2 : Option Addr) (n2 k2 : Nat), i ≠ j → vs[j]? = some (.slice q2 n2 k2) → Apart q' q2 := fun j q2 n2 k2 hij hj => by
    rcases hn with rfl | ⟨g, rfl, hgb⟩
    · exact h.apart i j _ _ _ _ _ _ hij hv hj
    · have hjl : j < ls.length := by
        obtain ⟨h1, _⟩ := List.getElem?_eq_some_iff.1 hj
        rw [← h.len]; exact h1
      obtain ⟨q3, k3, e3, ho3⟩ := h.own j _ (List.getElem?_eq_getElem hjl)
      rw [hj] at e3
      injection e3 with e3
      injection e3 with e4 e5 e6
      subst e4
      intro g2 hg2 hq2
      injection hg2 with hg2
      injection hg2 with hg2
      subst hg2
      have := (ho3.lt hq2).2
      omega
  refine ⟨by simp [h.len], fun j m hm => ?_, fun j1 j2 q1 q2 n1 n2 k1 k2 hij h1 h2 => ?_⟩
  · rw [List.getElem?_set] at hm ⊢
    by_cases e : i = j
    · subst e
      rw [if_pos rfl] at hm ⊢
      rw [if_pos hi] at hm
      injection hm with hm
      subst hm
      exact ⟨q', k', by rw [if_pos (by rw [h.len]; exact hi)], ho⟩
    · rw [if_neg e] at hm ⊢
      obtain ⟨q2, k2, e2, ho2⟩ := h.own j m hm
      exact ⟨q2, k2, e2, ho2.apart hg ((h.apart i j _ _ _ _ _ _ e hv e2).symm) ho0⟩
  · rw [List.getElem?_set] at h1 h2
    by_cases e : i = j1
    · subst e
      rw [if_pos rfl] at h1
      rw [if_neg hij] at h2
      split at h1
      · injection h1 with h1
        injection h1 with h1
        subst h1
        exact hAp _ _ _ _ hij h2
      · cases h1
    · rw [if_neg e] at h1
      by_cases e2 : i = j2
      · subst e2
        rw [if_pos rfl] at h2
        split at h2
        · injection h2 with h2
          injection h2 with h2
          subst h2
          exact (hAp _ _ _ _ (Ne.symm hij) h1).symm
        · cases h2
      · rw [if_neg e2] at h2
        exact h.apart _ _ _ _ _ _ _ _ hij h1 h2
/-- one more row, new -/
theorem Fam.snoc (h : Fam w B vs ls) {l : List Nat} {q : Option Addr} {k : Nat} (ho : Own w B 3 q l.length k (nts l)) (hn : ∀ (j : Nat) (q2 : Option Addr) (n2 k2 : Nat), vs[j]? = some (.slice q2 n2 k2) → Apart q2 q) : Fam w B (vs ++ [.slice q l.length k]) (ls ++ [l]) := by
  refine ⟨by simp [h.len], fun j m hm => ?_, fun j1 j2 q1 q2 n1 n2 k1 k2 hij h1 h2 => ?_⟩
  · by_cases hj : j < ls.length
    · rw [List.getElem?_append_left hj] at hm
      obtain ⟨q2, k2, e2, ho2⟩ := h.own j m hm
      exact ⟨q2, k2, by rw [List.getElem?_append_left (by rw [h.len]; exact hj)]; exact e2, ho2⟩
    · rw [List.getElem?_append_right (by omega)] at hm
      by_cases e : j - ls.length = 0
      · rw [e] at hm
        simp only [List.getElem?_cons_zero, Option.some.injEq] at hm
        subst hm
        exact ⟨q, k, by rw [List.getElem?_append_right (by rw [h.len]; omega), h.len, e]; rfl, ho⟩
      · rw [List.getElem?_eq_none (by simp; omega)] at hm; cases hm
  · have hx : ∀ (j : Nat) (v : Value), (vs ++ [.slice q l.length k])[j]? = some v → vs[j]? = some v ∨ (j = vs.length ∧ v = .slice q l.length k) := fun j v hv => by
      by_cases hj : j < vs.length
      · rw [List.getElem?_append_left hj] at hv; exact .inl hv
      · rw [List.getElem?_append_right (by omega)] at hv
        by_cases e : j - vs.length = 0
        · rw [e] at hv
          simp only [List.getElem?_cons_zero, Option.some.injEq] at hv
          exact .inr ⟨by omega, hv.symm⟩
        · rw [List.getElem?_eq_none (by simp; omega)] at hv; cases hv
    rcases hx _ _ h1 with h3 | ⟨e1, h3⟩ <;> rcases hx _ _ h2 with h4 | ⟨e2, h4⟩
    · exact h.apart _ _ _ _ _ _ _ _ hij h3 h4
    · injection h4 with h4; subst h4; exact hn _ _ _ _ h3
    · injection h3 with h3; subst h3; exact (hn _ _ _ _ h4).symm
    · omega
theorem Fam.rd (h : Fam w B vs ls) {i : Nat} {l : List Nat} (hl : ls[i]? = some l) : ∃ q k, vs[i]? = some (.slice q l.length k) ∧ Rd w w.heap.size q (nts l) ∧ l.length ≤ k := by
  obtain ⟨q, k, e, ho⟩ := h.own i l hl
  exact ⟨q, k, e, ho.rd, ho.cap⟩
end
end Go.Proofs.YtghinmlpkgcdiaaDoor
/-! Schedules: the program's Sets. -/
namespace Go.Proofs.YtghinmlpkgcdiaaDoor
set_option linter.unusedSimpArgs false
set_option linter.unusedVariables false
open Go.RowKit Go.Lib

theorem make_words (m : Nat) (hm : m ≤ 100000) (u : World) : (Instr.makeSlice 80 (.int .i64 (m : Int)) (.int .i64 (m : Int))).run Tryd.prog u =
    .ok (.slice (some ⟨u.heap.size, 0, none⟩) m m) (u.alloc (.cells (madeCells #[.int .u64 0] m) 85)) := by
  obtain ⟨i0, hi, hz0, hz1, hz2⟩ := info_parts (show (Tryd.prog.info? 85).map (fun i => (i.zero, i.size, i.bytes)) = some (some (.int .u64 0), 1, 8) by kernel_rfl)
  have h := run_make (P := Tryd.prog) u 80 85 i0 (.int .u64 0) Tryd.underlying80 hi hz0 .i64 .i64 (m : Int) (m : Int) (by omega) (Int.le_refl _) (by rw [hz2]; omega) (by omega)
  have e : (m : Int).toNat = m := by omega
  rw [e] at h
  simpa [hz1, Value.cells] using h
theorem elem_rows : Elem Tryd.prog 27 (.slice none 0 0) 24 := by unfold Elem; kernel_rfl
theorem make_rows (m : Nat) (hm : m ≤ 100000) (u : World) : (Instr.makeSlice 24 (.int .i64 (m : Int)) (.int .i64 (m : Int))).run Tryd.prog u =
    .ok (.slice (some ⟨u.heap.size, 0, none⟩) m m) (u.alloc (.cells (madeCells #[.slice none 0 0] m) 27)) := by
  obtain ⟨i0, hi, hz0, hz1, hz2⟩ := info_parts (show (Tryd.prog.info? 27).map (fun i => (i.zero, i.size, i.bytes)) = some (some (.slice none 0 0), 1, 24) by kernel_rfl)
  have h := run_make (P := Tryd.prog) u 24 27 i0 (.slice none 0 0) Tryd.underlying24 hi hz0 .i64 .i64 (m : Int) (m : Int) (by omega) (Int.le_refl _) (by rw [hz2]; omega) (by omega)
  have e : (m : Int).toNat = m := by omega
  rw [e] at h
  simpa [hz1, Value.cells] using h

theorem wrap_pow64 {i : Nat} (h : i < 64) : IntKind.u64.wrap ((2 : Int) ^ i) = ((1 <<< i : Nat) : Int) := by
  have h2 : (2 : Nat) ^ i < 2 ^ 64 := Nat.pow_lt_pow_right (by decide) h
  rw [Nat.one_shiftLeft, IntKind.wrap_u64, show (2 : Int) ^ i = ((2 ^ i : Nat) : Int) by simp]
  generalize 2 ^ i = x at h2 ⊢
  omega
theorem bit_test (N x : Nat) : (bits .and .u64 ((Xp.word N (x / 64) : Int) / 2 ^ (x % 64)) 1 != 0) = N.testBit x := by
  have hl := Xp.word_lt N (x / 64)
  have h := Xp.bit_read N x
  have e : ((Xp.word N (x / 64) : Int) / 2 ^ (x % 64)) = ((Xp.word N (x / 64) / 2 ^ (x % 64) : Nat) : Int) := by simp
  have hd : Xp.word N (x / 64) / 2 ^ (x % 64) ≤ Xp.word N (x / 64) := Nat.div_le_self _ _
  generalize Xp.word N (x / 64) / 2 ^ (x % 64) = y at e h hd
  rw [e, show (1 : Int) = ((1 : Nat) : Int) from rfl, bits_and_u64_nat y 1 (by omega) (by omega), Nat.and_one_is_mod, h]
  cases N.testBit x <;> rfl
theorem bit_input {w : World} {WW t : Nat} (h : t / 64 < WW) : Bit (w.alloc (.cells ((madeCells #[.int .u64 0] WW).setIfInBounds (t / 64) (.int .u64 (IntKind.u64.wrap ((2 : Int) ^ (t % 64))))) 85)) WW (.slice (some ⟨w.heap.size, 0, none⟩) WW WW) (1 <<< t) := by
  refine ⟨_, _, rfl, fun _ => ⟨_, _, rfl, Row.new _ _ _, fun p hp => ?_⟩⟩
  have hm : (madeCells #[Value.int .u64 0] WW)[p]? = some (.int .u64 0) := made_get _ _ _ _ (by rw [List.getElem?_replicate, if_pos hp])
  rw [Array.getElem?_setIfInBounds, Xp.word_one, wrap_pow64 (Nat.mod_lt _ (by decide))]
  by_cases e : t / 64 = p
  · subst e
    rw [if_pos rfl, if_pos rfl, if_pos]
    obtain ⟨h1, _⟩ := Array.getElem?_eq_some_iff.1 hm
    exact h1
  · rw [if_neg e, if_neg (fun h => e h.symm), hm]; rfl

theorem fam_app {w w' : World} {B : Nat} {vs : List Value} {ls : List (List Nat)} (h : Fam w B vs ls) {i : Nat} {l : List Nat} {q q' : Option Addr} {k k' L x : Nat} (hl : ls[i]? = some l) (hv : vs[i]? = some (.slice q l.length k)) (hL : l.length = L) (hg : w.grownBy w' (Value.slice q L k).ownBlock) (ho : Own w' B 3 q' (L + 1) k' (nts l ++ [.int .i64 (x : Int)]))
    (hn : q' = q ∨ ∃ g, q' = some ⟨g, 0, none⟩ ∧ w.heap.size ≤ g) : Fam w' B (vs.set i (.slice q' (L + 1) k')) (ls.set i (l ++ [x])) := by
  subst hL
  have e : (l ++ [x]).length = l.length + 1 := by simp
  have := h.set (l' := l ++ [x]) (q' := q') (k' := k') hl hv hg (by rw [e, nts_snoc]; exact ho) hn
  rwa [e] at this
set_option maxRecDepth 100000 in
theorem xsets_no (f d p : Int) (qo : Option Addr) (no ko : Nat) (qx : Option Addr) (nx kx : Nat) (ops : List (Int × Int)) (out : List Int) (w : World) (ht : Tab w) (hno : no ≤ 9223372036854775807)
    (hlo : ops.length = no) (hro : Rd w w.heap.size qo (opsC ops)) (hlx : out.length = nx) (hrx : Rd w w.heap.size qx (ints out)) (h : Xp.okS f d p ops out = false) :
    Calls Tryd.prog 18 #[schV f d p qo no ko qx nx kx] w fun e w' => e = .returned (.tuple #[.slice none 0 0, .int .i64 1]) ∧ Below w.heap.size w w' := by
  have HV := Lib.hid (fun (W : World) (hb : Below w.heap.size w W) => xvalid_any f d p qo no ko qx nx kx ops out W (ht.next hb) hno hlo ((hro.below hb).more hb.size) hlx ((hrx.below hb).more hb.size))
  rw [h] at HV
  unfold schV at HV ⊢
  have HW : Hid (Below w.heap.size w (w.alloc (.cells (schC f d p qo no ko qx nx kx) 30))) := Lib.hid ((Below.refl _ w).alloc (Nat.le_refl _) _)
  clear ht hno hlo hro hlx hrx h
  go_enter Tryd.func18, Tryd.ntmps18
  go_wp2_with fail
  refine (HV.out _ HW.out).mono ?_
  rintro e w1 ⟨rfl, hb⟩
  have HB1 := Lib.hid (below_call HW.out hb)
  clear hb
  go_wp2
  refine bodyPost_ret (v := .tuple #[.slice none 0 0, .int .i64 1]) ?_ rfl ⟨rfl, HB1.out⟩
  rw [results_tmp2 rfl]; rfl

set_option maxRecDepth 100000 in
set_option maxHeartbeats 6400000 in
theorem xsets_yes {m : Nat} (hm : Fld.IsM m) (d p : Int) (qo : Option Addr) (no ko : Nat) (qx : Option Addr) (nx kx n : Nat) (ops : List (Int × Int)) (out : List Int) (w : World) (ht : Tab w) (hno : no ≤ 131072)
    (hlo : ops.length = no) (hro : Rd w w.heap.size qo (opsC ops)) (hlx : out.length = nx) (hrx : Rd w w.heap.size qx (ints out)) (h : Xp.okS m d p ops out = true) (hn : d * (m : Int) = n) (hn1 : 1 ≤ n) (hnn : n ≤ 512) :
    Calls Tryd.prog 18 #[schV m d p qo no ko qx nx kx] w fun e w' => (∃ q k vs, e = .returned (.tuple #[.slice q nx k, .int .i64 0]) ∧ Own w' w.heap.size 27 q nx k vs ∧ Fam w' w.heap.size vs (Xp.sets n (Xp.regs (Xp.inputs n) (natO ops)) out)) ∧ Below w.heap.size w w' := by
  have HV := Lib.hid (fun (W : World) (hb : Below w.heap.size w W) => xvalid_any m d p qo no ko qx nx kx ops out W (ht.next hb) (by omega) hlo ((hro.below hb).more hb.size) hlx ((hrx.below hb).more hb.size))
  rw [h] at HV
  have HIN := Lib.hid (fun (W : World) => inputs_any m d p (.slice qo no ko) (.slice qx nx kx) n (by rw [hn, IntKind.wrap_i64] <;> omega) W)
  obtain ⟨WW, hWW⟩ : ∃ WW, (n + 63) / 64 = WW := ⟨_, rfl⟩
  have hWn : WW ≤ 9 := by omega
  have h' := h
  unfold Xp.okS at h'
  rw [Bool.and_eq_true, Bool.and_eq_true, hn, hlo] at h'
  obtain ⟨⟨hhd, hok⟩, hall⟩ := h'
  have hnx : nx ≤ 512 := by
    unfold Xp.headOk at hhd
    simp only [Bool.and_eq_true, decide_eq_true_eq] at hhd
    obtain ⟨⟨⟨⟨⟨⟨_, h1⟩, h2⟩, h3⟩, h4⟩, _⟩, h5⟩ := hhd
    rw [hlx] at h5
    rcases hm with rfl | rfl <;> omega
  have hout : ∀ x ∈ out, -1 ≤ x ∧ x < (n : Int) + no := fun x hx => by
    have := List.all_eq_true.1 hall x hx
    unfold Xp.outOk at this
    simpa only [Bool.and_eq_true, decide_eq_true_eq] using this
  have HEV := Lib.hid (fun (W : World) (hb : Below w.heap.size w W) (qi : Option Addr) (ki : Nat) (us : List Value) (hri : Rd W W.heap.size qi us) (hrg : RegsOf W WW us (Xp.inputs n)) => eval_any m d p qo no ko qx nx kx ops WW n qi ki us (Xp.inputs n) W (by omega) (by omega) hno hlo ((hro.below hb).more hb.size) hok (Xp.inputs_length n) hri hrg)
  have HRX := Lib.hid hrx
  have HLO := Lib.hid hlo
  have HLX := Lib.hid hlx
  have HOUT := Lib.hid hout
  have hq : ((n : Int) + 64 - 1) / 64 = (WW : Int) := by omega
  have HMK := make_words WW (by omega)
  have HMR := make_rows nx (by omega)
  obtain ⟨R, hR⟩ : ∃ R, Xp.regs (Xp.inputs n) (natO ops) = R := ⟨_, rfl⟩
  obtain ⟨S, hS⟩ : ∃ S, Xp.sets n R out = S := ⟨_, rfl⟩
  rw [hR] at HEV ⊢
  rw [hS]
  have HSL := Lib.hid (show S.length = nx by rw [← hS, Xp.sets, List.length_map, hlx])
  have HSS := Lib.hid hS
  have HRL := Lib.hid (show R.length = n + no by rw [← hR, Xp.regs_length, natO_length, Xp.inputs_length, hlo])
  clear hR hS
  unfold schV at HV HEV ⊢
  have HW : Hid (Below w.heap.size w (w.alloc (.cells (schC m d p qo no ko qx nx kx) 30))) := Lib.hid ((Below.refl _ w).alloc (Nat.le_refl _) _)
  have HR : Hid (Row (w.alloc (.cells (schC m d p qo no ko qx nx kx) 30)) w.heap.size 30 (schC m d p qo no ko qx nx kx)) := Lib.hid (Row.new w _ _)
  have HWW := Lib.hid hWW
  have HT1 := Lib.hid (show 1 ≤ n from hn1)
  clear ht hlo hro hlx hrx h hok hout hWW hn hhd hall
  go_enter Tryd.func18, Tryd.ntmps18
  go_wp2_with fail
  refine (HV.out _ HW.out).mono ?_
  rintro e w1 ⟨rfl, hb⟩
  have hs1 := hb.size
  simp only [size1] at hs1
  have HB1 := Lib.hid (below_call HW.out hb)
  have HR1 := Lib.hid (HR.out.below hb HR.out.lt)
  obtain ⟨c0, c1, c2, c3, c4⟩ := sbox HR1.out
  clear hb HW HR
  go_wp2_with fail
  refine (HIN.out _).mono ?_
  rintro e w2 ⟨rfl, hb⟩
  have HB2 := Lib.hid (below_call HB1.out hb)
  have HR2 := Lib.hid (HR1.out.below hb HR1.out.lt)
  have hs2 := hb.size
  clear hb c0 c1 c2 c3 c4 HB1 HR1
  go_wp2_with fail
  go_loopw [5, 19] (fun s i wr => ∃ (t : Nat) (q : Option Addr) (k : Nat) (vs : List Value), t ≤ n ∧ i = .int .i64 t ∧ s = .slice q t k ∧ Own wr w2.heap.size 80 q t k vs ∧ RegsOf wr WW vs ((Xp.inputs n).take t) ∧ Below w2.heap.size w2 wr) (fun _ i _ => n - (intOf i).toNat)
  case atStart => exact ⟨0, none, 0, [], Nat.zero_le _, rfl, rfl, Own.nil _ _ _, RegsOf.nil _ _, Below.refl _ _⟩
  case round =>
    obtain ⟨t, q, k, vs, ht, rfl, rfl, ho, hg, hb⟩ := hrel
    have HO := Lib.hid ho
    have HG := Lib.hid hg
    have HB := Lib.hid hb
    have hsw := hb.size
    clear ho hg hb
    by_cases hlt : t < n
    · have hd : decide ((t : Int) < n) = true := decide_eq_true (by omega)
      have hmc : (madeCells #[Value.int .u64 0] WW)[t / 64]? = some (.int .u64 0) := made_get _ _ _ _ (by rw [List.getElem?_replicate, if_pos (show t / 64 < WW by have := HWW.out; omega)])
      have HC := Lib.hid (show t / 64 < WW by have := HWW.out; omega)
      have hix : t / 64 < WW := HC.out
      have HO2 := Lib.hid ((HO.out.alloc (.cells ((madeCells #[.int .u64 0] WW).setIfInBounds (t / 64) (.int .u64 (IntKind.u64.wrap ((2 : Int) ^ (t % 64))))) 85)).alloc (.cells #[Value.slice (some ⟨wr.heap.size, 0, none⟩) WW WW] 80))
      have HBI := Lib.hid (bit_input (w := wr) HC.out)
      have HTK := Lib.hid (Xp.inputs_take hlt)
      go_wp2_with (refine wpList_app _ rfl (.tmp 34) (.tmp 36) 76 rfl w2.heap.size 80 (.slice none 0 0) 24 Tryd.underlying76 elem_lists rfl q t k _ rfl HO2.out _ (some ⟨wr.heap.size + 1, 0, none⟩) 1 1 [.slice (some ⟨wr.heap.size, 0, none⟩) WW WW] rfl (by have h9 := Rd.one (wr.alloc (.cells ((madeCells #[.int .u64 0] WW).setIfInBounds (t / 64) (.int .u64 (IntKind.u64.wrap ((2 : Int) ^ (t % 64))))) 85)) 80 (.slice (some ⟨wr.heap.size, 0, none⟩) WW WW); rw [size1] at h9; exact h9) rfl (by intro u hu; simp only [List.mem_singleton] at hu; subst hu; rfl) (by unfold maxLen; omega) (by omega) (by simp; omega) ?_; intro a6 k6 w6 ho6 hg6; have HO6 := Lib.hid ho6; have HB6 := Lib.hid (below_grown2 ((HB.out.alloc (by omega) _).alloc (by simp; omega) _) hg6 HO2.out (by simp; omega) (Nat.le_refl _)); have HG6 := Lib.hid ((((HG.out.keeps ((Keeps.refl 85 wr).alloc _)).snoc HBI.out).keeps ((Keeps.refl 85 _).alloc _)).keeps ((Keeps.refl 85 _).grown HO2.out hg6 (by decide))); rw [← HTK.out] at HG6; clear ho6 hg6)
      go_roundw
      case rel => exact ⟨t + 1, a6, k6, _, by omega, by go_num, rfl, HO6.out, HG6.out, HB6.out⟩
      case measure => simp [intOf]; omega
    · have hd : decide ((t : Int) < n) = false := decide_eq_false (by omega)
      have htn : t = n := by omega
      have HG2 := Lib.hid (show RegsOf wr WW vs (Xp.inputs n) from by
        have := HG.out
        rwa [List.take_of_length_le (by rw [Xp.inputs_length]; omega)] at this)
      subst htn
      have HR3 := Lib.hid (HR2.out.below HB.out HR2.out.lt)
      have HB3 := Lib.hid (below_call HB2.out HB.out)
      obtain ⟨c0, c1, c2, c3, c4⟩ := sbox HR3.out
      go_wp2_with fail
      refine (HEV.out _ HB3.out _ _ _ HO.out.rd HG2.out).mono ?_
      rintro e w3 ⟨⟨q3, k3, vs3, rfl, ho3, hg3⟩, hb3⟩
      have HO3 := Lib.hid ho3
      have HG3 := Lib.hid hg3
      have HB4 := Lib.hid (below_call HB3.out hb3)
      have HR4 := Lib.hid (HR3.out.below hb3 HR3.out.lt)
      have hs3 := hb3.size
      have hz3 : w.heap.size < w3.heap.size := HR4.out.lt
      clear ho3 hg3 hb3 c0 c1 c2 c3 c4 HO HG HG2 HB HB3 HR3
      obtain ⟨c0, c1, c2, c3, c4⟩ := sbox HR4.out
      go_wp2_with fail
      clear c0 c1 c2 c3 c4
      have HO4 := Lib.hid (show Own (w3.alloc (.cells (madeCells #[.slice none 0 0] nx) 27)) w3.heap.size 27 (some ⟨w3.heap.size, 0, none⟩) nx nx (List.replicate nx (.slice none 0 0)) from by
        have h9 := Own.new w3 w3.heap.size 27 (madeCells #[.slice none 0 0] nx) nx (Nat.le_refl _) (by rw [← Array.length_toList, toList_madeCells_one, List.length_replicate]) (by unfold maxLen; omega)
        rwa [toList_madeCells_one] at h9)
      have HF4 := Lib.hid (Fam.empty (w3.alloc (.cells (madeCells #[.slice none 0 0] nx) 27)) w3.heap.size nx)
      go_loopw [49] (fun i wr => ∃ (j : Nat) (vs : List Value), j ≤ nx ∧ i = .int .i64 j ∧ Own wr w3.heap.size 27 (some ⟨w3.heap.size, 0, none⟩) nx nx vs ∧ Fam wr w3.heap.size vs (Xp.lsTo S nx j) ∧ Below w3.heap.size w3 wr) (fun i _ => nx - (intOf i).toNat)
      case atStart => exact ⟨0, _, Nat.zero_le _, rfl, HO4.out, by rw [Xp.lsTo_zero]; exact HF4.out, (Below.refl _ _).alloc (Nat.le_refl _) _⟩
      case round =>
        obtain ⟨j, vs, hj, rfl, ho, hf, hb⟩ := hrel
        have HO5 := Lib.hid ho
        have HF5 := Lib.hid hf
        have HB5 := Lib.hid hb
        have hs5 := hb.size
        clear ho hf hb HO4 HF4
        by_cases hjn : j < nx
        · have hd2 : decide ((j : Int) < nx) = true := decide_eq_true (by omega)
          obtain ⟨r, hr⟩ : ∃ r, out[j]? = some r := ⟨_, List.getElem?_eq_getElem (by rw [HLX.out]; exact hjn)⟩
          have HRR := Lib.hid hr
          obtain ⟨hr1, hr2⟩ := HOUT.out r (List.mem_of_getElem? hr)
          obtain ⟨bx, ox, rfl, hbx, hcr⟩ := ((HRX.out.below HB4.out).below (HB5.out.mono HB4.out.size)) j (.int .i64 r) (by rw [ints, List.getElem?_map, hr]; rfl)
          have HSJ := Lib.hid (show S[j]? = some (Xp.outSet t R r) by rw [← HSS.out, Xp.sets, List.getElem?_map, hr]; rfl)
          clear hr
          rw [Xp.lsTo_at hjn] at HF5
          go_wp2_with fail
          clear hcr
          by_cases hr0 : r < 0
          · have hd3 : decide ((0 : Int) ≤ r) = false := decide_eq_false (by omega)
            have HSE := Lib.hid (show Xp.outSet t R r = [] from if_pos hr0)
            rw [HSE.out] at HSJ
            have HF6 := HF5.out
            rw [Xp.lsTo_step HSJ.out hjn] at HF6
            have HF7 := Lib.hid HF6
            clear HF6 HF5
            go_loopw [55] (fun i wr => ∃ x : Nat, x ≤ t ∧ i = .int .i64 x ∧ Own wr w3.heap.size 27 (some ⟨w3.heap.size, 0, none⟩) nx nx vs ∧ Fam wr w3.heap.size vs (Xp.lsTo S nx (j + 1)) ∧ Below w3.heap.size w3 wr) (fun i _ => t - (intOf i).toNat)
            case atStart => exact ⟨0, Nat.zero_le _, rfl, HO5.out, HF7.out, HB5.out⟩
            case round =>
              obtain ⟨x, hx, rfl, ho, hf, hb⟩ := hrel
              have HO6 := Lib.hid ho
              have HF6 := Lib.hid hf
              have HB6 := Lib.hid hb
              clear ho hf hb
              by_cases hxt : x < t
              · have hd4 : decide ((x : Int) < t) = true := decide_eq_true (by omega)
                go_wp2_with fail
                go_roundw
                case rel => exact ⟨x + 1, by omega, by go_num, HO6.out, HF6.out, HB6.out⟩
                case measure => simp [intOf]; omega
              · have hd4 : decide ((x : Int) < t) = false := decide_eq_false (by omega)
                go_wp2_with fail
                go_roundw
                case rel => exact ⟨j + 1, vs, by omega, by go_num, HO6.out, HF6.out, HB6.out⟩
                case measure => simp [intOf]; omega
          · have hd3 : decide ((0 : Int) ≤ r) = true := decide_eq_true (by omega)
            obtain ⟨rn, rfl⟩ : ∃ rn : Nat, r = rn := ⟨r.toNat, by omega⟩
            have hrn : rn < t + no := by omega
            obtain ⟨N, hN⟩ : ∃ N, R[rn]? = some N := ⟨_, List.getElem?_eq_getElem (by rw [HRL.out]; exact hrn)⟩
            have HSE := Lib.hid (show Xp.outSet t R (rn : Int) = Xp.setTo t N t by
              unfold Xp.outSet
              rw [if_neg (by omega), Int.toNat_natCast, hN]; rfl)
            obtain ⟨v, hv, qr, kr, rfl, hbit⟩ := HG3.out.2 rn N hN
            obtain ⟨g3, hq3, hBg, hgl, hc3, hf3⟩ := HO3.out.at_ hrn
            subst hq3
            rw [hv] at hc3
            have HC3 := Lib.hid (fun (W : World) (h : Below w3.heap.size w3 W) => (h.cell (p := ⟨g3, rn, none⟩) hgl).trans hc3)
            obtain ⟨gr, cs, hqr, hrow, hcs⟩ := hbit (by have := HWW.out; have := HT1.out; omega)
            subst hqr
            have HROW := Lib.hid (fun (W : World) (h : Below w3.heap.size w3 W) => (hrow.below h hrow.lt : Row W gr 85 cs))
            have HCS := Lib.hid hcs
            have HF7 := Lib.hid (show Fam wr w3.heap.size vs (Xp.lsAt S nx j (Xp.setTo t N 0)) from HF5.out)
            clear hN hv hbit hc3 hf3 hrow hcs HF5
            go_loopw [55] (fun i wr => ∃ (x : Nat) (vs : List Value), x ≤ t ∧ i = .int .i64 x ∧ Own wr w3.heap.size 27 (some ⟨w3.heap.size, 0, none⟩) nx nx vs ∧ Fam wr w3.heap.size vs (Xp.lsAt S nx j (Xp.setTo t N x)) ∧ Below w3.heap.size w3 wr) (fun i _ => t - (intOf i).toNat)
            case atStart => exact ⟨0, vs, Nat.zero_le _, rfl, HO5.out, HF7.out, HB5.out⟩
            case round =>
              obtain ⟨x, vs2, hx, rfl, ho, hf, hb⟩ := hrel
              have HO6 := Lib.hid ho
              have HF6 := Lib.hid hf
              have HB6 := Lib.hid hb
              clear ho hf hb
              by_cases hxt : x < t
              · have hd4 : decide ((x : Int) < t) = true := decide_eq_true (by omega)
                have hxw : x / 64 < WW := by have := HWW.out; omega
                have hc4 := HC3.out _ HB6.out
                have hc5 := ((HROW.out _ HB6.out).cell (x / 64)).trans (HCS.out _ hxw)
                obtain ⟨wd, hwd⟩ : ∃ wd, Xp.word N (x / 64) = wd := ⟨_, rfl⟩
                rw [hwd] at hc5
                have HWD := Lib.hid hwd
                clear hwd
                obtain ⟨b, hb⟩ : ∃ b, N.testBit x = b := ⟨_, rfl⟩
                have hbt : (bits .and .u64 ((wd : Int) / 2 ^ (x % 64)) 1 != 0) = b := by rw [← HWD.out, bit_test, hb]
                have HSU := Lib.hid (Xp.setTo_succ t N x)
                rw [hb] at HSU
                clear hb
                cases b
                · rw [if_neg (by decide)] at HSU
                  have HF9 := HF6.out
                  rw [← HSU.out] at HF9
                  have HF8 := Lib.hid HF9
                  clear HF9
                  go_wp2_with fail
                  go_roundw
                  case rel => exact ⟨x + 1, vs2, by omega, by go_num, HO6.out, HF8.out, HB6.out⟩
                  case measure => simp [intOf]; omega
                · rw [if_pos rfl] at HSU
                  have hjS : j ≤ S.length := by rw [HSL.out]; omega
                  obtain ⟨l, hl⟩ : ∃ l, Xp.setTo t N x = l := ⟨_, rfl⟩
                  have hll : l.length ≤ 512 := by have := Xp.setTo_length t N x; rw [hl] at this; omega
                  rw [hl] at HF6 HSU
                  obtain ⟨q, k, hvj, hoj⟩ := HF6.out.own j l (Xp.lsAt_get hjS)
                  have HVJ := Lib.hid hvj
                  have HOJ := Lib.hid (hoj.alloc (.cells #[.int .i64 (x : Int)] 3))
                  have HFA := Lib.hid (HF6.out.keeps ((Keeps.refl 3 wr).alloc (.cells #[.int .i64 (x : Int)] 3)))
                  have HOA := Lib.hid (HO6.out.alloc (.cells #[.int .i64 (x : Int)] 3))
                  have HBA := Lib.hid (HB6.out.alloc HB6.out.size (.cells #[.int .i64 (x : Int)] 3))
                  have hsz := HB6.out.size
                  obtain ⟨L, hL⟩ : ∃ L, l.length = L := ⟨_, rfl⟩
                  have HL := Lib.hid hL
                  obtain ⟨gz, egz, _, _, hcz, hfz⟩ := HO6.out.at_ hjn
                  obtain rfl : w3.heap.size = gz := by injection egz with egz; injection egz
                  rw [hvj, hL] at hcz
                  rw [hL] at HOJ hll
                  clear hl hvj hoj hL egz
                  go_wp2_with (refine wpList_app2 _ rfl (.tmp 80) (.tmp 82) 27 rfl w3.heap.size 3 (.int .i64 0) 8 Tryd.underlying27 elem_ints rfl q L k (nts l) rfl HOJ.out _ (some ⟨wr.heap.size, 0, none⟩) 1 1 [.int .i64 (x : Int)] rfl (Rd.one wr _ _) rfl (by intro u hu; simp only [List.mem_singleton] at hu; subst hu; rfl) (by unfold maxLen; omega) (by omega) (by simp; omega) ?_; intro a6 k6 w6 ho6 hg6 hn6; have HO7 := Lib.hid (HOA.out.keeps_grown hg6 HOJ.out (by decide)); have HB7 := Lib.hid (below_grown2 HBA.out hg6 HOJ.out (by rw [size1]; omega) (Nat.le_refl _)); have HF7 := Lib.hid (fam_app HFA.out (Xp.lsAt_get hjS) HVJ.out HL.out hg6 ho6 hn6); obtain ⟨gz, egz, _, _, hcz2, hfz2⟩ := HO7.out.at_ hjn; (obtain rfl : w3.heap.size = gz := by (injection egz with egz; injection egz)); rw [HVJ.out] at hcz2; clear ho6 hg6 hn6 egz hcz hfz)
                  obtain ⟨cs7, hrow7, _⟩ := HO7.out.row rfl
                  have HO8 := Lib.hid (HO7.out.put hjn (.slice a6 (L + 1) k6))
                  have HF8 := HF7.out.keeps ((Keeps.refl 3 w6).put (p := ⟨w3.heap.size, j, none⟩) hrow7 (by decide) (.slice a6 (L + 1) k6))
                  rw [Xp.lsAt_set hjS, ← HSU.out] at HF8
                  have HF9 := Lib.hid HF8
                  have HB8 := Lib.hid (HB7.out.setCell (p := ⟨w3.heap.size, j, none⟩) (Nat.le_refl _) (.slice a6 (L + 1) k6))
                  clear hrow7 HF8
                  go_roundw
                  case rel => exact ⟨x + 1, _, by omega, by go_num, HO8.out, HF9.out, HB8.out⟩
                  case measure => simp [intOf]; omega
              · have hd4 : decide ((x : Int) < t) = false := decide_eq_false (by omega)
                go_wp2_with fail
                go_roundw
                case rel => exact ⟨j + 1, vs2, by omega, by go_num, HO6.out, by rw [← Xp.lsTo_step HSJ.out hjn, HSE.out]; have hE : x = t := (by omega); exact hE ▸ HF6.out, HB6.out⟩
                case measure => simp [intOf]; omega
        · have hd2 : decide ((j : Int) < nx) = false := decide_eq_false (by omega)
          have hjn2 : j = nx := by omega
          subst hjn2
          rw [Xp.lsTo_end HSL.out] at HF5
          go_wp2_with fail
          refine bodyPost_ret (v := .tuple #[.slice (some ⟨w3.heap.size, 0, none⟩) j j, .int .i64 0]) ?_ rfl ⟨⟨_, _, vs, rfl, HO5.out.mono (by omega), HF5.out.mono (by omega)⟩, HB4.out.trans (HB5.out.mono (by omega))⟩
          rw [results_tmp2 rfl]; rfl
end Go.Proofs.YtghinmlpkgcdiaaDoor
