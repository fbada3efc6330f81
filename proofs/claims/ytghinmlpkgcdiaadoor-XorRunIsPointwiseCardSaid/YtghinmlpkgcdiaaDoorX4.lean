/- Schedules: rows by their element's type; lists of bits in memory, their exclusive or. -/
import Derived.Test.YtghinmlpkgcdiaaDoorX3
import Derived.Test.YtghinmlpkgcdiaaDoorRF
import Derived.Laws.Bits64
namespace Go.Proofs.YtghinmlpkgcdiaaDoor
set_option linter.unusedSimpArgs false
set_option linter.unusedVariables false
open Go.RowKit Go.Lib

/-- all rows of elements of type e stand as they stood -/
def Keeps (e : TypeId) (w w' : World) : Prop := ∀ g cs, Row w g e cs → Row w' g e cs
theorem Keeps.refl (e : TypeId) (w : World) : Keeps e w w := fun _ _ h => h
theorem Keeps.trans {e : TypeId} {a b c : World} (h : Keeps e a b) (k : Keeps e b c) : Keeps e a c := fun g cs hr => k g cs (h g cs hr)
theorem Keeps.below {e : TypeId} {a w w' : World} (h : Keeps e a w) (hb : Below w.heap.size w w') : Keeps e a w' := fun g cs hr => (h g cs hr).below hb (h g cs hr).lt
theorem Keeps.of_below {e : TypeId} {w w' : World} (hb : Below w.heap.size w w') : Keeps e w w' := (Keeps.refl e w).below hb
theorem Keeps.drewN {e : TypeId} {a w : World} (h : Keeps e a w) (n : Nat) : Keeps e a (w.drewN n) := h
theorem Keeps.drew {e : TypeId} {a w : World} (h : Keeps e a w) : Keeps e a w.drew := h
theorem Keeps.alloc {e : TypeId} {a w : World} (h : Keeps e a w) (o : Obj) : Keeps e a (w.alloc o) := fun g cs hr => (h g cs hr).alloc o
theorem Row.type {w : World} {g : Nat} {e e2 : TypeId} {cs cs2 : Array Value} (h : Row w g e cs) (h2 : Row w g e2 cs2) : e = e2 := by
  unfold Row at h h2; rw [h] at h2; injection h2 with h2; injection h2
theorem Keeps.put {e : TypeId} {a w : World} (h : Keeps e a w) {p : Addr} {e2 : TypeId} {cs2 : Array Value} (hr2 : Row w p.block e2 cs2) (hne : e ≠ e2) (u : Value) : Keeps e a (w.setCell p u) := fun g cs hr =>
  (h g cs hr).far (fun eq => by subst eq; exact hne (Row.type (h _ cs hr) hr2)) u
theorem Own.row {w : World} {B : Nat} {e : TypeId} {a : Option Addr} {n c : Nat} {xs : List Value} (h : Own w B e a n c xs) {g : Nat} (ha : a = some ⟨g, 0, none⟩) : ∃ cs : Array Value, Row w g e cs ∧ ∀ (p : Nat) (u : Value), xs[p]? = some u → cs[p]? = some u := by
  rcases h.2 with ⟨hv, _⟩ | ⟨g1, cap, cur, hv, _, hg, _, _, _, ht⟩
  · injection hv with e1; rw [e1] at ha; cases ha
  · injection hv with e1
    rw [e1] at ha
    injection ha with ha; injection ha with ha
    subst ha
    refine ⟨cur, hg, fun p u hp => ?_⟩
    rw [← ht, List.getElem?_take] at hp
    split at hp
    · rwa [← Array.getElem?_toList]
    · cases hp
theorem Own.block_or {w : World} {B : Nat} {e : TypeId} {a : Option Addr} {n c : Nat} {xs : List Value} (h : Own w B e a n c xs) : a = none ∨ ∃ g, a = some ⟨g, 0, none⟩ := by
  rcases h.2 with ⟨hv, _⟩ | ⟨g1, cap, cur, hv, _⟩
  · injection hv with e1; exact .inl e1
  · injection hv with e1; exact .inr ⟨g1, e1⟩
theorem Own.mono {w : World} {B B' : Nat} {e : TypeId} {a : Option Addr} {n c : Nat} {xs : List Value} (h : Own w B e a n c xs) (hB : B' ≤ B) : Own w B' e a n c xs := by
  refine ⟨h.1, ?_⟩
  rcases h.2 with h | ⟨g, cap, cur, h1, h2, h3⟩
  · exact .inl h
  · exact .inr ⟨g, cap, cur, h1, Nat.le_trans hB h2, h3⟩
/-- a row of one type grows: the rows of another stand -/
theorem Keeps.grown {e e2 : TypeId} {a w w' : World} {B n c : Nat} {q : Option Addr} {xs : List Value} (h : Keeps e a w) (ho : Own w B e2 q n c xs) (hg : w.grownBy w' (Value.slice q n c).ownBlock) (hne : e ≠ e2) : Keeps e a w' := fun g cs hr => by
  have h1 := h g cs hr
  refine (hg.block g h1.lt (fun hx => ?_)).trans h1
  rcases ho.block_or with rfl | ⟨g2, rfl⟩
  · cases hx
  · injection hx with hx
    have hx2 : g2 = g := hx.symm
    subst hx2
    obtain ⟨cs2, hr2, _⟩ := ho.row rfl
    exact hne (h1.type hr2)

/-- W words -/
def wordsL (W : Nat) (f : Nat → Nat) : List Value := (List.range W).map fun p => .int .u64 (f p : Int)
theorem wordsL_length (W : Nat) (f : Nat → Nat) : (wordsL W f).length = W := by simp [wordsL]
theorem wordsL_get {W p : Nat} (f : Nat → Nat) (h : p < W) : (wordsL W f)[p]? = some (.int .u64 (f p : Int)) := by
  unfold wordsL; rw [List.getElem?_map, List.getElem?_range h]; rfl
theorem wordsL_out {W p : Nat} (f : Nat → Nat) {u : Value} (h : (wordsL W f)[p]? = some u) : p < W ∧ u = .int .u64 (f p : Int) := by
  by_cases hp : p < W
  · rw [wordsL_get f hp] at h; injection h with h; exact ⟨hp, h.symm⟩
  · rw [List.getElem?_eq_none (by rw [wordsL_length]; omega)] at h; cases h
theorem wordsL_set {W p : Nat} (f : Nat → Nat) (v : Nat) : (wordsL W f).set p (.int .u64 (v : Int)) = wordsL W (fun q => if q = p then v else f q) := by
  apply List.ext_getElem?
  intro j
  rw [List.getElem?_set]
  by_cases hj : j < W
  · rw [wordsL_get _ hj, wordsL_get _ hj, wordsL_length]
    by_cases e : p = j
    · subst e; rw [if_pos rfl, if_pos hj, if_pos rfl]
    · rw [if_neg e, if_neg (fun h => e h.symm)]
  · rw [List.getElem?_eq_none (by rw [wordsL_length]; omega), List.getElem?_eq_none (by rw [wordsL_length]; omega), wordsL_length]
    by_cases e : p = j
    · rw [if_pos e, if_neg (by omega)]
    · rw [if_neg e]
theorem wordsL_congr {W : Nat} {f f' : Nat → Nat} (h : ∀ p, p < W → f p = f' p) : wordsL W f = wordsL W f' := by
  unfold wordsL
  apply List.map_congr_left
  intro p hp
  rw [h p (List.mem_range.1 hp)]
theorem wordsL_one (W : Nat) (f : Nat → Nat) : ∀ u ∈ wordsL W f, u.oneCell' = true := by
  intro u hu
  obtain ⟨p, _, rfl⟩ := List.mem_map.1 hu
  rfl
/-- the value is a list of W words: the bits of n -/
def Bit (w : World) (W : Nat) (v : Value) (n : Nat) : Prop := ∃ q k, v = .slice q W k ∧ (0 < W → ∃ g cs, q = some ⟨g, 0, none⟩ ∧ Row w g 85 cs ∧ ∀ p, p < W → cs[p]? = some (.int .u64 (Xp.word n p : Int)))
theorem Bit.keeps {w w' : World} {W n : Nat} {v : Value} (h : Bit w W v n) (hk : Keeps 85 w w') : Bit w' W v n := by
  obtain ⟨q, k, e, h⟩ := h
  refine ⟨q, k, e, fun hW => ?_⟩
  obtain ⟨g, cs, e2, hr, hc⟩ := h hW
  exact ⟨g, cs, e2, hk g cs hr, hc⟩
theorem Bit.rd {w : World} {W n k : Nat} {q : Option Addr} (h : Bit w W (.slice q W k) n) : Rd w w.heap.size q (wordsL W (Xp.word n)) := fun j u hu => by
  obtain ⟨hj, rfl⟩ := wordsL_out _ hu
  obtain ⟨q', k', e, h⟩ := h
  injection e with e1 _ _
  subst e1
  obtain ⟨g, cs, e2, hr, hc⟩ := h (by omega)
  exact ⟨g, 0, e2, hr.lt, by rw [Nat.zero_add, hr.cell]; exact hc j hj⟩
theorem Bit.of_own {w : World} {B W k n : Nat} {q : Option Addr} {f : Nat → Nat} (h : Own w B 85 q W k (wordsL W f)) (hf : ∀ p, p < W → f p = Xp.word n p) : Bit w W (.slice q W k) n := by
  refine ⟨q, k, rfl, fun hW => ?_⟩
  obtain ⟨g, e, _⟩ := h.at_ hW
  obtain ⟨cs, hr, hc⟩ := h.row e
  exact ⟨g, cs, e, hr, fun p hp => by rw [← hf p hp]; exact hc p _ (wordsL_get f hp)⟩

set_option maxRecDepth 100000 in
set_option maxHeartbeats 1600000 in
theorem lxor_any (W : Nat) (a b : Nat) (qa qb : Option Addr) (ka kb : Nat) (w : World) (hW : W ≤ 1000) (ha : Rd w w.heap.size qa (wordsL W (Xp.word a))) (hb : Rd w w.heap.size qb (wordsL W (Xp.word b))) :
    Calls Tryd.prog 77 #[.slice qa W ka, .slice qb W kb] w fun e w' => (∃ q k, e = .returned (.slice q W k) ∧ Bit w' W (.slice q W k) (a ^^^ b)) ∧ Below w.heap.size w w' := by
  have HCL := Lib.hid (clone_lst qa W ka (wordsL W (Xp.word a)) w (wordsL_length _ _) (by omega) ha (wordsL_one _ _))
  have HB := Lib.hid hb
  clear ha hb
  go_enter Tryd.func77, Tryd.ntmps77
  go_wp2_with fail
  refine HCL.out.mono ?_
  rintro e w1 ⟨q, k, rfl, ho, hb⟩
  have HO := Lib.hid (show Own w1 w.heap.size 85 q W k (wordsL W (fun p => if p < 0 then Xp.word (a ^^^ b) p else Xp.word a p)) from (by simpa using ho))
  have HBW := Lib.hid hb
  clear ho hb
  go_wp2_with fail
  go_loopw [11] (fun i wr => ∃ i' : Nat, i' ≤ W ∧ i = .int .i64 i' ∧ Own wr w.heap.size 85 q W k (wordsL W (fun p => if p < i' then Xp.word (a ^^^ b) p else Xp.word a p)) ∧ Below w.heap.size w wr) (fun i _ => W - (intOf i).toNat)
  case atStart => exact ⟨0, Nat.zero_le _, rfl, HO.out, HBW.out⟩
  case round =>
    obtain ⟨i, hi, rfl, ho, hb⟩ := hrel
    have HO2 := Lib.hid ho
    have HB2 := Lib.hid hb
    clear ho hb
    by_cases hlt : i < W
    · have hd : decide ((i : Int) < W) = true := decide_eq_true (by omega)
      obtain ⟨g, rfl, hBg, hgl, hc, hf⟩ := HO2.out.at_ hlt
      rw [wordsL_get _ hlt, if_neg (Nat.lt_irrefl _)] at hc
      obtain ⟨gb, ob, rfl, hgb, hcb⟩ := (HB.out.below HB2.out) i _ (wordsL_get _ hlt)
      obtain ⟨x, hx⟩ : ∃ x, Xp.word a i = x := ⟨_, rfl⟩
      obtain ⟨y, hy⟩ : ∃ y, Xp.word b i = y := ⟨_, rfl⟩
      have hbx : bits .xor .u64 (x : Int) (y : Int) = ((x ^^^ y : Nat) : Int) := bits_xor_u64_nat x y (by rw [← hx]; exact Xp.word_lt _ _) (by rw [← hy]; exact Xp.word_lt _ _)
      rw [hx] at hc
      rw [hy] at hcb
      have HXY := Lib.hid (show x ^^^ y = Xp.word (a ^^^ b) i by rw [Xp.word_xor, hx, hy])
      have HO3 := Lib.hid (show Own (wr.setCell ⟨g, i, none⟩ (.int .u64 ((x ^^^ y : Nat) : Int))) w.heap.size 85 (some ⟨g, 0, none⟩) W k (wordsL W (fun p => if p < i + 1 then Xp.word (a ^^^ b) p else Xp.word a p)) from by
        have h9 := HO2.out.put hlt (.int .u64 ((x ^^^ y : Nat) : Int))
        rw [wordsL_set] at h9
        rwa [wordsL_congr (f' := fun p => if p < i + 1 then Xp.word (a ^^^ b) p else Xp.word a p)] at h9
        intro p hp
        by_cases e : p = i
        · rw [if_pos e, if_pos (by omega), HXY.out, e]
        · rw [if_neg e]
          by_cases e2 : p < i
          · rw [if_pos e2, if_pos (by omega)]
          · rw [if_neg e2, if_neg (by omega)])
      have HB3 := Lib.hid (HB2.out.setCell (p := ⟨g, i, none⟩) hBg (.int .u64 ((x ^^^ y : Nat) : Int)))
      clear hx hy
      go_wp2_with fail
      go_region
      go_wp2_with fail
      go_roundw
      case rel => exact ⟨i + 1, by omega, by go_num, HO3.out.drewN 1, HB3.out.drew⟩
      case measure => simp [intOf]; omega
    · have hd : decide ((i : Int) < W) = false := decide_eq_false (by omega)
      go_wp2_with fail
      go_ret
      exact ⟨⟨q, k, rfl, Bit.of_own HO2.out (fun p hp => if_pos (by omega))⟩, HB2.out⟩
end Go.Proofs.YtghinmlpkgcdiaaDoor
