/- SectorDamaged: for every place, generation, payload, position and change of four adjacent bytes the law returns true, and its arguments read as they did. No condition. -/
import Derived.Test.YtdkkoogcaininaaS17
import Derived.Test.YtdkkoogcaininaaOpenS
import Derived.ChangeMaps5
namespace Go.Proofs.Ytdkkoogcaininaa
set_option linter.unusedSimpArgs false
set_option linter.unusedVariables false
open Go.ChangeShapes Go.WideShapes Go.ChangeAt Go.RowKit Go.Lib

/-- '==' of two arrays of four bytes -/
theorem eq4 (n : Nat) (a b c d x y z t : Int) (w : World) : (Op.equalIn (n + 2) 39 (.agg #[.int .u8 a, .int .u8 b, .int .u8 c, .int .u8 d]) (.agg #[.int .u8 x, .int .u8 y, .int .u8 z, .int .u8 t])).run Try.prog w =
    .ok (a == x && b == y && c == z && d == t) w := by
  have h34 := Try.underlying39
  have hc : (sizeOf 5).run Try.prog w = .ok 1 w := by kernel_rfl
  have hu := Try.underlying5
  have hi : (isAgg 5).run Try.prog w = .ok false w := by kernel_rfl
  have key : ∀ p q : Int, (Op.equalIn (n + 1) 5 (.int .u8 p) (.int .u8 q)).run Try.prog w = .ok (p == q) w := fun p q => run_equalIn_int w n 5 .u8 .u8 p q hu
  unfold Op.equalIn
  simp only [Sem.run_bind, run_underlying h34, Result.andThen_ok, hc]
  simp [Std.Legacy.Range.forIn_eq_forIn_range', Std.Legacy.Range.size, List.range', Go.part, hi, key, Sem.run_bind]
  cases h1 : (a == x) <;> simp_all
  cases h2 : (b == y) <;> simp_all
  cases h3 : (c == z) <;> simp_all
  cases h4 : (d == t) <;> simp_all

/-- the bytes from p on, changed one after the other -/
def upd (bs : List UInt8) (p : Nat) (cs : List UInt8) : Nat → List UInt8
  | 0 => bs
  | k + 1 => (upd bs p cs k).set (p + k) ((upd bs p cs k)[p + k]?.getD 0 ^^^ cs[k]?.getD 0)
theorem upd_length (bs : List UInt8) (p : Nat) (cs : List UInt8) (k : Nat) : (upd bs p cs k).length = bs.length := by
  induction k with
  | zero => rfl
  | succ k ih => rw [upd, List.length_set, ih]
theorem upd_four (l m : List UInt8) (x0 x1 x2 x3 c0 c1 c2 c3 : UInt8) :
    upd (l ++ x0 :: x1 :: x2 :: x3 :: m) l.length [c0, c1, c2, c3] 4 = l ++ (x0 ^^^ c0) :: (x1 ^^^ c1) :: (x2 ^^^ c2) :: (x3 ^^^ c3) :: m := by
  simp [upd]
theorem four_at (bs : List UInt8) (p : Nat) (h : p + 4 ≤ bs.length) : ∃ l m x0 x1 x2 x3, bs = l ++ x0 :: x1 :: x2 :: x3 :: m ∧ l.length = p := by
  refine ⟨bs.take p, bs.drop (p + 4), bs[p], bs[p + 1], bs[p + 2], bs[p + 3], ?_, by simp; omega⟩
  conv => lhs; rw [← List.take_append_drop p bs]
  congr 1
  rw [List.drop_eq_getElem_cons (by omega), List.drop_eq_getElem_cons (by omega), List.drop_eq_getElem_cons (by omega), List.drop_eq_getElem_cons (by omega)]
theorem v8_toNat (x : UInt8) : ((x.toNat : Int) == 0) = (x == 0) := by
  rw [Bool.eq_iff_iff, beq_iff_eq, beq_iff_eq]
  constructor
  · intro h
    apply UInt8.toNat_inj.1
    show x.toNat = 0
    omega
  · rintro rfl; rfl

theorem numOf_inj {a b : List UInt8} (hl : a.length = b.length) (h : numOf a = numOf b) : a = b := by
  rw [← bytesOf_num a, ← bytesOf_num b, hl, h]
theorem xor_ne (x c : UInt8) (h : x ^^^ c = x) : c = 0 := by
  have := congrArg (fun z => x ^^^ z) h
  simp only [← UInt8.xor_assoc, UInt8.xor_self, UInt8.zero_xor] at this
  exact this
/-- a damaged sector's checksum is wrong -/
theorem damaged (S : List UInt8) (p : Nat) (c0 c1 c2 c3 : UInt8) (hs : sumOk S = true) (hl : S.length = 64) (hp : p = 0 ∨ (4 ≤ p ∧ p ≤ 60)) (hc : ¬ (c0 = 0 ∧ c1 = 0 ∧ c2 = 0 ∧ c3 = 0)) : sumOk (upd S p [c0, c1, c2, c3] 4) = false := by
  rw [sumOk, decide_eq_true_eq] at hs
  rw [sumOk, decide_eq_false_iff_not]
  intro h
  obtain ⟨l, m, x0, x1, x2, x3, rfl, rfl⟩ := four_at S p (by omega)
  rw [upd_four] at h
  rcases hp with hp | ⟨hp, hp2⟩
  · have hn : l = [] := List.eq_nil_of_length_eq_zero hp
    subst hn
    simp only [List.nil_append, fQ, List.take_succ_cons, List.take_zero, List.drop_succ_cons, List.drop_zero] at h hs
    have := numOf_inj (a := [x0 ^^^ c0, x1 ^^^ c1, x2 ^^^ c2, x3 ^^^ c3]) (b := [x0, x1, x2, x3]) rfl (h.trans hs.symm)
    simp only [List.cons.injEq] at this
    exact hc ⟨xor_ne _ _ this.1, xor_ne _ _ this.2.1, xor_ne _ _ this.2.2.1, xor_ne _ _ this.2.2.2.1⟩
  · have hq : ∀ r : List UInt8, fQ (l ++ r) = fQ l := fun r => by rw [fQ, fQ, List.take_append_of_le_length hp]
    have hd : ∀ r : List UInt8, (l ++ r).drop 4 = l.drop 4 ++ r := fun r => List.drop_append_of_le_length hp
    rw [hq, hd] at h hs
    have hb := Crc.burst (l.drop 4) m x0 x1 x2 x3 c0 c1 c2 c3 hc
    exact hb (BitVec.eq_of_toNat_eq (hs.symm.trans h))
theorem open_damaged {d a i e c : Int} {p : ByteArray} (h : okS d a i e c p = true) (q : Nat) (c0 c1 c2 c3 : UInt8) (hp : q = 0 ∨ (4 ≤ q ∧ q ≤ 60)) (hc : ¬ (c0 = 0 ∧ c1 = 0 ∧ c2 = 0 ∧ c3 = 0)) :
    opV (opOf d a i (upd (sealOf d.toNat a.toNat i.toNat e.toNat c.toNat p.data.toList) q [c0, c1, c2, c3] 4)) = .tuple #[.agg #[.int .i64 0, .int .i64 0], .string (strB []), .int .i64 7] := by
  obtain ⟨⟨g1, g2, g3, g4, g5⟩, k2, k3, k4⟩ := okS_parts h
  have hpl : placeB d a i = true := by rw [← nat_of g1, ← nat_of g2, ← nat_of g3]; exact k2
  have hlen := seal_len d.toNat a.toNat i.toNat e.toNat c.toNat p.data.toList k4
  have hsum : sumOk (sealOf d.toNat a.toNat i.toNat e.toNat c.toNat p.data.toList) = true := by
    have hk := seal_lab d.toNat a.toNat i.toNat e.toNat c.toNat p.data.toList k2 k3 k4
    rw [labOf, if_neg (by rw [hlen]; simp)] at hk
    cases hs : sumOk (sealOf d.toNat a.toNat i.toNat e.toNat c.toNat p.data.toList) with
    | true => rfl
    | false => rw [labOk, hs] at hk; simp at hk
  have hd := damaged _ q c0 c1 c2 c3 hsum hlen hp hc
  have hlab : labOf (upd (sealOf d.toNat a.toNat i.toNat e.toNat c.toNat p.data.toList) q [c0, c1, c2, c3] 4) = (0, 0, 0, 0, 0, 7) := by
    rw [labOf, if_neg (by rw [upd_length, hlen]; simp), labOk, hd]; rfl
  rw [opOf, if_neg (by rw [hpl]; simp), hlab]
  rfl
set_option maxRecDepth 100000 in
set_option maxHeartbeats 3200000 in
theorem damaged_out1 (d a i e c from_ : Int) (p : ByteArray) (c0 c1 c2 c3 : UInt8) (w : World) (h : okS d a i e c p = false) :
    Calls Try.prog 5 #[.agg #[.int .i64 d, .int .i64 a, .int .i64 i], .agg #[.int .i64 e, .int .i64 c], .string p, .int .i64 from_, .agg #[v8 c0, v8 c1, v8 c2, v8 c3]] w fun x w' => x = .returned (.bool true) ∧ Below w.heap.size w w' := by
  have H1 := Lib.hid h
  clear h
  simp only [v8]
  have he := fun w => eq4 9998 c0.toNat c1.toNat c2.toNat c3.toNat 0 0 0 0 w
  go_enter Try.func5, Try.ntmps5
  go_wp2_with fail
  refine (seal_no d a i e c p _ H1.out).mono ?_
  rintro x w1 ⟨rfl, hb⟩
  have HB := Lib.hid (below_call ((((Below.refl w.heap.size w).alloc (Nat.le_refl _) _).alloc (by simp) _).alloc (by simp; omega) _) hb)
  clear hb
  go_wp2_with fail
  refine (sanity_any _).mono ?_
  rintro x w2 ⟨rfl, hb⟩
  have HB := Lib.hid (below_call HB.out hb)
  clear hb
  go_wp2_with fail
  go_ret
  exact ⟨rfl, HB.out⟩
set_option maxRecDepth 100000 in
set_option maxHeartbeats 6400000 in
theorem damaged_out2 (d a i e c from_ : Int) (p : ByteArray) (c0 c1 c2 c3 : UInt8) (w : World) (h : okS d a i e c p = true) (z : Bool) (hz : ((c0.toNat : Int) == 0 && (c1.toNat : Int) == 0 && (c2.toNat : Int) == 0 && (c3.toNat : Int) == 0) = z)
    (hk : z = true ∨ (z = false ∧ from_ < 0) ∨ (z = false ∧ 0 ≤ from_ ∧ 60 < from_) ∨ (z = false ∧ 0 < from_ ∧ from_ < 4)) :
    Calls Try.prog 5 #[.agg #[.int .i64 d, .int .i64 a, .int .i64 i], .agg #[.int .i64 e, .int .i64 c], .string p, .int .i64 from_, .agg #[v8 c0, v8 c1, v8 c2, v8 c3]] w fun x w' => x = .returned (.bool true) ∧ Below w.heap.size w w' := by
  have H1 := Lib.hid h
  obtain ⟨hss, hps⟩ := okS_size h
  obtain ⟨S, hS⟩ : ∃ S, strB (sealOf d.toNat a.toNat i.toNat e.toNat c.toNat p.data.toList) = S := ⟨_, rfl⟩
  have HS := Lib.hid hS
  rw [hS] at hss
  clear h hS
  simp only [v8]
  have he := fun w => eq4 9998 c0.toNat c1.toNat c2.toNat c3.toNat 0 0 0 0 w
  simp only [hz] at he
  clear hz
  rcases hk with rfl | ⟨rfl, hk⟩ | ⟨rfl, hk, hk2⟩ | ⟨rfl, hk, hk2⟩
  all_goals
    go_enter Try.func5, Try.ntmps5
    go_wp2_with fail
    refine (seal_yes d a i e c p _ H1.out).mono ?_
    rintro x w1 ⟨rfl, hb⟩
    rw [HS.out]
    have HC := Lib.hid (show Row w1 (w.heap.size + 1 + 1) 39 #[.int .u8 c0.toNat, .int .u8 c1.toNat, .int .u8 c2.toNat, .int .u8 c3.toNat] from (Row.made _ _ (by simp)).below hb (by simp))
    have HB := Lib.hid (below_call ((((Below.refl w.heap.size w).alloc (Nat.le_refl _) _).alloc (by simp) _).alloc (by simp; omega) _) hb)
    have k0 : w1.cell? ⟨w.heap.size + 1 + 1, 0, none⟩ = some (.int .u8 c0.toNat) := HC.out.cell 0
    have k1 : w1.cell? ⟨w.heap.size + 1 + 1, 1, none⟩ = some (.int .u8 c1.toNat) := HC.out.cell 1
    have k2 : w1.cell? ⟨w.heap.size + 1 + 1, 2, none⟩ = some (.int .u8 c2.toNat) := HC.out.cell 2
    have k3 : w1.cell? ⟨w.heap.size + 1 + 1, 3, none⟩ = some (.int .u8 c3.toNat) := HC.out.cell 3
    clear hb
    go_wp2_with fail
    all_goals
      refine (sanity_any _).mono ?_
      rintro x w2 ⟨rfl, hb⟩
      have HB := Lib.hid (below_call HB.out hb)
      clear hb k0 k1 k2 k3
      go_wp2_with fail
      go_ret
      exact ⟨rfl, HB.out⟩
set_option maxRecDepth 100000 in
set_option maxHeartbeats 6400000 in
theorem damaged_in (d a i e c from_ : Int) (p : ByteArray) (c0 c1 c2 c3 : UInt8) (w : World) (h : okS d a i e c p = true) (hzz : ((c0.toNat : Int) == 0 && (c1.toNat : Int) == 0 && (c2.toNat : Int) == 0 && (c3.toNat : Int) == 0) = false)
    (hk : from_ = 0 ∨ (4 ≤ from_ ∧ from_ ≤ 60)) :
    Calls Try.prog 5 #[.agg #[.int .i64 d, .int .i64 a, .int .i64 i], .agg #[.int .i64 e, .int .i64 c], .string p, .int .i64 from_, .agg #[v8 c0, v8 c1, v8 c2, v8 c3]] w fun x w' => x = .returned (.bool true) ∧ Below w.heap.size w w' := by
  have hnz : ¬ (c0 = 0 ∧ c1 = 0 ∧ c2 = 0 ∧ c3 = 0) := by
    rintro ⟨rfl, rfl, rfl, rfl⟩
    simp at hzz
  have HD := Lib.hid (open_damaged h from_.toNat c0 c1 c2 c3 (by omega) hnz)
  have H1 := Lib.hid h
  obtain ⟨hss, hps⟩ := okS_size h
  obtain ⟨L, hL⟩ : ∃ L, sealOf d.toNat a.toNat i.toNat e.toNat c.toNat p.data.toList = L := ⟨_, rfl⟩
  rw [hL] at HD hss
  obtain ⟨S, hS⟩ : ∃ S, strB L = S := ⟨_, rfl⟩
  have HS := Lib.hid (show strB (sealOf d.toNat a.toNat i.toNat e.toNat c.toNat p.data.toList) = S by rw [hL, hS])
  have HSL := Lib.hid (show S.data.toList = L by rw [← hS, strB_data])
  rw [hS] at hss
  have HLL := Lib.hid (show L.length = 64 by rw [← HSL.out, len_data]; exact hss)
  obtain ⟨q, hq⟩ : ∃ q : Nat, from_ = q := ⟨from_.toNat, by omega⟩
  subst hq
  rw [show ((q : Int)).toNat = q by omega] at HD
  clear h hS hL hnz
  simp only [v8]
  have he := fun w => eq4 9998 c0.toNat c1.toNat c2.toNat c3.toNat 0 0 0 0 w
  simp only [hzz] at he
  clear hzz
  have hq60 : (q : Int) ≤ 60 := by omega
  have hq4 : q = 0 ∨ 4 ≤ q := by omega
  clear hk
  rcases hq4 with hq4 | hq4
  case' inl =>
    have hd0 : ¬ ((q : Int) < 0) := by omega
    have hd1 : ¬ (60 < (q : Int)) := by omega
    have hd5 : ¬ 0 < q := by omega
    have hd6 : ¬ (0 : Int) < (q : Int) := by omega
    clear hq4
  case' inr =>
    have hd0 : ¬ ((q : Int) < 0) := by omega
    have hd1 : ¬ (60 < (q : Int)) := by omega
    have hd3 : ¬ ((q : Int) < 4) := by omega
    have hd4 : ¬ (q < 4) := by omega
    have hd5 : 0 < q := by omega
    have hd6 : (0 : Int) < (q : Int) := by omega
  all_goals
    go_enter Try.func5, Try.ntmps5
    go_wp2_with fail
    refine (seal_yes d a i e c p _ H1.out).mono ?_
    rintro x w1 ⟨rfl, hb⟩
    rw [HS.out]
    have HC := Lib.hid (show Row w1 (w.heap.size + 1 + 1) 39 #[.int .u8 c0.toNat, .int .u8 c1.toNat, .int .u8 c2.toNat, .int .u8 c3.toNat] from (Row.made _ _ (by simp)).below hb (by simp))
    have HP := Lib.hid (show Row w1 w.heap.size 23 #[.int .i64 d, .int .i64 a, .int .i64 i] from (((Row.new w _ _).alloc _).alloc _).below hb (by first | (simp; done) | (simp; omega)))
    have HB := Lib.hid (below_call ((((Below.refl w.heap.size w).alloc (Nat.le_refl _) _).alloc (by simp) _).alloc (by simp; omega) _) hb)
    have k0 : w1.cell? ⟨w.heap.size + 1 + 1, 0, none⟩ = some (.int .u8 c0.toNat) := HC.out.cell 0
    have k1 : w1.cell? ⟨w.heap.size + 1 + 1, 1, none⟩ = some (.int .u8 c1.toNat) := HC.out.cell 1
    have k2 : w1.cell? ⟨w.heap.size + 1 + 1, 2, none⟩ = some (.int .u8 c2.toNat) := HC.out.cell 2
    have k3 : w1.cell? ⟨w.heap.size + 1 + 1, 3, none⟩ = some (.int .u8 c3.toNat) := HC.out.cell 3
    have HT1 := Lib.hid (show Try.prog.underlying 9 = some .string from Try.underlying9)
    clear hb
    go_wp2_with (refine wpList_apps rfl _ _ 40 9 rfl w1.heap.size 5 Try.underlying40 HT1.out elem_u8 none 0 0 [] rfl (Own.nil _ _ _) S rfl (by omega) (Nat.le_refl _) ?_; intro ga gc w2 ho hg; have HO := Lib.hid (show Own w2 w1.heap.size 5 ga (0 + S.size) gc (S.data.toList.map v8) from ho); have HG2 := Lib.hid (below_grown (Below.refl w1.heap.size w1) hg (Own.nil w1 w1.heap.size 5) (Nat.le_refl _)); clear ho hg)
    have HOz := Lib.hid (show Own w2 w1.heap.size 5 ga 64 gc (L.map v8) by have := HO.out; rw [Nat.zero_add, hss, HSL.out] at this; exact this)
    obtain ⟨g, rfl, hgB, _⟩ := HOz.out.at_ (show 0 < 64 by omega)
    have HC2 := Lib.hid (HC.out.below HG2.out HC.out.lt)
    have HP2 := Lib.hid (HP.out.below HG2.out HP.out.lt)
    have HB2 := Lib.hid (HB.out.trans (HG2.out.mono HB.out.size))
    have HGC := Lib.hid (show w.heap.size + 1 + 1 ≠ g by have := HC.out.lt; omega)
    have HGP := Lib.hid (show w.heap.size ≠ g by have := HP.out.lt; omega)
    have HgB := Lib.hid (show w.heap.size ≤ g by have := HB.out.size; omega)
    clear hgB he k0 k1 k2 k3 HO
    go_loopw [14] (fun iv wr => ∃ k : Nat, k ≤ 4 ∧ iv = .int .i64 k ∧ Own wr w1.heap.size 5 (some ⟨g, 0, none⟩) 64 gc ((upd L q [c0, c1, c2, c3] k).map v8) ∧ Row wr (w.heap.size + 1 + 1) 39 #[.int .u8 c0.toNat, .int .u8 c1.toNat, .int .u8 c2.toNat, .int .u8 c3.toNat] ∧ Row wr w.heap.size 23 #[.int .i64 d, .int .i64 a, .int .i64 i] ∧ Below w.heap.size w wr) (fun iv _ => 4 - (intOf iv).toNat)
    case atStart => exact ⟨0, by omega, rfl, HOz.out, HC2.out, HP2.out, HB2.out⟩
    case round =>
      obtain ⟨k, hk, rfl, ho, ha, hpp, hb⟩ := hrel
      have HO1 := Lib.hid ho
      have HA1 := Lib.hid ha
      have HP1 := Lib.hid hpp
      have HB1 := Lib.hid hb
      clear ho ha hpp hb
      by_cases hlt : k < 4
      · obtain ⟨x, hx⟩ : ∃ x, x = (upd L q [c0, c1, c2, c3] k)[q + k]?.getD 0 := ⟨_, rfl⟩
        obtain ⟨y, hy⟩ : ∃ y, y = ([c0, c1, c2, c3] : List UInt8)[k]?.getD 0 := ⟨_, rfl⟩
        have hpk : q + k < 64 := by omega
        have hxc : wr.cell? ⟨g, q + k, none⟩ = some (.int .u8 (x.toNat : Int)) := by
          obtain ⟨g2, e2, _, _, hc, _⟩ := HO1.out.at_ hpk
          injection e2 with e2
          injection e2 with e2
          subst e2
          have hlen : q + k < (upd L q [c0, c1, c2, c3] k).length := by rw [upd_length, HLL.out]; exact hpk
          rw [hc, List.getElem?_map, List.getElem?_eq_getElem hlen, hx, List.getElem?_eq_getElem hlen]; rfl
        have hxf : wr.frozen? ⟨g, q + k, none⟩ = false := by
          obtain ⟨g2, e2, _, _, _, hf⟩ := HO1.out.at_ hpk
          injection e2 with e2
          injection e2 with e2
          subst e2
          exact hf
        have hyc : wr.cell? ⟨w.heap.size + 1 + 1, k, none⟩ = some (.int .u8 (y.toNat : Int)) := by
          rw [HA1.out.cell, hy, ← Array.getElem?_toList]
          have : k = 0 ∨ k = 1 ∨ k = 2 ∨ k = 3 := by omega
          rcases this with rfl | rfl | rfl | rfl <;> rfl
        have HXY := Lib.hid (show upd L q [c0, c1, c2, c3] (k + 1) = (upd L q [c0, c1, c2, c3] k).set (q + k) (x ^^^ y) by rw [upd, ← hx, ← hy])
        have hb8 := b8_xor x y
        clear hx hy
        go_wp2_with fail
        go_region
        all_goals go_wp2_with fail
        all_goals
          go_roundw
          case rel =>
            have hv : Value.int .u8 ((x.toNat ^^^ y.toNat : Nat) : Int) = v8 (x ^^^ y) := by rw [v8, UInt8.toNat_xor]
            refine ⟨k + 1, by omega, by go_num, ?_, ?_, ?_, ?_⟩
            · rw [HXY.out, List.map_set, hv]
              exact HO1.out.put hpk _
            · exact HA1.out.far HGC.out _
            · exact HP1.out.far HGP.out _
            · exact (HB1.out.setCell HgB.out _).drew
          case measure => simp [intOf]; omega
      · have HK := Lib.hid (show Own wr w1.heap.size 5 (some ⟨g, 0, none⟩) 64 gc ((upd L q [c0, c1, c2, c3] 4).map v8) by rw [← show k = 4 by omega]; exact HO1.out)
        have hcv := conv_str wr 40 9 5 (some ⟨g, 0, none⟩) 64 gc _ Try.underlying40 Try.underlying5 HT1.out HK.out.rd (by rw [upd_length, HLL.out]) (by omega)
        obtain ⟨Z, hZ⟩ : ∃ Z, strB (upd L q [c0, c1, c2, c3] 4) = Z := ⟨_, rfl⟩
        have HZ := Lib.hid (show Z.data.toList = upd L q [c0, c1, c2, c3] 4 by rw [← hZ, strB_data])
        rw [hZ] at hcv
        clear hZ
        obtain ⟨p0, p1, p2⟩ := row3 HP1.out
        have hl1 : w.heap.size < wr.heap.size := HP1.out.lt
        go_wp2_with fail
        refine (sopen_any d a i Z _).mono ?_
        rintro x w3 ⟨rfl, hb⟩
        rw [HZ.out, HD.out]
        have HB3 := Lib.hid (below_call HB1.out hb)
        clear hb hcv p0 p1 p2 hl1
        go_wp2_with fail
        refine (sanity_any _).mono ?_
        rintro x w4 ⟨rfl, hb⟩
        have HB4 := Lib.hid (below_call (HB3.out.alloc HB3.out.size _) hb)
        clear hb
        go_wp2_with fail
        go_ret
        exact ⟨rfl, HB4.out⟩
theorem walk_SectorDamaged (d a i e c : Int) (p : ByteArray) (from_ : Int) (c0 c1 c2 c3 : UInt8) (w : World) {A : Prop} (hw1 : A) (hf1 : -9223372036854775808 ≤ from_) (hf2 : from_ ≤ 9223372036854775807) :
    Calls Try.prog 5 #[.agg #[.int .i64 d, .int .i64 a, .int .i64 i], .agg #[.int .i64 e, .int .i64 c], .string p, .int .i64 from_, .agg #[v8 c0, v8 c1, v8 c2, v8 c3]] w fun x w' => x = .returned (.bool true) ∧ Below w.heap.size w w' := by
  cases h : okS d a i e c p with
  | false => exact damaged_out1 d a i e c from_ p c0 c1 c2 c3 w h
  | true =>
    cases hz : ((c0.toNat : Int) == 0 && (c1.toNat : Int) == 0 && (c2.toNat : Int) == 0 && (c3.toNat : Int) == 0) with
    | true => exact damaged_out2 d a i e c from_ p c0 c1 c2 c3 w h true hz (.inl rfl)
    | false =>
      by_cases h1 : from_ < 0
      · exact damaged_out2 d a i e c from_ p c0 c1 c2 c3 w h false hz (.inr (.inl ⟨rfl, h1⟩))
      · by_cases h2 : 60 < from_
        · exact damaged_out2 d a i e c from_ p c0 c1 c2 c3 w h false hz (.inr (.inr (.inl ⟨rfl, by omega, h2⟩)))
        · by_cases h3 : 0 < from_ ∧ from_ < 4
          · exact damaged_out2 d a i e c from_ p c0 c1 c2 c3 w h false hz (.inr (.inr (.inr ⟨rfl, h3.1, h3.2⟩)))
          · exact damaged_in d a i e c from_ p c0 c1 c2 c3 w h hz (by omega)

/-! ### the frame: the arguments opened and shut -/
theorem contract_SectorDamaged (H : Type) (enc : TypeId × Value → H) (W : World) (base : Nat) (args : Array Value) (ds gs : List (DataW H)) (before : List MemPlace)
    (hval0 : ∀ (j : Nat) t v, Try.f5.params[j]? = some t → args[j]? = some v → Value.okWide Try.prog W .any base t v)
    (hW : DataW.Whole enc Try.prog Try.f5.params.toList Rows.sectorDamagedSpec.vars false W args.toList ds gs before) :
    Calls Try.prog 5 args W fun e W' => ∃ v, e = .returned v ∧ Rows.sectorDamagedSpec.post enc Try.prog Try.f5 false true false false W args v W' := by
  have hval : ∀ (j : Nat) t v, Try.f5.params[j]? = some t → args[j]? = some v → Value.okWide Try.prog W .any base t v := hval0
  have hW' := hW
  obtain ⟨p, q, hA0, hV, rfl, hfz, hnd⟩ := hW
  have hA : DataW.TrodAll enc Try.prog W 0 (fun _ => true) true Try.f5.params.toList args.toList ds p := hA0
  rw [Try.params5] at hA hval
  obtain ⟨v0, vs0, d0, ds0, p0, q0, hargs, rfl, rfl, h0, r0⟩ := trodAll_cons hA
  obtain ⟨v1, vs1, d1, ds1, p1, q1, rfl, rfl, rfl, h1, r1⟩ := trodAll_cons r0
  obtain ⟨v2, vs2, d2, ds2, p2, q2, rfl, rfl, rfl, h2, r2⟩ := trodAll_cons r1
  obtain ⟨v3, vs3, d3, ds3, p3, q3, rfl, rfl, rfl, h3, r3⟩ := trodAll_cons r2
  obtain ⟨v4, vs4, d4, ds4, p4, q4, rfl, rfl, rfl, h4, r4⟩ := trodAll_cons r3
  obtain ⟨rfl, rfl, rfl⟩ := trodAll_nil r4
  obtain rfl : args = #[v0, v1, v2, v3, v4] := by cases args; simp_all
  obtain ⟨rfl, rfl⟩ := trodVars_none hV
  have k0 := h0
  have lt0 : ∀ x ∈ p0, x.block < W.heap.size := by obtain ⟨m, hm⟩ := k0; exact DataW.trod_lt m _ _ _ hm
  have k1 := h1
  have lt1 : ∀ x ∈ p1, x.block < W.heap.size := by obtain ⟨m, hm⟩ := k1; exact DataW.trod_lt m _ _ _ hm
  have k2 := h2
  have lt2 : ∀ x ∈ p2, x.block < W.heap.size := by obtain ⟨m, hm⟩ := k2; exact DataW.trod_lt m _ _ _ hm
  have k3 := h3
  have lt3 : ∀ x ∈ p3, x.block < W.heap.size := by obtain ⟨m, hm⟩ := k3; exact DataW.trod_lt m _ _ _ hm
  have k4 := h4
  have lt4 : ∀ x ∈ p4, x.block < W.heap.size := by obtain ⟨m, hm⟩ := k4; exact DataW.trod_lt m _ _ _ hm
  obtain ⟨cs0, rfl, _⟩ := okWide_struct Try.underlying23 (hval 0 23 v0 rfl rfl)
  obtain ⟨fuel0, hf0⟩ := h0
  obtain ⟨d0x, a0x, j0x, hcs0, hd0x, ha0x, hj0x⟩ := open_place hf0
  obtain rfl : cs0 = #[.int .i64 d0x, .int .i64 a0x, .int .i64 j0x] := by apply Array.toList_inj.1; simpa [Value.cells] using hcs0
  obtain ⟨cs1, rfl, _⟩ := okWide_struct Try.underlying25 (hval 1 25 v1 rfl rfl)
  obtain ⟨fuel1, hf1⟩ := h1
  obtain ⟨e1x, c1x, hcs1, he1x, hc1x⟩ := open_gen hf1
  obtain rfl : cs1 = #[.int .i64 e1x, .int .i64 c1x] := by apply Array.toList_inj.1; simpa [Value.cells] using hcs1
  obtain ⟨n2, rfl, rfl, rfl, w2⟩ := _root_.Go.ChangeMaps.open_string Try.underlying9 (hval 2 9 v2 rfl rfl) h2
  obtain ⟨n3, rfl, rfl, rfl, w3⟩ := open_int Try.underlying3 (hval 3 3 v3 rfl rfl) h3
  obtain ⟨cs4, rfl, _⟩ := okWide_arr Try.underlying39 (hval 4 39 v4 rfl rfl)
  obtain ⟨fuel4, hf4⟩ := h4
  obtain ⟨ca4, cb4, cc4, cd4, hcs4⟩ := open_arr4 Try.underlying39 Try.underlying5 (by kernel_rfl) (by kernel_rfl) hf4
  obtain rfl : cs4 = #[v8 ca4, v8 cb4, v8 cc4, v8 cd4] := by apply Array.toList_inj.1; simpa [Value.cells] using hcs4
  refine (walk_SectorDamaged d0x a0x j0x e1x c1x n2 n3 ca4 cb4 cc4 cd4 W w2 (wf_i64 w3).1 (wf_i64 w3).2).mono fun e W' ⟨he, bel⟩ => ?_
  subst he
  exact ⟨_, rfl, _, _, _, [], _, [], hW', trodAll_mk1 (shut_bool Try.underlying4 _), (trodAll_cons_mk (Below.trod laidOut (by kernel_rfl) (of_decide_eq_true (by kernel_rfl)) k0 bel lt0) (trodAll_cons_mk (Below.trod laidOut (by kernel_rfl) (of_decide_eq_true (by kernel_rfl)) k1 bel lt1) (trodAll_cons_mk (Below.trod laidOut (by kernel_rfl) (of_decide_eq_true (by kernel_rfl)) k2 bel lt2) (trodAll_cons_mk (Below.trod laidOut (by kernel_rfl) (of_decide_eq_true (by kernel_rfl)) k3 bel lt3) (trodAll_cons_mk (Below.trod laidOut (by kernel_rfl) (of_decide_eq_true (by kernel_rfl)) k4 bel lt4) trodAll_mk0))))), rfl, bel.frame _, fun h => by cases h⟩

set_option maxRecDepth 100000 in
theorem lifted_SectorDamaged (os : Os) (started : os.Started) (H : Type) (enc : TypeId × Value → H) :
    ReturnsInHanded {} Try.checked os 5 .any (Rows.sectorDamagedSpec.pre6 enc Try.prog Try.f5 Rows.sectorDamagedRow.domain false) (Rows.sectorDamagedSpec.post enc Try.prog Try.f5 false true false false) := by
  refine returnsInHanded_of_change (C := Try.checked) own started (by kernel_rfl) Try.func5
    (ChangeSpec.witness6 (enc := enc) (C := Try.checked) false ⟨#[], #[.agg #[.int .i64 0, .int .i64 0, .int .i64 0], .agg #[.int .i64 0, .int .i64 0], .string .empty, .int .i64 0, .agg #[.int .u8 0, .int .u8 0, .int .u8 0, .int .u8 0]], []⟩ 8 (by kernel_rfl) (by kernel_rfl) (by kernel_rfl) (by kernel_rfl)) ?_
  intro W base args ds gs before hval hW _ _
  exact contract_SectorDamaged H enc W base args ds gs before hval hW

theorem proved_SectorDamaged : Rows.SectorDamagedSaid :=
  OpenClaim.holds_of_wide 5 Try.f5 rfl rfl rfl rfl rfl rfl rfl ⟨rfl, rfl, rfl, rfl, rfl⟩ rfl rfl rfl rfl rfl (by kernel_rfl) Try.func5 (by kernel_rfl)
    (of_decide_eq_true (by kernel_rfl)) (by unfold Func.isWrapper; first | (rw [if_pos (by decide +kernel)]; kernel_rfl) | (rw [if_neg (by decide +kernel)]; exact ⟨rfl, rfl⟩))
    (fun os started H enc _ => lifted_SectorDamaged os started H enc)
end Go.Proofs.Ytdkkoogcaininaa
