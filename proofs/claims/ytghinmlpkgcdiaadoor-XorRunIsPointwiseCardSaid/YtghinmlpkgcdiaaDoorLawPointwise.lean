/- XorRunIsPointwise: for every schedule and two lists of data units the statement returns true; the arguments read as they did. (Printed by mkpw.py.) -/
import Derived.Test.YtghinmlpkgcdiaaDoorXR
import Derived.Deep.RegionHeld3
import Derived.Deep.RegionLaw
import Derived.BigQuiet
namespace Go.Proofs.YtghinmlpkgcdiaaDoor
set_option linter.unusedSimpArgs false
set_option linter.unusedVariables false
open Go.ChangeShapes Go.WideShapes Go.ChangeAt Go.RowKit Go.Lib

abbrev pwC (f d p : Int) (qo : Option Addr) (no ko : Nat) (qx : Option Addr) (nx kx : Nat) (qa : Option Addr) (na ka : Nat) (qb : Option Addr) (nb kb : Nat) (qs : Option Addr) (ns ks : Nat) : Array Value :=
  #[.int .i64 f, .int .i64 d, .int .i64 p, .slice qo no ko, .slice qx nx kx, .slice qa na ka, .slice qb nb kb, .slice qs ns ks]
theorem pwbox {w : World} {g : Nat} {t : TypeId} {f d p : Int} {qo : Option Addr} {no ko : Nat} {qx : Option Addr} {nx kx : Nat} {qa : Option Addr} {na ka : Nat} {qb : Option Addr} {nb kb : Nat} {qs : Option Addr} {ns ks : Nat} (h : Row w g t (pwC f d p qo no ko qx nx kx qa na ka qb nb kb qs ns ks)) :
    w.cell? ⟨g, 0, none⟩ = some (.int .i64 f) ∧ w.cell? ⟨g, 1, none⟩ = some (.int .i64 d) ∧ w.cell? ⟨g, 2, none⟩ = some (.int .i64 p) ∧ w.cell? ⟨g, 3, none⟩ = some (.slice qo no ko) ∧ w.cell? ⟨g, 4, none⟩ = some (.slice qx nx kx) ∧ w.cell? ⟨g, 5, none⟩ = some (.slice qa na ka) ∧ w.cell? ⟨g, 6, none⟩ = some (.slice qb nb kb) :=
  ⟨h.cell 0, h.cell 1, h.cell 2, h.cell 3, h.cell 4, h.cell 5, h.cell 6⟩
set_option maxRecDepth 100000 in
set_option maxHeartbeats 6400000 in
theorem pw_0 (f d p : Int) (qo : Option Addr) (no ko : Nat) (qx : Option Addr) (nx kx : Nat) (ops : List (Int × Int)) (out : List Int) (qa : Option Addr) (na ka : Nat) (sa : List ByteArray) (qb : Option Addr) (nb kb : Nat) (sb : List ByteArray) (qs : Option Addr) (ns ks : Nat) (w : World) (ht : Tab w) (hs : SchIn w f d p qo no ko qx nx kx ops out) (ha : StrIn w qa na ka sa) (hb : StrIn w qb nb kb sb) (hf1 : few11 f d no nx = false) :
    Calls Tryd.prog 7 #[.agg (pwC f d p qo no ko qx nx kx qa na ka qb nb kb qs ns ks)] w fun e w' => e = .returned (.bool true) ∧ Below w.heap.size w w' := by
  have HB0 := Lib.hid ((Below.refl _ w).alloc (Nat.le_refl _) (.cells (pwC f d p qo no ko qx nx kx qa na ka qb nb kb qs ns ks) 51))
  have HX0 := Lib.hid (Row.new w 51 (pwC f d p qo no ko qx nx kx qa na ka qb nb kb qs ns ks))
  have HT := Lib.hid ht
  have HS := Lib.hid hs
  have HA := Lib.hid ha
  have HB := Lib.hid hb
  clear ht hs ha hb
  go_enter Tryd.func7, Tryd.ntmps7
  go_wp2_with fail
  refine (sanity11_any _ (HT.out.next HB0.out)).mono ?_
  rintro e v1 ⟨rfl, hb⟩
  have HB1 := Lib.hid (below_call HB0.out hb)
  have HX1 := Lib.hid (HX0.out.below hb (by first | exact HX0.out.lt | simp))
  clear hb
  obtain ⟨c0, c1, c2, c3, c4, c5, c6⟩ := pwbox HX1.out
  have h9 := few11_any f d p qo no ko qx nx kx v1
  rw [hf1] at h9
  unfold schV at h9
  go_wp2_with fail
  clear c0 c1 c2 c3 c4 c5 c6
  refine (h9).mono ?_
  rintro e v2 ⟨rfl, hb⟩
  have HB2 := Lib.hid (below_call HB1.out hb)
  have HX2 := Lib.hid (HX1.out.below hb (by first | exact HX1.out.lt | simp))
  clear hb
  obtain ⟨c0, c1, c2, c3, c4, c5, c6⟩ := pwbox HX2.out
  clear h9
  go_wp2
  go_ret
  exact ⟨rfl, HB2.out⟩
set_option maxRecDepth 100000 in
set_option maxHeartbeats 6400000 in
theorem pw_1 (f d p : Int) (qo : Option Addr) (no ko : Nat) (qx : Option Addr) (nx kx : Nat) (ops : List (Int × Int)) (out : List Int) (qa : Option Addr) (na ka : Nat) (sa : List ByteArray) (qb : Option Addr) (nb kb : Nat) (sb : List ByteArray) (qs : Option Addr) (ns ks : Nat) (w : World) (ht : Tab w) (hs : SchIn w f d p qo no ko qx nx kx ops out) (ha : StrIn w qa na ka sa) (hb : StrIn w qb nb kb sb) (hf1 : few11 f d no nx = true) (hf2 : few08 sa = false) :
    Calls Tryd.prog 7 #[.agg (pwC f d p qo no ko qx nx kx qa na ka qb nb kb qs ns ks)] w fun e w' => e = .returned (.bool true) ∧ Below w.heap.size w w' := by
  have HB0 := Lib.hid ((Below.refl _ w).alloc (Nat.le_refl _) (.cells (pwC f d p qo no ko qx nx kx qa na ka qb nb kb qs ns ks) 51))
  have HX0 := Lib.hid (Row.new w 51 (pwC f d p qo no ko qx nx kx qa na ka qb nb kb qs ns ks))
  have HT := Lib.hid ht
  have HS := Lib.hid hs
  have HA := Lib.hid ha
  have HB := Lib.hid hb
  clear ht hs ha hb
  go_enter Tryd.func7, Tryd.ntmps7
  go_wp2_with fail
  refine (sanity11_any _ (HT.out.next HB0.out)).mono ?_
  rintro e v1 ⟨rfl, hb⟩
  have HB1 := Lib.hid (below_call HB0.out hb)
  have HX1 := Lib.hid (HX0.out.below hb (by first | exact HX0.out.lt | simp))
  clear hb
  obtain ⟨c0, c1, c2, c3, c4, c5, c6⟩ := pwbox HX1.out
  have h9 := few11_any f d p qo no ko qx nx kx v1
  rw [hf1] at h9
  unfold schV at h9
  go_wp2_with fail
  clear c0 c1 c2 c3 c4 c5 c6
  refine (h9).mono ?_
  rintro e v2 ⟨rfl, hb⟩
  have HB2 := Lib.hid (below_call HB1.out hb)
  have HX2 := Lib.hid (HX1.out.below hb (by first | exact HX1.out.lt | simp))
  clear hb
  obtain ⟨c0, c1, c2, c3, c4, c5, c6⟩ := pwbox HX2.out
  clear h9
  have h9 := few08_any qa na ka sa v2 (HA.out.next HB2.out)
  rw [hf2] at h9
  go_wp2_with fail
  refine h9.mono ?_
  rintro e v9 ⟨rfl, e9⟩
  rw [e9]
  clear h9 e9 v9
  go_wp2
  go_ret
  exact ⟨rfl, HB2.out⟩
set_option maxRecDepth 100000 in
set_option maxHeartbeats 6400000 in
theorem pw_2 (f d p : Int) (qo : Option Addr) (no ko : Nat) (qx : Option Addr) (nx kx : Nat) (ops : List (Int × Int)) (out : List Int) (qa : Option Addr) (na ka : Nat) (sa : List ByteArray) (qb : Option Addr) (nb kb : Nat) (sb : List ByteArray) (qs : Option Addr) (ns ks : Nat) (w : World) (ht : Tab w) (hs : SchIn w f d p qo no ko qx nx kx ops out) (ha : StrIn w qa na ka sa) (hb : StrIn w qb nb kb sb) (hf1 : few11 f d no nx = true) (hf2 : few08 sa = true) (hf3 : few08 sb = false) :
    Calls Tryd.prog 7 #[.agg (pwC f d p qo no ko qx nx kx qa na ka qb nb kb qs ns ks)] w fun e w' => e = .returned (.bool true) ∧ Below w.heap.size w w' := by
  have HB0 := Lib.hid ((Below.refl _ w).alloc (Nat.le_refl _) (.cells (pwC f d p qo no ko qx nx kx qa na ka qb nb kb qs ns ks) 51))
  have HX0 := Lib.hid (Row.new w 51 (pwC f d p qo no ko qx nx kx qa na ka qb nb kb qs ns ks))
  have HT := Lib.hid ht
  have HS := Lib.hid hs
  have HA := Lib.hid ha
  have HB := Lib.hid hb
  clear ht hs ha hb
  go_enter Tryd.func7, Tryd.ntmps7
  go_wp2_with fail
  refine (sanity11_any _ (HT.out.next HB0.out)).mono ?_
  rintro e v1 ⟨rfl, hb⟩
  have HB1 := Lib.hid (below_call HB0.out hb)
  have HX1 := Lib.hid (HX0.out.below hb (by first | exact HX0.out.lt | simp))
  clear hb
  obtain ⟨c0, c1, c2, c3, c4, c5, c6⟩ := pwbox HX1.out
  have h9 := few11_any f d p qo no ko qx nx kx v1
  rw [hf1] at h9
  unfold schV at h9
  go_wp2_with fail
  clear c0 c1 c2 c3 c4 c5 c6
  refine (h9).mono ?_
  rintro e v2 ⟨rfl, hb⟩
  have HB2 := Lib.hid (below_call HB1.out hb)
  have HX2 := Lib.hid (HX1.out.below hb (by first | exact HX1.out.lt | simp))
  clear hb
  obtain ⟨c0, c1, c2, c3, c4, c5, c6⟩ := pwbox HX2.out
  clear h9
  have h9 := few08_any qa na ka sa v2 (HA.out.next HB2.out)
  rw [hf2] at h9
  go_wp2_with fail
  refine h9.mono ?_
  rintro e v9 ⟨rfl, e9⟩
  rw [e9]
  clear h9 e9 v9
  have h9 := few08_any qb nb kb sb v2 (HB.out.next HB2.out)
  rw [hf3] at h9
  go_wp2_with fail
  refine h9.mono ?_
  rintro e v9 ⟨rfl, e9⟩
  rw [e9]
  clear h9 e9 v9
  go_wp2
  go_ret
  exact ⟨rfl, HB2.out⟩
set_option maxRecDepth 100000 in
set_option maxHeartbeats 6400000 in
theorem pw_3a (f d p : Int) (qo : Option Addr) (no ko : Nat) (qx : Option Addr) (nx kx : Nat) (ops : List (Int × Int)) (out : List Int) (qa : Option Addr) (na ka : Nat) (sa : List ByteArray) (qb : Option Addr) (nb kb : Nat) (sb : List ByteArray) (qs : Option Addr) (ns ks : Nat) (w : World) (ht : Tab w) (hs : SchIn w f d p qo no ko qx nx kx ops out) (ha : StrIn w qa na ka sa) (hb : StrIn w qb nb kb sb) (hf1 : few11 f d no nx = true) (hf2 : few08 sa = true) (hf3 : few08 sb = true) (haca : Xp.acc f d p ops out sa = false) (hacb : Xp.acc f d p ops out sb = true) :
    Calls Tryd.prog 7 #[.agg (pwC f d p qo no ko qx nx kx qa na ka qb nb kb qs ns ks)] w fun e w' => e = .returned (.bool true) ∧ Below w.heap.size w w' := by
  obtain ⟨hno, hl24a, hsza⟩ : no ≤ 300 ∧ na ≤ 24 ∧ ∀ s ∈ sa, s.size ≤ 64 := by
    unfold few11 at hf1; unfold few08 at hf2
    simp only [Bool.and_eq_true, decide_eq_true_eq, List.all_eq_true] at hf1 hf2
    rw [ha.len] at hf2
    exact ⟨hf1.2, hf2.1, hf2.2⟩
  obtain ⟨hl24b, hszb⟩ : nb ≤ 24 ∧ ∀ s ∈ sb, s.size ≤ 64 := by
    unfold few08 at hf3
    simp only [Bool.and_eq_true, decide_eq_true_eq, List.all_eq_true] at hf3
    rw [hb.len] at hf3
    exact hf3
  have HSZA := Lib.hid hsza
  have HSZB := Lib.hid hszb
  clear hsza hszb
  have HB0 := Lib.hid ((Below.refl _ w).alloc (Nat.le_refl _) (.cells (pwC f d p qo no ko qx nx kx qa na ka qb nb kb qs ns ks) 51))
  have HX0 := Lib.hid (Row.new w 51 (pwC f d p qo no ko qx nx kx qa na ka qb nb kb qs ns ks))
  have HT := Lib.hid ht
  have HS := Lib.hid hs
  have HA := Lib.hid ha
  have HB := Lib.hid hb
  clear ht hs ha hb
  go_enter Tryd.func7, Tryd.ntmps7
  go_wp2_with fail
  refine (sanity11_any _ (HT.out.next HB0.out)).mono ?_
  rintro e v1 ⟨rfl, hb⟩
  have HB1 := Lib.hid (below_call HB0.out hb)
  have HX1 := Lib.hid (HX0.out.below hb (by first | exact HX0.out.lt | simp))
  clear hb
  obtain ⟨c0, c1, c2, c3, c4, c5, c6⟩ := pwbox HX1.out
  have h9 := few11_any f d p qo no ko qx nx kx v1
  rw [hf1] at h9
  unfold schV at h9
  go_wp2_with fail
  clear c0 c1 c2 c3 c4 c5 c6
  refine (h9).mono ?_
  rintro e v2 ⟨rfl, hb⟩
  have HB2 := Lib.hid (below_call HB1.out hb)
  have HX2 := Lib.hid (HX1.out.below hb (by first | exact HX1.out.lt | simp))
  clear hb
  obtain ⟨c0, c1, c2, c3, c4, c5, c6⟩ := pwbox HX2.out
  clear h9
  have h9 := few08_any qa na ka sa v2 (HA.out.next HB2.out)
  rw [hf2] at h9
  go_wp2_with fail
  refine h9.mono ?_
  rintro e v9 ⟨rfl, e9⟩
  rw [e9]
  clear h9 e9 v9
  have h9 := few08_any qb nb kb sb v2 (HB.out.next HB2.out)
  rw [hf3] at h9
  go_wp2_with fail
  refine h9.mono ?_
  rintro e v9 ⟨rfl, e9⟩
  rw [e9]
  clear h9 e9 v9
  have h9 := run_rej (kd := ka) v2 (HT.out.next HB2.out) (by omega) (HS.out.next HB2.out) HA.out.len (by omega) (HA.out.next HB2.out).rd (fun s hs => Nat.le_trans (HSZA.out s hs) (by decide)) haca
  unfold schV at h9
  go_wp2_with fail
  clear c0 c1 c2 c3 c4 c5 c6
  refine (h9).mono ?_
  rintro e v3 ⟨rfl, hb⟩
  have HB3 := Lib.hid (below_call HB2.out hb)
  have HX3 := Lib.hid (HX2.out.below hb (by first | exact HX2.out.lt | simp))
  clear hb
  obtain ⟨c0, c1, c2, c3, c4, c5, c6⟩ := pwbox HX3.out
  clear h9
  have h9 := run_acc (kd := kb) 0 v3 (HT.out.next HB3.out) (by omega) (HS.out.next HB3.out) HB.out.len (HB.out.next HB3.out).rd (fun s hs => Nat.le_trans (HSZB.out s hs) (by decide)) hacb
  unfold schV at h9
  go_wp2_with fail
  clear c0 c1 c2 c3 c4 c5 c6
  refine (h9).mono ?_
  rintro e v4 ⟨⟨pb, kb2, rfl, hob⟩, hb⟩
  have HRB := Lib.hid hob
  clear hob
  have HB4 := Lib.hid (below_call HB3.out hb)
  have HX4 := Lib.hid (HX3.out.below hb (by first | exact HX3.out.lt | simp))
  clear hb
  obtain ⟨c0, c1, c2, c3, c4, c5, c6⟩ := pwbox HX4.out
  clear h9
  go_wp2
  go_ret
  exact ⟨rfl, HB4.out⟩
set_option maxRecDepth 100000 in
set_option maxHeartbeats 6400000 in
theorem pw_3b (f d p : Int) (qo : Option Addr) (no ko : Nat) (qx : Option Addr) (nx kx : Nat) (ops : List (Int × Int)) (out : List Int) (qa : Option Addr) (na ka : Nat) (sa : List ByteArray) (qb : Option Addr) (nb kb : Nat) (sb : List ByteArray) (qs : Option Addr) (ns ks : Nat) (w : World) (ht : Tab w) (hs : SchIn w f d p qo no ko qx nx kx ops out) (ha : StrIn w qa na ka sa) (hb : StrIn w qb nb kb sb) (hf1 : few11 f d no nx = true) (hf2 : few08 sa = true) (hf3 : few08 sb = true) (haca : Xp.acc f d p ops out sa = false) (hacb : Xp.acc f d p ops out sb = false) :
    Calls Tryd.prog 7 #[.agg (pwC f d p qo no ko qx nx kx qa na ka qb nb kb qs ns ks)] w fun e w' => e = .returned (.bool true) ∧ Below w.heap.size w w' := by
  obtain ⟨hno, hl24a, hsza⟩ : no ≤ 300 ∧ na ≤ 24 ∧ ∀ s ∈ sa, s.size ≤ 64 := by
    unfold few11 at hf1; unfold few08 at hf2
    simp only [Bool.and_eq_true, decide_eq_true_eq, List.all_eq_true] at hf1 hf2
    rw [ha.len] at hf2
    exact ⟨hf1.2, hf2.1, hf2.2⟩
  obtain ⟨hl24b, hszb⟩ : nb ≤ 24 ∧ ∀ s ∈ sb, s.size ≤ 64 := by
    unfold few08 at hf3
    simp only [Bool.and_eq_true, decide_eq_true_eq, List.all_eq_true] at hf3
    rw [hb.len] at hf3
    exact hf3
  have HSZA := Lib.hid hsza
  have HSZB := Lib.hid hszb
  clear hsza hszb
  have HB0 := Lib.hid ((Below.refl _ w).alloc (Nat.le_refl _) (.cells (pwC f d p qo no ko qx nx kx qa na ka qb nb kb qs ns ks) 51))
  have HX0 := Lib.hid (Row.new w 51 (pwC f d p qo no ko qx nx kx qa na ka qb nb kb qs ns ks))
  have HT := Lib.hid ht
  have HS := Lib.hid hs
  have HA := Lib.hid ha
  have HB := Lib.hid hb
  clear ht hs ha hb
  go_enter Tryd.func7, Tryd.ntmps7
  go_wp2_with fail
  refine (sanity11_any _ (HT.out.next HB0.out)).mono ?_
  rintro e v1 ⟨rfl, hb⟩
  have HB1 := Lib.hid (below_call HB0.out hb)
  have HX1 := Lib.hid (HX0.out.below hb (by first | exact HX0.out.lt | simp))
  clear hb
  obtain ⟨c0, c1, c2, c3, c4, c5, c6⟩ := pwbox HX1.out
  have h9 := few11_any f d p qo no ko qx nx kx v1
  rw [hf1] at h9
  unfold schV at h9
  go_wp2_with fail
  clear c0 c1 c2 c3 c4 c5 c6
  refine (h9).mono ?_
  rintro e v2 ⟨rfl, hb⟩
  have HB2 := Lib.hid (below_call HB1.out hb)
  have HX2 := Lib.hid (HX1.out.below hb (by first | exact HX1.out.lt | simp))
  clear hb
  obtain ⟨c0, c1, c2, c3, c4, c5, c6⟩ := pwbox HX2.out
  clear h9
  have h9 := few08_any qa na ka sa v2 (HA.out.next HB2.out)
  rw [hf2] at h9
  go_wp2_with fail
  refine h9.mono ?_
  rintro e v9 ⟨rfl, e9⟩
  rw [e9]
  clear h9 e9 v9
  have h9 := few08_any qb nb kb sb v2 (HB.out.next HB2.out)
  rw [hf3] at h9
  go_wp2_with fail
  refine h9.mono ?_
  rintro e v9 ⟨rfl, e9⟩
  rw [e9]
  clear h9 e9 v9
  have h9 := run_rej (kd := ka) v2 (HT.out.next HB2.out) (by omega) (HS.out.next HB2.out) HA.out.len (by omega) (HA.out.next HB2.out).rd (fun s hs => Nat.le_trans (HSZA.out s hs) (by decide)) haca
  unfold schV at h9
  go_wp2_with fail
  clear c0 c1 c2 c3 c4 c5 c6
  refine (h9).mono ?_
  rintro e v3 ⟨rfl, hb⟩
  have HB3 := Lib.hid (below_call HB2.out hb)
  have HX3 := Lib.hid (HX2.out.below hb (by first | exact HX2.out.lt | simp))
  clear hb
  obtain ⟨c0, c1, c2, c3, c4, c5, c6⟩ := pwbox HX3.out
  clear h9
  have h9 := run_rej (kd := kb) v3 (HT.out.next HB3.out) (by omega) (HS.out.next HB3.out) HB.out.len (by omega) (HB.out.next HB3.out).rd (fun s hs => Nat.le_trans (HSZB.out s hs) (by decide)) hacb
  unfold schV at h9
  go_wp2_with fail
  clear c0 c1 c2 c3 c4 c5 c6
  refine (h9).mono ?_
  rintro e v4 ⟨rfl, hb⟩
  have HB4 := Lib.hid (below_call HB3.out hb)
  have HX4 := Lib.hid (HX3.out.below hb (by first | exact HX3.out.lt | simp))
  clear hb
  obtain ⟨c0, c1, c2, c3, c4, c5, c6⟩ := pwbox HX4.out
  clear h9
  go_wp2
  go_ret
  exact ⟨rfl, HB4.out⟩
set_option maxRecDepth 100000 in
set_option maxHeartbeats 6400000 in
theorem pw_4 (f d p : Int) (qo : Option Addr) (no ko : Nat) (qx : Option Addr) (nx kx : Nat) (ops : List (Int × Int)) (out : List Int) (qa : Option Addr) (na ka : Nat) (sa : List ByteArray) (qb : Option Addr) (nb kb : Nat) (sb : List ByteArray) (qs : Option Addr) (ns ks : Nat) (w : World) (ht : Tab w) (hs : SchIn w f d p qo no ko qx nx kx ops out) (ha : StrIn w qa na ka sa) (hb : StrIn w qb nb kb sb) (hf1 : few11 f d no nx = true) (hf2 : few08 sa = true) (hf3 : few08 sb = true) (haca : Xp.acc f d p ops out sa = true) (hacb : Xp.acc f d p ops out sb = false) :
    Calls Tryd.prog 7 #[.agg (pwC f d p qo no ko qx nx kx qa na ka qb nb kb qs ns ks)] w fun e w' => e = .returned (.bool true) ∧ Below w.heap.size w w' := by
  obtain ⟨hno, hl24a, hsza⟩ : no ≤ 300 ∧ na ≤ 24 ∧ ∀ s ∈ sa, s.size ≤ 64 := by
    unfold few11 at hf1; unfold few08 at hf2
    simp only [Bool.and_eq_true, decide_eq_true_eq, List.all_eq_true] at hf1 hf2
    rw [ha.len] at hf2
    exact ⟨hf1.2, hf2.1, hf2.2⟩
  obtain ⟨hl24b, hszb⟩ : nb ≤ 24 ∧ ∀ s ∈ sb, s.size ≤ 64 := by
    unfold few08 at hf3
    simp only [Bool.and_eq_true, decide_eq_true_eq, List.all_eq_true] at hf3
    rw [hb.len] at hf3
    exact hf3
  have HSZA := Lib.hid hsza
  have HSZB := Lib.hid hszb
  clear hsza hszb
  have HB0 := Lib.hid ((Below.refl _ w).alloc (Nat.le_refl _) (.cells (pwC f d p qo no ko qx nx kx qa na ka qb nb kb qs ns ks) 51))
  have HX0 := Lib.hid (Row.new w 51 (pwC f d p qo no ko qx nx kx qa na ka qb nb kb qs ns ks))
  have HT := Lib.hid ht
  have HS := Lib.hid hs
  have HA := Lib.hid ha
  have HB := Lib.hid hb
  clear ht hs ha hb
  go_enter Tryd.func7, Tryd.ntmps7
  go_wp2_with fail
  refine (sanity11_any _ (HT.out.next HB0.out)).mono ?_
  rintro e v1 ⟨rfl, hb⟩
  have HB1 := Lib.hid (below_call HB0.out hb)
  have HX1 := Lib.hid (HX0.out.below hb (by first | exact HX0.out.lt | simp))
  clear hb
  obtain ⟨c0, c1, c2, c3, c4, c5, c6⟩ := pwbox HX1.out
  have h9 := few11_any f d p qo no ko qx nx kx v1
  rw [hf1] at h9
  unfold schV at h9
  go_wp2_with fail
  clear c0 c1 c2 c3 c4 c5 c6
  refine (h9).mono ?_
  rintro e v2 ⟨rfl, hb⟩
  have HB2 := Lib.hid (below_call HB1.out hb)
  have HX2 := Lib.hid (HX1.out.below hb (by first | exact HX1.out.lt | simp))
  clear hb
  obtain ⟨c0, c1, c2, c3, c4, c5, c6⟩ := pwbox HX2.out
  clear h9
  have h9 := few08_any qa na ka sa v2 (HA.out.next HB2.out)
  rw [hf2] at h9
  go_wp2_with fail
  refine h9.mono ?_
  rintro e v9 ⟨rfl, e9⟩
  rw [e9]
  clear h9 e9 v9
  have h9 := few08_any qb nb kb sb v2 (HB.out.next HB2.out)
  rw [hf3] at h9
  go_wp2_with fail
  refine h9.mono ?_
  rintro e v9 ⟨rfl, e9⟩
  rw [e9]
  clear h9 e9 v9
  have h9 := run_acc (kd := ka) 0 v2 (HT.out.next HB2.out) (by omega) (HS.out.next HB2.out) HA.out.len (HA.out.next HB2.out).rd (fun s hs => Nat.le_trans (HSZA.out s hs) (by decide)) haca
  unfold schV at h9
  go_wp2_with fail
  clear c0 c1 c2 c3 c4 c5 c6
  refine (h9).mono ?_
  rintro e v3 ⟨⟨pa, ka2, rfl, hoa⟩, hb⟩
  have HRA := Lib.hid hoa
  clear hoa
  have HB3 := Lib.hid (below_call HB2.out hb)
  have HX3 := Lib.hid (HX2.out.below hb (by first | exact HX2.out.lt | simp))
  clear hb
  obtain ⟨c0, c1, c2, c3, c4, c5, c6⟩ := pwbox HX3.out
  clear h9
  have h9 := run_rej (kd := kb) v3 (HT.out.next HB3.out) (by omega) (HS.out.next HB3.out) HB.out.len (by omega) (HB.out.next HB3.out).rd (fun s hs => Nat.le_trans (HSZB.out s hs) (by decide)) hacb
  unfold schV at h9
  go_wp2_with fail
  clear c0 c1 c2 c3 c4 c5 c6
  refine (h9).mono ?_
  rintro e v4 ⟨rfl, hb⟩
  have HB4 := Lib.hid (below_call HB3.out hb)
  have HX4 := Lib.hid (HX3.out.below hb (by first | exact HX3.out.lt | simp))
  clear hb
  obtain ⟨c0, c1, c2, c3, c4, c5, c6⟩ := pwbox HX4.out
  clear h9
  go_wp2
  go_ret
  exact ⟨rfl, HB4.out⟩

/-- what is kept while a round goes on: the two lists and their elements -/
abbrev KP (g : Nat) (va vb : Value) (ba xa : Nat) (x : ByteArray) (bb xb : Nat) (y : ByteArray) (w0 wn : World) : Prop :=
  wn.cell? ⟨g, 5, none⟩ = some va ∧ wn.cell? ⟨g, 6, none⟩ = some vb ∧ wn.cell? ⟨ba, xa, none⟩ = some (.string x) ∧ wn.cell? ⟨bb, xb, none⟩ = some (.string y) ∧ Below w0.heap.size w0 wn
theorem KP.next {g : Nat} {va vb : Value} {ba xa : Nat} {x : ByteArray} {bb xb : Nat} {y : ByteArray} {w0 wn w' : World} (h : KP g va vb ba xa x bb xb y w0 wn) (hg : g < w0.heap.size) (ha : ba < w0.heap.size) (hbb : bb < w0.heap.size) (hb : Below w0.heap.size wn w') : KP g va vb ba xa x bb xb y w0 w' := by
  obtain ⟨h0, h1, h2, h3, h4⟩ := h
  exact ⟨(hb.cell (p := ⟨g, 5, none⟩) hg).trans h0, (hb.cell (p := ⟨g, 6, none⟩) hg).trans h1, (hb.cell (p := ⟨ba, xa, none⟩) ha).trans h2, (hb.cell (p := ⟨bb, xb, none⟩) hbb).trans h3, h4.trans hb⟩
theorem KP.drew {g : Nat} {va vb : Value} {ba xa : Nat} {x : ByteArray} {bb xb : Nat} {y : ByteArray} {w0 wn : World} (h : KP g va vb ba xa x bb xb y w0 wn) : KP g va vb ba xa x bb xb y w0 wn.drew := ⟨h.1, h.2.1, h.2.2.1, h.2.2.2.1, h.2.2.2.2.drew⟩
theorem zip_take {α β γ : Type} {f : α → β → γ} {A : List α} {B : List β} {t : Nat} {x : α} {y : β} (hx : A[t]? = some x) (hy : B[t]? = some y) : (List.zipWith f A B).take (t + 1) = (List.zipWith f A B).take t ++ [f x y] := by
  rw [List.take_add_one, List.getElem?_zipWith, hx, hy]; rfl
theorem strs_take {l : List ByteArray} {t : Nat} {x : ByteArray} (h : l.take (t + 1) = l.take t ++ [x]) : strs (l.take (t + 1)) = strs (l.take t) ++ [.string x] := by
  rw [h, strs, List.map_append]; rfl
theorem strB_app (a b : List UInt8) : strB a ++ strB b = strB (a ++ b) := by
  apply ByteArray.ext
  apply Array.toList_inj.1
  simp [strB]
theorem strsB_get {L : List (List UInt8)} {i : Nat} {u : List UInt8} (h : L[i]? = some u) : (strsB L)[i]? = some (.string (strB u)) := by
  unfold strsB; rw [List.getElem?_map, h]; rfl
set_option maxRecDepth 100000 in
set_option maxHeartbeats 6400000 in
theorem pw_5 (f d p : Int) (qo : Option Addr) (no ko : Nat) (qx : Option Addr) (nx kx : Nat) (ops : List (Int × Int)) (out : List Int) (qa : Option Addr) (na ka : Nat) (sa : List ByteArray) (qb : Option Addr) (nb kb : Nat) (sb : List ByteArray) (qs : Option Addr) (ns ks : Nat) (w : World) (ht : Tab w) (hs : SchIn w f d p qo no ko qx nx kx ops out) (ha : StrIn w qa na ka sa) (hb : StrIn w qb nb kb sb) (hf1 : few11 f d no nx = true) (hf2 : few08 sa = true) (hf3 : few08 sb = true) (haca : Xp.acc f d p ops out sa = true) (hacb : Xp.acc f d p ops out sb = true) (he : Xp.unitN sa = Xp.unitN sb) :
    Calls Tryd.prog 7 #[.agg (pwC f d p qo no ko qx nx kx qa na ka qb nb kb qs ns ks)] w fun e w' => e = .returned (.bool true) ∧ Below w.heap.size w w' := by
  obtain ⟨hno, hl24a, hsza⟩ : no ≤ 300 ∧ na ≤ 24 ∧ ∀ s ∈ sa, s.size ≤ 64 := by
    unfold few11 at hf1; unfold few08 at hf2
    simp only [Bool.and_eq_true, decide_eq_true_eq, List.all_eq_true] at hf1 hf2
    rw [ha.len] at hf2
    exact ⟨hf1.2, hf2.1, hf2.2⟩
  obtain ⟨hl24b, hszb⟩ : nb ≤ 24 ∧ ∀ s ∈ sb, s.size ≤ 64 := by
    unfold few08 at hf3
    simp only [Bool.and_eq_true, decide_eq_true_eq, List.all_eq_true] at hf3
    rw [hb.len] at hf3
    exact hf3
  have HSZA := Lib.hid hsza
  have HSZB := Lib.hid hszb
  clear hsza hszb
  obtain ⟨hlen, hD1, halla, hallb⟩ := pw_lens haca hacb
  rw [ha.len] at hD1
  rw [ha.len, hb.len] at hlen
  subst hlen
  obtain ⟨hJ1, hJ2⟩ := par_join haca hacb
  obtain ⟨hS1, hS2⟩ := par_xor haca hacb he
  have HXE := Lib.hid (fun x (hx : x ∈ sa) y (hy : y ∈ sb) => show xorE x y = 0 by unfold xorE; rw [if_pos ((halla x hx).trans (he.trans (hallb y hy).symm))])
  obtain ⟨ZJ, hZJ⟩ : ∃ Z, List.zipWith (· ++ ·) sa sb = Z := ⟨_, rfl⟩
  obtain ⟨ZS, hZS⟩ : ∃ Z, List.zipWith (fun a b => strB (xorS a b)) sa sb = Z := ⟨_, rfl⟩
  obtain ⟨PA, hPA⟩ : ∃ l, Xp.parity f p ops out sa = l := ⟨_, rfl⟩
  obtain ⟨PB, hPB⟩ : ∃ l, Xp.parity f p ops out sb = l := ⟨_, rfl⟩
  obtain ⟨PN, hPN⟩ : ∃ n, p.toNat = n := ⟨_, rfl⟩
  have HLA := Lib.hid (show PA.length = PN by rw [← hPA, parity_length, hPN])
  have HLB := Lib.hid (show PB.length = PN by rw [← hPB, parity_length, hPN])
  have HUA := Lib.hid (fun u (hu : u ∈ PA) => show u.length = Xp.unitN sa from parity_sizes (by rw [hPA]; exact hu))
  have HUB := Lib.hid (fun u (hu : u ∈ PB) => show u.length = Xp.unitN sb from parity_sizes (by rw [hPB]; exact hu))
  have hsN : Xp.unitN sa ≤ 64 ∧ Xp.unitN sb ≤ 64 := by
    have h0 : 0 < sa.length := by rw [ha.len]; omega
    have h0' : 0 < sb.length := by rw [hb.len]; omega
    rw [← halla _ (List.getElem_mem h0), ← hallb _ (List.getElem_mem h0')]
    exact ⟨HSZA.out _ (List.getElem_mem h0), HSZB.out _ (List.getElem_mem h0')⟩
  have HZJL := Lib.hid (show ZJ.length = na by rw [← hZJ, List.length_zipWith, ha.len, hb.len]; omega)
  have HZSL := Lib.hid (show ZS.length = na by rw [← hZS, List.length_zipWith, ha.len, hb.len]; omega)
  have HZJS := Lib.hid (show ∀ s ∈ ZJ, s.size ≤ 1000 by
    rw [← hZJ]; intro s hs
    obtain ⟨x, hx, y, hy, rfl⟩ := mem_zip hs
    have := HSZA.out x hx; have := HSZB.out y hy
    rw [ByteArray.size_append]; omega)
  have HZSS := Lib.hid (show ∀ s ∈ ZS, s.size ≤ 1000 by
    rw [← hZS]; intro s hs
    obtain ⟨x, hx, y, hy, rfl⟩ := mem_zip hs
    have := HSZA.out x hx; have := HSZB.out y hy
    have e1 : x.data.toList.length = x.size := by rw [Array.length_toList]; rfl
    have e2 : y.data.toList.length = y.size := by rw [Array.length_toList]; rfl
    rw [strB_size]; unfold xorS
    split
    · rw [Fld.xorL_length (by omega)]; omega
    · simp)
  have HZJT := Lib.hid (fun t x y (hx : sa[t]? = some x) (hy : sb[t]? = some y) => show ZJ.take (t + 1) = ZJ.take t ++ [x ++ y] by rw [← hZJ]; exact zip_take hx hy)
  have HZST := Lib.hid (fun t x y (hx : sa[t]? = some x) (hy : sb[t]? = some y) => show ZS.take (t + 1) = ZS.take t ++ [strB (xorS x y)] by rw [← hZS]; exact zip_take (f := fun a b => strB (xorS a b)) hx hy)
  rw [hZJ, hPA, hPB] at hJ2
  rw [hZJ] at hJ1
  rw [hZS, hPA, hPB] at hS2
  rw [hZS] at hS1
  have HSA := Lib.hid hS1
  have HSP := Lib.hid hS2
  clear hS1 hS2
  have HJA := Lib.hid hJ1
  have HJP := Lib.hid hJ2
  have HPN := Lib.hid hPN
  have hp32 : PN ≤ 32 := by
    obtain ⟨m, D, P, NS, rfl, rfl, rfl, hm, hD, hlD, hn, hall, hok⟩ := acc_parts haca
    unfold Xp.okS Xp.headOk at hok
    simp only [Bool.and_eq_true, decide_eq_true_eq] at hok
    omega
  have HPA := Lib.hid hPA
  have HPB := Lib.hid hPB
  have HEE := Lib.hid he
  clear hJ1 hJ2 hZJ hZS hPA hPB halla hallb he
  have HB0 := Lib.hid ((Below.refl _ w).alloc (Nat.le_refl _) (.cells (pwC f d p qo no ko qx nx kx qa na ka qb na kb qs ns ks) 51))
  have HX0 := Lib.hid (Row.new w 51 (pwC f d p qo no ko qx nx kx qa na ka qb na kb qs ns ks))
  have HT := Lib.hid ht
  have HS := Lib.hid hs
  have HA := Lib.hid ha
  have HB := Lib.hid hb
  clear ht hs ha hb
  go_enter Tryd.func7, Tryd.ntmps7
  go_wp2_with fail
  refine (sanity11_any _ (HT.out.next HB0.out)).mono ?_
  rintro e v1 ⟨rfl, hb⟩
  have HB1 := Lib.hid (below_call HB0.out hb)
  have HX1 := Lib.hid (HX0.out.below hb (by first | exact HX0.out.lt | simp))
  clear hb
  obtain ⟨c0, c1, c2, c3, c4, c5, c6⟩ := pwbox HX1.out
  have h9 := few11_any f d p qo no ko qx nx kx v1
  rw [hf1] at h9
  unfold schV at h9
  go_wp2_with fail
  clear c0 c1 c2 c3 c4 c5 c6
  refine (h9).mono ?_
  rintro e v2 ⟨rfl, hb⟩
  have HB2 := Lib.hid (below_call HB1.out hb)
  have HX2 := Lib.hid (HX1.out.below hb (by first | exact HX1.out.lt | simp))
  clear hb
  obtain ⟨c0, c1, c2, c3, c4, c5, c6⟩ := pwbox HX2.out
  clear h9
  have h9 := few08_any qa na ka sa v2 (HA.out.next HB2.out)
  rw [hf2] at h9
  go_wp2_with fail
  refine h9.mono ?_
  rintro e v9 ⟨rfl, e9⟩
  rw [e9]
  clear h9 e9 v9
  have h9 := few08_any qb na kb sb v2 (HB.out.next HB2.out)
  rw [hf3] at h9
  go_wp2_with fail
  refine h9.mono ?_
  rintro e v9 ⟨rfl, e9⟩
  rw [e9]
  clear h9 e9 v9
  have h9 := run_acc (kd := ka) 0 v2 (HT.out.next HB2.out) (by omega) (HS.out.next HB2.out) HA.out.len (HA.out.next HB2.out).rd (fun s hs => Nat.le_trans (HSZA.out s hs) (by decide)) haca
  rw [HPN.out, HPA.out] at h9
  unfold schV at h9
  go_wp2_with fail
  clear c0 c1 c2 c3 c4 c5 c6
  refine (h9).mono ?_
  rintro e v3 ⟨⟨pa, ka2, rfl, hoa⟩, hb⟩
  have HRA := Lib.hid hoa
  clear hoa
  have HB3 := Lib.hid (below_call HB2.out hb)
  have HX3 := Lib.hid (HX2.out.below hb (by first | exact HX2.out.lt | simp))
  clear hb
  obtain ⟨c0, c1, c2, c3, c4, c5, c6⟩ := pwbox HX3.out
  clear h9
  have h9 := run_acc (kd := kb) 0 v3 (HT.out.next HB3.out) (by omega) (HS.out.next HB3.out) HB.out.len (HB.out.next HB3.out).rd (fun s hs => Nat.le_trans (HSZB.out s hs) (by decide)) hacb
  rw [HPN.out, HPB.out] at h9
  unfold schV at h9
  go_wp2_with fail
  clear c0 c1 c2 c3 c4 c5 c6
  refine (h9).mono ?_
  rintro e v4 ⟨⟨pb, kb2, rfl, hob⟩, hb⟩
  have HRB := Lib.hid hob
  have HRA := Lib.hid (HRA.out.below hb)
  clear hob
  have HB4 := Lib.hid (below_call HB3.out hb)
  have HX4 := Lib.hid (HX3.out.below hb (by first | exact HX3.out.lt | simp))
  clear hb
  obtain ⟨c0, c1, c2, c3, c4, c5, c6⟩ := pwbox HX4.out
  clear h9
  clear hPN haca hacb
  have hz4 : w.heap.size < v4.heap.size := HX4.out.lt
  go_wp2_with fail
  clear c0 c1 c2 c3 c4 c5 c6
  go_loopw [8, 9, 10, 11] (fun J S E i wr => ∃ (t : Nat) (qj : Option Addr) (kj : Nat) (qs2 : Option Addr) (ks2 : Nat) (BQ : Bool), t ≤ na ∧ i = .int .i64 t ∧ J = .slice qj t kj ∧ S = .slice qs2 t ks2 ∧ E = .bool BQ ∧ BQ = true ∧ Own wr v4.heap.size 9 qj t kj (strs (ZJ.take t)) ∧ Own wr v4.heap.size 9 qs2 t ks2 (strs (ZS.take t)) ∧ Apart qj qs2 ∧ Below v4.heap.size v4 wr) (fun _ _ _ i _ => na - (intOf i).toNat)
  case atStart => exact ⟨0, none, 0, none, 0, true, Nat.zero_le _, rfl, rfl, rfl, rfl, rfl, Own.nil _ _ _, Own.nil _ _ _, Apart.none_left _, Below.refl _ _⟩
  case round =>
    obtain ⟨t, qj, kj, qs2, ks2, BQ, htn, rfl, rfl, rfl, rfl, hbq, hoj, hos, hap, hb⟩ := hrel
    have HOJ := Lib.hid hoj
    have HOS := Lib.hid hos
    have HAP := Lib.hid hap
    have HBL := Lib.hid hb
    have hswr := hb.size
    clear hoj hos hap hb
    subst hbq
    obtain ⟨c0, c1, c2, c3, c4, c5, c6⟩ := pwbox (HX4.out.below HBL.out HX4.out.lt)
    by_cases hlt : t < na
    · have hd : decide ((t : Int) < na) = true := decide_eq_true (by omega)
      have HBWR := Lib.hid (HB4.out.trans (HBL.out.mono HB4.out.size))
      obtain ⟨x, hx⟩ : ∃ x, sa[t]? = some x := ⟨_, List.getElem?_eq_getElem (by rw [HA.out.len]; exact hlt)⟩
      obtain ⟨y, hy⟩ : ∃ y, sb[t]? = some y := ⟨_, List.getElem?_eq_getElem (by rw [HB.out.len]; exact hlt)⟩
      obtain ⟨ba, oa, rfl, hba, hca⟩ := (HA.out.rd.below HBWR.out) t (.string x) (by rw [strs, List.getElem?_map, hx]; rfl)
      obtain ⟨bb, ob, rfl, hbb, hcb⟩ := (HB.out.rd.below HBWR.out) t (.string y) (by rw [strs, List.getElem?_map, hy]; rfl)
      have HZT := Lib.hid (strs_take (HZJT.out t x y hx hy))
      have HZT2 := Lib.hid (strs_take (HZST.out t x y hx hy))
      have hxs := HSZA.out x (List.mem_of_getElem? hx)
      have hys := HSZB.out y (List.mem_of_getElem? hy)
      have HFX := Lib.hid (fun W => show Calls Tryd.prog 26 #[.string x, .string y] W fun e w' => e = .returned (.tuple #[.string (strB (xorS x y)), .int .i64 0]) ∧ Below W.heap.size W w' from by
        have h9 := fxor_any x y W (by omega) (by omega)
        unfold pairS at h9
        rw [HXE.out x (List.mem_of_getElem? hx) y (List.mem_of_getElem? hy)] at h9
        exact h9)
      obtain ⟨Z, hZ⟩ : ∃ Z, strB (xorS x y) = Z := ⟨_, rfl⟩
      rw [hZ] at HFX HZT2
      have HS0 : Hid (KP w.heap.size (.slice (some ⟨ba, oa, none⟩) na ka) (.slice (some ⟨bb, ob, none⟩) na kb) ba (oa + t) x bb (ob + t) y v4 wr) := Lib.hid ⟨c5, c6, hca, hcb, HBL.out⟩
      have hba4 : ba < v4.heap.size := by omega
      have hbb4 : bb < v4.heap.size := by omega
      clear hx hy hZ
      have hcat : ¬ (9223372036854775807 < x.size + y.size) := by omega
      clear c0 c1 c2 c3 c4
      go_wp2_with fail
      go_region_held3 (fun wn => wn.cell? ⟨w.heap.size, 5, none⟩ = some (.slice (some ⟨ba, oa, none⟩) na ka) ∧ wn.cell? ⟨w.heap.size, 6, none⟩ = some (.slice (some ⟨bb, ob, none⟩) na kb) ∧ wn.cell? ⟨ba, oa + t, none⟩ = some (.string x) ∧ wn.cell? ⟨bb, ob + t, none⟩ = some (.string y) ∧ Below v4.heap.size v4 wn) (first | exact HS1.out | exact KP.drew HS0.out | exact KP.drew (KP.next HS0.out hz4 hba4 hbb4 ((Below.refl _ _).alloc hswr _)) | assumption) (first
        | (refine step_app2 rfl (.tmp 70) (.tmp 82) 36 rfl v4.heap.size 9 (.string ⟨#[]⟩) 16 Tryd.underlying36 make_strs rfl qj t kj _ rfl ((HOJ.out.alloc _).drewN 1) _ (some ⟨wr.heap.size, 0, none⟩) 1 1 [.string (x ++ y)] rfl ((Rd.one wr _ _).drewN 1) rfl (by intro u hu; simp only [List.mem_singleton] at hu; subst hu; rfl) (by unfold maxLen; omega) (by omega) (by simp; omega) ?_; intro a2 c2 w2 ho hg hn; have HOJ2 := Lib.hid ho; have HOS2 := Lib.hid (((HOS.out.alloc _).drewN 1).apart hg HAP.out.symm ((HOJ.out.alloc _).drewN 1)); have HAP2 := Lib.hid (HAP.out.grown ((HOS.out.alloc _).drewN 1) hn); have HS1 := Lib.hid (KP.next (KP.drew (KP.next HS0.out hz4 hba4 hbb4 ((Below.refl _ _).alloc hswr _))) hz4 hba4 hbb4 (below_grown2 (Below.refl _ _) hg ((HOJ.out.alloc _).drewN 1) (by simp; omega) (Nat.le_refl _))); clear ho hg hn))
      clear HS0 HOJ HOS HAP
      have HS0 := Lib.hid HS1.out
      clear HS1
      obtain ⟨q5, q6, qx', qy', hbl⟩ := HS0.out
      have hsw2 := hbl.size
      clear hbl c5 c6 hca hcb
      go_wp2_with fail
      go_region_held3 (fun wn => wn.cell? ⟨w.heap.size, 5, none⟩ = some (.slice (some ⟨ba, oa, none⟩) na ka) ∧ wn.cell? ⟨w.heap.size, 6, none⟩ = some (.slice (some ⟨bb, ob, none⟩) na kb) ∧ wn.cell? ⟨ba, oa + t, none⟩ = some (.string x) ∧ wn.cell? ⟨bb, ob + t, none⟩ = some (.string y) ∧ Below v4.heap.size v4 wn) (first | exact HS1.out | exact KP.drew HS0.out | assumption) (first
        | (go_at_call 26; ((with_reducible refine (HFX.out _).mono ?_)); rintro e5 w3 ⟨rfl, hb5⟩; have HS1 := Lib.hid (KP.next (KP.drew HS0.out) hz4 hba4 hbb4 (hb5.mono (show v4.heap.size ≤ w2.drew.heap.size from hsw2))); have HOJ3 := Lib.hid ((HOJ2.out.drewN 1).below hb5); have HOS3 := Lib.hid ((HOS2.out.drewN 1).below hb5); clear hb5))
      clear HS0 HOJ2 HOS2 q5 q6 qx' qy'
      have HB3 := Lib.hid (show Below v4.heap.size v4 w3 from HS1.out.2.2.2.2)
      have hsw3 := HB3.out.size
      clear HS1
      go_wp2_with (refine wpList_app2 _ rfl (.tmp 103) (.tmp 105) 36 rfl v4.heap.size 9 (.string ⟨#[]⟩) 16 Tryd.underlying36 make_strs rfl qs2 t ks2 _ rfl (HOS3.out.alloc _) _ (some ⟨w3.heap.size, 0, none⟩) 1 1 [.string Z] rfl (Rd.one w3 _ _) rfl (by intro u hu; simp only [List.mem_singleton] at hu; subst hu; rfl) (by unfold maxLen; omega) (by omega) (by simp; omega) ?_; intro a4 c4 w4 ho hg hn; have HOS4 := Lib.hid ho; have HOJ4 := Lib.hid ((HOJ3.out.alloc _).apart hg HAP2.out (HOS3.out.alloc _)); have HAP4 := Lib.hid ((HAP2.out.symm.grown (HOJ3.out.alloc _) hn).symm); have HB4' := Lib.hid (below_grown2 (HB3.out.alloc hsw3 _) hg (HOS3.out.alloc _) (by simp; omega) (Nat.le_refl _)); clear ho hg hn)
      go_roundw
      case rel => exact ⟨t + 1, a2, c2, a4, c4, _, by omega, by go_num, rfl, rfl, rfl, rfl, by rw [HZT.out]; exact HOJ4.out, by rw [HZT2.out]; exact HOS4.out, HAP4.out, HB4'.out⟩
      case measure => simp [intOf]; omega
    · obtain ⟨wo, rfl⟩ : ∃ wo : World, wo = wr := ⟨_, rfl⟩
      have hd : decide ((t : Int) < na) = false := decide_eq_false (by omega)
      have e1 : t = na := by omega
      have HBWR := Lib.hid (HB4.out.trans (HBL.out.mono HB4.out.size))
      have HX5 := Lib.hid (HX4.out.below HBL.out HX4.out.lt)
      have HOJ5 := Lib.hid (show Own wo v4.heap.size 9 qj t kj (strs ZJ) by
        have := HOJ.out
        rwa [List.take_of_length_le (by rw [HZJL.out]; omega)] at this)
      have HOS5 := Lib.hid (show Own wo v4.heap.size 9 qs2 t ks2 (strs ZS) by
        have := HOS.out
        rwa [List.take_of_length_le (by rw [HZSL.out]; omega)] at this)
      have HRA5 := Lib.hid (HRA.out.below HBL.out)
      have HRB5 := Lib.hid (HRB.out.below HBL.out)
      have h9 := run_acc (kd := kj) 0 wo (HT.out.next HBWR.out) (by omega) (HS.out.next HBWR.out) (HZJL.out.trans e1.symm) HOJ5.out.rd HZJS.out HJA.out
      rw [HPN.out, HJP.out] at h9
      unfold schV at h9
      have HLT := Lib.hid (HZSL.out.trans e1.symm)
      clear e1
      go_wp2_with fail
      clear c0 c1 c2 c3 c4 c5 c6
      refine h9.mono ?_
      rintro e v6 ⟨⟨pc, kc, rfl, hoc⟩, hb6⟩
      have HRC6 := Lib.hid hoc
      have HRA6 := Lib.hid (HRA5.out.below hb6)
      have HRB6 := Lib.hid (HRB5.out.below hb6)
      have HOS6 := Lib.hid (HOS5.out.below hb6)
      have HB6 := Lib.hid (below_call HBWR.out hb6)
      have HX6 := Lib.hid (HX5.out.below hb6 HX5.out.lt)
      clear h9 hoc hb6 HOJ5 HOS5 HRA5 HRB5 hd HOJ HOS HRA HRB
      obtain ⟨c0, c1, c2, c3, c4, c5, c6⟩ := pwbox HX6.out
      go_wp2_with fail
      go_loopw [16] (fun i wr => ∃ k : Nat, k ≤ PN ∧ i = .int .i64 k ∧ Below v6.heap.size v6 wr) (fun i _ => PN - (intOf i).toNat)
      case atStart => exact ⟨0, Nat.zero_le _, rfl, Below.refl _ _⟩
      case round =>
        obtain ⟨k, hk, rfl, hb⟩ := hrel
        have HBK := Lib.hid hb
        clear hb
        by_cases hkl : k < PN
        · have hd : decide ((k : Int) < PN) = true := decide_eq_true (by omega)
          obtain ⟨u, hu⟩ : ∃ u, PA[k]? = some u := ⟨_, List.getElem?_eq_getElem (by rw [HLA.out]; exact hkl)⟩
          obtain ⟨v, hv⟩ : ∃ v, PB[k]? = some v := ⟨_, List.getElem?_eq_getElem (by rw [HLB.out]; exact hkl)⟩
          obtain ⟨ga, rfl, _, hga, ca, _⟩ := HRA6.out.at_ (k := k) (by omega)
          obtain ⟨gb, rfl, _, hgb, cb, _⟩ := HRB6.out.at_ (k := k) (by omega)
          obtain ⟨gc, rfl, _, hgc, cc, _⟩ := HRC6.out.at_ (k := k) (by omega)
          rw [strsB_get hu] at ca
          rw [strsB_get hv] at cb
          rw [strsB_get (show (List.zipWith (· ++ ·) PA PB)[k]? = some (u ++ v) by rw [List.getElem?_zipWith, hu, hv]), ← strB_app] at cc
          obtain ⟨su, hsu⟩ : ∃ su, strB u = su := ⟨_, rfl⟩
          obtain ⟨sv, hsv⟩ : ∃ sv, strB v = sv := ⟨_, rfl⟩
          have hl1 : su.size ≤ 64 := by rw [← hsu, strB_size, HUA.out u (List.mem_of_getElem? hu)]; exact hsN.1
          have hl2 : sv.size ≤ 64 := by rw [← hsv, strB_size, HUB.out v (List.mem_of_getElem? hv)]; exact hsN.2
          rw [hsu] at ca cc
          rw [hsv] at cb cc
          have ca := (HBK.out.cell (p := ⟨ga, k, none⟩) hga).trans ca
          have cb := (HBK.out.cell (p := ⟨gb, k, none⟩) hgb).trans cb
          have cc := (HBK.out.cell (p := ⟨gc, k, none⟩) hgc).trans cc
          clear hu hv hsu hsv
          go_wp2_with fail
          go_quiet (fail)
          go_wp2
          go_roundw
          case rel => exact ⟨k + 1, by omega, by go_num, below_drewN HBK.out _⟩
          case measure => simp [intOf]; omega
        · have hd : decide ((k : Int) < PN) = false := decide_eq_false (by omega)
          have hd2 : decide (k < PN) = false := decide_eq_false (by omega)
          obtain ⟨wx, rfl⟩ : ∃ wo : World, wo = wr := ⟨_, rfl⟩
          have HB6 := Lib.hid (HB6.out.trans (HBK.out.mono HB6.out.size))
          have HRA6 := Lib.hid (HRA6.out.below HBK.out)
          have HRB6 := Lib.hid (HRB6.out.below HBK.out)
          have HOS6 := Lib.hid (HOS6.out.below HBK.out)
          have HX6 := Lib.hid (HX6.out.below HBK.out HX6.out.lt)
          clear hk hkl HBK c0 c1 c2 c3 c4 c5 c6
          obtain ⟨c0, c1, c2, c3, c4, c5, c6⟩ := pwbox HX6.out
          have h9 := run_acc (kd := ks2) 0 wx (HT.out.next HB6.out) (by omega) (HS.out.next HB6.out) HLT.out HOS6.out.rd HZSS.out HSA.out
          rw [HPN.out, HSP.out] at h9
          unfold schV at h9
          go_wp2_with fail
          clear c0 c1 c2 c3 c4 c5 c6
          refine h9.mono ?_
          rintro e v7 ⟨⟨pd, kd7, rfl, hod⟩, hb7⟩
          have HRD7 := Lib.hid hod
          have HRA7 := Lib.hid (HRA6.out.below hb7)
          have HRB7 := Lib.hid (HRB6.out.below hb7)
          have HB7 := Lib.hid (below_call HB6.out hb7)
          clear h9 hod hb7 HRC6 HOS6 hd HRA6 HRB6
          go_wp2_with fail
          go_loopw [19] (fun i wr => ∃ k : Nat, k ≤ PN ∧ i = .int .i64 k ∧ Below v7.heap.size v7 wr) (fun i _ => PN - (intOf i).toNat)
          case atStart => exact ⟨0, Nat.zero_le _, rfl, Below.refl _ _⟩
          case round =>
            obtain ⟨k, hk, rfl, hb⟩ := hrel
            have HBK := Lib.hid hb
            clear hb
            by_cases hkl : k < PN
            · have hd : decide ((k : Int) < PN) = true := decide_eq_true (by omega)
              obtain ⟨u, hu⟩ : ∃ u, PA[k]? = some u := ⟨_, List.getElem?_eq_getElem (by rw [HLA.out]; exact hkl)⟩
              obtain ⟨v, hv⟩ : ∃ v, PB[k]? = some v := ⟨_, List.getElem?_eq_getElem (by rw [HLB.out]; exact hkl)⟩
              obtain ⟨ga, rfl, _, hga, ca, _⟩ := HRA7.out.at_ (k := k) (by omega)
              obtain ⟨gb, rfl, _, hgb, cb, _⟩ := HRB7.out.at_ (k := k) (by omega)
              obtain ⟨gd, rfl, _, hgd, cd, _⟩ := HRD7.out.at_ (k := k) (by omega)
              rw [strsB_get hu] at ca
              rw [strsB_get hv] at cb
              rw [strsB_get (show (List.zipWith Fld.xorL PA PB)[k]? = some (Fld.xorL u v) by rw [List.getElem?_zipWith, hu, hv])] at cd
              have hu1 := HUA.out u (List.mem_of_getElem? hu)
              have hv1 := HUB.out v (List.mem_of_getElem? hv)
              have HFX := Lib.hid (fun W => show Calls Tryd.prog 26 #[.string (strB u), .string (strB v)] W fun e w' => e = .returned (.tuple #[.string (strB (Fld.xorL u v)), .int .i64 0]) ∧ Below W.heap.size W w' from by
                have h9 := fxor_any (strB u) (strB v) W (by rw [strB_size]; omega) (by rw [strB_size]; omega)
                unfold pairS at h9
                have e : (strB u).size = (strB v).size := by rw [strB_size, strB_size, hu1, hv1, HEE.out]
                rw [show xorE (strB u) (strB v) = 0 by unfold xorE; rw [if_pos e], show xorS (strB u) (strB v) = Fld.xorL u v by unfold xorS; rw [if_pos e, strB_data, strB_data]] at h9
                exact h9)
              obtain ⟨Z, hZ⟩ : ∃ Z, strB (Fld.xorL u v) = Z := ⟨_, rfl⟩
              obtain ⟨su, hsu⟩ : ∃ su, strB u = su := ⟨_, rfl⟩
              obtain ⟨sv, hsv⟩ : ∃ sv, strB v = sv := ⟨_, rfl⟩
              rw [hZ, hsu, hsv] at HFX
              rw [hsu] at ca
              rw [hsv] at cb
              rw [hZ] at cd
              have HS0 : Hid (wr.cell? ⟨ga, k, none⟩ = some (.string su) ∧ wr.cell? ⟨gb, k, none⟩ = some (.string sv) ∧ Below v7.heap.size v7 wr) := Lib.hid ⟨(HBK.out.cell (p := ⟨ga, k, none⟩) hga).trans ca, (HBK.out.cell (p := ⟨gb, k, none⟩) hgb).trans cb, HBK.out⟩
              have hswr := HBK.out.size
              clear hu hv hsu hsv hZ hu1 hv1 ca cb
              obtain ⟨ca, cb, _⟩ := HS0.out
              go_wp2_with fail
              go_region_held3 (fun wn => wn.cell? ⟨ga, k, none⟩ = some (.string su) ∧ wn.cell? ⟨gb, k, none⟩ = some (.string sv) ∧ Below v7.heap.size v7 wn) (first | exact HS1.out | exact ⟨HS0.out.1, HS0.out.2.1, HS0.out.2.2.drew⟩ | assumption) (first
                | (go_at_call 26; ((with_reducible refine (HFX.out _).mono ?_)); rintro e5 w3 ⟨rfl, hb5⟩; have HS1 := Lib.hid (show w3.cell? ⟨ga, k, none⟩ = some (.string su) ∧ w3.cell? ⟨gb, k, none⟩ = some (.string sv) ∧ Below v7.heap.size v7 w3 from ⟨(hb5.cell (p := ⟨ga, k, none⟩) (show ga < wr.drew.heap.size from Nat.lt_of_lt_of_le hga hswr)).trans HS0.out.1, (hb5.cell (p := ⟨gb, k, none⟩) (show gb < wr.drew.heap.size from Nat.lt_of_lt_of_le hgb hswr)).trans HS0.out.2.1, HS0.out.2.2.drew.trans (hb5.mono (show v7.heap.size ≤ wr.drew.heap.size from hswr))⟩); clear hb5))
              have HB3 := Lib.hid HS1.out.2.2
              have cd3 : w3.cell? ⟨gd, k, none⟩ = some (.string Z) := (HB3.out.cell (p := ⟨gd, k, none⟩) hgd).trans cd
              clear HS0 HS1 ca cb cd
              go_wp2
              go_roundw
              case rel => exact ⟨k + 1, by omega, by go_num, HB3.out⟩
              case measure => simp [intOf]; omega
            · have hd : decide ((k : Int) < PN) = false := decide_eq_false (by omega)
              have hd2 : decide (k < PN) = false := decide_eq_false (by omega)
              clear hk hkl
              go_wp2
              go_ret
              exact ⟨rfl, HB7.out.trans (HBK.out.mono HB7.out.size)⟩
set_option maxRecDepth 100000 in
set_option maxHeartbeats 6400000 in
theorem pw_6 (f d p : Int) (qo : Option Addr) (no ko : Nat) (qx : Option Addr) (nx kx : Nat) (ops : List (Int × Int)) (out : List Int) (qa : Option Addr) (na ka : Nat) (sa : List ByteArray) (qb : Option Addr) (nb kb : Nat) (sb : List ByteArray) (qs : Option Addr) (ns ks : Nat) (w : World) (ht : Tab w) (hs : SchIn w f d p qo no ko qx nx kx ops out) (ha : StrIn w qa na ka sa) (hb : StrIn w qb nb kb sb) (hf1 : few11 f d no nx = true) (hf2 : few08 sa = true) (hf3 : few08 sb = true) (haca : Xp.acc f d p ops out sa = true) (hacb : Xp.acc f d p ops out sb = true) (he : Xp.unitN sa ≠ Xp.unitN sb) :
    Calls Tryd.prog 7 #[.agg (pwC f d p qo no ko qx nx kx qa na ka qb nb kb qs ns ks)] w fun e w' => e = .returned (.bool true) ∧ Below w.heap.size w w' := by
  obtain ⟨hno, hl24a, hsza⟩ : no ≤ 300 ∧ na ≤ 24 ∧ ∀ s ∈ sa, s.size ≤ 64 := by
    unfold few11 at hf1; unfold few08 at hf2
    simp only [Bool.and_eq_true, decide_eq_true_eq, List.all_eq_true] at hf1 hf2
    rw [ha.len] at hf2
    exact ⟨hf1.2, hf2.1, hf2.2⟩
  obtain ⟨hl24b, hszb⟩ : nb ≤ 24 ∧ ∀ s ∈ sb, s.size ≤ 64 := by
    unfold few08 at hf3
    simp only [Bool.and_eq_true, decide_eq_true_eq, List.all_eq_true] at hf3
    rw [hb.len] at hf3
    exact hf3
  have HSZA := Lib.hid hsza
  have HSZB := Lib.hid hszb
  clear hsza hszb
  obtain ⟨hlen, hD1, halla, hallb⟩ := pw_lens haca hacb
  rw [ha.len] at hD1
  rw [ha.len, hb.len] at hlen
  subst hlen
  obtain ⟨hJ1, hJ2⟩ := par_join haca hacb
  have HXE := Lib.hid (fun x (hx : x ∈ sa) y (hy : y ∈ sb) => show xorE x y = 1 by unfold xorE; rw [if_neg (fun e => he ((halla x hx).symm.trans (e.trans (hallb y hy))))])
  obtain ⟨ZJ, hZJ⟩ : ∃ Z, List.zipWith (· ++ ·) sa sb = Z := ⟨_, rfl⟩
  obtain ⟨ZS, hZS⟩ : ∃ Z, List.zipWith (fun a b => strB (xorS a b)) sa sb = Z := ⟨_, rfl⟩
  obtain ⟨PA, hPA⟩ : ∃ l, Xp.parity f p ops out sa = l := ⟨_, rfl⟩
  obtain ⟨PB, hPB⟩ : ∃ l, Xp.parity f p ops out sb = l := ⟨_, rfl⟩
  obtain ⟨PN, hPN⟩ : ∃ n, p.toNat = n := ⟨_, rfl⟩
  have HLA := Lib.hid (show PA.length = PN by rw [← hPA, parity_length, hPN])
  have HLB := Lib.hid (show PB.length = PN by rw [← hPB, parity_length, hPN])
  have HUA := Lib.hid (fun u (hu : u ∈ PA) => show u.length = Xp.unitN sa from parity_sizes (by rw [hPA]; exact hu))
  have HUB := Lib.hid (fun u (hu : u ∈ PB) => show u.length = Xp.unitN sb from parity_sizes (by rw [hPB]; exact hu))
  have hsN : Xp.unitN sa ≤ 64 ∧ Xp.unitN sb ≤ 64 := by
    have h0 : 0 < sa.length := by rw [ha.len]; omega
    have h0' : 0 < sb.length := by rw [hb.len]; omega
    rw [← halla _ (List.getElem_mem h0), ← hallb _ (List.getElem_mem h0')]
    exact ⟨HSZA.out _ (List.getElem_mem h0), HSZB.out _ (List.getElem_mem h0')⟩
  have HZJL := Lib.hid (show ZJ.length = na by rw [← hZJ, List.length_zipWith, ha.len, hb.len]; omega)
  have HZSL := Lib.hid (show ZS.length = na by rw [← hZS, List.length_zipWith, ha.len, hb.len]; omega)
  have HZJS := Lib.hid (show ∀ s ∈ ZJ, s.size ≤ 1000 by
    rw [← hZJ]; intro s hs
    obtain ⟨x, hx, y, hy, rfl⟩ := mem_zip hs
    have := HSZA.out x hx; have := HSZB.out y hy
    rw [ByteArray.size_append]; omega)
  have HZSS := Lib.hid (show ∀ s ∈ ZS, s.size ≤ 1000 by
    rw [← hZS]; intro s hs
    obtain ⟨x, hx, y, hy, rfl⟩ := mem_zip hs
    have := HSZA.out x hx; have := HSZB.out y hy
    have e1 : x.data.toList.length = x.size := by rw [Array.length_toList]; rfl
    have e2 : y.data.toList.length = y.size := by rw [Array.length_toList]; rfl
    rw [strB_size]; unfold xorS
    split
    · rw [Fld.xorL_length (by omega)]; omega
    · simp)
  have HZJT := Lib.hid (fun t x y (hx : sa[t]? = some x) (hy : sb[t]? = some y) => show ZJ.take (t + 1) = ZJ.take t ++ [x ++ y] by rw [← hZJ]; exact zip_take hx hy)
  have HZST := Lib.hid (fun t x y (hx : sa[t]? = some x) (hy : sb[t]? = some y) => show ZS.take (t + 1) = ZS.take t ++ [strB (xorS x y)] by rw [← hZS]; exact zip_take (f := fun a b => strB (xorS a b)) hx hy)
  rw [hZJ, hPA, hPB] at hJ2
  rw [hZJ] at hJ1
  have HJA := Lib.hid hJ1
  have HJP := Lib.hid hJ2
  have HPN := Lib.hid hPN
  have hp32 : PN ≤ 32 := by
    obtain ⟨m, D, P, NS, rfl, rfl, rfl, hm, hD, hlD, hn, hall, hok⟩ := acc_parts haca
    unfold Xp.okS Xp.headOk at hok
    simp only [Bool.and_eq_true, decide_eq_true_eq] at hok
    omega
  have HPA := Lib.hid hPA
  have HPB := Lib.hid hPB
  clear hJ1 hJ2 hZJ hZS hPA hPB halla hallb he
  have HB0 := Lib.hid ((Below.refl _ w).alloc (Nat.le_refl _) (.cells (pwC f d p qo no ko qx nx kx qa na ka qb na kb qs ns ks) 51))
  have HX0 := Lib.hid (Row.new w 51 (pwC f d p qo no ko qx nx kx qa na ka qb na kb qs ns ks))
  have HT := Lib.hid ht
  have HS := Lib.hid hs
  have HA := Lib.hid ha
  have HB := Lib.hid hb
  clear ht hs ha hb
  go_enter Tryd.func7, Tryd.ntmps7
  go_wp2_with fail
  refine (sanity11_any _ (HT.out.next HB0.out)).mono ?_
  rintro e v1 ⟨rfl, hb⟩
  have HB1 := Lib.hid (below_call HB0.out hb)
  have HX1 := Lib.hid (HX0.out.below hb (by first | exact HX0.out.lt | simp))
  clear hb
  obtain ⟨c0, c1, c2, c3, c4, c5, c6⟩ := pwbox HX1.out
  have h9 := few11_any f d p qo no ko qx nx kx v1
  rw [hf1] at h9
  unfold schV at h9
  go_wp2_with fail
  clear c0 c1 c2 c3 c4 c5 c6
  refine (h9).mono ?_
  rintro e v2 ⟨rfl, hb⟩
  have HB2 := Lib.hid (below_call HB1.out hb)
  have HX2 := Lib.hid (HX1.out.below hb (by first | exact HX1.out.lt | simp))
  clear hb
  obtain ⟨c0, c1, c2, c3, c4, c5, c6⟩ := pwbox HX2.out
  clear h9
  have h9 := few08_any qa na ka sa v2 (HA.out.next HB2.out)
  rw [hf2] at h9
  go_wp2_with fail
  refine h9.mono ?_
  rintro e v9 ⟨rfl, e9⟩
  rw [e9]
  clear h9 e9 v9
  have h9 := few08_any qb na kb sb v2 (HB.out.next HB2.out)
  rw [hf3] at h9
  go_wp2_with fail
  refine h9.mono ?_
  rintro e v9 ⟨rfl, e9⟩
  rw [e9]
  clear h9 e9 v9
  have h9 := run_acc (kd := ka) 0 v2 (HT.out.next HB2.out) (by omega) (HS.out.next HB2.out) HA.out.len (HA.out.next HB2.out).rd (fun s hs => Nat.le_trans (HSZA.out s hs) (by decide)) haca
  rw [HPN.out, HPA.out] at h9
  unfold schV at h9
  go_wp2_with fail
  clear c0 c1 c2 c3 c4 c5 c6
  refine (h9).mono ?_
  rintro e v3 ⟨⟨pa, ka2, rfl, hoa⟩, hb⟩
  have HRA := Lib.hid hoa
  clear hoa
  have HB3 := Lib.hid (below_call HB2.out hb)
  have HX3 := Lib.hid (HX2.out.below hb (by first | exact HX2.out.lt | simp))
  clear hb
  obtain ⟨c0, c1, c2, c3, c4, c5, c6⟩ := pwbox HX3.out
  clear h9
  have h9 := run_acc (kd := kb) 0 v3 (HT.out.next HB3.out) (by omega) (HS.out.next HB3.out) HB.out.len (HB.out.next HB3.out).rd (fun s hs => Nat.le_trans (HSZB.out s hs) (by decide)) hacb
  rw [HPN.out, HPB.out] at h9
  unfold schV at h9
  go_wp2_with fail
  clear c0 c1 c2 c3 c4 c5 c6
  refine (h9).mono ?_
  rintro e v4 ⟨⟨pb, kb2, rfl, hob⟩, hb⟩
  have HRB := Lib.hid hob
  have HRA := Lib.hid (HRA.out.below hb)
  clear hob
  have HB4 := Lib.hid (below_call HB3.out hb)
  have HX4 := Lib.hid (HX3.out.below hb (by first | exact HX3.out.lt | simp))
  clear hb
  obtain ⟨c0, c1, c2, c3, c4, c5, c6⟩ := pwbox HX4.out
  clear h9
  clear hPN haca hacb
  have hz4 : w.heap.size < v4.heap.size := HX4.out.lt
  go_wp2_with fail
  clear c0 c1 c2 c3 c4 c5 c6
  go_loopw [8, 9, 10, 11] (fun J S E i wr => ∃ (t : Nat) (qj : Option Addr) (kj : Nat) (qs2 : Option Addr) (ks2 : Nat) (BQ : Bool), t ≤ na ∧ i = .int .i64 t ∧ J = .slice qj t kj ∧ S = .slice qs2 t ks2 ∧ E = .bool BQ ∧ BQ = decide (t = 0) ∧ Own wr v4.heap.size 9 qj t kj (strs (ZJ.take t)) ∧ Own wr v4.heap.size 9 qs2 t ks2 (strs (ZS.take t)) ∧ Apart qj qs2 ∧ Below v4.heap.size v4 wr) (fun _ _ _ i _ => na - (intOf i).toNat)
  case atStart => exact ⟨0, none, 0, none, 0, true, Nat.zero_le _, rfl, rfl, rfl, rfl, rfl, Own.nil _ _ _, Own.nil _ _ _, Apart.none_left _, Below.refl _ _⟩
  case round =>
    obtain ⟨t, qj, kj, qs2, ks2, BQ, htn, rfl, rfl, rfl, rfl, hbq, hoj, hos, hap, hb⟩ := hrel
    have HOJ := Lib.hid hoj
    have HOS := Lib.hid hos
    have HAP := Lib.hid hap
    have HBL := Lib.hid hb
    have hswr := hb.size
    clear hoj hos hap hb
    have HBQ0 := Lib.hid hbq
    clear hbq
    obtain ⟨c0, c1, c2, c3, c4, c5, c6⟩ := pwbox (HX4.out.below HBL.out HX4.out.lt)
    by_cases hlt : t < na
    · have hd : decide ((t : Int) < na) = true := decide_eq_true (by omega)
      have HBWR := Lib.hid (HB4.out.trans (HBL.out.mono HB4.out.size))
      obtain ⟨x, hx⟩ : ∃ x, sa[t]? = some x := ⟨_, List.getElem?_eq_getElem (by rw [HA.out.len]; exact hlt)⟩
      obtain ⟨y, hy⟩ : ∃ y, sb[t]? = some y := ⟨_, List.getElem?_eq_getElem (by rw [HB.out.len]; exact hlt)⟩
      obtain ⟨ba, oa, rfl, hba, hca⟩ := (HA.out.rd.below HBWR.out) t (.string x) (by rw [strs, List.getElem?_map, hx]; rfl)
      obtain ⟨bb, ob, rfl, hbb, hcb⟩ := (HB.out.rd.below HBWR.out) t (.string y) (by rw [strs, List.getElem?_map, hy]; rfl)
      have HZT := Lib.hid (strs_take (HZJT.out t x y hx hy))
      have HZT2 := Lib.hid (strs_take (HZST.out t x y hx hy))
      have hxs := HSZA.out x (List.mem_of_getElem? hx)
      have hys := HSZB.out y (List.mem_of_getElem? hy)
      have HFX := Lib.hid (fun W => show Calls Tryd.prog 26 #[.string x, .string y] W fun e w' => e = .returned (.tuple #[.string (strB (xorS x y)), .int .i64 1]) ∧ Below W.heap.size W w' from by
        have h9 := fxor_any x y W (by omega) (by omega)
        unfold pairS at h9
        rw [HXE.out x (List.mem_of_getElem? hx) y (List.mem_of_getElem? hy)] at h9
        exact h9)
      obtain ⟨Z, hZ⟩ : ∃ Z, strB (xorS x y) = Z := ⟨_, rfl⟩
      rw [hZ] at HFX HZT2
      have HS0 : Hid (KP w.heap.size (.slice (some ⟨ba, oa, none⟩) na ka) (.slice (some ⟨bb, ob, none⟩) na kb) ba (oa + t) x bb (ob + t) y v4 wr) := Lib.hid ⟨c5, c6, hca, hcb, HBL.out⟩
      have hba4 : ba < v4.heap.size := by omega
      have hbb4 : bb < v4.heap.size := by omega
      clear hx hy hZ
      have hcat : ¬ (9223372036854775807 < x.size + y.size) := by omega
      clear c0 c1 c2 c3 c4
      go_wp2_with fail
      go_region_held3 (fun wn => wn.cell? ⟨w.heap.size, 5, none⟩ = some (.slice (some ⟨ba, oa, none⟩) na ka) ∧ wn.cell? ⟨w.heap.size, 6, none⟩ = some (.slice (some ⟨bb, ob, none⟩) na kb) ∧ wn.cell? ⟨ba, oa + t, none⟩ = some (.string x) ∧ wn.cell? ⟨bb, ob + t, none⟩ = some (.string y) ∧ Below v4.heap.size v4 wn) (first | exact HS1.out | exact KP.drew HS0.out | exact KP.drew (KP.next HS0.out hz4 hba4 hbb4 ((Below.refl _ _).alloc hswr _)) | assumption) (first
        | (refine step_app2 rfl (.tmp 70) (.tmp 82) 36 rfl v4.heap.size 9 (.string ⟨#[]⟩) 16 Tryd.underlying36 make_strs rfl qj t kj _ rfl ((HOJ.out.alloc _).drewN 1) _ (some ⟨wr.heap.size, 0, none⟩) 1 1 [.string (x ++ y)] rfl ((Rd.one wr _ _).drewN 1) rfl (by intro u hu; simp only [List.mem_singleton] at hu; subst hu; rfl) (by unfold maxLen; omega) (by omega) (by simp; omega) ?_; intro a2 c2 w2 ho hg hn; have HOJ2 := Lib.hid ho; have HOS2 := Lib.hid (((HOS.out.alloc _).drewN 1).apart hg HAP.out.symm ((HOJ.out.alloc _).drewN 1)); have HAP2 := Lib.hid (HAP.out.grown ((HOS.out.alloc _).drewN 1) hn); have HS1 := Lib.hid (KP.next (KP.drew (KP.next HS0.out hz4 hba4 hbb4 ((Below.refl _ _).alloc hswr _))) hz4 hba4 hbb4 (below_grown2 (Below.refl _ _) hg ((HOJ.out.alloc _).drewN 1) (by simp; omega) (Nat.le_refl _))); clear ho hg hn))
      clear HS0 HOJ HOS HAP
      have HS0 := Lib.hid HS1.out
      clear HS1
      obtain ⟨q5, q6, qx', qy', hbl⟩ := HS0.out
      have hsw2 := hbl.size
      clear hbl c5 c6 hca hcb
      go_wp2_with fail
      go_region_held3 (fun wn => wn.cell? ⟨w.heap.size, 5, none⟩ = some (.slice (some ⟨ba, oa, none⟩) na ka) ∧ wn.cell? ⟨w.heap.size, 6, none⟩ = some (.slice (some ⟨bb, ob, none⟩) na kb) ∧ wn.cell? ⟨ba, oa + t, none⟩ = some (.string x) ∧ wn.cell? ⟨bb, ob + t, none⟩ = some (.string y) ∧ Below v4.heap.size v4 wn) (first | exact HS1.out | exact KP.drew HS0.out | assumption) (first
        | (go_at_call 26; ((with_reducible refine (HFX.out _).mono ?_)); rintro e5 w3 ⟨rfl, hb5⟩; have HS1 := Lib.hid (KP.next (KP.drew HS0.out) hz4 hba4 hbb4 (hb5.mono (show v4.heap.size ≤ w2.drew.heap.size from hsw2))); have HOJ3 := Lib.hid ((HOJ2.out.drewN 1).below hb5); have HOS3 := Lib.hid ((HOS2.out.drewN 1).below hb5); clear hb5))
      clear HS0 HOJ2 HOS2 q5 q6 qx' qy'
      have HB3 := Lib.hid (show Below v4.heap.size v4 w3 from HS1.out.2.2.2.2)
      have hsw3 := HB3.out.size
      clear HS1
      have HBQ := Lib.hid (show false = decide (t + 1 = 0) by simp)
      cases BQ
      · go_wp2_with (refine wpList_app2 _ rfl (.tmp 103) (.tmp 105) 36 rfl v4.heap.size 9 (.string ⟨#[]⟩) 16 Tryd.underlying36 make_strs rfl qs2 t ks2 _ rfl (HOS3.out.alloc _) _ (some ⟨w3.heap.size, 0, none⟩) 1 1 [.string Z] rfl (Rd.one w3 _ _) rfl (by intro u hu; simp only [List.mem_singleton] at hu; subst hu; rfl) (by unfold maxLen; omega) (by omega) (by simp; omega) ?_; intro a4 c4 w4 ho hg hn; have HOS4 := Lib.hid ho; have HOJ4 := Lib.hid ((HOJ3.out.alloc _).apart hg HAP2.out (HOS3.out.alloc _)); have HAP4 := Lib.hid ((HAP2.out.symm.grown (HOJ3.out.alloc _) hn).symm); have HB4' := Lib.hid (below_grown2 (HB3.out.alloc hsw3 _) hg (HOS3.out.alloc _) (by simp; omega) (Nat.le_refl _)); clear ho hg hn)
        go_roundw
        case rel => exact ⟨t + 1, a2, c2, a4, c4, _, by omega, by go_num, rfl, rfl, rfl, HBQ.out, by rw [HZT.out]; exact HOJ4.out, by rw [HZT2.out]; exact HOS4.out, HAP4.out, HB4'.out⟩
        case measure => simp [intOf]; omega
      · go_wp2_with (refine wpList_app2 _ rfl (.tmp 103) (.tmp 105) 36 rfl v4.heap.size 9 (.string ⟨#[]⟩) 16 Tryd.underlying36 make_strs rfl qs2 t ks2 _ rfl (HOS3.out.alloc _) _ (some ⟨w3.heap.size, 0, none⟩) 1 1 [.string Z] rfl (Rd.one w3 _ _) rfl (by intro u hu; simp only [List.mem_singleton] at hu; subst hu; rfl) (by unfold maxLen; omega) (by omega) (by simp; omega) ?_; intro a4 c4 w4 ho hg hn; have HOS4 := Lib.hid ho; have HOJ4 := Lib.hid ((HOJ3.out.alloc _).apart hg HAP2.out (HOS3.out.alloc _)); have HAP4 := Lib.hid ((HAP2.out.symm.grown (HOJ3.out.alloc _) hn).symm); have HB4' := Lib.hid (below_grown2 (HB3.out.alloc hsw3 _) hg (HOS3.out.alloc _) (by simp; omega) (Nat.le_refl _)); clear ho hg hn)
        go_roundw
        case rel => exact ⟨t + 1, a2, c2, a4, c4, _, by omega, by go_num, rfl, rfl, rfl, HBQ.out, by rw [HZT.out]; exact HOJ4.out, by rw [HZT2.out]; exact HOS4.out, HAP4.out, HB4'.out⟩
        case measure => simp [intOf]; omega
    · obtain ⟨wo, rfl⟩ : ∃ wo : World, wo = wr := ⟨_, rfl⟩
      have hd : decide ((t : Int) < na) = false := decide_eq_false (by omega)
      have e1 : t = na := by omega
      have HBWR := Lib.hid (HB4.out.trans (HBL.out.mono HB4.out.size))
      have HX5 := Lib.hid (HX4.out.below HBL.out HX4.out.lt)
      have HOJ5 := Lib.hid (show Own wo v4.heap.size 9 qj t kj (strs ZJ) by
        have := HOJ.out
        rwa [List.take_of_length_le (by rw [HZJL.out]; omega)] at this)
      have HOS5 := Lib.hid (show Own wo v4.heap.size 9 qs2 t ks2 (strs ZS) by
        have := HOS.out
        rwa [List.take_of_length_le (by rw [HZSL.out]; omega)] at this)
      have HRA5 := Lib.hid (HRA.out.below HBL.out)
      have HRB5 := Lib.hid (HRB.out.below HBL.out)
      have hbq : BQ = false := by rw [HBQ0.out]; exact decide_eq_false (by omega)
      subst hbq
      have h9 := run_acc (kd := kj) 0 wo (HT.out.next HBWR.out) (by omega) (HS.out.next HBWR.out) (HZJL.out.trans e1.symm) HOJ5.out.rd HZJS.out HJA.out
      rw [HPN.out, HJP.out] at h9
      unfold schV at h9
      have HLT := Lib.hid (HZSL.out.trans e1.symm)
      clear e1
      go_wp2_with fail
      clear c0 c1 c2 c3 c4 c5 c6
      refine h9.mono ?_
      rintro e v6 ⟨⟨pc, kc, rfl, hoc⟩, hb6⟩
      have HRC6 := Lib.hid hoc
      have HRA6 := Lib.hid (HRA5.out.below hb6)
      have HRB6 := Lib.hid (HRB5.out.below hb6)
      have HOS6 := Lib.hid (HOS5.out.below hb6)
      have HB6 := Lib.hid (below_call HBWR.out hb6)
      have HX6 := Lib.hid (HX5.out.below hb6 HX5.out.lt)
      clear h9 hoc hb6 HOJ5 HOS5 HRA5 HRB5 hd HOJ HOS HRA HRB
      obtain ⟨c0, c1, c2, c3, c4, c5, c6⟩ := pwbox HX6.out
      go_wp2_with fail
      go_loopw [16] (fun i wr => ∃ k : Nat, k ≤ PN ∧ i = .int .i64 k ∧ Below v6.heap.size v6 wr) (fun i _ => PN - (intOf i).toNat)
      case atStart => exact ⟨0, Nat.zero_le _, rfl, Below.refl _ _⟩
      case round =>
        obtain ⟨k, hk, rfl, hb⟩ := hrel
        have HBK := Lib.hid hb
        clear hb
        by_cases hkl : k < PN
        · have hd : decide ((k : Int) < PN) = true := decide_eq_true (by omega)
          obtain ⟨u, hu⟩ : ∃ u, PA[k]? = some u := ⟨_, List.getElem?_eq_getElem (by rw [HLA.out]; exact hkl)⟩
          obtain ⟨v, hv⟩ : ∃ v, PB[k]? = some v := ⟨_, List.getElem?_eq_getElem (by rw [HLB.out]; exact hkl)⟩
          obtain ⟨ga, rfl, _, hga, ca, _⟩ := HRA6.out.at_ (k := k) (by omega)
          obtain ⟨gb, rfl, _, hgb, cb, _⟩ := HRB6.out.at_ (k := k) (by omega)
          obtain ⟨gc, rfl, _, hgc, cc, _⟩ := HRC6.out.at_ (k := k) (by omega)
          rw [strsB_get hu] at ca
          rw [strsB_get hv] at cb
          rw [strsB_get (show (List.zipWith (· ++ ·) PA PB)[k]? = some (u ++ v) by rw [List.getElem?_zipWith, hu, hv]), ← strB_app] at cc
          obtain ⟨su, hsu⟩ : ∃ su, strB u = su := ⟨_, rfl⟩
          obtain ⟨sv, hsv⟩ : ∃ sv, strB v = sv := ⟨_, rfl⟩
          have hl1 : su.size ≤ 64 := by rw [← hsu, strB_size, HUA.out u (List.mem_of_getElem? hu)]; exact hsN.1
          have hl2 : sv.size ≤ 64 := by rw [← hsv, strB_size, HUB.out v (List.mem_of_getElem? hv)]; exact hsN.2
          rw [hsu] at ca cc
          rw [hsv] at cb cc
          have ca := (HBK.out.cell (p := ⟨ga, k, none⟩) hga).trans ca
          have cb := (HBK.out.cell (p := ⟨gb, k, none⟩) hgb).trans cb
          have cc := (HBK.out.cell (p := ⟨gc, k, none⟩) hgc).trans cc
          clear hu hv hsu hsv
          go_wp2_with fail
          go_quiet (fail)
          go_wp2
          go_roundw
          case rel => exact ⟨k + 1, by omega, by go_num, below_drewN HBK.out _⟩
          case measure => simp [intOf]; omega
        · have hd : decide ((k : Int) < PN) = false := decide_eq_false (by omega)
          have hd2 : decide (k < PN) = false := decide_eq_false (by omega)
          obtain ⟨wx, rfl⟩ : ∃ wo : World, wo = wr := ⟨_, rfl⟩
          have HB6 := Lib.hid (HB6.out.trans (HBK.out.mono HB6.out.size))
          have HRA6 := Lib.hid (HRA6.out.below HBK.out)
          have HRB6 := Lib.hid (HRB6.out.below HBK.out)
          have HOS6 := Lib.hid (HOS6.out.below HBK.out)
          have HX6 := Lib.hid (HX6.out.below HBK.out HX6.out.lt)
          clear hk hkl HBK c0 c1 c2 c3 c4 c5 c6
          obtain ⟨c0, c1, c2, c3, c4, c5, c6⟩ := pwbox HX6.out
          go_wp2
          go_ret
          exact ⟨rfl, HB6.out⟩

theorem walk_XorRunIsPointwise (f d p : Int) (qo : Option Addr) (no ko : Nat) (qx : Option Addr) (nx kx : Nat) (ops : List (Int × Int)) (out : List Int) (qa : Option Addr) (na ka : Nat) (sa : List ByteArray) (qb : Option Addr) (nb kb : Nat) (sb : List ByteArray) (qs : Option Addr) (ns ks : Nat) (w : World) (hs : SchIn w f d p qo no ko qx nx kx ops out) (ha : StrIn w qa na ka sa) (hb : StrIn w qb nb kb sb) (ht : Tab w) :
    Calls Tryd.prog 7 #[.agg (pwC f d p qo no ko qx nx kx qa na ka qb nb kb qs ns ks)] w fun e w' => e = .returned (.bool true) ∧ Below w.heap.size w w' := by
  cases hf1 : few11 f d no nx
  · exact pw_0 f d p qo no ko qx nx kx ops out qa na ka sa qb nb kb sb qs ns ks w ht hs ha hb hf1
  cases hf2 : few08 sa
  · exact pw_1 f d p qo no ko qx nx kx ops out qa na ka sa qb nb kb sb qs ns ks w ht hs ha hb hf1 hf2
  cases hf3 : few08 sb
  · exact pw_2 f d p qo no ko qx nx kx ops out qa na ka sa qb nb kb sb qs ns ks w ht hs ha hb hf1 hf2 hf3
  cases h1 : Xp.acc f d p ops out sa <;> cases h2 : Xp.acc f d p ops out sb
  · exact pw_3b f d p qo no ko qx nx kx ops out qa na ka sa qb nb kb sb qs ns ks w ht hs ha hb hf1 hf2 hf3 h1 h2
  · exact pw_3a f d p qo no ko qx nx kx ops out qa na ka sa qb nb kb sb qs ns ks w ht hs ha hb hf1 hf2 hf3 h1 h2
  · exact pw_4 f d p qo no ko qx nx kx ops out qa na ka sa qb nb kb sb qs ns ks w ht hs ha hb hf1 hf2 hf3 h1 h2
  · by_cases he : Xp.unitN sa = Xp.unitN sb
    · exact pw_5 f d p qo no ko qx nx kx ops out qa na ka sa qb nb kb sb qs ns ks w ht hs ha hb hf1 hf2 hf3 h1 h2 he
    · exact pw_6 f d p qo no ko qx nx kx ops out qa na ka sa qb nb kb sb qs ns ks w ht hs ha hb hf1 hf2 hf3 h1 h2 he

set_option maxRecDepth 100000
/-! ### the frame: the arguments opened and shut -/
theorem contract_XorRunIsPointwise (H : Type) (enc : TypeId × Value → H) (W : World) (base : Nat) (args : Array Value) (ds gs : List (DataW H)) (before : List MemPlace)
    (hval0 : ∀ (j : Nat) t v, Tryd.f7.params[j]? = some t → args[j]? = some v → Value.okWide Tryd.prog W .any base t v)
    (hW : DataW.Whole enc Tryd.prog Tryd.f7.params.toList Rows.xorRunIsPointwiseSpec.vars false W args.toList ds gs before) (hL : laidMetH Tryd.prog Rows.xorRunIsPointwiseRow.laid W) :
    Calls Tryd.prog 7 args W fun e W' => ∃ v, e = .returned v ∧ Rows.xorRunIsPointwiseSpec.post enc Tryd.prog Tryd.f7 false true false false W args v W' := by
  have hval : ∀ (j : Nat) t v, Tryd.f7.params[j]? = some t → args[j]? = some v → Value.okWide Tryd.prog W .any base t v := hval0
  have hW' := hW
  obtain ⟨p, q, hA0, hV, rfl, hfz, hnd⟩ := hW
  have hA : DataW.TrodAll enc Tryd.prog W 0 (fun _ => true) true Tryd.f7.params.toList args.toList ds p := hA0
  rw [Tryd.params7] at hA hval
  obtain ⟨v0, vs0, d0, ds0, p0, q0, hargs, rfl, rfl, h0, r0⟩ := trodAll_cons hA
  obtain ⟨rfl, rfl, rfl⟩ := trodAll_nil r0
  obtain rfl : args = #[v0] := by cases args; simp_all
  obtain ⟨rfl, rfl⟩ := trodVars_none hV
  have k0 := h0
  have lt0 : ∀ x ∈ p0, x.block < W.heap.size := by obtain ⟨m, hm⟩ := k0; exact DataW.trod_lt m _ _ _ hm
  obtain ⟨cs0, rfl, _⟩ := okWide_struct Tryd.underlying51 (hval 0 51 v0 rfl rfl)
  obtain ⟨fuel0, hf0⟩ := h0
  obtain ⟨sf0, sd0, sp0, sqo0, sno0, sko0, sqx0, snx0, skx0, sops0, sout0, pqa0, pna0, pka0, psa0, pqb0, pnb0, pkb0, psb0, pqs0, pns0, pks0, hcs0, hsc0, hpa0, hpb0⟩ := open_pw hf0
  obtain rfl : cs0 = pwC sf0 sd0 sp0 sqo0 sno0 sko0 sqx0 snx0 skx0 pqa0 pna0 pka0 pqb0 pnb0 pkb0 pqs0 pns0 pks0 := by apply Array.toList_inj.1; simpa [Value.cells] using hcs0
  refine (walk_XorRunIsPointwise sf0 sd0 sp0 sqo0 sno0 sko0 sqx0 snx0 skx0 sops0 sout0 pqa0 pna0 pka0 psa0 pqb0 pnb0 pkb0 psb0 pqs0 pns0 pks0 W hsc0 hpa0 hpb0 (tab_of hL)).mono fun e W' ⟨he, bel⟩ => ?_
  subst he
  exact ⟨_, rfl, _, _, _, [], _, [], hW', trodAll_mk1 (shut_bool Tryd.underlying4 _), (trodAll_cons_mk (Below.trod laidOut (by kernel_rfl) (of_decide_eq_true (by kernel_rfl)) k0 bel lt0) trodAll_mk0), rfl, bel.frame _, fun h => by cases h⟩
theorem laid_XorRunIsPointwise (os : Os) : laidMet Tryd.prog Rows.xorRunIsPointwiseRow.laid ((laidWorld os).forCall (fun _ _ => 0) ⟨#[], #[.agg #[.int .i64 0, .int .i64 0, .int .i64 0, .slice none 0 0, .slice none 0 0, .slice none 0 0, .slice none 0 0, .slice none 0 0]], []⟩).memory :=
  laidMet_of_run' 8 (by kernel_rfl) (by kernel_rfl)
theorem reads_XorRunIsPointwise (os : Os) {H : Type} (enc : TypeId × Value → H) : ∃ places, DataW.whole enc Tryd.prog ((laidWorld os).forCall (fun _ _ => 0) ⟨#[], #[.agg #[.int .i64 0, .int .i64 0, .int .i64 0, .slice none 0 0, .slice none 0 0, .slice none 0 0, .slice none 0 0, .slice none 0 0]], []⟩).memory Tryd.f7.params.toList Rows.xorRunIsPointwiseSpec.vars false (#[.agg #[.int .i64 0, .int .i64 0, .int .i64 0, .slice none 0 0, .slice none 0 0, .slice none 0 0, .slice none 0 0, .slice none 0 0]] : Array Value).toList 8 = some ([.agg [.agg [.lit (.int .i64 0), .lit (.int .i64 0), .lit (.int .i64 0), .nil, .nil], .nil, .nil, .nil]], [], places) :=
  ⟨[], by kernel_rfl⟩
set_option maxRecDepth 100000 in
theorem lifted_XorRunIsPointwise (os : Os) (started : os.Started) (H : Type) (enc : TypeId × Value → H) (F : Stop.Interp) :
    ReturnsInHanded {} Tryd.checked os 7 .any ((OpenSpec.ofChange Rows.xorRunIsPointwiseSpec).preRow enc Tryd.prog Tryd.f7 Rows.xorRunIsPointwiseRow.domain false Rows.xorRunIsPointwiseRow.laid) (((OpenSpec.ofChange Rows.xorRunIsPointwiseSpec).at F).post enc Tryd.prog Tryd.f7 false true false false) := by
  obtain ⟨places, hx⟩ := reads_XorRunIsPointwise os enc
  refine returnsInHanded_of_row (C := Tryd.checked) (s := OpenSpec.ofChange Rows.xorRunIsPointwiseSpec) own started (by kernel_rfl) Tryd.func7
    (witness_row_at (enc := enc) (C := Tryd.checked) false (laidWorld os) #[.agg #[.int .i64 0, .int .i64 0, .int .i64 0, .slice none 0 0, .slice none 0 0, .slice none 0 0, .slice none 0 0, .slice none 0 0]] rfl (by kernel_rfl) (by kernel_rfl) (by kernel_rfl)
      (OpenSpec.preRow_of_cond 8 hx (by kernel_rfl) (fun k hk => by cases hk) (by kernel_rfl) (laid_XorRunIsPointwise os))) ?_
  intro W base args ds gs before hval hW _ hcond _ hL _ _
  exact contract_XorRunIsPointwise H enc W base args ds gs before hval hW hL

theorem said_XorRunIsPointwise : Rows.XorRunIsPointwiseSaid :=
  OpenClaim.holds_of_cond 7 Tryd.f7 rfl rfl rfl rfl rfl rfl rfl ⟨rfl, rfl, rfl, rfl, rfl⟩ rfl rfl rfl rfl rfl (by kernel_rfl) Tryd.func7 (by kernel_rfl)
    (of_decide_eq_true (by kernel_rfl)) (by unfold Func.isWrapper; first | (rw [if_pos (by decide +kernel)]; kernel_rfl) | (rw [if_neg (by decide +kernel)]; exact ⟨rfl, rfl⟩))
    (fun os started H enc _ F => by rw [OpenClaim.pre_eq_preRow]; exact lifted_XorRunIsPointwise os started H enc F)
theorem plain_XorRunIsPointwise (f : FuncId) (fn : Func) (hf : Tryd.pinned.checked.prog.funcNamed "solvent/solventlaw11.XorRunIsPointwise" = some f) (hfn : Tryd.pinned.checked.prog.funcs[f]? = some fn) :
    false = Tryd.pinned.checked.prog.looks [] ∧ ∀ (j : Nat) t, fn.params[j]? = some t → Tryd.pinned.checked.prog.wantsStandIn t = false := by
  obtain rfl : f = 7 := Option.some.inj ((show Tryd.prog.funcNamed "solvent/solventlaw11.XorRunIsPointwise" = some 7 by kernel_rfl).symm.trans hf) |>.symm
  obtain rfl : fn = Tryd.f7 := (Option.some.inj (Tryd.func7.symm.trans hfn)).symm
  refine ⟨by kernel_rfl, fun j t ht => ?_⟩
  rw [Tryd.params7] at ht
  have hm := Array.mem_of_getElem? ht
  simp only [List.mem_toArray, List.mem_cons, List.not_mem_nil, or_false] at hm
  subst hm
  exact (show Tryd.prog.wantsStandIn 51 = false by kernel_rfl)
theorem proved_XorRunIsPointwise : Rows.XorRunIsPointwiseCardSaid :=
  Claim7.holds_tied_plain_at .later [] _ _ _ _ said_XorRunIsPointwise (fun _ h => by cases h) (by kernel_rfl) (fun _ h => by cases h) xorRunIsPointwise_row_tie rfl ⟨rfl, rfl⟩ (by kernel_rfl) rfl plain_XorRunIsPointwise (by kernel_rfl)
end Go.Proofs.YtghinmlpkgcdiaaDoor
