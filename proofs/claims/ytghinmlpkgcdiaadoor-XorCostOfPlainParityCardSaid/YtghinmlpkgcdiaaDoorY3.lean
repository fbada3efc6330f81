/- Schedules: comparing pairs; is an element in a list. -/
import Derived.Test.YtghinmlpkgcdiaaDoorY2
import Derived.BigQuiet
namespace Go.Proofs.YtghinmlpkgcdiaaDoor
set_option linter.unusedSimpArgs false
set_option linter.unusedVariables false
open Go.RowKit Go.Lib

theorem isnan_any (x : Int) (w : World) : Calls Tryd.prog 94 #[.int .i64 x] w fun e w' => e = .returned (.bool false) ∧ w' = w := by
  have h : (x != x) = false := by simp
  go_enter Tryd.func94, Tryd.ntmps94
  go_wp2
  go_ret
  exact ⟨rfl, rfl⟩
def cmp1 (a b : Int) : Int := if a < b then -1 else if b < a then 1 else 0
theorem cmp_any (a b : Int) (w : World) : Calls Tryd.prog 87 #[.int .i64 a, .int .i64 b] w fun e w' => e = .returned (.int .i64 (cmp1 a b)) ∧ w' = w := by
  unfold cmp1
  by_cases h1 : a < b
  · have hd : decide (a < b) = true := decide_eq_true h1
    rw [if_pos h1]
    clear h1
    go_enter Tryd.func87, Tryd.ntmps87
    go_wp2_with fail
    refine (isnan_any a _).mono ?_
    rintro e w1 ⟨rfl, rfl⟩
    go_wp2_with fail
    refine (isnan_any b _).mono ?_
    rintro e w1 ⟨rfl, rfl⟩
    go_wp2
    go_ret
    exact ⟨rfl, rfl⟩
  · have hd : decide (a < b) = false := decide_eq_false h1
    rw [if_neg h1]
    by_cases h2 : b < a
    · have hd2 : decide (b < a) = true := decide_eq_true h2
      rw [if_pos h2]
      clear h1 h2
      go_enter Tryd.func87, Tryd.ntmps87
      go_wp2_with fail
      refine (isnan_any a _).mono ?_
      rintro e w1 ⟨rfl, rfl⟩
      go_wp2_with fail
      refine (isnan_any b _).mono ?_
      rintro e w1 ⟨rfl, rfl⟩
      go_wp2
      go_ret
      exact ⟨rfl, rfl⟩
    · have hd2 : decide (b < a) = false := decide_eq_false h2
      rw [if_neg h2]
      clear h1 h2
      go_enter Tryd.func87, Tryd.ntmps87
      go_wp2_with fail
      refine (isnan_any a _).mono ?_
      rintro e w1 ⟨rfl, rfl⟩
      go_wp2_with fail
      refine (isnan_any b _).mono ?_
      rintro e w1 ⟨rfl, rfl⟩
      go_wp2
      go_ret
      exact ⟨rfl, rfl⟩
theorem cmp1_zero {a b : Int} : cmp1 a b = 0 ↔ a = b := by
  unfold cmp1
  constructor
  · intro h
    split at h
    · omega
    · split at h <;> omega
  · intro h
    subst h
    rw [if_neg (by omega), if_neg (by omega)]
def cmp2 (A B C D : Int) : Int := if cmp1 A C = 0 then cmp1 B D else cmp1 A C
set_option maxRecDepth 100000 in
set_option maxHeartbeats 1600000 in
theorem comp2_any (g1 g2 : Nat) (A B C D : Int) (w : World) (ha : w.cell? ⟨g1, 0, none⟩ = some (.int .i64 A)) (hb : w.cell? ⟨g1, 1, none⟩ = some (.int .i64 B)) (hc : w.cell? ⟨g2, 0, none⟩ = some (.int .i64 C)) (hd : w.cell? ⟨g2, 1, none⟩ = some (.int .i64 D)) :
    Calls Tryd.prog 67 #[.slice (some ⟨g1, 0, none⟩) 2 2, .slice (some ⟨g2, 0, none⟩) 2 2] w fun e w' => e = .returned (.int .i64 (cmp2 A B C D)) ∧ w' = w := by
  obtain ⟨r0, h0⟩ : ∃ r, cmp1 A C = r := ⟨_, rfl⟩
  obtain ⟨r1, h1⟩ : ∃ r, cmp1 B D = r := ⟨_, rfl⟩
  have HC0 := Lib.hid (fun (W : World) => cmp_any A C W)
  have HC1 := Lib.hid (fun (W : World) => cmp_any B D W)
  rw [h0] at HC0
  rw [h1] at HC1
  unfold cmp2
  rw [h0, h1]
  clear h0 h1
  by_cases hz : r0 = 0
  · subst hz
    rw [if_pos rfl]
    by_cases hz1 : r1 = 0
    · subst hz1
      go_enter Tryd.func67, Tryd.ntmps67
      go_wp2_with fail
      go_loop [11] (fun i => ∃ k : Nat, k ≤ 2 ∧ i = .int .i64 k) (fun i => 2 - (intOf i).toNat)
      case atStart => exact ⟨0, by omega, rfl⟩
      case round =>
        obtain ⟨k, hk, rfl⟩ := hrel
        rcases (show k = 0 ∨ k = 1 ∨ k = 2 by omega) with rfl | rfl | rfl
        · go_wp2_with fail
          refine (HC0.out _).mono ?_
          rintro e w1 ⟨rfl, rfl⟩
          go_wp2_with fail
          go_round
          case rel => exact ⟨1, by omega, by go_num⟩
          case measure => simp [intOf]
        · go_wp2_with fail
          refine (HC1.out _).mono ?_
          rintro e w1 ⟨rfl, rfl⟩
          go_wp2_with fail
          go_round
          case rel => exact ⟨2, by omega, by go_num⟩
          case measure => simp [intOf]
        · go_wp2
          go_ret
          exact ⟨rfl, rfl⟩
    · have hne : (r1 == 0) = false := by simpa using hz1
      have hne2 : (r1 != 0) = true := by simpa using hz1
      go_enter Tryd.func67, Tryd.ntmps67
      go_wp2_with fail
      go_loop [11] (fun i => ∃ k : Nat, k ≤ 1 ∧ i = .int .i64 k) (fun i => 2 - (intOf i).toNat)
      case atStart => exact ⟨0, by omega, rfl⟩
      case round =>
        obtain ⟨k, hk, rfl⟩ := hrel
        rcases (show k = 0 ∨ k = 1 by omega) with rfl | rfl
        · go_wp2_with fail
          refine (HC0.out _).mono ?_
          rintro e w1 ⟨rfl, rfl⟩
          go_wp2_with fail
          go_round
          case rel => exact ⟨1, by omega, by go_num⟩
          case measure => simp [intOf]
        · go_wp2_with fail
          refine (HC1.out _).mono ?_
          rintro e w1 ⟨rfl, rfl⟩
          go_wp2
          go_ret
          exact ⟨rfl, rfl⟩
  · have hne : (r0 == 0) = false := by simpa using hz
    have hne2 : (r0 != 0) = true := by simpa using hz
    rw [if_neg hz]
    go_enter Tryd.func67, Tryd.ntmps67
    go_wp2_with fail
    go_loop [11] (fun i => i = .int .i64 0) (fun i => 2 - (intOf i).toNat)
    case atStart => rfl
    case round =>
      subst hrel
      go_wp2_with fail
      refine (HC0.out _).mono ?_
      rintro e w1 ⟨rfl, rfl⟩
      go_wp2
      go_ret
      exact ⟨rfl, rfl⟩
/-! ### is it there? -/
set_option maxRecDepth 100000 in
set_option maxHeartbeats 1600000 in
theorem index_any (q : Option Addr) (n k : Nat) (l : List Nat) (x : Nat) (w : World) (hl : l.length = n) (hn : n ≤ 1000000) (hr : Rd w w.heap.size q (nts l)) :
    Calls Tryd.prog 68 #[.slice q n k, .int .i64 (x : Int)] w fun e w' => (∃ r : Int, e = .returned (.int .i64 r) ∧ (0 ≤ r ↔ x ∈ l)) ∧ w' = w := by
  have HR := Lib.hid hr
  have HL := Lib.hid hl
  clear hr hl
  go_enter Tryd.func68, Tryd.ntmps68
  go_wp2_with fail
  go_loop [8] (fun i => ∃ t : Nat, t ≤ n ∧ i = .int .i64 t ∧ Hid (x ∉ l.take t)) (fun i => n - (intOf i).toNat)
  case atStart => exact ⟨0, by omega, rfl, Lib.hid (by simp)⟩
  case round =>
    obtain ⟨t, ht, rfl, hno⟩ := hrel
    have HNO := Lib.hid hno.out
    clear hno
    by_cases hlt : t < n
    · have hd : decide ((t : Int) < n) = true := decide_eq_true (by omega)
      obtain ⟨y, hy⟩ : ∃ y, l[t]? = some y := ⟨_, List.getElem?_eq_getElem (by rw [HL.out]; exact hlt)⟩
      obtain ⟨b, off, rfl, hb, hc⟩ := HR.out t (.int .i64 (y : Int)) (nts_get hy)
      by_cases hxy : x = y
      · have he : ((x : Int) == (y : Int)) = true := by rw [hxy]; simp
        have HM := Lib.hid (show ((0 : Int) ≤ (t : Int)) ↔ x ∈ l from ⟨fun _ => by rw [hxy]; exact List.mem_of_getElem? hy, fun _ => by omega⟩)
        clear hxy hy
        go_wp2
        go_ret
        exact ⟨⟨_, rfl, HM.out⟩, rfl⟩
      · have he : ((x : Int) == (y : Int)) = false := by
          rw [beq_eq_false_iff_ne]; omega
        have HNO2 := Lib.hid (show x ∉ l.take (t + 1) by
          rw [List.take_add_one, hy]
          intro h
          rcases List.mem_append.1 h with h | h
          · exact HNO.out h
          · exact hxy (by simpa using h))
        clear hxy hy
        go_wp2
        go_round
        case rel => exact ⟨t + 1, by omega, by go_num, Lib.hid HNO2.out⟩
        case measure => simp [intOf]; omega
    · have hd : decide ((t : Int) < n) = false := decide_eq_false (by omega)
      have hd2 : decide (t < n) = false := decide_eq_false (by omega)
      have HM := Lib.hid (show ((0 : Int) ≤ -1) ↔ x ∈ l from ⟨fun h => absurd h (by omega), fun h => by
        have h9 := HNO.out
        rw [List.take_of_length_le (by rw [HL.out]; omega)] at h9
        exact absurd h h9⟩)
      go_wp2
      go_ret
      exact ⟨⟨_, rfl, HM.out⟩, rfl⟩
theorem contains_any (q : Option Addr) (n k : Nat) (l : List Nat) (x : Nat) (w : World) (hl : l.length = n) (hn : n ≤ 1000000) (hr : Rd w w.heap.size q (nts l)) :
    Calls Tryd.prog 34 #[.slice q n k, .int .i64 (x : Int)] w fun e w' => e = .returned (.bool (decide (x ∈ l))) ∧ w' = w := by
  have HI := Lib.hid (index_any q n k l x w hl hn hr)
  clear hl hr
  go_enter Tryd.func34, Tryd.ntmps34
  go_wp2_with fail
  refine HI.out.mono ?_
  rintro e w1 ⟨⟨r, rfl, hr⟩, rfl⟩
  have HR := Lib.hid (show decide (0 ≤ r) = decide (x ∈ l) from decide_eq_decide.2 hr)
  clear hr
  go_wp2
  go_ret
  exact ⟨by rw [← HR.out]; rfl, rfl⟩
end Go.Proofs.YtghinmlpkgcdiaaDoor
