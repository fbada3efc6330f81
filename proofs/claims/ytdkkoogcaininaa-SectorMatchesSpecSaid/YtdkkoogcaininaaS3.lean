/- Sector: put and the reference's number. -/
import Derived.Test.YtdkkoogcaininaaS2
namespace Go.Proofs.Ytdkkoogcaininaa
set_option linter.unusedSimpArgs false
set_option linter.unusedVariables false
open Go.RowKit

theorem elem_u8 : Elem Try.prog 5 (.int .u8 0) 1 := by unfold Elem; kernel_rfl
theorem bytesOf_snoc (k : Nat) : ∀ n, bytesOf (k + 1) n = bytesOf k n ++ [UInt8.ofNat (n / 256 ^ k % 256)] := by
  induction k with
  | zero => intro n; simp [bytesOf]
  | succ k ih =>
    intro n
    rw [bytesOf, ih (n / 256), bytesOf]
    simp only [List.cons_append]
    rw [Nat.div_div_eq_div_mul, Nat.pow_succ, Nat.mul_comm 256]
theorem v8_byte (m : Nat) : v8 (UInt8.ofNat (m % 256)) = .int .u8 ((m : Int) % 256) := by
  rw [v8, UInt8.toNat_ofNat']; congr 1; omega

set_option maxRecDepth 100000 in
theorem put16_any (B : Nat) (a : Option Addr) (n c : Nat) (bs : List UInt8) (m : Nat) (w : World) (hm : m < 65536) (hn : n ≤ 1000) (hB : B ≤ w.heap.size) (ho : Own w B 5 a n c (bs.map v8)) :
    Calls Try.prog 22 #[.slice a n c, .int .u16 m] w fun e w' => ∃ (a' : Option Addr) (c' : Nat), e = .returned (.slice a' (n + 2) c') ∧ Own w' B 5 a' (n + 2) c' ((bs ++ bytesOf 2 m).map v8) ∧ Below B w w' := by
  have HO := Lib.hid ho
  clear ho
  go_enter Try.func22, Try.ntmps22
  go_wp2_with fail
  refine (size16_any _).mono ?_
  rintro e w1 ⟨rfl, rfl⟩
  go_wp2_with fail
  go_loopw [0, 1, 6] (fun sv nv iv wr => ∃ (k c' : Nat) (a' : Option Addr), k ≤ 2 ∧ iv = .int .i64 k ∧ nv = .int .u16 ((m / 256 ^ k : Nat) : Int) ∧ sv = .slice a' (n + k) c' ∧ Own wr B 5 a' (n + k) c' ((bs ++ bytesOf k m).map v8) ∧ Below B w wr) (fun _ _ iv _ => 2 - (intOf iv).toNat)
  case atStart => exact ⟨0, c, a, by omega, rfl, by simp, rfl, by simpa [bytesOf] using HO.out, Below.refl _ _⟩
  case round =>
    obtain ⟨k, c', a', hk, rfl, rfl, rfl, ho, hb⟩ := hrel
    have HX := Lib.hid ho
    have HB := Lib.hid hb
    clear ho hb
    by_cases hlt : k < 2
    · obtain ⟨q, hq⟩ : ∃ q, q = m / 256 ^ k := ⟨_, rfl⟩
      have hqm : q < 65536 := by rw [hq]; exact Nat.lt_of_le_of_lt (Nat.div_le_self _ _) hm
      have HS := Lib.hid (show (bs ++ bytesOf (k + 1) m).map v8 = (bs ++ bytesOf k m).map v8 ++ [.int .u8 ((q : Int) % 256)] by
        rw [bytesOf_snoc, ← List.append_assoc, List.map_append, ← hq]; simp [v8_byte])
      have HQ := Lib.hid (show m / 256 ^ (k + 1) = q / 256 by rw [hq, Nat.div_div_eq_div_mul, Nat.pow_succ])
      rw [← hq]
      clear hq
      go_wp2_with (refine wpList_app _ rfl (.tmp 8) (.tmp 11) 40 rfl B 5 (.int .u8 0) 1 Try.underlying40 elem_u8 rfl a' (n + k) c' _ rfl (HX.out.alloc _) _ (some ⟨wr.heap.size, 0, none⟩) 1 1 [.int .u8 ((q : Int) % 256)] rfl (Rd.one wr _ _) rfl (by intro u hu; simp only [List.mem_singleton] at hu; subst hu; rfl) (by unfold maxLen; omega) (by omega) (by have := HB.out.size; simp; omega) ?_; intro a2 c2 w2 ho hg; have HO2 := Lib.hid ho; have HB2 := Lib.hid (below_grown2 (HB.out.alloc (by have := HB.out.size; omega) _) hg (HX.out.alloc _) (by have := HB.out.size; simp; omega) (Nat.le_refl _)); clear ho hg)
      go_roundw
      case rel => exact ⟨k + 1, c2, a2, by omega, by go_num, by rw [HQ.out]; rfl, rfl, by rw [HS.out]; exact HO2.out, HB2.out⟩
      case measure => simp [intOf]; omega
    · obtain rfl : k = 2 := by omega
      go_wp2_with fail
      go_ret
      exact ⟨_, _, rfl, HX.out, HB.out⟩

set_option maxRecDepth 100000 in
theorem put32_any (B : Nat) (a : Option Addr) (n c : Nat) (bs : List UInt8) (m : Nat) (w : World) (hm : m < 4294967296) (hn : n ≤ 1000) (hB : B ≤ w.heap.size) (ho : Own w B 5 a n c (bs.map v8)) :
    Calls Try.prog 23 #[.slice a n c, .int .u32 m] w fun e w' => ∃ (a' : Option Addr) (c' : Nat), e = .returned (.slice a' (n + 4) c') ∧ Own w' B 5 a' (n + 4) c' ((bs ++ bytesOf 4 m).map v8) ∧ Below B w w' := by
  have HO := Lib.hid ho
  clear ho
  go_enter Try.func23, Try.ntmps23
  go_wp2_with fail
  refine (size32_any _).mono ?_
  rintro e w1 ⟨rfl, rfl⟩
  go_wp2_with fail
  go_loopw [0, 1, 6] (fun sv nv iv wr => ∃ (k c' : Nat) (a' : Option Addr), k ≤ 4 ∧ iv = .int .i64 k ∧ nv = .int .u32 ((m / 256 ^ k : Nat) : Int) ∧ sv = .slice a' (n + k) c' ∧ Own wr B 5 a' (n + k) c' ((bs ++ bytesOf k m).map v8) ∧ Below B w wr) (fun _ _ iv _ => 4 - (intOf iv).toNat)
  case atStart => exact ⟨0, c, a, by omega, rfl, by simp, rfl, by simpa [bytesOf] using HO.out, Below.refl _ _⟩
  case round =>
    obtain ⟨k, c', a', hk, rfl, rfl, rfl, ho, hb⟩ := hrel
    have HX := Lib.hid ho
    have HB := Lib.hid hb
    clear ho hb
    by_cases hlt : k < 4
    · obtain ⟨q, hq⟩ : ∃ q, q = m / 256 ^ k := ⟨_, rfl⟩
      have hqm : q < 4294967296 := by rw [hq]; exact Nat.lt_of_le_of_lt (Nat.div_le_self _ _) hm
      have HS := Lib.hid (show (bs ++ bytesOf (k + 1) m).map v8 = (bs ++ bytesOf k m).map v8 ++ [.int .u8 ((q : Int) % 256)] by
        rw [bytesOf_snoc, ← List.append_assoc, List.map_append, ← hq]; simp [v8_byte])
      have HQ := Lib.hid (show m / 256 ^ (k + 1) = q / 256 by rw [hq, Nat.div_div_eq_div_mul, Nat.pow_succ])
      rw [← hq]
      clear hq
      go_wp2_with (refine wpList_app _ rfl (.tmp 8) (.tmp 11) 40 rfl B 5 (.int .u8 0) 1 Try.underlying40 elem_u8 rfl a' (n + k) c' _ rfl (HX.out.alloc _) _ (some ⟨wr.heap.size, 0, none⟩) 1 1 [.int .u8 ((q : Int) % 256)] rfl (Rd.one wr _ _) rfl (by intro u hu; simp only [List.mem_singleton] at hu; subst hu; rfl) (by unfold maxLen; omega) (by omega) (by have := HB.out.size; simp; omega) ?_; intro a2 c2 w2 ho hg; have HO2 := Lib.hid ho; have HB2 := Lib.hid (below_grown2 (HB.out.alloc (by have := HB.out.size; omega) _) hg (HX.out.alloc _) (by have := HB.out.size; simp; omega) (Nat.le_refl _)); clear ho hg)
      go_roundw
      case rel => exact ⟨k + 1, c2, a2, by omega, by go_num, by rw [HQ.out]; rfl, rfl, by rw [HS.out]; exact HO2.out, HB2.out⟩
      case measure => simp [intOf]; omega
    · obtain rfl : k = 4 := by omega
      go_wp2_with fail
      go_ret
      exact ⟨_, _, rfl, HX.out, HB.out⟩

set_option maxRecDepth 100000 in
theorem number2_any (m : Nat) (w : World) (hm : m < 9223372036854775807) :
    Calls Try.prog 26 #[.int .i64 m, .int .i64 2] w fun e w' => ∃ (a' : Option Addr) (c' : Nat), e = .returned (.slice a' 2 c') ∧ Own w' w.heap.size 5 a' 2 c' ((bytesOf 2 m).map v8) ∧ Below w.heap.size w w' := by
  go_enter Try.func26, Try.ntmps26
  go_wp2_with fail
  go_loopw [5, 6] (fun sv iv wr => ∃ (k c' : Nat) (a' : Option Addr), k ≤ 2 ∧ iv = .int .i64 k ∧ sv = .slice a' k c' ∧ Own wr w.heap.size 5 a' k c' ((bytesOf k m).map v8) ∧ Below w.heap.size w wr) (fun _ iv _ => 2 - (intOf iv).toNat)
  case atStart => exact ⟨0, 0, none, by omega, rfl, rfl, Own.nil _ _ _, Below.refl _ _⟩
  case round =>
    obtain ⟨k, c', a', hk, rfl, rfl, ho, hb⟩ := hrel
    have HX := Lib.hid ho
    have HB := Lib.hid hb
    clear ho hb
    by_cases hlt : k < 2
    · have HS := Lib.hid (show (bytesOf (k + 1) m).map v8 = (bytesOf k m).map v8 ++ [.int .u8 (((m / 256 ^ k : Nat) : Int) % 256)] by
        rw [bytesOf_snoc, List.map_append]; simp [v8_byte])
      rcases (show k = 0 ∨ k = 1 by omega) with rfl | rfl
      all_goals
        go_wp2_with (refine wpList_app _ rfl (.tmp 12) (.tmp 18) 40 rfl w.heap.size 5 (.int .u8 0) 1 Try.underlying40 elem_u8 rfl a' _ c' _ rfl (HX.out.alloc _) _ (some ⟨wr.heap.size, 0, none⟩) 1 1 [_] rfl (Rd.one wr _ _) rfl (by intro u hu; simp only [List.mem_singleton] at hu; subst hu; rfl) (by unfold maxLen; omega) (by omega) (by have := HB.out.size; simp; omega) ?_; intro a2 c2 w2 ho hg; have HO2 := Lib.hid ho; have HB2 := Lib.hid (below_grown2 (HB.out.alloc HB.out.size _) hg (HX.out.alloc _) (by have := HB.out.size; simp; omega) (Nat.le_refl _)); clear ho hg)
        go_roundw
        case rel => exact ⟨_, c2, a2, by omega, by go_num, rfl, by rw [HS.out]; simpa using HO2.out, HB2.out⟩
        case measure => simp [intOf]
    · obtain rfl : k = 2 := by omega
      go_wp2_with fail
      go_ret
      exact ⟨_, _, rfl, HX.out, HB.out⟩

set_option maxRecDepth 100000 in
theorem number4_any (m : Nat) (w : World) (hm : m < 9223372036854775807) :
    Calls Try.prog 26 #[.int .i64 m, .int .i64 4] w fun e w' => ∃ (a' : Option Addr) (c' : Nat), e = .returned (.slice a' 4 c') ∧ Own w' w.heap.size 5 a' 4 c' ((bytesOf 4 m).map v8) ∧ Below w.heap.size w w' := by
  go_enter Try.func26, Try.ntmps26
  go_wp2_with fail
  go_loopw [5, 6] (fun sv iv wr => ∃ (k c' : Nat) (a' : Option Addr), k ≤ 4 ∧ iv = .int .i64 k ∧ sv = .slice a' k c' ∧ Own wr w.heap.size 5 a' k c' ((bytesOf k m).map v8) ∧ Below w.heap.size w wr) (fun _ iv _ => 4 - (intOf iv).toNat)
  case atStart => exact ⟨0, 0, none, by omega, rfl, rfl, Own.nil _ _ _, Below.refl _ _⟩
  case round =>
    obtain ⟨k, c', a', hk, rfl, rfl, ho, hb⟩ := hrel
    have HX := Lib.hid ho
    have HB := Lib.hid hb
    clear ho hb
    by_cases hlt : k < 4
    · have HS := Lib.hid (show (bytesOf (k + 1) m).map v8 = (bytesOf k m).map v8 ++ [.int .u8 (((m / 256 ^ k : Nat) : Int) % 256)] by
        rw [bytesOf_snoc, List.map_append]; simp [v8_byte])
      rcases (show k = 0 ∨ k = 1 ∨ k = 2 ∨ k = 3 by omega) with rfl | rfl | rfl | rfl
      all_goals
        go_wp2_with (refine wpList_app _ rfl (.tmp 12) (.tmp 18) 40 rfl w.heap.size 5 (.int .u8 0) 1 Try.underlying40 elem_u8 rfl a' _ c' _ rfl (HX.out.alloc _) _ (some ⟨wr.heap.size, 0, none⟩) 1 1 [_] rfl (Rd.one wr _ _) rfl (by intro u hu; simp only [List.mem_singleton] at hu; subst hu; rfl) (by unfold maxLen; omega) (by omega) (by have := HB.out.size; simp; omega) ?_; intro a2 c2 w2 ho hg; have HO2 := Lib.hid ho; have HB2 := Lib.hid (below_grown2 (HB.out.alloc HB.out.size _) hg (HX.out.alloc _) (by have := HB.out.size; simp; omega) (Nat.le_refl _)); clear ho hg)
        go_roundw
        case rel => exact ⟨_, c2, a2, by omega, by go_num, rfl, by rw [HS.out]; simpa using HO2.out, HB2.out⟩
        case measure => simp [intOf]
    · obtain rfl : k = 4 := by omega
      go_wp2_with fail
      go_ret
      exact ⟨_, _, rfl, HX.out, HB.out⟩
end Go.Proofs.Ytdkkoogcaininaa
