/- Fields: combinations of rows given by functions. -/
import Derived.Test.YtdmcdgpigpekhaaDoorG21
namespace Go.Proofs.YtdmcdgpigpekhaaDoor
set_option linter.unusedSimpArgs false
set_option linter.unusedVariables false
open Go.RowKit Go.Lib

theorem row_at (s : ByteArray) (n : Nat) (N : Int) (hN : N = (n : Int)) (w : World) (hs : s.size ≤ maxLen) (hn : n ≤ 100000000) :
    Calls Tryd.prog 16 #[.string s, .int .i64 N] w fun e w' => e = .returned (.string (strB (rowL s n))) ∧ Below w.heap.size w w' := by
  rw [hN]; exact row_any s n w hs hn
theorem pairs_rows (cf : Nat → Int) (f : Nat → List UInt8) (k : Nat) : pairs ((List.range k).map cf) ((List.range k).map fun i => strB (f i)) = Fld.rowsOf (fun i => (cf i).toNat) f k := by
  unfold pairs Fld.rowsOf
  rw [List.map_map, List.map_map, List.zip_map']
  apply List.map_congr_left
  intro i _
  simp [strB_data]
theorem comb_rows {m : Nat} (hm : Fld.IsM m) {n k : Nat} (hn : n % Fld.size m = 0) (hk : 1 ≤ k) (cf : Nat → Int) (f : Nat → List UInt8) (hcf : ∀ i, i < k → 0 ≤ cf i ∧ cf i < 2 ^ m) (hf : ∀ i, i < k → (f i).length = n) :
    pairS (combS m ((List.range k).map cf) ((List.range k).map fun i => strB (f i))) (combE m ((List.range k).map cf) ((List.range k).map fun i => strB (f i))) = .tuple #[.string (strB (Fld.combTo m n (Fld.rowsOf (fun i => (cf i).toNat) f k))), .int .i64 0] := by
  have h0 : len0 ((List.range k).map fun i => strB (f i)) = n := by
    obtain ⟨k, rfl⟩ : ∃ j, k = j + 1 := ⟨k - 1, by omega⟩
    rw [List.range_succ_eq_map]
    show (strB (f 0)).size = n
    rw [strB_size]; exact hf 0 (by omega)
  have hok : okC m ((List.range k).map cf) ((List.range k).map fun i => strB (f i)) = true := by
    unfold okC
    simp only [Bool.and_eq_true, decide_eq_true_eq, Bool.not_eq_true']
    refine ⟨⟨⟨⟨?_, by simp; omega⟩, by simp⟩, ?_⟩, ?_⟩
    · unfold allB
      rw [Bool.and_eq_true, Bool.not_eq_true', List.any_eq_false]
      refine ⟨okM_iff.2 ⟨m, hm, rfl⟩, fun x hx => ?_⟩
      obtain ⟨i, hi, rfl⟩ := List.mem_map.1 hx
      have := hcf i (List.mem_range.1 hi)
      rw [Int.toNat_natCast, Bool.not_eq_true, badE_false]
      exact this
    · rw [h0, Int.toNat_natCast]; exact hn
    · rw [List.any_eq_false]
      intro u hu
      obtain ⟨i, hi, rfl⟩ := List.mem_map.1 hu
      unfold otherB
      rw [h0, strB_size, hf i (List.mem_range.1 hi)]
      simp
  rw [combS, combE, hok, if_pos rfl, if_pos rfl, h0, pairs_rows, Int.toNat_natCast]; rfl
theorem xor_rows {x y : List UInt8} (h : x.length = y.length) : pairS (xorS (strB x) (strB y)) (xorE (strB x) (strB y)) = .tuple #[.string (strB (Fld.xorL x y)), .int .i64 0] := by
  rw [xorS, xorE, if_pos (by rw [strB_size, strB_size, h]), if_pos (by rw [strB_size, strB_size, h]), strB_data, strB_data]; rfl
theorem scl_rows {m : Nat} (hm : Fld.IsM m) {x : List UInt8} (hx : x.length % 2 = 0) {c : Nat} (hc : c < 2 ^ m) : pairS (sclS m c (strB x)) (sclE m c (strB x).size) = .tuple #[.string (strB (Fld.scl m c x)), .int .i64 0] := by
  have hok : sclOk m c (strB x).size = true := by
    unfold sclOk
    rw [strB_size]
    have : allB (m : Int) [(c : Int)] = true := allB_one hm hc
    rw [this]; simp; omega
  rw [sclS, sclE, hok, if_pos rfl, if_pos rfl, strB_data, Int.toNat_natCast, Int.toNat_natCast]; rfl
end Go.Proofs.YtdmcdgpigpekhaaDoor
