/- Sector: what Seal, Open and Label answer of a sealed sector, in the walks' own values. -/
import Derived.Test.YtdkkoogcaininaaS16
namespace Go.Proofs.Ytdkkoogcaininaa
set_option linter.unusedSimpArgs false
set_option linter.unusedVariables false
open Go.RowKit Go.Lib

/-- what Seal takes -/
def okS (d a i e c : Int) (p : ByteArray) : Bool := placeB d a i && genB e c && decide (p.size ≤ 40)
theorem seal_no (d a i e c : Int) (p : ByteArray) (w : World) (h : okS d a i e c p = false) :
    Calls Try.prog 10 #[.agg #[.int .i64 d, .int .i64 a, .int .i64 i], .agg #[.int .i64 e, .int .i64 c], .string p] w fun x w' => x = .returned (.tuple #[.string .empty, .int .i64 1]) ∧ Below w.heap.size w w' := by
  refine seal_bad d a i e c p w ?_
  cases h1 : placeB d a i with
  | false => exact .inl rfl
  | true =>
    cases h2 : genB e c with
    | false => exact .inr (.inl ⟨rfl, rfl⟩)
    | true => exact .inr (.inr ⟨rfl, rfl, by rw [okS, h1, h2] at h; simp at h; omega⟩)
theorem seal_yes (d a i e c : Int) (p : ByteArray) (w : World) (h : okS d a i e c p = true) :
    Calls Try.prog 10 #[.agg #[.int .i64 d, .int .i64 a, .int .i64 i], .agg #[.int .i64 e, .int .i64 c], .string p] w fun x w' => x = .returned (.tuple #[.string (strB (sealOf d.toNat a.toNat i.toNat e.toNat c.toNat p.data.toList)), .int .i64 0]) ∧ Below w.heap.size w w' := by
  simp only [okS, Bool.and_eq_true, decide_eq_true_eq] at h
  exact seal_ok d a i e c p w h.1.1 h.1.2 h.2
theorem okS_parts {d a i e c : Int} {p : ByteArray} (h : okS d a i e c p = true) : (0 ≤ d ∧ 0 ≤ a ∧ 0 ≤ i ∧ 0 ≤ e ∧ 0 ≤ c) ∧ placeB d.toNat a.toNat i.toNat = true ∧ genB e.toNat c.toNat = true ∧ p.data.toList.length ≤ 40 := by
  simp only [okS, Bool.and_eq_true, decide_eq_true_eq] at h
  obtain ⟨⟨h1, h2⟩, h3⟩ := h
  have g := placeB_iff.1 h1
  have hec : 0 ≤ e ∧ 0 ≤ c := by simp only [genB, fitG, Bool.and_eq_true, decide_eq_true_eq] at h2; omega
  refine ⟨by omega, ?_, ?_, by rw [len_data]; exact h3⟩
  · rw [Int.toNat_of_nonneg g.1, Int.toNat_of_nonneg (by omega), Int.toNat_of_nonneg (by omega)]; exact h1
  · rw [Int.toNat_of_nonneg hec.1, Int.toNat_of_nonneg hec.2]; exact h2
theorem seal_pad (d a i e c : Nat) (p q : List UInt8) (h : padL p = padL q) : sealOf d a i e c p = sealOf d a i e c q := by
  have hb : ∀ p : List UInt8, bodyOf d a i e c p = [UInt8.ofNat a, UInt8.ofNat d] ++ bytesOf 2 i ++ bytesOf 4 e ++ bytesOf 4 c ++ padL p ++ bytesOf 4 e ++ bytesOf 4 c := fun p => by simp [bodyOf, padL, List.append_assoc]
  rw [sealOf, sealOf, hb, hb, h]
theorem seal_inj (d a i e c d2 a2 i2 e2 c2 : Int) (p q : ByteArray) (h : okS d a i e c p = true) (h2 : okS d2 a2 i2 e2 c2 q = true)
    (hs : sealOf d.toNat a.toNat i.toNat e.toNat c.toNat p.data.toList = sealOf d2.toNat a2.toNat i2.toNat e2.toNat c2.toNat q.data.toList) :
    d = d2 ∧ a = a2 ∧ i = i2 ∧ e = e2 ∧ c = c2 ∧ padL p.data.toList = padL q.data.toList := by
  obtain ⟨k1, k2, k3, k4⟩ := okS_parts h
  obtain ⟨l1, l2, l3, l4⟩ := okS_parts h2
  have m1 := seal_lab d.toNat a.toNat i.toNat e.toNat c.toNat p.data.toList k2 k3 k4
  have m2 := seal_lab d2.toNat a2.toNat i2.toNat e2.toNat c2.toNat q.data.toList l2 l3 l4
  have o1 := seal_open d.toNat a.toNat i.toNat e.toNat c.toNat p.data.toList k2 k3 k4
  have o2 := seal_open d2.toNat a2.toNat i2.toNat e2.toNat c2.toNat q.data.toList l2 l3 l4
  rw [hs, m2] at m1
  simp only [Prod.mk.injEq] at m1
  obtain ⟨j1, j2, j3, j4, j5, _⟩ := m1
  rw [hs, ← j1, ← j2, ← j3, o2] at o1
  simp only [Prod.mk.injEq] at o1
  exact ⟨by omega, by omega, by omega, by omega, by omega, o1.2.2.1.symm⟩
theorem str_beq2 (x y : List UInt8) : ((strB x).toList == (strB y).toList) = decide (x = y) := by rw [str_beq, strB_data, strB_data]
theorem nat_of {z : Int} (h : 0 ≤ z) : ((z.toNat : Nat) : Int) = z := Int.toNat_of_nonneg h
theorem open_own {d a i e c : Int} {p : ByteArray} (h : okS d a i e c p = true) : opV (opOf d a i (sealOf d.toNat a.toNat i.toNat e.toNat c.toNat p.data.toList)) = .tuple #[.agg #[.int .i64 e, .int .i64 c], .string (strB (padL p.data.toList)), .int .i64 0] := by
  obtain ⟨⟨g1, g2, g3, g4, g5⟩, k2, k3, k4⟩ := okS_parts h
  have := seal_open d.toNat a.toNat i.toNat e.toNat c.toNat p.data.toList k2 k3 k4
  rw [nat_of g1, nat_of g2, nat_of g3] at this
  rw [this]
  simp only [opV, nat_of g4, nat_of g5]; rfl
theorem lab_own {d a i e c : Int} {p : ByteArray} (h : okS d a i e c p = true) : labV (labOf (sealOf d.toNat a.toNat i.toNat e.toNat c.toNat p.data.toList)) = .tuple #[.agg #[.int .i64 d, .int .i64 a, .int .i64 i], .agg #[.int .i64 e, .int .i64 c], .int .i64 0] := by
  obtain ⟨⟨g1, g2, g3, g4, g5⟩, k2, k3, k4⟩ := okS_parts h
  rw [seal_lab d.toNat a.toNat i.toNat e.toNat c.toNat p.data.toList k2 k3 k4]
  simp only [labV, nat_of g1, nat_of g2, nat_of g3, nat_of g4, nat_of g5]; rfl
theorem open_else {d a i e c : Int} {p : ByteArray} (h : okS d a i e c p = true) (d2 a2 i2 : Int) (h2 : placeB d2 a2 i2 = true) (hn : ¬ (d2 = d ∧ a2 = a ∧ i2 = i)) :
    opV (opOf d2 a2 i2 (sealOf d.toNat a.toNat i.toNat e.toNat c.toNat p.data.toList)) = .tuple #[.agg #[.int .i64 0, .int .i64 0], .string (strB []), .int .i64 8] := by
  obtain ⟨⟨g1, g2, g3, g4, g5⟩, k2, k3, k4⟩ := okS_parts h
  rw [(seal_other d.toNat a.toNat i.toNat e.toNat c.toNat p.data.toList d2 a2 i2 k2 k3 k4).2 h2 (by rw [nat_of g1, nat_of g2, nat_of g3]; omega)]; rfl
theorem open_none {d a i e c : Int} {p : ByteArray} (d2 a2 i2 : Int) (h2 : placeB d2 a2 i2 = false) (l : List UInt8) :
    opV (opOf d2 a2 i2 l) = .tuple #[.agg #[.int .i64 0, .int .i64 0], .string (strB []), .int .i64 1] := by
  rw [opOf, if_pos h2]; rfl
theorem okS_size {d a i e c : Int} {p : ByteArray} (h : okS d a i e c p = true) : (strB (sealOf d.toNat a.toNat i.toNat e.toNat c.toNat p.data.toList)).size = 64 ∧ p.size ≤ 40 := by
  obtain ⟨_, k2, k3, k4⟩ := okS_parts h
  exact ⟨by rw [strB_size, seal_len _ _ _ _ _ _ k4], by rw [← len_data]; exact k4⟩
end Go.Proofs.Ytdkkoogcaininaa
