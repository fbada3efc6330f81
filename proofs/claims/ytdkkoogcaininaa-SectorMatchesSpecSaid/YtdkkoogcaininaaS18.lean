/- Sector: the plain law of torn sectors. -/
import Derived.Test.YtdkkoogcaininaaS17
namespace Go.Proofs.Ytdkkoogcaininaa
set_option linter.unusedSimpArgs false
set_option linter.unusedVariables false

theorem numOf_inj' {a b : List UInt8} (hl : a.length = b.length) (h : numOf a = numOf b) : a = b := by
  rw [← bytesOf_num a, ← bytesOf_num b, hl, h]
theorem mixed_get (S T : List UInt8) (k i : Nat) (h : k ≤ S.length) : (S.take k ++ T.drop k)[i]? = if i < k then S[i]? else T[i]? := by
  by_cases hi : i < k
  · rw [if_pos hi, List.getElem?_append_left (by rw [List.length_take]; omega), List.getElem?_take_of_lt hi]
  · rw [if_neg hi, List.getElem?_append_right (by rw [List.length_take]; omega), List.length_take, List.getElem?_drop]
    congr 1; omega
theorem whole_get {l : List UInt8} (h : whole l = true) (i : Nat) (h1 : 8 ≤ i) (h2 : i < 16) : l[i]? = l[i + 48]? := by
  rw [whole, decide_eq_true_eq] at h
  have : ((l.drop 8).take 8)[i - 8]? = (l.drop 56)[i - 8]? := by rw [h]
  rw [List.getElem?_take_of_lt (by omega), List.getElem?_drop, List.getElem?_drop] at this
  rw [show 8 + (i - 8) = i by omega, show 56 + (i - 8) = i + 48 by omega] at this
  exact this
theorem gens_eq {l m : List UInt8} (h : ∀ i, 8 ≤ i → i < 16 → l[i]? = m[i]?) : fE l = fE m ∧ fC l = fC m := by
  have hp : ∀ a, 8 ≤ a → a + 4 ≤ 16 → (l.drop a).take 4 = (m.drop a).take 4 := fun a h1 h2 => by
    apply List.ext_getElem?
    intro j
    by_cases hj : j < 4
    · rw [List.getElem?_take_of_lt hj, List.getElem?_take_of_lt hj, List.getElem?_drop, List.getElem?_drop]
      exact h (a + j) (by omega) (by omega)
    · rw [List.getElem?_eq_none (by rw [List.length_take]; omega), List.getElem?_eq_none (by rw [List.length_take]; omega)]
  exact ⟨congrArg numOf (hp 8 (by omega) (by omega)), congrArg numOf (hp 12 (by omega) (by omega))⟩
theorem torn_law (S T : List UInt8) (k : Nat) (hS : S.length = 64) (hT : T.length = 64) (hk : k ≤ 64) (hwS : whole S = true) (hwT : whole T = true) (hne : ¬ (fE S = fE T ∧ fC S = fC T))
    (hcase : ((∀ i, 4 ≤ i → i < 8 → S[i]? = T[i]?) ∧ sumOk T = true) ∨ genB (fE T) (fC T) = false) :
    S.take k ++ T.drop k = S ∨ S.take k ++ T.drop k = T ∨ labOk (S.take k ++ T.drop k) = false := by
  have hg := fun i => mixed_get S T k i (by omega)
  obtain ⟨m, hm⟩ : ∃ m, S.take k ++ T.drop k = m := ⟨_, rfl⟩
  have hlen : m.length = 64 := by rw [← hm, List.length_append, List.length_take, List.length_drop]; omega
  rw [hm] at hg ⊢
  cases hl : labOk m with
  | false => exact .inr (.inr rfl)
  | true =>
    rw [labOk, Bool.and_eq_true, Bool.and_eq_true, Bool.and_eq_true] at hl
    obtain ⟨⟨⟨hsum, hpl⟩, hgen⟩, hw⟩ := hl
    have hW := fun i h1 h2 => whole_get hw i h1 h2
    by_cases h16 : k ≤ 16
    · have h8 : ∀ i, 8 ≤ i → i < 16 → m[i]? = T[i]? := fun i h1 h2 => by
        rw [hW i h1 h2, hg (i + 48), if_neg (by omega), whole_get hwT i h1 h2]
      rcases hcase with ⟨hP, hsT⟩ | hz
      · have hd : m.drop 4 = T.drop 4 := by
          apply List.ext_getElem?
          intro j
          rw [List.getElem?_drop, List.getElem?_drop]
          by_cases hj : 4 + j < k
          · by_cases hj2 : 4 + j < 8
            · rw [hg, if_pos hj]; exact hP _ (by omega) hj2
            · exact h8 _ (by omega) (by omega)
          · rw [hg, if_neg hj]
        rw [sumOk, decide_eq_true_eq] at hsum hsT
        rw [hd, ← hsT] at hsum
        have ht := numOf_inj' (a := m.take 4) (b := T.take 4) (by rw [List.length_take, List.length_take, hlen, hT]) hsum
        exact .inr (.inl (by rw [← List.take_append_drop 4 m, ht, hd, List.take_append_drop]))
      · obtain ⟨e1, e2⟩ := gens_eq h8
        rw [e1, e2, hz] at hgen
        cases hgen
    · by_cases h56 : k ≤ 56
      · refine absurd (gens_eq (l := S) (m := T) fun i h1 h2 => ?_) hne
        have := hW i h1 h2
        rw [hg i, if_pos (by omega), hg (i + 48), if_neg (by omega)] at this
        rw [this, whole_get hwT i h1 h2]
      · refine .inl ?_
        apply List.ext_getElem?
        intro i
        by_cases hi : i < k
        · rw [hg, if_pos hi]
        · by_cases hi2 : i < 64
          · have h1 := hW (i - 48) (by omega) (by omega)
            rw [show i - 48 + 48 = i by omega, hg (i - 48), if_pos (by omega)] at h1
            rw [← h1, whole_get hwS (i - 48) (by omega) (by omega), show i - 48 + 48 = i by omega]
          · rw [List.getElem?_eq_none (by omega), List.getElem?_eq_none (by omega)]
theorem seal_whole {d a i e c : Int} {p : ByteArray} (h : okS d a i e c p = true) :
    (sealOf d.toNat a.toNat i.toNat e.toNat c.toNat p.data.toList).length = 64 ∧ whole (sealOf d.toNat a.toNat i.toNat e.toNat c.toNat p.data.toList) = true ∧ sumOk (sealOf d.toNat a.toNat i.toNat e.toNat c.toNat p.data.toList) = true ∧
      fE (sealOf d.toNat a.toNat i.toNat e.toNat c.toNat p.data.toList) = e.toNat ∧ fC (sealOf d.toNat a.toNat i.toNat e.toNat c.toNat p.data.toList) = c.toNat := by
  obtain ⟨⟨g1, g2, g3, g4, g5⟩, k2, k3, k4⟩ := okS_parts h
  have g := placeB_iff.1 k2
  have hec : e.toNat < 4294967296 ∧ c.toNat < 4294967296 := by
    simp only [genB, fitG, Bool.and_eq_true, decide_eq_true_eq] at k3; omega
  obtain ⟨j1, j2, j3, j4, j5, j6, j7, _⟩ := seal_parts d.toNat a.toNat i.toNat e.toNat c.toNat p.data.toList (by omega) (by omega) (by omega) hec.1 hec.2 k4
  exact ⟨seal_len _ _ _ _ _ _ k4, j7, j6, j4, j5⟩
theorem seal_same (d a i e c e2 c2 : Nat) (p q : List UInt8) (j : Nat) (h1 : 4 ≤ j) (h2 : j < 8) : (sealOf d a i e c p)[j]? = (sealOf d a i e2 c2 q)[j]? := by
  rw [seal_shape, seal_shape]
  rw [List.getElem?_append_right (by rw [bytesOf_len]; exact h1), List.getElem?_append_right (by rw [bytesOf_len]; exact h1), bytesOf_len, bytesOf_len]
  obtain ⟨i0, i1, hii⟩ := bytes2 i
  rw [hii]
  rcases (show j = 4 ∨ j = 5 ∨ j = 6 ∨ j = 7 by omega) with rfl | rfl | rfl | rfl <;> rfl
end Go.Proofs.Ytdkkoogcaininaa
