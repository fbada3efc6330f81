/- Sector: the plain law: what a sealed sector's label, payload and checksum are. -/
import Derived.Test.YtdkkoogcaininaaS15
namespace Go.Proofs.Ytdkkoogcaininaa
set_option linter.unusedSimpArgs false
set_option linter.unusedVariables false

theorem padL_len (p : List UInt8) (h : p.length ≤ 40) : (padL p).length = 40 := by
  rw [padL, List.length_append, List.length_replicate]; omega
theorem seal_shape (d a i e c : Nat) (p : List UInt8) : sealOf d a i e c p = bytesOf 4 (Crc.crc (bodyOf d a i e c p)).toNat ++ (UInt8.ofNat a :: UInt8.ofNat d :: (bytesOf 2 i ++ (bytesOf 4 e ++ (bytesOf 4 c ++ (padL p ++ (bytesOf 4 e ++ bytesOf 4 c)))))) := by
  simp [sealOf, bodyOf, padL, List.append_assoc]
theorem body_len (d a i e c : Nat) (p : List UInt8) (h : p.length ≤ 40) : (bodyOf d a i e c p).length = 60 := by
  simp [bodyOf, bytesOf_len]; omega
theorem seal_len (d a i e c : Nat) (p : List UInt8) (h : p.length ≤ 40) : (sealOf d a i e c p).length = 64 := by
  rw [sealOf, List.length_append, bytesOf_len, body_len _ _ _ _ _ _ h]
theorem bytes4 (n : Nat) : ∃ a b c d, bytesOf 4 n = [a, b, c, d] := ⟨_, _, _, _, rfl⟩
theorem bytes2 (n : Nat) : ∃ a b, bytesOf 2 n = [a, b] := ⟨_, _, rfl⟩
theorem seal_parts (d a i e c : Nat) (p : List UInt8) (hd : d < 256) (ha : a < 256) (hi : i < 65536) (he : e < 4294967296) (hc : c < 4294967296) (hp : p.length ≤ 40) :
    fD (sealOf d a i e c p) = d ∧ fA (sealOf d a i e c p) = a ∧ fI (sealOf d a i e c p) = i ∧ fE (sealOf d a i e c p) = e ∧ fC (sealOf d a i e c p) = c ∧ sumOk (sealOf d a i e c p) = true ∧
      whole (sealOf d a i e c p) = true ∧ ((sealOf d a i e c p).drop 16).take 40 = padL p := by
  have hX : (Crc.crc (bodyOf d a i e c p)).toNat < 256 ^ 4 := (Crc.crc (bodyOf d a i e c p)).isLt
  have hsum : sumOk (sealOf d a i e c p) = true := by
    rw [sumOk, decide_eq_true_eq, fQ, sealOf, List.take_left' (bytesOf_len 4 _), List.drop_left' (bytesOf_len 4 _), numOf_bytes 4 _ hX]
  have hQ := padL_len p hp
  have hne := numOf_bytes 4 e (by omega)
  have hnc := numOf_bytes 4 c (by omega)
  have hni := numOf_bytes 2 i (by omega)
  have hua : (UInt8.ofNat a).toNat = a := by rw [UInt8.toNat_ofNat']; omega
  have hud : (UInt8.ofNat d).toNat = d := by rw [UInt8.toNat_ofNat']; omega
  rw [seal_shape] at hsum ⊢
  obtain ⟨x0, x1, x2, x3, hx⟩ := bytes4 (Crc.crc (bodyOf d a i e c p)).toNat
  obtain ⟨e0, e1, e2, e3, hee⟩ := bytes4 e
  obtain ⟨c0, c1, c2, c3, hcc⟩ := bytes4 c
  obtain ⟨i0, i1, hii⟩ := bytes2 i
  rw [hx, hee, hcc, hii] at hsum ⊢
  rw [hee] at hne
  rw [hcc] at hnc
  rw [hii] at hni
  obtain ⟨Q, hQe⟩ : ∃ Q, padL p = Q := ⟨_, rfl⟩
  rw [hQe] at hsum hQ ⊢
  refine ⟨hud, hua, hni, hne, hnc, hsum, ?_, ?_⟩
  · rw [whole, decide_eq_true_eq]
    show [e0, e1, e2, e3, c0, c1, c2, c3] = (Q ++ [e0, e1, e2, e3, c0, c1, c2, c3]).drop 40
    rw [List.drop_left' hQ]
  · show (Q ++ [e0, e1, e2, e3, c0, c1, c2, c3]).take 40 = Q
    rw [List.take_left' hQ]
theorem seal_lab (d a i e c : Nat) (p : List UInt8) (h : placeB d a i = true) (h1 : genB e c = true) (hp : p.length ≤ 40) : labOf (sealOf d a i e c p) = (d, a, i, e, c, 0) := by
  obtain ⟨g1, g2, g3, g4, g5, g6⟩ := placeB_iff.1 h
  have hec : e < 4294967296 ∧ c < 4294967296 := by
    simp only [genB, fitG, Bool.and_eq_true, decide_eq_true_eq] at h1; omega
  obtain ⟨k1, k2, k3, k4, k5, k6, k7, _⟩ := seal_parts d a i e c p (by omega) (by omega) (by omega) hec.1 hec.2 hp
  rw [labOf, if_neg (by rw [seal_len _ _ _ _ _ _ hp]; simp), labOk, k1, k2, k3, k4, k5, k6, k7, h, h1]
  rfl
/-- Open at the sector's own place, and at another one -/
theorem seal_open (d a i e c : Nat) (p : List UInt8) (h : placeB d a i = true) (h1 : genB e c = true) (hp : p.length ≤ 40) : opOf d a i (sealOf d a i e c p) = (e, c, padL p, 0) := by
  obtain ⟨g1, g2, g3, g4, g5, g6⟩ := placeB_iff.1 h
  have hec : e < 4294967296 ∧ c < 4294967296 := by
    simp only [genB, fitG, Bool.and_eq_true, decide_eq_true_eq] at h1; omega
  have k8 := (seal_parts d a i e c p (by omega) (by omega) (by omega) hec.1 hec.2 hp).2.2.2.2.2.2.2
  rw [opOf, if_neg (by rw [h]; simp), seal_lab d a i e c p h h1 hp]
  simp [k8]
theorem seal_other (d a i e c : Nat) (p : List UInt8) (d2 a2 i2 : Int) (h : placeB d a i = true) (h1 : genB e c = true) (hp : p.length ≤ 40) :
    (placeB d2 a2 i2 = false → opOf d2 a2 i2 (sealOf d a i e c p) = (0, 0, [], 1)) ∧
    (placeB d2 a2 i2 = true → ¬ ((d : Int) = d2 ∧ (a : Int) = a2 ∧ (i : Int) = i2) → opOf d2 a2 i2 (sealOf d a i e c p) = (0, 0, [], 8)) := by
  refine ⟨fun hq => by rw [opOf, if_pos hq], fun hq hn => ?_⟩
  rw [opOf, if_neg (by rw [hq]; simp), seal_lab d a i e c p h h1 hp]
  simp only
  rw [if_neg (by simp), if_pos hn]
end Go.Proofs.Ytdkkoogcaininaa
