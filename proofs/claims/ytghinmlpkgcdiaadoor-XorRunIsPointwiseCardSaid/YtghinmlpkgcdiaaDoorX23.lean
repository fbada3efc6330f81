/- Schedules: what Run returns of joined and of added units. -/
import Derived.Test.YtghinmlpkgcdiaaDoorX22
import Derived.Test.YtghinmlpkgcdiaaDoorXN
namespace Go.Proofs.YtghinmlpkgcdiaaDoor
set_option linter.unusedSimpArgs false
set_option linter.unusedVariables false
open Go.RowKit Go.Lib

theorem acc_of {f d p : Int} {ops : List (Int × Int)} {out : List Int} {ss : List ByteArray} {n : Nat} (hok : Xp.okS f d p ops out = true) (hl : (ss.length : Int) = d) (hne : 1 ≤ ss.length) (hall : ∀ s ∈ ss, s.size = n) (hz : n % (f.toNat / 8) = 0) :
    Xp.acc f d p ops out ss = true ∧ Xp.unitN ss = n := by
  have hu : (ss.headD ByteArray.empty).size = n := by
    cases ss with
    | nil => simp at hne
    | cons s r => exact hall s (by simp)
  refine ⟨?_, hu⟩
  unfold Xp.acc Xp.fits
  rw [hok, hu, decide_eq_true hl, decide_eq_true hz]
  have : (ss.any fun s => (s.size : Int) != (n : Int)) = false := by
    rw [List.any_eq_false]
    intro s hs
    rw [hall s hs]; simp
  rw [this]; rfl
theorem parity_length (f p : Int) (ops : List (Int × Int)) (out : List Int) (ss : List ByteArray) : (Xp.parity f p ops out ss).length = p.toNat := by unfold Xp.parity Xp.runOut; simp
theorem parity_sizes {f p : Int} {ops : List (Int × Int)} {out : List Int} {ss : List ByteArray} {u : List UInt8} (h : u ∈ Xp.parity f p ops out ss) : u.length = Xp.unitN ss := by
  unfold Xp.parity Xp.runOut at h
  obtain ⟨i, _, rfl⟩ := List.mem_map.1 h
  exact Xp.unitL_length _ _ _
theorem mem_zip {α β γ : Type} {f : α → β → γ} {x : γ} : ∀ {A : List α} {B : List β}, x ∈ List.zipWith f A B → ∃ a ∈ A, ∃ b ∈ B, x = f a b
  | [], _, h => by simp at h
  | _ :: _, [], h => by simp at h
  | a :: A, b :: B, h => by
    rw [List.zipWith_cons_cons] at h
    rcases List.mem_cons.1 h with rfl | h
    · exact ⟨a, by simp, b, by simp, rfl⟩
    · obtain ⟨x, hx, y, hy, e⟩ := mem_zip h
      exact ⟨x, List.mem_cons_of_mem _ hx, y, List.mem_cons_of_mem _ hy, e⟩
theorem zip_congr {α β γ : Type} {f g : α → β → γ} : ∀ {A : List α} {B : List β}, (∀ a ∈ A, ∀ b ∈ B, f a b = g a b) → List.zipWith f A B = List.zipWith g A B
  | [], _, h => by simp
  | _ :: _, [], h => by simp
  | a :: A, b :: B, h => by
    rw [List.zipWith_cons_cons, List.zipWith_cons_cons, h a (by simp) b (by simp), zip_congr fun x hx y hy => h x (List.mem_cons_of_mem _ hx) y (List.mem_cons_of_mem _ hy)]
section
variable {f d p : Int} {ops : List (Int × Int)} {out : List Int} {sa sb : List ByteArray}
theorem pw_lens (ha : Xp.acc f d p ops out sa = true) (hb : Xp.acc f d p ops out sb = true) : sa.length = sb.length ∧ 1 ≤ sa.length ∧ (∀ s ∈ sa, s.size = Xp.unitN sa) ∧ ∀ s ∈ sb, s.size = Xp.unitN sb := by
  obtain ⟨m, D, P, NS, rfl, rfl, rfl, hm, hD, hlD, hn, hall, hok⟩ := acc_parts ha
  obtain ⟨m', D', P', NS', e1, e2, e3, hm', hD', hlD', hn', hall', hok'⟩ := acc_parts hb
  exact ⟨by omega, by omega, hall, hall'⟩
theorem par_join (ha : Xp.acc f d p ops out sa = true) (hb : Xp.acc f d p ops out sb = true) :
    Xp.acc f d p ops out (List.zipWith (· ++ ·) sa sb) = true ∧ Xp.parity f p ops out (List.zipWith (· ++ ·) sa sb) = List.zipWith (· ++ ·) (Xp.parity f p ops out sa) (Xp.parity f p ops out sb) := by
  obtain ⟨m, D, P, NS, rfl, rfl, rfl, hm, hD, hlD, hn, hall, hok⟩ := acc_parts ha
  obtain ⟨m', D', P', NS', e1, e2, e3, hm', hD', hlD', hn', hall', hok'⟩ := acc_parts hb
  have e1 : m' = m := by omega
  have e2 : D' = D := by omega
  subst e1; subst e2
  have hl : sa.length = sb.length := by omega
  obtain ⟨h1, h2⟩ := acc_of (n := Xp.unitN sa + Xp.unitN sb) (ss := List.zipWith (· ++ ·) sa sb) hok (by rw [List.length_zipWith, hlD, hlD']; simp) (by rw [List.length_zipWith]; omega) (by
    intro s hs
    obtain ⟨a, ha, b, hb, rfl⟩ := mem_zip hs
    rw [ByteArray.size_append, hall a ha, hall' b hb]) (by
    rw [hn, hn', ← Nat.add_mul]; exact Nat.mul_mod_left _ _)
  refine ⟨h1, ?_⟩
  unfold Xp.parity
  rw [h2, hn]
  exact Xp.runOut_join hm sa sb _ _ hl fun a ha => (hall a ha).trans hn
theorem par_xor (ha : Xp.acc f d p ops out sa = true) (hb : Xp.acc f d p ops out sb = true) (he : Xp.unitN sa = Xp.unitN sb) :
    Xp.acc f d p ops out (List.zipWith (fun a b => strB (xorS a b)) sa sb) = true ∧ Xp.parity f p ops out (List.zipWith (fun a b => strB (xorS a b)) sa sb) = List.zipWith Fld.xorL (Xp.parity f p ops out sa) (Xp.parity f p ops out sb) := by
  obtain ⟨m, D, P, NS, rfl, rfl, rfl, hm, hD, hlD, hn, hall, hok⟩ := acc_parts ha
  obtain ⟨m', D', P', NS', e1, e2, e3, hm', hD', hlD', hn', hall', hok'⟩ := acc_parts hb
  have e1 : m' = m := by omega
  have e2 : D' = D := by omega
  subst e1; subst e2
  have hl : sa.length = sb.length := by omega
  have hz : List.zipWith (fun a b => strB (xorS a b)) sa sb = List.zipWith (fun a b => strB (Fld.xorL a.data.toList b.data.toList)) sa sb := zip_congr fun a ha b hb => by
    unfold xorS
    rw [if_pos ((hall a ha).trans (he.trans (hall' b hb).symm))]
  rw [hz]
  obtain ⟨h1, h2⟩ := acc_of (n := Xp.unitN sa) (ss := List.zipWith (fun a b => strB (Fld.xorL a.data.toList b.data.toList)) sa sb) hok (by rw [List.length_zipWith, hlD, hlD']; simp) (by rw [List.length_zipWith]; omega) (by
    intro s hs
    obtain ⟨a, ha, b, hb, rfl⟩ := mem_zip hs
    have e1 : a.data.toList.length = a.size := by rw [Array.length_toList]; rfl
    have e2 : b.data.toList.length = b.size := by rw [Array.length_toList]; rfl
    have := hall a ha; have := hall' b hb
    rw [strB_size, Fld.xorL_length (by omega), e1]; omega) (by
    rw [hn]; exact Nat.mul_mod_left _ _)
  refine ⟨h1, ?_⟩
  unfold Xp.parity
  rw [h2, ← he]
  exact Xp.runOut_xor hm sa sb _ _ hl hall fun b hb => (hall' b hb).trans he.symm
end
end Go.Proofs.YtghinmlpkgcdiaaDoor
