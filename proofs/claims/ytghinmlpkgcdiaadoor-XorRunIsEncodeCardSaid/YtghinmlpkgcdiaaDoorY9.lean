/- Schedules: Shorten in one form; what a shortened schedule does. -/
import Derived.Test.YtghinmlpkgcdiaaDoorY8
import Derived.Test.YtghinmlpkgcdiaaDoorP3
namespace Go.Proofs.YtghinmlpkgcdiaaDoor
set_option linter.unusedSimpArgs false
set_option linter.unusedVariables false
open Go.RowKit Go.Lib

section
variable {f d p : Int} {qo : Option Addr} {no ko : Nat} {qx : Option Addr} {nx kx : Nat} {ops : List (Int × Int)} {out : List Int}
theorem xshorten_say (w : World) (ht : Tab w) (hno : no ≤ 131072) (hs : SchIn w f d p qo no ko qx nx kx ops out) (hok : Xp.okS f d p ops out = true) :
    Calls Tryd.prog 12 #[schV f d p qo no ko qx nx kx] w fun e w' => (∃ qa ka qy ky, e = .returned (.tuple #[schV f d p qa (Xp.shorten f d p ops out).1.length ka qy nx ky, .int .i64 0]) ∧ SchIn w' f d p qa (Xp.shorten f d p ops out).1.length ka qy nx ky (Xp.shorten f d p ops out).1 (Xp.shorten f d p ops out).2) ∧ Below w.heap.size w w' := by
  obtain ⟨m, D, P, rfl, rfl, rfl, hm, h1, h2, h3, h4, h5, h6, h7, h8⟩ := okS_parts hok
  obtain ⟨f1, f2, f3, _⟩ := Xp.shorten_facts hm hok
  have e : ((D : Int) * (m : Int)) = ((D * m : Nat) : Int) := by simp
  obtain ⟨RES, hRES⟩ : ∃ R, Xp.shr (D * m) (Xp.total (Xp.sets (D * m) (Xp.regs (Xp.inputs (D * m)) (natO ops)) out)) [] (Xp.sets (D * m) (Xp.regs (Xp.inputs (D * m)) (natO ops)) out) = R := ⟨_, rfl⟩
  have hsh : Xp.shorten m D P ops out = if (Xp.fin ((D * m : Nat) : Int) RES.1 RES.2).1.length < ops.length then Xp.fin ((D * m : Nat) : Int) RES.1 RES.2 else (ops, out) := by
    unfold Xp.shorten
    rw [e, Int.toNat_natCast]
    simp only
    rw [hRES]
  have hin := okS_in64 f1
  refine (shorten_yes hm qo no ko qx nx kx ops out w ht hno hs.lo hs.ro hs.lx hs.rx hok (D * m) rfl h6 h7 (by rw [← hs.lx, h5]; omega) RES _ _ hRES rfl rfl).mono ?_
  rintro e' w' ⟨⟨hlt, q, k, q2, k2, rfl, ho, hx⟩ | ⟨hge, q, k, q2, k2, rfl, ho, hx⟩, hb⟩
  · rw [if_pos (by rw [hs.lo]; exact hlt)] at hsh
    rw [hsh] at hin ⊢
    refine ⟨⟨q, k, q2, k2, rfl, ?_⟩, hb⟩
    obtain ⟨c1, c2, _⟩ := ho.cap
    exact ⟨hs.f64, hs.d64, hs.p64, rfl, c1, c2, ho.rd, hin.1, by have := hx.len; unfold ints at this; rwa [List.length_map] at this, hx.cap, own_capM hx, hx.rd, hin.2⟩
  · rw [if_neg (by rw [hs.lo]; omega)] at hsh
    rw [hsh] at hin ⊢
    simp only
    rw [hs.lo]
    refine ⟨⟨q, k, q2, k2, rfl, ?_⟩, hb⟩
    obtain ⟨c1, c2, _⟩ := ho.cap
    exact ⟨hs.f64, hs.d64, hs.p64, hs.lo, c1, c2, ho.rd, hs.wo, hs.lx, hx.cap, own_capM hx, hx.rd, hs.wx⟩
/-- the sets are the same -/
theorem shorten_sets (hok : Xp.okS f d p ops out = true) : Xp.setsB f d p (Xp.shorten f d p ops out).1 (Xp.shorten f d p ops out).2 = Xp.setsB f d p ops out := by
  obtain ⟨m, D, P, rfl, rfl, rfl, hm, h1, h2, h3, h4, h5, h6, h7, h8⟩ := okS_parts hok
  obtain ⟨f1, f2, f3, f4⟩ := Xp.shorten_facts hm hok
  have e : ((D : Int) * (m : Int)) = ((D * m : Nat) : Int) := by simp
  unfold Xp.setsB
  rw [f1, hok, if_pos rfl, if_pos rfl, e, Int.toNat_natCast]
  unfold Xp.sets
  apply List.ext_getElem?
  intro i
  rw [List.getElem?_map, List.getElem?_map]
  by_cases hi : i < out.length
  · obtain ⟨r, hr⟩ : ∃ r, out[i]? = some r := ⟨_, List.getElem?_eq_getElem hi⟩
    obtain ⟨r', hr'⟩ : ∃ r', (Xp.shorten m D P ops out).2[i]? = some r' := ⟨_, List.getElem?_eq_getElem (by rw [f3]; exact hi)⟩
    rw [hr, hr', Option.map_some, Option.map_some, Xp.outSet_eq, Xp.outSet_eq, f4 (Xp.inputs (D * m)) (Xp.inputs_length _) i r r' hr hr']
  · have e1 : out[i]? = none := List.getElem?_eq_none (by omega)
    have e2 : (Xp.shorten m D P ops out).2[i]? = none := List.getElem?_eq_none (by rw [f3]; omega)
    rw [e1, e2]; rfl
/-- so are the parity units -/
theorem shorten_acc (hok : Xp.okS f d p ops out = true) (ss : List ByteArray) : Xp.acc f d p (Xp.shorten f d p ops out).1 (Xp.shorten f d p ops out).2 ss = Xp.acc f d p ops out ss := by
  obtain ⟨m, D, P, rfl, rfl, rfl, hm, _⟩ := okS_parts hok
  obtain ⟨f1, _⟩ := Xp.shorten_facts hm hok
  unfold Xp.acc
  rw [f1, hok]
theorem shorten_par (hok : Xp.okS f d p ops out = true) (ss : List ByteArray) : Xp.parB f d p (Xp.shorten f d p ops out).1 (Xp.shorten f d p ops out).2 ss = Xp.parB f d p ops out ss := by
  unfold Xp.parB
  rw [shorten_acc hok]
  by_cases ha : Xp.acc f d p ops out ss = true
  · rw [if_pos ha, if_pos ha]
    obtain ⟨m, D, P, NS, rfl, rfl, rfl, hm, hD, hl, _, _, _⟩ := acc_parts ha
    obtain ⟨m', D', P', em, eD, eP, hm', h1, h2, h3, h4, h5, h6, h7, h8⟩ := okS_parts hok
    obtain rfl : m' = m := by omega
    obtain rfl : P' = P := by omega
    obtain ⟨f1, f2, f3, f4⟩ := Xp.shorten_facts hm hok
    congr 1
    unfold Xp.parity Xp.runOut
    apply List.map_congr_left
    intro i hi
    rw [List.mem_range, Int.toNat_natCast] at hi
    congr 1
    funext K
    congr 2
    unfold Xp.outRow
    rw [Int.toNat_natCast]
    apply List.map_congr_left
    intro k hk
    rw [List.mem_range] at hk
    have hlt : i * m' + k < out.length := by
      rw [h5]
      have := Nat.mul_le_mul_right m' (show i + 1 ≤ P' by omega)
      rw [Nat.add_mul, Nat.one_mul] at this
      omega
    obtain ⟨r, hr⟩ : ∃ r, out[i * m' + k]? = some r := ⟨_, List.getElem?_eq_getElem hlt⟩
    obtain ⟨r', hr'⟩ : ∃ r', (Xp.shorten m' D P' ops out).2[i * m' + k]? = some r' := ⟨_, List.getElem?_eq_getElem (by rw [f3]; exact hlt)⟩
    rw [hr, hr', Option.getD_some, Option.getD_some]
    exact f4 (Xp.runIn m' ss) (by rw [Xp.runIn_length, hl]) _ r r' hr hr'
  · rw [if_neg ha, if_neg ha]
end
end Go.Proofs.YtghinmlpkgcdiaaDoor
