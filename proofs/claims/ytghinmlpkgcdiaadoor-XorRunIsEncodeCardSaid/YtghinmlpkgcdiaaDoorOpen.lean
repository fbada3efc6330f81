/- Opening a law's arguments: what the walk is told of them. -/
import Derived.Test.YtghinmlpkgcdiaaDoorLib
import Derived.ProofKit
import Derived.OpenShut
import Derived.ShutString
import Derived.ChangeOld
import Derived.Below
import Derived.SizedLaws
import Derived.JoinedCond
import Derived.Deep.Slices
namespace Go.Proofs.YtghinmlpkgcdiaaDoor
set_option linter.unusedSimpArgs false
set_option linter.unusedVariables false
open Go.ChangeShapes Go.WideShapes Go.ChangeAt Go.RowKit

theorem own : ownKnob Tryd.prog.godebug = none := by kernel_rfl
theorem laidOut : laidOutB Tryd.prog = true := by kernel_rfl

section
variable {H : Type} {enc : TypeId × Value → H} {P : Program} {w : World}

/-- a datum that is a slice's reading, of so many elements -/
def SliceOf (d : DataW H) (len : Nat) : Prop := (d = .nil ∧ len = 0) ∨ ∃ el sp, d = .slice el sp ∧ el.length = len

theorem bulk_one (d : DataW H) : 1 ≤ Rows.uptoBulk d := by
  cases d with
  | lit l => cases l <;> simp [Rows.uptoBulk]
  | nil => simp [Rows.uptoBulk]
  | ptr d => simp [Rows.uptoBulk]
  | slice elems spare => simp [Rows.uptoBulk]
  | agg parts => simp [Rows.uptoBulk]
  | iface t d => simp [Rows.uptoBulk]
  | map entries => simp [Rows.uptoBulk]
  | held h => simp [Rows.uptoBulk]
theorem bulk_length (l : List (DataW H)) : l.length ≤ Rows.uptoBulkAll l := by
  induction l with
  | nil => simp [Rows.uptoBulkAll]
  | cons x r ih => have := bulk_one x; simp only [Rows.uptoBulkAll, List.length_cons]; omega
theorem SliceOf.bulk {d : DataW H} {len : Nat} (h : SliceOf d len) : len + 1 ≤ Rows.uptoBulk d := by
  rcases h with ⟨rfl, rfl⟩ | ⟨el, sp, rfl, rfl⟩
  · simp [Rows.uptoBulk]
  · have := bulk_length el
    simp only [Rows.uptoBulk]; omega
theorem SliceOf.reach {ts : List TypeId} {ds : List (DataW H)} (hs : (DataW.weightsEach P ts ds).all (· ≤ reachBytes) = true) {j : Nat} {t e : TypeId} {d : DataW H} {len : Nat}
    (h : SliceOf d len) (ht : ts[j]? = some t) (hd : ds[j]? = some d) (hu : P.underlying t = some (.slice e)) : len * P.bytesOf e ≤ reachBytes := by
  rcases h with ⟨rfl, rfl⟩ | ⟨el, sp, rfl, rfl⟩
  · simp
  · have := sized_slice hs ht hd hu
    exact Nat.le_trans (Nat.mul_le_mul_right _ (Nat.le_add_right _ _)) this

theorem spot_none {a : Addr} {n : Nat} {v : Value} (h : w.cell? (a.add n) = some v) (h0 : n = 0) : a = ⟨a.block, a.off, none⟩ := by
  subst h0
  have : a.spot = none := by simpa [Addr.add] using World.cell?_spot h
  cases a; simp_all
theorem add_none (b off n : Nat) : (⟨b, off, none⟩ : Addr).add n = ⟨b, off + n, none⟩ := by
  unfold Addr.add; split <;> simp_all

/-- cells that lie one behind the other from an address -/
theorem rd_of_cells {a : Addr} {xs : List Value} (hc : ∀ (i : Nat) (u : Value), xs[i]? = some u → w.cell? (a.add i) = some u) : Rd w w.heap.size (some a) xs := by
  intro j u hu
  have hj : j < xs.length := by
    by_cases h : j < xs.length
    · exact h
    · rw [List.getElem?_eq_none (by omega)] at hu; cases hu
  have h0 := hc 0 (xs[0]'(by omega)) (List.getElem?_eq_getElem (by omega))
  have e := spot_none h0 rfl
  have hb : a.block < w.heap.size := by
    have := block_lt_of_cell h0
    simpa [Addr.add] using this
  refine ⟨a.block, a.off, by rw [← e], hb, ?_⟩
  have := hc j u hu
  rw [e, add_none] at this
  exact this

theorem u8_of {n : Int} (h : (Lit.int .u8 n).wf = true) : ((UInt8.ofNat n.toNat).toNat : Int) = n := by
  have : 0 ≤ n ∧ n ≤ 255 := by simpa [Lit.wf, IntKind.min, IntKind.max, IntKind.signed, IntKind.bits] using h
  rw [UInt8.toNat_ofNat']
  omega

theorem v8_of {n : Int} (h : (Lit.int .u8 n).wf = true) : v8 (UInt8.ofNat n.toNat) = .int .u8 n := by rw [v8, u8_of h]

theorem open_u8s {fuel : Nat} {t e : TypeId} {cs : List Value} {x : DataW H × List MemPlace} (ht : P.underlying t = some (.slice e)) (he : P.underlying e = some (.int .u8)) (hc : P.cellsOf e = 1)
    (h : DataW.trod enc P w 0 (fun _ => true) true fuel t cs = some x) :
    ∃ (a : Option Addr) (len cap : Nat) (bs : List UInt8), cs = [.slice a len cap] ∧ bs.length = len ∧ len ≤ cap ∧ cap ≤ maxLen ∧ Rd w w.heap.size a (bs.map v8) ∧ SliceOf x.1 len := by
  rcases open_ints ht he hc h with ⟨rfl, rfl⟩ | ⟨a, len, cap, zs, rfl, _, hl, hm, hz, rfl, hcell, hwz⟩
  · exact ⟨none, 0, 0, [], rfl, rfl, Nat.le_refl _, by unfold maxLen; omega, Rd.nil _ _ _, .inl ⟨rfl, rfl⟩⟩
  · have hz' : zs.length = cap := by simpa using hz
    refine ⟨some a, len, cap, (zs.take len).map fun n => UInt8.ofNat n.toNat, rfl, by simp; omega, hl, hm, ?_, .inr ⟨_, _, rfl, by simp [lits]; omega⟩⟩
    apply rd_of_cells
    intro i u hu
    have hi : i < len ∧ i < zs.length := by
      by_cases h : i < len
      · exact ⟨h, by omega⟩
      · rw [List.getElem?_eq_none (by simp; omega)] at hu; cases hu
    rw [hcell i hi.2, ← hu]
    have hmem : zs[i] ∈ zs := List.getElem_mem hi.2
    rw [List.getElem?_map, List.getElem?_map, List.getElem?_take_of_lt hi.1, List.getElem?_eq_getElem hi.2]
    simp only [Option.map_some, v8_of (hwz _ hmem)]
    simp [hi.2]

theorem open_arr4 {fuel : Nat} {t e : TypeId} {cs : List Value} {x : DataW H × List MemPlace} (ht : P.underlying t = some (.array 4 e)) (he : P.underlying e = some (.int .u8)) (hc : P.cellsOf e = 1) (hc4 : P.cellsOf t = 4)
    (h : DataW.trod enc P w 0 (fun _ => true) true fuel t cs = some x) :
    ∃ c0 c1 c2 c3 : UInt8, cs = [v8 c0, v8 c1, v8 c2, v8 c3] := by
  obtain ⟨xs, m, rfl, rfl, hl, hn, hx⟩ := DataW.trod_array ht h
  rw [hc4] at hl
  match cs, hl with
  | [u0, u1, u2, u3], _ =>
    match xs, hn with
    | [x0, x1, x2, x3], _ =>
      have h0 := hx 0 (by omega); have h1 := hx 1 (by omega); have h2 := hx 2 (by omega); have h3 := hx 3 (by omega)
      simp [hc] at h0 h1 h2 h3
      obtain ⟨n0, e0, _, w0⟩ := DataW.trod_int he h0
      obtain ⟨n1, e1, _, w1⟩ := DataW.trod_int he h1
      obtain ⟨n2, e2, _, w2⟩ := DataW.trod_int he h2
      obtain ⟨n3, e3, _, w3⟩ := DataW.trod_int he h3
      simp at e0 e1 e2 e3
      subst e0 e1 e2 e3
      exact ⟨UInt8.ofNat n0.toNat, UInt8.ofNat n1.toNat, UInt8.ofNat n2.toNat, UInt8.ofNat n3.toNat, by rw [v8_of w0, v8_of w1, v8_of w2, v8_of w3]⟩
end
theorem wf_u32 {n : Int} (h : (Lit.int .u32 n).wf = true) : ∃ x : BitVec 32, n = (x.toNat : Int) := by
  have : 0 ≤ n ∧ n ≤ 4294967295 := by simpa [Lit.wf, IntKind.min, IntKind.max, IntKind.signed, IntKind.bits] using h
  exact ⟨BitVec.ofNat 32 n.toNat, by rw [BitVec.toNat_ofNat]; omega⟩
theorem wf_i64 {n : Int} (h : (Lit.int .i64 n).wf = true) : -9223372036854775808 ≤ n ∧ n ≤ 9223372036854775807 := by
  simpa [Lit.wf, IntKind.min, IntKind.max, IntKind.signed, IntKind.bits] using h
theorem okWide_arr {P : Program} {w : World} {r : Reach} {base n : Nat} {t e : TypeId} {v : Value} (ht : P.underlying t = some (.array n e)) (h : Value.okWide P w r base t v) : ∃ cs, v = .agg cs ∧ cs.size = P.cellsOf t := by
  simp only [Value.okWide, ht] at h
  cases v <;> simp_all
end Go.Proofs.YtghinmlpkgcdiaaDoor
