/- Opening matrices and lists of integers. -/
import Derived.Test.YtaijjhddgecieaaDoorOpenL
import Derived.Test.YtaijjhddgecieaaDoorFldT
import Derived.Test.YtaijjhddgecieaaDoorM6
namespace Go.Proofs.YtaijjhddgecieaaDoor
set_option linter.unusedSimpArgs false
set_option linter.unusedVariables false
open Go.ChangeShapes Go.WideShapes Go.ChangeAt Go.RowKit Go.Deep

section
variable {H : Type} {enc : TypeId × Value → H} {P : Program} {w : World}
/-- a value of one cell that was read -/
def Got (enc : TypeId × Value → H) (P : Program) (w : World) (t : TypeId) (v : Value) : Prop := ∃ n y, DataW.trod enc P w 0 (fun _ => true) true n t [v] = some y
theorem open_fields {fuel : Nat} {t : TypeId} {fs : Array Field} {cs : List Value} {x : DataW H × List MemPlace} (ht : P.underlying t = some (.struct fs)) (hc : P.cellsOf t = fs.size)
    (hf : fs.toList.zipIdx.all (fun p => P.cellsOf p.1.type == 1 && p.1.offset == p.2) = true)
    (h : DataW.trod enc P w 0 (fun _ => true) true fuel t cs = some x) : cs.length = fs.size ∧ ∀ (i : Nat) (f : Field) (v : Value), fs[i]? = some f → cs[i]? = some v → Got enc P w f.type v := by
  obtain ⟨xs, n, _, _, hl, hlen, hx⟩ := DataW.trod_struct ht h
  rw [hc] at hl
  refine ⟨hl, fun i f v hi hv => ?_⟩
  have h4 := hx i f hi
  have hm := List.all_eq_true.1 hf (f, i) (by
    rw [List.mem_iff_getElem?]
    exact ⟨i, by rw [List.getElem?_zipIdx, Array.getElem?_toList, hi]; simp⟩)
  simp only [Bool.and_eq_true, beq_iff_eq] at hm
  have hi2 : i < cs.length := by
    by_cases h : i < cs.length
    · exact h
    · rw [List.getElem?_eq_none (by omega)] at hv; cases hv
  have hv2 : cs[i] = v := by rw [List.getElem?_eq_getElem hi2] at hv; exact Option.some.inj hv
  rw [hm.1, hm.2, List.drop_eq_getElem_cons hi2, List.take_succ_cons, List.take_zero, hv2, List.getElem?_eq_getElem (by omega)] at h4
  exact ⟨n, _, h4⟩
theorem got_int {k : IntKind} {t : TypeId} {v : Value} (ht : P.underlying t = some (.int k)) (h : Got enc P w t v) : ∃ z, v = .int k z ∧ (Lit.int k z).wf = true := by
  obtain ⟨n, y, h⟩ := h
  obtain ⟨z, e, _, hz⟩ := DataW.trod_int ht h
  injection e with e
  exact ⟨z, e, hz⟩
theorem each_got {e : TypeId} (R : Value → Prop) : ∀ (xs : List Value) (ds : List (DataW H)), Each (fun v d => ∃ n p, DataW.trod enc P w 0 (fun _ => true) true n e [v] = some (d, p)) xs ds → (∀ v, Got enc P w e v → R v) → ∀ v ∈ xs, R v
  | [], _, _, _ => fun v hv => by cases hv
  | x :: xs, [], h, _ => h.elim
  | x :: xs, d :: ds, h, hR => by
    obtain ⟨⟨n, p, h0⟩, h1⟩ := h
    intro v hv
    rcases List.mem_cons.1 hv with rfl | hv
    · exact hR v ⟨n, _, h0⟩
    · exact each_got R xs ds h1 hR v hv
theorem list_of {α : Type} {xs : List Value} {f : α → Value} {p : α → Prop} (h : ∀ x ∈ xs, ∃ z, x = f z ∧ p z) : ∃ zs : List α, xs = zs.map f ∧ ∀ z ∈ zs, p z := by
  induction xs with
  | nil => exact ⟨[], rfl, fun z hz => by cases hz⟩
  | cons x xs ih =>
    obtain ⟨zs, e, hz⟩ := ih fun y hy => h y (List.mem_cons_of_mem _ hy)
    obtain ⟨z, rfl, hp⟩ := h x (List.mem_cons_self ..)
    refine ⟨z :: zs, by rw [e, List.map_cons], fun y hy => ?_⟩
    rcases List.mem_cons.1 hy with rfl | hy
    · exact hp
    · exact hz y hy
theorem open_list2 {fuel : Nat} {t e : TypeId} {cs : List Value} {x : DataW H × List MemPlace} (ht : P.underlying t = some (.slice e)) (hc : P.cellsOf e = 1)
    (h : DataW.trod enc P w 0 (fun _ => true) true fuel t cs = some x) :
    ∃ (a : Option Addr) (len cap : Nat) (xs : List Value) (ds : List (DataW H)), cs = [.slice a len cap] ∧ xs.length = len ∧ len ≤ cap ∧ cap ≤ maxLen ∧ (a = none → cap = 0) ∧ Rd w w.heap.size a xs ∧
      Each (fun v d => ∃ n p, DataW.trod enc P w 0 (fun _ => true) true n e [v] = some (d, p)) xs ds := by
  rcases open_slice1 ht hc h with ⟨rfl, rfl⟩ | ⟨a, len, cap, m, n, V, D, Pl, rfl, h1, hl, hm, hmm, rfl, hx⟩
  · exact ⟨none, 0, 0, [], [], rfl, rfl, Nat.le_refl _, by unfold maxLen; omega, fun _ => rfl, Rd.nil _ _ _, True.intro⟩
  · obtain ⟨a', len', cap', xs', ds', e1, h2, h3, h4, h5, _, _, h6⟩ := open_list ht hc h
    simp only [List.cons.injEq, Value.slice.injEq, and_true] at e1
    obtain ⟨rfl, rfl, rfl⟩ := e1
    exact ⟨_, _, _, xs', ds', rfl, h2, h3, h4, (fun e => by cases e), h5, h6⟩
/-- a list of integers in memory -/
def IntsIn (w : World) (a : Option Addr) (n k : Nat) (zs : List Int) : Prop := zs.length = n ∧ n ≤ k ∧ k ≤ maxLen ∧ (a = none → k = 0) ∧ Rd w w.heap.size a (ints zs)
theorem got_intsIn {t e : TypeId} {v : Value} (ht : P.underlying t = some (.slice e)) (he : P.underlying e = some (.int .i64)) (hc : P.cellsOf e = 1) (h : Got enc P w t v) :
    ∃ (a : Option Addr) (len cap : Nat) (zs : List Int), v = .slice a len cap ∧ IntsIn w a len cap zs := by
  obtain ⟨n, y, h⟩ := h
  obtain ⟨a, len, cap, xs, ds, e1, h1, h2, h3, h4, h5, h6⟩ := open_list2 ht hc h
  injection e1 with e1
  obtain ⟨zs, rfl, _⟩ := list_of (f := Value.int .i64) (p := fun z => (Lit.int .i64 z).wf = true) fun x hx => got_int he (each_got _ xs ds h6 (fun v h => h) x hx)
  exact ⟨a, len, cap, zs, e1, by simpa using h1, h2, h3, h4, h5⟩
end
theorem matrix_fields : ∃ fs : Array Field, Tryd.prog.underlying 24 = some (.struct fs) ∧ fs.toList.zipIdx.all (fun p => Tryd.prog.cellsOf p.1.type == 1 && p.1.offset == p.2) = true ∧ Tryd.prog.cellsOf 24 = fs.size ∧ fs.map (·.type) = #[3, 3, 3, 22] :=
  ⟨_, Tryd.underlying24, by kernel_rfl, by kernel_rfl, by kernel_rfl⟩
theorem open_matrix {H : Type} {enc : TypeId × Value → H} {w : World} {fuel : Nat} {cs : List Value} {x : DataW H × List MemPlace} (h : DataW.trod enc Tryd.prog w 0 (fun _ => true) true fuel 24 cs = some x) :
    ∃ (m r c : Int) (a : Option Addr) (n k : Nat) (xs : List Int), cs = [.int .i64 m, .int .i64 r, .int .i64 c, .slice a n k] ∧ IntsIn w a n k xs := by
  obtain ⟨fs, hu, hf, hc, ht⟩ := matrix_fields
  obtain ⟨hl, hg⟩ := open_fields hu hc hf h
  have hsz : fs.size = 4 := by simpa using congrArg Array.size ht
  rw [hsz] at hl
  have hty : ∀ i t, (#[3, 3, 3, 22] : Array TypeId)[i]? = some t → ∃ f : Field, fs[i]? = some f ∧ f.type = t := fun i t hi => by
    rw [← ht, Array.getElem?_map] at hi
    cases hfi : fs[i]? with
    | none => rw [hfi] at hi; cases hi
    | some f => rw [hfi] at hi; exact ⟨f, hfi, Option.some.inj hi⟩
  match cs, hl with
  | [v0, v1, v2, v3], _ =>
    obtain ⟨f0, e0, t0⟩ := hty 0 _ rfl
    obtain ⟨f1, e1, t1⟩ := hty 1 _ rfl
    obtain ⟨f2, e2, t2⟩ := hty 2 _ rfl
    obtain ⟨f3, e3, t3⟩ := hty 3 _ rfl
    have g0 := hg 0 f0 v0 e0 rfl; rw [t0] at g0
    have g1 := hg 1 f1 v1 e1 rfl; rw [t1] at g1
    have g2 := hg 2 f2 v2 e2 rfl; rw [t2] at g2
    have g3 := hg 3 f3 v3 e3 rfl; rw [t3] at g3
    obtain ⟨m, rfl, _⟩ := got_int Tryd.underlying3 g0
    obtain ⟨r, rfl, _⟩ := got_int Tryd.underlying3 g1
    obtain ⟨c, rfl, _⟩ := got_int Tryd.underlying3 g2
    obtain ⟨a, n, k, xs, rfl, h1⟩ := got_intsIn Tryd.underlying22 Tryd.underlying3 (by kernel_rfl) g3
    exact ⟨m, r, c, a, n, k, xs, rfl, h1⟩
end Go.Proofs.YtaijjhddgecieaaDoor
