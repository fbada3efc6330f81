/- Opening structs whose fields have one cell each: numbers, strings, slices of numbers and of strings. -/
import Derived.Test.YtdmcdgpigpekhaaDoorOpenL
import Derived.Test.YtdmcdgpigpekhaaDoorG14
namespace Go.Proofs.YtdmcdgpigpekhaaDoor
set_option linter.unusedSimpArgs false
set_option linter.unusedVariables false
open Go.ChangeShapes Go.WideShapes Go.ChangeAt Go.RowKit Go.Deep

section
variable {H : Type} {enc : TypeId × Value → H} {P : Program} {w : World}
/-- a value of one cell that was read -/
def Got (enc : TypeId × Value → H) (P : Program) (w : World) (t : TypeId) (v : Value) : Prop := ∃ n y, DataW.trod enc P w 0 (fun _ => true) true n t [v] = some y
theorem open_fields {fuel : Nat} {t : TypeId} {fs : Array Field} {cs : List Value} {x : DataW H × List MemPlace} (ht : P.underlying t = some (.struct fs)) (hc : P.cellsOf t = fs.size)
    (hf : fs.toList.zipIdx.all (fun p => P.cellsOf p.1.type == 1 && p.1.offset == p.2) = true)
    (h : DataW.trod enc P w 0 (fun _ => true) true fuel t cs = some x) : cs.length = fs.size ∧ ∀ (i : Nat) (f : Field) (v : Value), fs[i]? = some f → cs[i]? = some v → Got enc P w f.type v := by
  obtain ⟨xs, n, _, _, hl, hlen, hx⟩ := DataW.trod_struct ht h
  rw [hc] at hl
  refine ⟨hl, fun i f v hi hv => ?_⟩
  have h4 := hx i f hi
  have hm := List.all_eq_true.1 hf (f, i) (by
    rw [List.mem_iff_getElem?]
    exact ⟨i, by rw [List.getElem?_zipIdx, Array.getElem?_toList, hi]; simp⟩)
  simp only [Bool.and_eq_true, beq_iff_eq] at hm
  have hi2 : i < cs.length := by
    by_cases h : i < cs.length
    · exact h
    · rw [List.getElem?_eq_none (by omega)] at hv; cases hv
  have hv2 : cs[i] = v := by rw [List.getElem?_eq_getElem hi2] at hv; exact Option.some.inj hv
  rw [hm.1, hm.2, List.drop_eq_getElem_cons hi2, List.take_succ_cons, List.take_zero, hv2, List.getElem?_eq_getElem (by omega)] at h4
  exact ⟨n, _, h4⟩
theorem got_int {k : IntKind} {t : TypeId} {v : Value} (ht : P.underlying t = some (.int k)) (h : Got enc P w t v) : ∃ z, v = .int k z ∧ (Lit.int k z).wf = true := by
  obtain ⟨n, y, h⟩ := h
  obtain ⟨z, e, _, hz⟩ := DataW.trod_int ht h
  injection e with e
  exact ⟨z, e, hz⟩
theorem got_bool {t : TypeId} {v : Value} (ht : P.underlying t = some .bool) (h : Got enc P w t v) : ∃ b, v = .bool b := by
  obtain ⟨n, y, h⟩ := h
  obtain ⟨b, e, _⟩ := DataW.trod_bool ht h
  injection e with e
  exact ⟨b, e⟩
theorem got_string {t : TypeId} {v : Value} (ht : P.underlying t = some .string) (h : Got enc P w t v) : ∃ s, v = .string s ∧ s.size ≤ maxLen := by
  obtain ⟨n, y, h⟩ := h
  obtain ⟨s, e, _, hs⟩ := DataW.trod_string ht h
  injection e with e
  exact ⟨s, e, hs⟩
theorem each_got {e : TypeId} (R : Value → Prop) : ∀ (xs : List Value) (ds : List (DataW H)), Each (fun v d => ∃ n p, DataW.trod enc P w 0 (fun _ => true) true n e [v] = some (d, p)) xs ds → (∀ v, Got enc P w e v → R v) → ∀ v ∈ xs, R v
  | [], _, _, _ => fun v hv => by cases hv
  | x :: xs, [], h, _ => h.elim
  | x :: xs, d :: ds, h, hR => by
    obtain ⟨⟨n, p, h0⟩, h1⟩ := h
    intro v hv
    rcases List.mem_cons.1 hv with rfl | hv
    · exact hR v ⟨n, _, h0⟩
    · exact each_got R xs ds h1 hR v hv
theorem got_list {t e : TypeId} {v : Value} (ht : P.underlying t = some (.slice e)) (hc : P.cellsOf e = 1) (h : Got enc P w t v) :
    ∃ (a : Option Addr) (len cap : Nat) (xs : List Value), v = .slice a len cap ∧ xs.length = len ∧ len ≤ 9223372036854775807 ∧ Rd w w.heap.size a xs ∧ ∀ x ∈ xs, Got enc P w e x := by
  obtain ⟨n, y, h⟩ := h
  obtain ⟨a, len, cap, xs, ds, e1, h1, h2, h3, h4, _, _, h5⟩ := open_list ht hc h
  injection e1 with e1
  exact ⟨a, len, cap, xs, e1, h1, by unfold maxLen at h3; omega, h4, each_got _ xs ds h5 fun v h => h⟩
theorem list_of {α : Type} {xs : List Value} {f : α → Value} {p : α → Prop} (h : ∀ x ∈ xs, ∃ z, x = f z ∧ p z) : ∃ zs : List α, xs = zs.map f ∧ ∀ z ∈ zs, p z := by
  induction xs with
  | nil => exact ⟨[], rfl, fun z hz => by cases hz⟩
  | cons x xs ih =>
    obtain ⟨zs, e, hz⟩ := ih fun y hy => h y (List.mem_cons_of_mem _ hy)
    obtain ⟨z, rfl, hp⟩ := h x (List.mem_cons_self ..)
    refine ⟨z :: zs, by rw [e, List.map_cons], fun y hy => ?_⟩
    rcases List.mem_cons.1 hy with rfl | hy
    · exact hp
    · exact hz y hy
theorem got_ints {k : IntKind} {t e : TypeId} {v : Value} (ht : P.underlying t = some (.slice e)) (he : P.underlying e = some (.int k)) (hc : P.cellsOf e = 1) (h : Got enc P w t v) :
    ∃ (a : Option Addr) (len cap : Nat) (zs : List Int), v = .slice a len cap ∧ zs.length = len ∧ len ≤ 9223372036854775807 ∧ Rd w w.heap.size a (zs.map (Value.int k)) ∧ ∀ z ∈ zs, (Lit.int k z).wf = true := by
  obtain ⟨a, len, cap, xs, e1, h1, h2, h3, h4⟩ := got_list ht hc h
  obtain ⟨zs, rfl, h5⟩ := list_of (f := Value.int k) (p := fun z => (Lit.int k z).wf = true) fun x hx => got_int he (h4 x hx)
  exact ⟨a, len, cap, zs, e1, by simpa using h1, h2, h3, h5⟩
theorem got_strs {t e : TypeId} {v : Value} (ht : P.underlying t = some (.slice e)) (he : P.underlying e = some .string) (hc : P.cellsOf e = 1) (h : Got enc P w t v) :
    ∃ (a : Option Addr) (len cap : Nat) (us : List ByteArray), v = .slice a len cap ∧ us.length = len ∧ len ≤ 9223372036854775807 ∧ Rd w w.heap.size a (strs us) ∧ ∀ u ∈ us, u.size ≤ maxLen := by
  obtain ⟨a, len, cap, xs, e1, h1, h2, h3, h4⟩ := got_list ht hc h
  obtain ⟨us, rfl, h5⟩ := list_of (f := Value.string) (p := fun u => u.size ≤ maxLen) fun x hx => got_string he (h4 x hx)
  exact ⟨a, len, cap, us, e1, by simpa using h1, h2, h3, h5⟩
end
theorem units_fields : ∃ fs : Array Field, Tryd.prog.underlying 25 = some (.struct fs) ∧ fs.toList.zipIdx.all (fun p => Tryd.prog.cellsOf p.1.type == 1 && p.1.offset == p.2) = true ∧ Tryd.prog.cellsOf 25 = fs.size ∧ fs.map (·.type) = #[3, 3, 22, 23, 9] :=
  ⟨_, Tryd.underlying25, by kernel_rfl, by kernel_rfl, by kernel_rfl⟩
theorem open_units {H : Type} {enc : TypeId × Value → H} {w : World} {fuel : Nat} {cs : List Value} {x : DataW H × List MemPlace} (h : DataW.trod enc Tryd.prog w 0 (fun _ => true) true fuel 25 cs = some x) :
    ∃ (M C : Int) (a1 : Option Addr) (n1 c1 : Nat) (coef : List Int) (a2 : Option Addr) (n2 c2 : Nat) (us : List ByteArray) (o : ByteArray), cs = [.int .i64 M, .int .i64 C, .slice a1 n1 c1, .slice a2 n2 c2, .string o] ∧
      coef.length = n1 ∧ n1 ≤ 9223372036854775807 ∧ Rd w w.heap.size a1 (ints coef) ∧ us.length = n2 ∧ n2 ≤ 9223372036854775807 ∧ Rd w w.heap.size a2 (strs us) ∧ (∀ u ∈ us, u.size ≤ maxLen) ∧ o.size ≤ maxLen := by
  obtain ⟨fs, hu, hf, hc, ht⟩ := units_fields
  obtain ⟨hl, hg⟩ := open_fields hu hc hf h
  have hsz : fs.size = 5 := by simpa using congrArg Array.size ht
  rw [hsz] at hl
  have hty : ∀ i t, (#[3, 3, 22, 23, 9] : Array TypeId)[i]? = some t → ∃ f : Field, fs[i]? = some f ∧ f.type = t := fun i t hi => by
    rw [← ht, Array.getElem?_map] at hi
    cases hfi : fs[i]? with
    | none => rw [hfi] at hi; cases hi
    | some f => rw [hfi] at hi; exact ⟨f, hfi, Option.some.inj hi⟩
  match cs, hl with
  | [v0, v1, v2, v3, v4], _ =>
    obtain ⟨f0, e0, t0⟩ := hty 0 _ rfl
    obtain ⟨f1, e1, t1⟩ := hty 1 _ rfl
    obtain ⟨f2, e2, t2⟩ := hty 2 _ rfl
    obtain ⟨f3, e3, t3⟩ := hty 3 _ rfl
    obtain ⟨f4, e4, t4⟩ := hty 4 _ rfl
    have g0 := hg 0 f0 v0 e0 rfl; rw [t0] at g0
    have g1 := hg 1 f1 v1 e1 rfl; rw [t1] at g1
    have g2 := hg 2 f2 v2 e2 rfl; rw [t2] at g2
    have g3 := hg 3 f3 v3 e3 rfl; rw [t3] at g3
    have g4 := hg 4 f4 v4 e4 rfl; rw [t4] at g4
    obtain ⟨M, rfl, _⟩ := got_int Tryd.underlying3 g0
    obtain ⟨C, rfl, _⟩ := got_int Tryd.underlying3 g1
    obtain ⟨a1, n1, c1, coef, rfl, h1, h2, h3, _⟩ := got_ints Tryd.underlying22 Tryd.underlying3 (by kernel_rfl) g2
    obtain ⟨a2, n2, c2, us, rfl, h4, h5, h6, h7⟩ := got_strs Tryd.underlying23 Tryd.underlying9 (by kernel_rfl) g3
    obtain ⟨o, rfl, h8⟩ := got_string Tryd.underlying9 g4
    exact ⟨M, C, a1, n1, c1, coef, a2, n2, c2, us, o, rfl, h1, h2, h3, h4, h5, h6, h7, h8⟩
theorem lin_fields : ∃ fs : Array Field, Tryd.prog.underlying 36 = some (.struct fs) ∧ fs.toList.zipIdx.all (fun p => Tryd.prog.cellsOf p.1.type == 1 && p.1.offset == p.2) = true ∧ Tryd.prog.cellsOf 36 = fs.size ∧ fs.map (·.type) = #[4, 33, 34, 23, 23, 3] :=
  ⟨_, Tryd.underlying36, by kernel_rfl, by kernel_rfl, by kernel_rfl⟩
theorem wf_u16' {n : Int} (h : (Lit.int .u16 n).wf = true) : 0 ≤ n ∧ n ≤ 65535 := by
  simpa [Lit.wf, IntKind.min, IntKind.max, IntKind.signed, IntKind.bits] using h
theorem open_lin {H : Type} {enc : TypeId × Value → H} {w : World} {fuel : Nat} {cs : List Value} {x : DataW H × List MemPlace} (h : DataW.trod enc Tryd.prog w 0 (fun _ => true) true fuel 36 cs = some x) :
    ∃ (wd : Bool) (C : Int) (a1 : Option Addr) (n1 c1 : Nat) (zs : List Int) (a2 : Option Addr) (n2 c2 : Nat) (us : List ByteArray) (a3 : Option Addr) (n3 c3 : Nat) (vs : List ByteArray) (B : Int), cs = [.bool wd, .int .u16 C, .slice a1 n1 c1, .slice a2 n2 c2, .slice a3 n3 c3, .int .i64 B] ∧
      (0 ≤ C ∧ C ≤ 65535) ∧ zs.length = n1 ∧ n1 ≤ 9223372036854775807 ∧ Rd w w.heap.size a1 (zs.map (Value.int .u16)) ∧ (∀ z ∈ zs, 0 ≤ z ∧ z ≤ 65535) ∧ us.length = n2 ∧ n2 ≤ 9223372036854775807 ∧ Rd w w.heap.size a2 (strs us) ∧ (∀ u ∈ us, u.size ≤ maxLen) ∧
      vs.length = n3 ∧ n3 ≤ 9223372036854775807 ∧ Rd w w.heap.size a3 (strs vs) ∧ (∀ u ∈ vs, u.size ≤ maxLen) := by
  obtain ⟨fs, hu, hf, hc, ht⟩ := lin_fields
  obtain ⟨hl, hg⟩ := open_fields hu hc hf h
  have hsz : fs.size = 6 := by simpa using congrArg Array.size ht
  rw [hsz] at hl
  have hty : ∀ i t, (#[4, 33, 34, 23, 23, 3] : Array TypeId)[i]? = some t → ∃ f : Field, fs[i]? = some f ∧ f.type = t := fun i t hi => by
    rw [← ht, Array.getElem?_map] at hi
    cases hfi : fs[i]? with
    | none => rw [hfi] at hi; cases hi
    | some f => rw [hfi] at hi; exact ⟨f, hfi, Option.some.inj hi⟩
  match cs, hl with
  | [v0, v1, v2, v3, v4, v5], _ =>
    obtain ⟨f0, e0, t0⟩ := hty 0 _ rfl
    obtain ⟨f1, e1, t1⟩ := hty 1 _ rfl
    obtain ⟨f2, e2, t2⟩ := hty 2 _ rfl
    obtain ⟨f3, e3, t3⟩ := hty 3 _ rfl
    obtain ⟨f4, e4, t4⟩ := hty 4 _ rfl
    obtain ⟨f5, e5, t5⟩ := hty 5 _ rfl
    have g0 := hg 0 f0 v0 e0 rfl; rw [t0] at g0
    have g1 := hg 1 f1 v1 e1 rfl; rw [t1] at g1
    have g2 := hg 2 f2 v2 e2 rfl; rw [t2] at g2
    have g3 := hg 3 f3 v3 e3 rfl; rw [t3] at g3
    have g4 := hg 4 f4 v4 e4 rfl; rw [t4] at g4
    have g5 := hg 5 f5 v5 e5 rfl; rw [t5] at g5
    obtain ⟨wd, rfl⟩ := got_bool Tryd.underlying4 g0
    obtain ⟨C, rfl, hC⟩ := got_int Tryd.underlying33 g1
    obtain ⟨a1, n1, c1, zs, rfl, h1, h2, h3, h3'⟩ := got_ints Tryd.underlying34 Tryd.underlying33 (by kernel_rfl) g2
    obtain ⟨a2, n2, c2, us, rfl, h4, h5, h6, h7⟩ := got_strs Tryd.underlying23 Tryd.underlying9 (by kernel_rfl) g3
    obtain ⟨a3, n3, c3, vs, rfl, h8, h9, h10, h11⟩ := got_strs Tryd.underlying23 Tryd.underlying9 (by kernel_rfl) g4
    obtain ⟨B, rfl, _⟩ := got_int Tryd.underlying3 g5
    exact ⟨wd, C, a1, n1, c1, zs, a2, n2, c2, us, a3, n3, c3, vs, B, rfl, wf_u16' hC, h1, h2, h3, fun z hz => wf_u16' (h3' z hz), h4, h5, h6, h7, h8, h9, h10, h11⟩
end Go.Proofs.YtdmcdgpigpekhaaDoor
