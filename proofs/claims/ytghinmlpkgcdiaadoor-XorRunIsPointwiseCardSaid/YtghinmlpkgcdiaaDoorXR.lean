/- Opening schedules, codes, lists of strings. Schedules: few units, few operations; Run, both ways in one. Schedules: running one is pointwise, the plain words. Schedules: running one is pointwise, the plain law. Schedules: what Run returns of joined and of added units. -/
import Derived.Test.YtghinmlpkgcdiaaDoorOpenL
import Derived.Test.YtghinmlpkgcdiaaDoorFldT
import Derived.Test.YtghinmlpkgcdiaaDoorXQ
import Derived.Test.YtghinmlpkgcdiaaDoorStr
import Derived.Test.YtghinmlpkgcdiaaDoorG10
/-! Opening schedules, codes, lists of strings. -/
namespace Go.Proofs.YtghinmlpkgcdiaaDoor
set_option linter.unusedSimpArgs false
set_option linter.unusedVariables false
open Go.ChangeShapes Go.WideShapes Go.ChangeAt Go.RowKit Go.Deep

section
variable {H : Type} {enc : TypeId × Value → H} {P : Program} {w : World}
/-- a value of one cell that was read -/
def Got (enc : TypeId × Value → H) (P : Program) (w : World) (t : TypeId) (v : Value) : Prop := ∃ n y, DataW.trod enc P w 0 (fun _ => true) true n t [v] = some y
theorem open_fields {fuel : Nat} {t : TypeId} {fs : Array Field} {cs : List Value} {x : DataW H × List MemPlace} (ht : P.underlying t = some (.struct fs)) (hc : P.cellsOf t = fs.size)
    (hf : fs.toList.zipIdx.all (fun p => P.cellsOf p.1.type == 1 && p.1.offset == p.2) = true)
    (h : DataW.trod enc P w 0 (fun _ => true) true fuel t cs = some x) : cs.length = fs.size ∧ ∀ (i : Nat) (f : Field) (v : Value), fs[i]? = some f → cs[i]? = some v → Got enc P w f.type v := by
  obtain ⟨xs, n, _, _, hl, hlen, hx⟩ := DataW.trod_struct ht h
  rw [hc] at hl
  refine ⟨hl, fun i f v hi hv => ?_⟩
  have h4 := hx i f hi
  have hm := List.all_eq_true.1 hf (f, i) (by
    rw [List.mem_iff_getElem?]
    exact ⟨i, by rw [List.getElem?_zipIdx, Array.getElem?_toList, hi]; simp⟩)
  simp only [Bool.and_eq_true, beq_iff_eq] at hm
  have hi2 : i < cs.length := by
    by_cases h : i < cs.length
    · exact h
    · rw [List.getElem?_eq_none (by omega)] at hv; cases hv
  have hv2 : cs[i] = v := by rw [List.getElem?_eq_getElem hi2] at hv; exact Option.some.inj hv
  rw [hm.1, hm.2, List.drop_eq_getElem_cons hi2, List.take_succ_cons, List.take_zero, hv2, List.getElem?_eq_getElem (by omega)] at h4
  exact ⟨n, _, h4⟩
theorem got_int {k : IntKind} {t : TypeId} {v : Value} (ht : P.underlying t = some (.int k)) (h : Got enc P w t v) : ∃ z, v = .int k z ∧ (Lit.int k z).wf = true := by
  obtain ⟨n, y, h⟩ := h
  obtain ⟨z, e, _, hz⟩ := DataW.trod_int ht h
  injection e with e
  exact ⟨z, e, hz⟩
theorem got_bool {t : TypeId} {v : Value} (ht : P.underlying t = some .bool) (h : Got enc P w t v) : ∃ b, v = .bool b := by
  obtain ⟨n, y, h⟩ := h
  obtain ⟨b, e, _⟩ := DataW.trod_bool ht h
  injection e with e
  exact ⟨b, e⟩
theorem got_string {t : TypeId} {v : Value} (ht : P.underlying t = some .string) (h : Got enc P w t v) : ∃ s, v = .string s ∧ s.size ≤ maxLen := by
  obtain ⟨n, y, h⟩ := h
  obtain ⟨s, e, _, hs⟩ := DataW.trod_string ht h
  injection e with e
  exact ⟨s, e, hs⟩
theorem each_got {e : TypeId} (R : Value → Prop) : ∀ (xs : List Value) (ds : List (DataW H)), Each (fun v d => ∃ n p, DataW.trod enc P w 0 (fun _ => true) true n e [v] = some (d, p)) xs ds → (∀ v, Got enc P w e v → R v) → ∀ v ∈ xs, R v
  | [], _, _, _ => fun v hv => by cases hv
  | x :: xs, [], h, _ => h.elim
  | x :: xs, d :: ds, h, hR => by
    obtain ⟨⟨n, p, h0⟩, h1⟩ := h
    intro v hv
    rcases List.mem_cons.1 hv with rfl | hv
    · exact hR v ⟨n, _, h0⟩
    · exact each_got R xs ds h1 hR v hv
theorem got_list {t e : TypeId} {v : Value} (ht : P.underlying t = some (.slice e)) (hc : P.cellsOf e = 1) (h : Got enc P w t v) :
    ∃ (a : Option Addr) (len cap : Nat) (xs : List Value), v = .slice a len cap ∧ xs.length = len ∧ len ≤ cap ∧ cap ≤ maxLen ∧ Rd w w.heap.size a xs ∧ ∀ x ∈ xs, Got enc P w e x := by
  obtain ⟨n, y, h⟩ := h
  obtain ⟨a, len, cap, xs, ds, e1, h1, h2, h3, h4, _, _, h5⟩ := open_list ht hc h
  injection e1 with e1
  exact ⟨a, len, cap, xs, e1, h1, h2, h3, h4, each_got _ xs ds h5 fun v h => h⟩
theorem list_of {α : Type} {xs : List Value} {f : α → Value} {p : α → Prop} (h : ∀ x ∈ xs, ∃ z, x = f z ∧ p z) : ∃ zs : List α, xs = zs.map f ∧ ∀ z ∈ zs, p z := by
  induction xs with
  | nil => exact ⟨[], rfl, fun z hz => by cases hz⟩
  | cons x xs ih =>
    obtain ⟨zs, e, hz⟩ := ih fun y hy => h y (List.mem_cons_of_mem _ hy)
    obtain ⟨z, rfl, hp⟩ := h x (List.mem_cons_self ..)
    refine ⟨z :: zs, by rw [e, List.map_cons], fun y hy => ?_⟩
    rcases List.mem_cons.1 hy with rfl | hy
    · exact hp
    · exact hz y hy
theorem got_ints {k : IntKind} {t e : TypeId} {v : Value} (ht : P.underlying t = some (.slice e)) (he : P.underlying e = some (.int k)) (hc : P.cellsOf e = 1) (h : Got enc P w t v) :
    ∃ (a : Option Addr) (len cap : Nat) (zs : List Int), v = .slice a len cap ∧ zs.length = len ∧ len ≤ cap ∧ cap ≤ maxLen ∧ Rd w w.heap.size a (zs.map (Value.int k)) ∧ ∀ z ∈ zs, (Lit.int k z).wf = true := by
  obtain ⟨a, len, cap, xs, e1, h1, h2, h2', h3, h4⟩ := got_list ht hc h
  obtain ⟨zs, rfl, h5⟩ := list_of (f := Value.int k) (p := fun z => (Lit.int k z).wf = true) fun x hx => got_int he (h4 x hx)
  exact ⟨a, len, cap, zs, e1, by simpa using h1, h2, h2', h3, h5⟩
theorem got_strs {t e : TypeId} {v : Value} (ht : P.underlying t = some (.slice e)) (he : P.underlying e = some .string) (hc : P.cellsOf e = 1) (h : Got enc P w t v) :
    ∃ (a : Option Addr) (len cap : Nat) (us : List ByteArray), v = .slice a len cap ∧ us.length = len ∧ len ≤ cap ∧ cap ≤ maxLen ∧ Rd w w.heap.size a (strs us) ∧ ∀ u ∈ us, u.size ≤ maxLen := by
  obtain ⟨a, len, cap, xs, e1, h1, h2, h2', h3, h4⟩ := got_list ht hc h
  obtain ⟨us, rfl, h5⟩ := list_of (f := Value.string) (p := fun u => u.size ≤ maxLen) fun x hx => got_string he (h4 x hx)
  exact ⟨a, len, cap, us, e1, by simpa using h1, h2, h2', h3, h5⟩
end
section
variable {H : Type} {enc : TypeId × Value → H} {P : Program} {w : World}
def in64 (z : Int) : Prop := -9223372036854775808 ≤ z ∧ z ≤ 9223372036854775807
theorem open_ints_struct {fuel : Nat} {t : TypeId} {fs : Array Field} {cs : List Value} {x : DataW H × List MemPlace} (ht : P.underlying t = some (.struct fs)) (hc : P.cellsOf t = fs.size)
    (hf : ∀ i (h : i < fs.size), P.underlying fs[i].type = some (.int .i64) ∧ P.cellsOf fs[i].type = 1 ∧ fs[i].offset = i)
    (h : DataW.trod enc P w 0 (fun _ => true) true fuel t cs = some x) : ∃ zs : List Int, cs = zs.map (Value.int .i64) ∧ zs.length = fs.size ∧ ∀ z ∈ zs, in64 z := by
  obtain ⟨xs, n, _, _, hl, hlen, hx⟩ := DataW.trod_struct ht h
  rw [hc] at hl
  have hv : ∀ v ∈ cs, v = Value.int .i64 (intOf v) ∧ in64 (intOf v) := by
    intro v hv
    obtain ⟨i, hi, e⟩ := List.getElem_of_mem hv
    have hi2 : i < fs.size := by omega
    obtain ⟨h1, h2, h3⟩ := hf i hi2
    have h4 := hx i fs[i] (Array.getElem?_eq_getElem hi2)
    rw [h2, h3, List.drop_eq_getElem_cons hi, List.take_succ_cons, List.take_zero, e, List.getElem?_eq_getElem (by omega)] at h4
    obtain ⟨k, e1, _, w1⟩ := DataW.trod_int h1 h4
    injection e1 with e1
    subst e1
    exact ⟨rfl, wf_i64 w1⟩
  refine ⟨cs.map intOf, ?_, by rw [List.length_map]; exact hl, ?_⟩
  · rw [List.map_map]
    conv => lhs; rw [← List.map_id cs]
    exact List.map_congr_left fun v hm => (hv v hm).1
  · intro z hz
    obtain ⟨v, hm, rfl⟩ := List.mem_map.1 hz
    exact (hv v hm).2
end
theorem op_fields : ∃ fs : Array Field, Tryd.prog.underlying 66 = some (.struct fs) ∧ fs.size = 2 ∧
    ∀ i (h : i < fs.size), Tryd.prog.underlying fs[i].type = some (.int .i64) ∧ Tryd.prog.cellsOf fs[i].type = 1 ∧ fs[i].offset = i := by
  refine ⟨_, Tryd.underlying66, rfl, ?_⟩
  intro i h
  have h6 : i < 2 := h
  match i, h, h6 with
  | 0, _, _ => exact ⟨Tryd.underlying3, by kernel_rfl, rfl⟩
  | 1, _, _ => exact ⟨Tryd.underlying3, by kernel_rfl, rfl⟩
  | n + 2, _, h6 => omega
theorem op_cells : Tryd.prog.cellsOf 66 = 2 := by kernel_rfl
theorem opsC_inv (cs : List (Int × Int)) : ∀ (n : Nat) (u : Value), (opsC cs)[n]? = some u → ∃ c, cs[n / 2]? = some c ∧ ([.int .i64 c.1, .int .i64 c.2] : List Value)[n % 2]? = some u := by
  induction cs with
  | nil => intro n u h; simp [opsC] at h
  | cons d ds ih =>
    intro n u h
    match n, h with
    | 0, h => exact ⟨d, rfl, h⟩
    | 1, h => exact ⟨d, rfl, h⟩
    | m + 2, h =>
      obtain ⟨c, h1, h2⟩ := ih m u h
      refine ⟨c, ?_, ?_⟩
      · rw [Nat.add_div_right m (by decide : 0 < 2)]; exact h1
      · rw [Nat.add_mod_right]; exact h2
theorem add_add' (a : Addr) (m n : Nat) (v : Value) (w : World) (h : w.cell? ((a.add m).add n) = some v) : w.cell? (a.add (m + n)) = some v := by
  rw [← Addr.add_add]; exact h
section
variable {H : Type} {enc : TypeId × Value → H} {w : World}
theorem got_ops {t : TypeId} {v : Value} (ht : Tryd.prog.underlying t = some (.slice 66)) (hg : Got enc Tryd.prog w t v) :
    ∃ (a : Option Addr) (len cap : Nat) (l : List (Int × Int)), v = .slice a len cap ∧ l.length = len ∧ len ≤ cap ∧ cap ≤ maxLen ∧ Rd w w.heap.size a (opsC l) ∧ ∀ o ∈ l, in64 o.1 ∧ in64 o.2 := by
  obtain ⟨fuel, x, h⟩ := hg
  rcases open_slice ht h with ⟨e, rfl⟩ | ⟨a, len, cap, m, n, D, Pl, e, _, hl, hm, hmm, rfl, hx⟩
  · injection e with e
    exact ⟨none, 0, 0, [], e, rfl, Nat.le_refl _, by unfold maxLen; omega, Rd.nil _ _ _, fun o ho => by cases ho⟩
  · injection e with e
    have hmc : m = cap := by simpa using hmm
    have hc : ∀ i, i < len → ∃ c : Int × Int, (∀ j u, ([.int .i64 c.1, .int .i64 c.2] : List Value)[j]? = some u → w.cell? (a.add (i * 2 + j)) = some u) ∧ in64 c.1 ∧ in64 c.2 := by
      intro i hi
      obtain ⟨cs', h1, h2⟩ := hx i (by omega)
      rw [op_cells] at h1
      obtain ⟨_, h3, h4⟩ := World.cells?_some h1
      obtain ⟨fs, g1, g2, g3⟩ := op_fields
      obtain ⟨zs, rfl, hl2, hz⟩ := open_ints_struct g1 (by rw [op_cells, g2]) g3 h2
      rw [g2] at hl2
      match zs, hl2, hz, h4 with
      | [A, B], _, hz, h4 =>
        refine ⟨(A, B), fun j u hu => ?_, hz A (by simp), hz B (by simp)⟩
        have hj : j < 2 := by
          by_cases hj : j < 2
          · exact hj
          · rw [List.getElem?_eq_none (by simp; omega)] at hu; cases hu
        exact add_add' a _ _ u w ((h4 j hj).trans hu)
    obtain ⟨C, hC⟩ := choose_lt (α := Int × Int) (p := fun i c => (∀ j u, ([.int .i64 c.1, .int .i64 c.2] : List Value)[j]? = some u → w.cell? (a.add (i * 2 + j)) = some u) ∧ in64 c.1 ∧ in64 c.2) hc
    refine ⟨some a, len, cap, (List.range len).map C, e, by simp, hl, hm, rd_of_cells fun i u hu => ?_, fun o ho => ?_⟩
    · obtain ⟨c, h1, h2⟩ := opsC_inv _ i u hu
      have hi : i / 2 < len := by
        by_cases hi : i / 2 < len
        · exact hi
        · rw [List.getElem?_eq_none (by simp; omega)] at h1; cases h1
      have e : c = C (i / 2) := by
        rw [List.getElem?_map, List.getElem?_range hi] at h1
        simpa using h1.symm
      subst e
      have := (hC (i / 2) hi).1 (i % 2) u h2
      have e2 : i / 2 * 2 + i % 2 = i := by omega
      rw [e2] at this
      exact this
    · obtain ⟨i, hi, rfl⟩ := List.mem_map.1 ho
      exact (hC i (List.mem_range.1 hi)).2
/-- a schedule that came in -/
structure SchIn (w : World) (f d p : Int) (qo : Option Addr) (no ko : Nat) (qx : Option Addr) (nx kx : Nat) (ops : List (Int × Int)) (out : List Int) : Prop where
  f64 : in64 f
  d64 : in64 d
  p64 : in64 p
  lo : ops.length = no
  co : no ≤ ko
  mo : ko ≤ maxLen
  ro : Rd w w.heap.size qo (opsC ops)
  wo : ∀ o ∈ ops, in64 o.1 ∧ in64 o.2
  lx : out.length = nx
  cx : nx ≤ kx
  mx : kx ≤ maxLen
  rx : Rd w w.heap.size qx (ints out)
  wx : ∀ x ∈ out, in64 x
/-- strings that came in -/
structure StrIn (w : World) (q : Option Addr) (n k : Nat) (ss : List ByteArray) : Prop where
  len : ss.length = n
  cap : n ≤ k
  mx : k ≤ maxLen
  rd : Rd w w.heap.size q (strs ss)
  sz : ∀ s ∈ ss, s.size ≤ maxLen
end
theorem sch_fields : ∃ fs : Array Field, Tryd.prog.underlying 30 = some (.struct fs) ∧ fs.toList.zipIdx.all (fun p => Tryd.prog.cellsOf p.1.type == 1 && p.1.offset == p.2) = true ∧ Tryd.prog.cellsOf 30 = fs.size ∧ fs.map (·.type) = #[3, 3, 3, 28, 27] :=
  ⟨_, Tryd.underlying30, by kernel_rfl, by kernel_rfl, by kernel_rfl⟩
theorem open_sched {H : Type} {enc : TypeId × Value → H} {w : World} {fuel : Nat} {cs : List Value} {x : DataW H × List MemPlace} (h : DataW.trod enc Tryd.prog w 0 (fun _ => true) true fuel 30 cs = some x) :
    ∃ (f d p : Int) (qo : Option Addr) (no ko : Nat) (qx : Option Addr) (nx kx : Nat) (ops : List (Int × Int)) (out : List Int), cs = (schC f d p qo no ko qx nx kx).toList ∧ SchIn w f d p qo no ko qx nx kx ops out := by
  obtain ⟨fs, hu, hf, hc, ht⟩ := sch_fields
  obtain ⟨hl, hg⟩ := open_fields hu hc hf h
  have hsz : fs.size = 5 := by simpa using congrArg Array.size ht
  rw [hsz] at hl
  have hty : ∀ i t, (#[3, 3, 3, 28, 27] : Array TypeId)[i]? = some t → ∃ f : Field, fs[i]? = some f ∧ f.type = t := fun i t hi => by
    rw [← ht, Array.getElem?_map] at hi
    cases hfi : fs[i]? with
    | none => rw [hfi] at hi; cases hi
    | some f => rw [hfi] at hi; exact ⟨f, hfi, Option.some.inj hi⟩
  match cs, hl with
  | [v0, v1, v2, v3, v4], _ =>
    obtain ⟨f0, e0, t0⟩ := hty 0 _ rfl
    obtain ⟨f1, e1, t1⟩ := hty 1 _ rfl
    obtain ⟨f2, e2, t2⟩ := hty 2 _ rfl
    obtain ⟨f3, e3, t3⟩ := hty 3 _ rfl
    obtain ⟨f4, e4, t4⟩ := hty 4 _ rfl
    have g0 := hg 0 f0 v0 e0 rfl; rw [t0] at g0
    have g1 := hg 1 f1 v1 e1 rfl; rw [t1] at g1
    have g2 := hg 2 f2 v2 e2 rfl; rw [t2] at g2
    have g3 := hg 3 f3 v3 e3 rfl; rw [t3] at g3
    have g4 := hg 4 f4 v4 e4 rfl; rw [t4] at g4
    obtain ⟨f, rfl, wf⟩ := got_int Tryd.underlying3 g0
    obtain ⟨d, rfl, wd⟩ := got_int Tryd.underlying3 g1
    obtain ⟨p, rfl, wp⟩ := got_int Tryd.underlying3 g2
    obtain ⟨qo, no, ko, ops, rfl, h1, h2, h3, h4, h5⟩ := got_ops Tryd.underlying28 g3
    obtain ⟨qx, nx, kx, out, rfl, k1, k2, k3, k4, k5⟩ := got_ints Tryd.underlying27 Tryd.underlying3 (by kernel_rfl) g4
    exact ⟨f, d, p, qo, no, ko, qx, nx, kx, ops, out, rfl, wf_i64 wf, wf_i64 wd, wf_i64 wp, h1, h2, h3, h4, h5, k1, k2, k3, k4, fun x hx => wf_i64 (k5 x hx)⟩
theorem got_strIn {H : Type} {enc : TypeId × Value → H} {w : World} {v : Value} (g : Got enc Tryd.prog w 36 v) : ∃ (q : Option Addr) (n k : Nat) (ss : List ByteArray), v = .slice q n k ∧ StrIn w q n k ss := by
  obtain ⟨a, n, k, us, rfl, h1, h2, h3, h4, h5⟩ := got_strs Tryd.underlying36 Tryd.underlying9 (by kernel_rfl) g
  exact ⟨a, n, k, us, rfl, h1, h2, h3, h4, h5⟩
theorem pw_fields : ∃ fs : Array Field, Tryd.prog.underlying 51 = some (.struct fs) ∧ fs.map (·.type) = #[30, 36, 36, 36] ∧ fs.map (·.offset) = #[0, 5, 6, 7] :=
  ⟨_, Tryd.underlying51, by kernel_rfl, by kernel_rfl⟩
theorem pw_cells : Tryd.prog.cellsOf 51 = 8 ∧ Tryd.prog.cellsOf 30 = 5 ∧ Tryd.prog.cellsOf 36 = 1 := ⟨by kernel_rfl, by kernel_rfl, by kernel_rfl⟩
set_option maxRecDepth 100000 in
theorem open_pw {H : Type} {enc : TypeId × Value → H} {w : World} {fuel : Nat} {cs : List Value} {x : DataW H × List MemPlace} (h : DataW.trod enc Tryd.prog w 0 (fun _ => true) true fuel 51 cs = some x) :
    ∃ (f d p : Int) (qo : Option Addr) (no ko : Nat) (qx : Option Addr) (nx kx : Nat) (ops : List (Int × Int)) (out : List Int) (qa : Option Addr) (na ka : Nat) (sa : List ByteArray) (qb : Option Addr) (nb kb : Nat) (sb : List ByteArray) (qs : Option Addr) (ns ks : Nat),
      cs = (schC f d p qo no ko qx nx kx).toList ++ [.slice qa na ka, .slice qb nb kb, .slice qs ns ks] ∧ SchIn w f d p qo no ko qx nx kx ops out ∧ StrIn w qa na ka sa ∧ StrIn w qb nb kb sb := by
  obtain ⟨fs, hu, ht, hof⟩ := pw_fields
  obtain ⟨c1, c2, c3⟩ := pw_cells
  obtain ⟨xs, n, _, _, hl, hlen, hx⟩ := DataW.trod_struct hu h
  rw [c1] at hl
  have hsz : fs.size = 4 := by simpa using congrArg Array.size ht
  have hty : ∀ (i : Nat) (t : TypeId) (o : Nat), (#[30, 36, 36, 36] : Array TypeId)[i]? = some t → (#[0, 5, 6, 7] : Array Nat)[i]? = some o → ∃ f : Field, fs[i]? = some f ∧ f.type = t ∧ f.offset = o := fun i t o hi ho => by
    rw [← ht, Array.getElem?_map] at hi
    rw [← hof, Array.getElem?_map] at ho
    cases hfi : fs[i]? with
    | none => rw [hfi] at hi; cases hi
    | some f => rw [hfi] at hi ho; exact ⟨f, rfl, Option.some.inj hi, Option.some.inj ho⟩
  obtain ⟨f0, e0, t0, o0⟩ := hty 0 30 0 rfl rfl
  obtain ⟨f1, e1, t1, o1⟩ := hty 1 36 5 rfl rfl
  obtain ⟨f2, e2, t2, o2⟩ := hty 2 36 6 rfl rfl
  obtain ⟨f3, e3, t3, o3⟩ := hty 3 36 7 rfl rfl
  have h0 := hx 0 f0 e0; rw [t0, o0, c2] at h0
  have h1 := hx 1 f1 e1; rw [t1, o1, c3] at h1
  have h2 := hx 2 f2 e2; rw [t2, o2, c3] at h2
  have h3 := hx 3 f3 e3; rw [t3, o3, c3] at h3
  match cs, hl with
  | [v0, v1, v2, v3, v4, v5, v6, v7], _ =>
    rw [List.getElem?_eq_getElem (by omega)] at h0 h1 h2 h3
    obtain ⟨f, d, p, qo, no, ko, qx, nx, kx, ops, out, ec, hin⟩ := open_sched h0
    obtain ⟨qa, na, ka, sa, rfl, ha⟩ := got_strIn ⟨n, _, h1⟩
    obtain ⟨qb, nb, kb, sb, rfl, hb⟩ := got_strIn ⟨n, _, h2⟩
    obtain ⟨qs, ns, ks, ss, rfl, hs⟩ := got_strIn ⟨n, _, h3⟩
    refine ⟨f, d, p, qo, no, ko, qx, nx, kx, ops, out, qa, na, ka, sa, qb, nb, kb, sb, qs, ns, ks, ?_, hin, ha, hb⟩
    rw [← ec]; rfl
end Go.Proofs.YtghinmlpkgcdiaaDoor
/-! Schedules: few units, few operations; Run, both ways in one. -/
namespace Go.Proofs.YtghinmlpkgcdiaaDoor
set_option linter.unusedSimpArgs false
set_option linter.unusedVariables false
open Go.RowKit Go.Lib

def few08 (ss : List ByteArray) : Bool := decide (ss.length ≤ 24) && ss.all fun s => decide (s.size ≤ 64)
def few11 (f d : Int) (no nx : Nat) : Bool := decide (d ≤ 5) && decide (f ≤ 16) && decide (wrap64 (d * f) ≤ 40) && decide (nx ≤ 40) && decide (no ≤ 300)
set_option maxRecDepth 100000 in
set_option maxHeartbeats 1600000 in
theorem few11_any (f d p : Int) (qo : Option Addr) (no ko : Nat) (qx : Option Addr) (nx kx : Nat) (w : World) :
    Calls Tryd.prog 23 #[schV f d p qo no ko qx nx kx] w fun e w' => e = .returned (.bool (few11 f d no nx)) ∧ Below w.heap.size w w' := by
  unfold schV few11
  have HB := Lib.hid ((Below.refl _ w).alloc (Nat.le_refl _) (.cells (schC f d p qo no ko qx nx kx) 30))
  obtain ⟨b1, e1⟩ : ∃ b, decide (d ≤ 5) = b := ⟨_, rfl⟩
  obtain ⟨b2, e2⟩ : ∃ b, decide (f ≤ 16) = b := ⟨_, rfl⟩
  obtain ⟨b3, e3⟩ : ∃ b, decide (wrap64 (d * f) ≤ 40) = b := ⟨_, rfl⟩
  obtain ⟨b4, e4⟩ : ∃ b, decide (nx ≤ 40) = b := ⟨_, rfl⟩
  obtain ⟨b5, e5⟩ : ∃ b, decide (no ≤ 300) = b := ⟨_, rfl⟩
  have e4' : decide ((nx : Int) ≤ 40) = b4 := by rw [← e4, decide_eq_decide]; omega
  have e5' : decide ((no : Int) ≤ 300) = b5 := by rw [← e5, decide_eq_decide]; omega
  rw [e1, e2, e3, e4, e5]
  clear e4 e5
  cases b1
  · go_enter Tryd.func23, Tryd.ntmps23
    go_wp2
    go_ret
    exact ⟨rfl, HB.out⟩
  cases b2
  · go_enter Tryd.func23, Tryd.ntmps23
    go_wp2
    go_ret
    exact ⟨rfl, HB.out⟩
  cases b3
  · go_enter Tryd.func23, Tryd.ntmps23
    go_wp2
    go_ret
    exact ⟨rfl, HB.out⟩
  cases b4
  · go_enter Tryd.func23, Tryd.ntmps23
    go_wp2
    go_ret
    exact ⟨rfl, HB.out⟩
  go_enter Tryd.func23, Tryd.ntmps23
  go_wp2
  go_ret
  exact ⟨by cases b5 <;> rfl, HB.out⟩
set_option maxRecDepth 100000 in
set_option maxHeartbeats 1600000 in
theorem few08_any (q : Option Addr) (n k : Nat) (ss : List ByteArray) (w : World) (h : StrIn w q n k ss) :
    Calls Tryd.prog 13 #[.slice q n k] w fun e w' => e = .returned (.bool (few08 ss)) ∧ w' = w := by
  have HL := Lib.hid h.len
  have HR := Lib.hid h.rd
  have HSZ := Lib.hid h.sz
  unfold few08
  rw [h.len]
  clear h
  by_cases hn : n ≤ 24
  · have hd : decide ((24 : Int) < n) = false := decide_eq_false (by omega)
    have hd2 : decide (n ≤ 24) = true := decide_eq_true hn
    rw [hd2, Bool.true_and]
    clear hd2
    obtain ⟨F, hF⟩ : ∃ F, (ss.all fun s => decide (s.size ≤ 64)) = F := ⟨_, rfl⟩
    have HF := Lib.hid hF
    rw [hF]
    clear hF
    go_enter Tryd.func13, Tryd.ntmps13
    go_wp2
    clear hd
    go_loop [3] (fun i => ∃ t : Nat, t ≤ n ∧ i = .int .i64 t ∧ ((ss.take t).all fun s => decide (s.size ≤ 64)) = true) (fun i => n - (intOf i).toNat)
    case atStart => exact ⟨0, by omega, rfl, rfl⟩
    case round =>
      obtain ⟨t, ht, rfl, ha⟩ := hrel
      have HA := Lib.hid ha
      clear ha
      by_cases hlt : t < n
      · have hd : decide ((t : Int) < n) = true := decide_eq_true (by omega)
        obtain ⟨s, hx⟩ : ∃ x, ss[t]? = some x := ⟨_, List.getElem?_eq_getElem (by rw [HL.out]; exact hlt)⟩
        obtain ⟨b, off, rfl, hb, hc⟩ := HR.out t (.string s) (by rw [strs, List.getElem?_map, hx]; rfl)
        have hsm := HSZ.out s (List.mem_of_getElem? hx)
        unfold maxLen at hsm
        by_cases h64 : s.size ≤ 64
        · have hd6 : decide ((64 : Int) < s.size) = false := decide_eq_false (by omega)
          have HA2 := Lib.hid (show ((ss.take (t + 1)).all fun s => decide (s.size ≤ 64)) = true by
            rw [List.take_add_one, hx, List.all_append, HA.out]; simp [h64])
          clear hx
          go_wp2
          go_round
          case rel => exact ⟨t + 1, by omega, by go_num, HA2.out⟩
          case measure => simp [intOf]; omega
        · have hd6 : decide ((64 : Int) < s.size) = true := decide_eq_true (by omega)
          have HF2 := Lib.hid (show F = false by
            rw [← HF.out, List.all_eq_false]
            exact ⟨s, List.mem_of_getElem? hx, by simp; omega⟩)
          clear hx
          go_wp2
          go_ret
          exact ⟨by rw [HF2.out]; rfl, rfl⟩
      · have h1 : t = n := by omega
        have hd : decide ((t : Int) < n) = false := decide_eq_false (by omega)
        have HF2 := Lib.hid (show F = true by
          rw [← HF.out]
          have := HA.out
          rwa [List.take_of_length_le (by rw [HL.out]; omega)] at this)
        clear h1
        go_wp2
        go_ret
        exact ⟨by rw [HF2.out]; rfl, rfl⟩
  · have hd : decide ((24 : Int) < n) = true := decide_eq_true (by omega)
    have hd2 : decide (n ≤ 24) = false := decide_eq_false hn
    rw [hd2, Bool.false_and]
    clear hd2
    go_enter Tryd.func13, Tryd.ntmps13
    go_wp2
    go_ret
    exact ⟨rfl, rfl⟩
/-- does Run accept? -/
def Xp.acc (f d p : Int) (ops : List (Int × Int)) (out : List Int) (ss : List ByteArray) : Bool := Xp.okS f d p ops out && decide ((ss.length : Int) = d) && Xp.fits f.toNat ss
/-- the length of the units -/
def Xp.unitN (ss : List ByteArray) : Nat := (ss.headD ByteArray.empty).size
/-- the parity units, as strings -/
def Xp.parity (f p : Int) (ops : List (Int × Int)) (out : List Int) (ss : List ByteArray) : List (List UInt8) := Xp.runOut f.toNat (Xp.unitN ss) p.toNat (Xp.regs (Xp.runIn f.toNat ss) (natO ops)) out
theorem acc_parts {f d p : Int} {ops : List (Int × Int)} {out : List Int} {ss : List ByteArray} (h : Xp.acc f d p ops out ss = true) :
    ∃ m D P NS : Nat, f = m ∧ d = D ∧ p = P ∧ Fld.IsM m ∧ 1 ≤ D ∧ ss.length = D ∧ Xp.unitN ss = NS * (m / 8) ∧ (∀ s ∈ ss, s.size = Xp.unitN ss) ∧ Xp.okS f d p ops out = true := by
  unfold Xp.acc at h
  rw [Bool.and_eq_true, Bool.and_eq_true] at h
  obtain ⟨⟨h1, h2⟩, h3⟩ := h
  have h2 := of_decide_eq_true h2
  have h1' := h1
  unfold Xp.okS at h1'
  rw [Bool.and_eq_true, Bool.and_eq_true] at h1'
  obtain ⟨⟨hh, _⟩, _⟩ := h1'
  unfold Xp.headOk at hh
  simp only [Bool.and_eq_true, Bool.or_eq_true, decide_eq_true_eq] at hh
  obtain ⟨⟨⟨⟨⟨⟨hf, hd1⟩, hp0⟩, _⟩, _⟩, _⟩, _⟩ := hh
  unfold Xp.fits at h3
  rw [Bool.and_eq_true] at h3
  obtain ⟨h4, h5⟩ := h3
  have h4 := of_decide_eq_true h4
  refine ⟨f.toNat, d.toNat, p.toNat, Xp.unitN ss / (f.toNat / 8), by omega, by omega, by omega, ?_, by omega, by omega, ?_, ?_, h1⟩
  · rcases hf with rfl | rfl
    · exact .inl rfl
    · exact .inr rfl
  · have := Nat.div_add_mod (Xp.unitN ss) (f.toNat / 8)
    unfold Xp.unitN at this ⊢
    rw [h4] at this
    rw [Nat.mul_comm]; omega
  · intro s hs
    by_cases e : s.size = Xp.unitN ss
    · exact e
    · exfalso
      have : (ss.any fun s => (s.size : Int) != ((ss.headD ByteArray.empty).size : Int)) = true := List.any_eq_true.2 ⟨s, hs, by
        unfold Xp.unitN at e
        simp only [bne_iff_ne, ne_eq]; omega⟩
      rw [this] at h5; simp at h5
theorem run_acc {f d p : Int} {qo : Option Addr} {no ko : Nat} {qx : Option Addr} {nx kx : Nat} {ops : List (Int × Int)} {out : List Int} (B : Nat) {qd : Option Addr} {nd kd : Nat} {ss : List ByteArray} (w : World) (ht : Tab w) (hno : no ≤ 131072) (hs : SchIn w f d p qo no ko qx nx kx ops out)
    (hl : ss.length = nd) (hr : Rd w w.heap.size qd (strs ss)) (hsz : ∀ s ∈ ss, s.size ≤ 1000) (h : Xp.acc f d p ops out ss = true) :
    Calls Tryd.prog 15 #[schV f d p qo no ko qx nx kx, .slice qd nd kd] w fun e w' => (∃ q k, e = .returned (.tuple #[.slice q p.toNat k, .int .i64 0]) ∧ Own w' w.heap.size 9 q p.toNat k (strsB (Xp.parity f p ops out ss))) ∧ Below w.heap.size w w' := by
  obtain ⟨m, D, P, NS, rfl, rfl, rfl, hm, hD, hlD, hn, hall, hok⟩ := acc_parts h
  have hn1000 : Xp.unitN ss ≤ 1000 := by
    cases ss with
    | nil => simp at hlD; omega
    | cons s r => exact hsz s (by simp)
  have h9 := run_yes (m := m) (D := D) hm P qo no ko qx nx kx (Xp.unitN ss) NS ops out qd kd ss w ht hno hs.lo hs.ro hs.lx hs.rx hs.cx hs.mx hok hD hlD hr hall hn hn1000
  rw [← hl, hlD]
  exact h9
theorem run_rej {f d p : Int} {qo : Option Addr} {no ko : Nat} {qx : Option Addr} {nx kx : Nat} {ops : List (Int × Int)} {out : List Int} {qd : Option Addr} {nd kd : Nat} {ss : List ByteArray} (w : World) (ht : Tab w) (hno : no ≤ 131072) (hs : SchIn w f d p qo no ko qx nx kx ops out)
    (hl : ss.length = nd) (hnd : nd ≤ 1000000) (hr : Rd w w.heap.size qd (strs ss)) (hsz : ∀ s ∈ ss, s.size ≤ 1000) (h : Xp.acc f d p ops out ss = false) :
    Calls Tryd.prog 15 #[schV f d p qo no ko qx nx kx, .slice qd nd kd] w fun e w' => e = .returned (.tuple #[.slice none 0 0, .int .i64 1]) ∧ Below w.heap.size w w' := by
  refine run_no (m := f.toNat) f d p qo no ko qx nx kx ops out qd nd kd ss w ht (by omega) hs.lo hs.ro hs.lx hs.rx hl hnd hr hsz ?_
  by_cases h1 : Xp.okS f d p ops out = true
  · by_cases h2 : (nd : Int) = d
    · refine .inr (.inr ?_)
      have h1' := h1
      unfold Xp.okS at h1'
      rw [Bool.and_eq_true, Bool.and_eq_true] at h1'
      obtain ⟨⟨hh, _⟩, _⟩ := h1'
      unfold Xp.headOk at hh
      simp only [Bool.and_eq_true, Bool.or_eq_true, decide_eq_true_eq] at hh
      obtain ⟨⟨⟨⟨⟨⟨hf, hd1⟩, hp0⟩, _⟩, _⟩, _⟩, _⟩ := hh
      refine ⟨by omega, ?_, by omega, h1, h2, ?_⟩
      · rcases hf with rfl | rfl
        · exact .inl rfl
        · exact .inr rfl
      · unfold Xp.acc at h
        rw [h1, hl, decide_eq_true h2] at h
        simpa using h
    · exact .inr (.inl h2)
  · exact .inl (by simpa using h1)
end Go.Proofs.YtghinmlpkgcdiaaDoor
/-! Schedules: running one is pointwise, the plain words. -/
set_option linter.unusedVariables false
namespace Go.Proofs.YtghinmlpkgcdiaaDoor
namespace Xp

theorem bit_one (N t y : Nat) : (N / 2 ^ t % 2).testBit y = (decide (y = 0) && N.testBit t) := by
  rw [Nat.testBit_eq_decide_div_mod_eq (x := N)]
  rcases Nat.mod_two_eq_zero_or_one (N / 2 ^ t) with h | h
  · rw [h]; simp
  · rw [h]
    cases y with
    | zero => simp
    | succ y => rw [Nat.testBit_succ]; simp
/-- where bit x of plane K stands in a unit -/
def byteAt (m K x : Nat) : Nat := x * (m / 8) + (m / 8 - 1 - K / 8)
theorem high_iff {m K i : Nat} (hm : m = 8 ∨ m = 16) (hK : K < m) : (high m i ≤ K ∧ K < high m i + 8) ↔ byteAt m K (i / (m / 8)) = i := by
  unfold high byteAt
  rcases hm with rfl | rfl <;> simp <;> omega
theorem high_sub {m K i : Nat} (hm : m = 8 ∨ m = 16) (h : high m i ≤ K ∧ K < high m i + 8) : K - high m i = K % 8 := by
  unfold high at *
  rcases hm with rfl | rfl <;> simp at * <;> omega
theorem byteAt_inj {m K x y : Nat} (hm : m = 8 ∨ m = 16) (h : byteAt m K x = byteAt m K y) : x = y := by
  unfold byteAt at h
  rcases hm with rfl | rfl <;> simp at h <;> omega
theorem byteAt_div {m K x i : Nat} (hm : m = 8 ∨ m = 16) (hK : K < m) (h : byteAt m K x = i) : x = i / (m / 8) := by
  unfold byteAt at h
  rcases hm with rfl | rfl <;> simp at h ⊢ <;> omega
theorem plTo_bit {m : Nat} (hm : m = 8 ∨ m = 16) (f : Nat → Nat) {K : Nat} (hK : K < m) (x : Nat) : ∀ i, (plTo m f K i).testBit x = (decide (byteAt m K x < i) && (f (byteAt m K x)).testBit (K % 8))
  | 0 => by simp [plTo]
  | i + 1 => by
    have ih := plTo_bit hm f hK x i
    unfold plTo
    by_cases h : high m i ≤ K ∧ K < high m i + 8
    · rw [if_pos h, Nat.testBit_or, ih, Nat.testBit_shiftLeft, bit_one, high_sub hm h]
      have hi := (high_iff hm hK).1 h
      by_cases e : byteAt m K x = i
      · have hx := byteAt_div hm hK e
        rw [e, hx]
        simp
      · have hx : x ≠ i / (m / 8) := fun hx => e (by rw [hx]; exact hi)
        by_cases e2 : byteAt m K x < i
        · have : byteAt m K x < i + 1 := by omega
          simp [e2, this]
          intro h1 h2; omega
        · have : ¬ byteAt m K x < i + 1 := by omega
          simp [e2, this]
          intro h1 h2; omega
    · rw [if_neg h, ih]
      have e : byteAt m K x ≠ i := fun e => h ((high_iff hm hK).2 (by rw [← byteAt_div hm hK e]; exact e))
      congr 1
      rw [decide_eq_decide]; omega
theorem ubTo_bit (m : Nat) (R : Nat → Nat) (i k : Nat) : ∀ t, (ubTo m R i t).testBit k = (decide (k < t) && (R (high m i + k)).testBit (i / (m / 8)))
  | 0 => by simp [ubTo]
  | t + 1 => by
    rw [ubTo, Nat.testBit_or, ubTo_bit m R i k t, Nat.testBit_shiftLeft, bit_one]
    by_cases e : k = t
    · subst e; simp
    · by_cases e2 : k < t
      · have : k < t + 1 := by omega
        simp [e2, this]; intro h1 h2; omega
      · have : ¬ k < t + 1 := by omega
        simp [e2, this]; intro h1 h2; omega
theorem ubTo_congr {m m' : Nat} {R R' : Nat → Nat} {i i' : Nat} (h : ∀ k, k < 8 → (R (high m i + k)).testBit (i / (m / 8)) = (R' (high m' i' + k)).testBit (i' / (m' / 8))) : ubTo m R i 8 = ubTo m' R' i' 8 := by
  apply Nat.eq_of_testBit_eq
  intro k
  rw [ubTo_bit, ubTo_bit]
  by_cases hk : k < 8
  · rw [h k hk]
  · simp [hk]
/-- the registers' bits -/
def regsB : List Bool → List (Nat × Nat) → List Bool
  | l, [] => l
  | l, o :: os => regsB (l ++ [(l[o.1]?.getD false) ^^ (l[o.2]?.getD false)]) os
theorem getD_bit (l : List Nat) (i x : Nat) : (l[i]?.getD 0).testBit x = (l.map fun n => n.testBit x)[i]?.getD false := by
  rw [List.getElem?_map]
  cases l[i]? <;> simp
theorem regs_bit (x : Nat) : ∀ (os : List (Nat × Nat)) (l : List Nat), (regs l os).map (fun n => n.testBit x) = regsB (l.map fun n => n.testBit x) os
  | [], l => rfl
  | o :: os, l => by
    show (regs (l ++ [_]) os).map _ = regsB (_ ++ [_]) os
    rw [regs_bit x os, List.map_append]
    simp only [List.map_cons, List.map_nil, Nat.testBit_xor, getD_bit]
theorem regsB_xor : ∀ (os : List (Nat × Nat)) (l l' : List Bool), l.length = l'.length → regsB (List.zipWith xor l l') os = List.zipWith xor (regsB l os) (regsB l' os)
  | [], l, l', _ => rfl
  | o :: os, l, l', h => by
    have e : ∀ i, (List.zipWith xor l l')[i]?.getD false = ((l[i]?.getD false) ^^ (l'[i]?.getD false)) := fun i => by
      rw [List.getElem?_zipWith]
      by_cases hi : i < l.length
      · rw [List.getElem?_eq_getElem hi, List.getElem?_eq_getElem (by omega)]; rfl
      · rw [List.getElem?_eq_none (by omega), List.getElem?_eq_none (by omega)]; rfl
    have ha : List.zipWith xor l l' ++ [((List.zipWith xor l l')[o.1]?.getD false) ^^ ((List.zipWith xor l l')[o.2]?.getD false)] = List.zipWith xor (l ++ [(l[o.1]?.getD false) ^^ (l[o.2]?.getD false)]) (l' ++ [(l'[o.1]?.getD false) ^^ (l'[o.2]?.getD false)]) := by
      rw [List.zipWith_append h, e, e]
      congr 1
      show [_] = [_]
      congr 1
      cases l[o.1]?.getD false <;> cases l[o.2]?.getD false <;> cases l'[o.1]?.getD false <;> cases l'[o.2]?.getD false <;> rfl
    show regsB (_ ++ [_]) os = List.zipWith xor (regsB (_ ++ [_]) os) (regsB (_ ++ [_]) os)
    rw [ha]
    exact regsB_xor os _ _ (by simp [h])
theorem outN_bit (R : List Nat) (r : Int) (x : Nat) : (outN R r).testBit x = (if r < 0 then false else (R.map fun n => n.testBit x)[r.toNat]?.getD false) := by
  unfold outN
  by_cases h : r < 0
  · rw [if_pos h, if_pos h]; simp
  · rw [if_neg h, if_neg h, getD_bit]
end Xp
end Go.Proofs.YtghinmlpkgcdiaaDoor
/-! Schedules: running one is pointwise, the plain law. -/
set_option linter.unusedVariables false
namespace Go.Proofs.YtghinmlpkgcdiaaDoor
namespace Xp

/-- bit x of the planes of a unit -/
def bitsOf (m : Nat) (s : ByteArray) (x : Nat) : List Bool := (List.range m).map fun K => decide (byteAt m K x < s.size) && (bytesOf s (byteAt m K x)).testBit (K % 8)
theorem bitsOf_length (m : Nat) (s : ByteArray) (x : Nat) : (bitsOf m s x).length = m := by simp [bitsOf]
theorem runIn_bits {m : Nat} (hm : m = 8 ∨ m = 16) (ss : List ByteArray) (x : Nat) : (runIn m ss).map (fun n => n.testBit x) = ss.flatMap fun s => bitsOf m s x := by
  unfold runIn
  rw [List.map_flatMap]
  congr 1
  funext s
  unfold plList bitsOf
  rw [List.map_map]
  apply List.map_congr_left
  intro K hK
  show (plPart m (bytesOf s) s.size 0 K).testBit x = _
  rw [plPart_zero, plTo_bit hm _ (List.mem_range.1 hK)]
theorem bytesOf_append (a b : ByteArray) (j : Nat) : bytesOf (a ++ b) j = if j < a.size then bytesOf a j else bytesOf b (j - a.size) := by
  unfold bytesOf
  have e : (a ++ b).data.toList = a.data.toList ++ b.data.toList := by simp
  have hl : a.data.toList.length = a.size := by rw [Array.length_toList]; rfl
  rw [e]
  by_cases h : j < a.size
  · rw [if_pos h, List.getElem?_append_left (by omega)]
  · rw [if_neg h, List.getElem?_append_right (by omega), hl]
theorem bitsOf_left {m NA x : Nat} (hm : m = 8 ∨ m = 16) {a b : ByteArray} (ha : a.size = NA * (m / 8)) (hx : x < NA) : bitsOf m (a ++ b) x = bitsOf m a x := by
  unfold bitsOf
  apply List.map_congr_left
  intro K hK
  have hK := List.mem_range.1 hK
  have h1 : byteAt m K x < a.size := by
    rw [ha]; unfold byteAt
    rcases hm with rfl | rfl <;> simp <;> omega
  rw [bytesOf_append, if_pos h1, ByteArray.size_append]
  congr 1
  rw [decide_eq_decide]; omega
theorem bitsOf_right {m NA x : Nat} (hm : m = 8 ∨ m = 16) {a b : ByteArray} (ha : a.size = NA * (m / 8)) (hx : NA ≤ x) : bitsOf m (a ++ b) x = bitsOf m b (x - NA) := by
  unfold bitsOf
  apply List.map_congr_left
  intro K hK
  have hK := List.mem_range.1 hK
  have h1 : byteAt m K x = byteAt m K (x - NA) + a.size := by
    rw [ha]; unfold byteAt
    rcases hm with rfl | rfl <;> simp <;> omega
  rw [bytesOf_append, if_neg (by omega), ByteArray.size_append, h1, Nat.add_sub_cancel]
  congr 1
  rw [decide_eq_decide]; omega
theorem bytesOf_xor {a b : ByteArray} (h : a.size = b.size) (j : Nat) : bytesOf (strB (Fld.xorL a.data.toList b.data.toList)) j = bytesOf a j ^^^ bytesOf b j := by
  unfold bytesOf
  rw [strB_data]
  have hl : a.data.toList.length = a.size := by rw [Array.length_toList]; rfl
  have hl2 : b.data.toList.length = b.size := by rw [Array.length_toList]; rfl
  by_cases hj : j < a.size
  · rw [Fld.xorL_get (by omega) (by omega)]
    simp only [Option.getD_some, UInt8.toNat_xor]
  · rw [List.getElem?_eq_none (by rw [Fld.xorL_length (by omega)]; omega), List.getElem?_eq_none (by omega), List.getElem?_eq_none (by omega)]; rfl
theorem bitsOf_xor {m x : Nat} {a b : ByteArray} (h : a.size = b.size) : bitsOf m (strB (Fld.xorL a.data.toList b.data.toList)) x = List.zipWith xor (bitsOf m a x) (bitsOf m b x) := by
  have hl : a.data.toList.length = a.size := by rw [Array.length_toList]; rfl
  have hl2 : b.data.toList.length = b.size := by rw [Array.length_toList]; rfl
  unfold bitsOf
  rw [List.zipWith_map, List.zipWith_self]
  apply List.map_congr_left
  intro K _
  rw [bytesOf_xor h, strB_size, Fld.xorL_length (by omega), hl, Nat.testBit_xor, ← h]
  cases decide (byteAt m K x < a.size) <;> simp
theorem flatMap_zip_left {α β γ : Type} {op : α → β → α} {F G : α → List γ} : ∀ (A : List α) (B : List β), A.length = B.length → (∀ a ∈ A, ∀ b ∈ B, F (op a b) = G a) → (List.zipWith op A B).flatMap F = A.flatMap G
  | [], [], _, _ => rfl
  | a :: A, b :: B, hl, h => by
    rw [List.zipWith_cons_cons, List.flatMap_cons, List.flatMap_cons, h a (by simp) b (by simp), flatMap_zip_left A B (by simpa using hl) fun x hx y hy => h x (List.mem_cons_of_mem _ hx) y (List.mem_cons_of_mem _ hy)]
theorem flatMap_zip_right {α β γ : Type} {op : β → α → α} {F G : α → List γ} : ∀ (A : List β) (B : List α), A.length = B.length → (∀ a ∈ A, ∀ b ∈ B, F (op a b) = G b) → (List.zipWith op A B).flatMap F = B.flatMap G
  | [], [], _, _ => rfl
  | a :: A, b :: B, hl, h => by
    rw [List.zipWith_cons_cons, List.flatMap_cons, List.flatMap_cons, h a (by simp) b (by simp), flatMap_zip_right A B (by simpa using hl) fun x hx y hy => h x (List.mem_cons_of_mem _ hx) y (List.mem_cons_of_mem _ hy)]
theorem flatMap_zip_xor {α : Type} {op : α → α → α} {F : α → List Bool} {m : Nat} (hF : ∀ a, (F a).length = m) : ∀ (A B : List α), A.length = B.length → (∀ a ∈ A, ∀ b ∈ B, F (op a b) = List.zipWith xor (F a) (F b)) → (List.zipWith op A B).flatMap F = List.zipWith xor (A.flatMap F) (B.flatMap F)
  | [], [], _, _ => rfl
  | a :: A, b :: B, hl, h => by
    rw [List.zipWith_cons_cons, List.flatMap_cons, List.flatMap_cons, List.flatMap_cons, h a (by simp) b (by simp), flatMap_zip_xor hF A B (by simpa using hl) (fun x hx y hy => h x (List.mem_cons_of_mem _ hx) y (List.mem_cons_of_mem _ hy)), List.zipWith_append (by rw [hF, hF])]
/-- plane K of parity unit c -/
def outP (m : Nat) (R : List Nat) (out : List Int) (c K : Nat) : Nat := (outRow m R out c)[K]?.getD 0
theorem outP_eq {m K : Nat} (R : List Nat) (out : List Int) (c : Nat) (hK : K < m) : outP m R out c K = outN R (out[c * m + K]?.getD (-1)) := by
  unfold outP outRow
  rw [List.getElem?_map, List.getElem?_range hK]; rfl
theorem runOut_eq (m n P : Nat) (R : List Nat) (out : List Int) : runOut m n P R out = (List.range P).map fun i => unitL m (outP m R out i) n := rfl
/-- the bits of two lists of registers agree -/
theorem outP_congr {m x x' K : Nat} (hK : K < m) {l l' : List Nat} {os : List (Nat × Nat)} {out : List Int} {c : Nat} (h : l.map (fun n => n.testBit x) = l'.map (fun n => n.testBit x')) :
    (outP m (regs l os) out c K).testBit x = (outP m (regs l' os) out c K).testBit x' := by
  rw [outP_eq _ _ _ hK, outP_eq _ _ _ hK, outN_bit, outN_bit, regs_bit, regs_bit, h]
theorem outP_xor {m x K : Nat} (hK : K < m) {l a b : List Nat} {os : List (Nat × Nat)} {out : List Int} {c : Nat} (hl : a.length = b.length) (h : l.map (fun n => n.testBit x) = List.zipWith xor (a.map (fun n => n.testBit x)) (b.map (fun n => n.testBit x))) :
    (outP m (regs l os) out c K).testBit x = ((outP m (regs a os) out c K).testBit x ^^ (outP m (regs b os) out c K).testBit x) := by
  rw [outP_eq _ _ _ hK, outP_eq _ _ _ hK, outP_eq _ _ _ hK, outN_bit, outN_bit, outN_bit, regs_bit, regs_bit, regs_bit, h, regsB_xor _ _ _ (by simp [hl])]
  generalize out[c * m + K]?.getD (-1) = r
  by_cases hr : r < 0
  · simp [hr]
  · simp only [hr, if_false]
    have hlen : (regsB (a.map fun n => n.testBit x) os).length = (regsB (b.map fun n => n.testBit x) os).length := by
      rw [← regs_bit, ← regs_bit, List.length_map, List.length_map, regs_length, regs_length, hl]
    rw [List.getElem?_zipWith]
    by_cases hi : r.toNat < (regsB (a.map fun n => n.testBit x) os).length
    · rw [List.getElem?_eq_getElem hi, List.getElem?_eq_getElem (by omega)]; rfl
    · rw [List.getElem?_eq_none (by omega), List.getElem?_eq_none (by omega)]; rfl
theorem high_mod {m a : Nat} (i : Nat) (hm : m = 8 ∨ m = 16) : high m (a * (m / 8) + i) = high m i := by
  unfold high
  rw [Nat.mul_comm a, Nat.mul_add_mod]
theorem runOut_join {m NA nB P : Nat} (hm : m = 8 ∨ m = 16) (A B : List ByteArray) (os : List (Nat × Nat)) (out : List Int) (hl : A.length = B.length) (hA : ∀ a ∈ A, a.size = NA * (m / 8)) :
    runOut m (NA * (m / 8) + nB) P (regs (runIn m (List.zipWith (· ++ ·) A B)) os) out = List.zipWith (· ++ ·) (runOut m (NA * (m / 8)) P (regs (runIn m A) os) out) (runOut m nB P (regs (runIn m B) os) out) := by
  have hz : 0 < m / 8 := by rcases hm with rfl | rfl <;> decide
  have hlo : ∀ x, x < NA → (runIn m (List.zipWith (· ++ ·) A B)).map (fun n => n.testBit x) = (runIn m A).map (fun n => n.testBit x) := fun x hx => by
    rw [runIn_bits hm, runIn_bits hm]
    exact flatMap_zip_left A B hl fun a ha b hb => bitsOf_left hm (hA a ha) hx
  have hhi : ∀ x, NA ≤ x → (runIn m (List.zipWith (· ++ ·) A B)).map (fun n => n.testBit x) = (runIn m B).map (fun n => n.testBit (x - NA)) := fun x hx => by
    rw [runIn_bits hm, runIn_bits hm]
    exact flatMap_zip_right A B hl fun a ha b hb => bitsOf_right hm (hA a ha) hx
  rw [runOut_eq, runOut_eq, runOut_eq, List.zipWith_map, List.zipWith_self]
  apply List.map_congr_left
  intro c _
  unfold unitL
  rw [List.range_add, List.map_append, List.map_map]
  congr 1
  · apply List.map_congr_left
    intro i hi
    have hi := List.mem_range.1 hi
    congr 1
    apply ubTo_congr
    intro k hk
    exact outP_congr (high_lt hm hk) (hlo _ ((Nat.div_lt_iff_lt_mul hz).2 hi))
  · apply List.map_congr_left
    intro i hi
    show UInt8.ofNat _ = UInt8.ofNat _
    congr 1
    apply ubTo_congr
    intro k hk
    rw [high_mod i hm]
    have e : (NA * (m / 8) + i) / (m / 8) = NA + i / (m / 8) := by
      rw [Nat.add_comm, Nat.add_mul_div_right _ _ hz, Nat.add_comm]
    rw [e, outP_congr (high_lt hm hk) (hhi _ (Nat.le_add_right _ _)), Nat.add_sub_cancel_left]
theorem runOut_xor {m n P : Nat} (hm : m = 8 ∨ m = 16) (A B : List ByteArray) (os : List (Nat × Nat)) (out : List Int) (hl : A.length = B.length) (hA : ∀ a ∈ A, a.size = n) (hB : ∀ b ∈ B, b.size = n) :
    runOut m n P (regs (runIn m (List.zipWith (fun a b => strB (Fld.xorL a.data.toList b.data.toList)) A B)) os) out = List.zipWith Fld.xorL (runOut m n P (regs (runIn m A) os) out) (runOut m n P (regs (runIn m B) os) out) := by
  have hx : ∀ x, (runIn m (List.zipWith (fun a b => strB (Fld.xorL a.data.toList b.data.toList)) A B)).map (fun n => n.testBit x) = List.zipWith xor ((runIn m A).map (fun n => n.testBit x)) ((runIn m B).map (fun n => n.testBit x)) := fun x => by
    rw [runIn_bits hm, runIn_bits hm, runIn_bits hm]
    exact flatMap_zip_xor (F := fun s => bitsOf m s x) (fun a => bitsOf_length m a x) A B hl fun a ha b hb => bitsOf_xor ((hA a ha).trans (hB b hb).symm)
  rw [runOut_eq, runOut_eq, runOut_eq, List.zipWith_map, List.zipWith_self]
  apply List.map_congr_left
  intro c _
  unfold unitL Fld.xorL
  rw [List.zipWith_map, List.zipWith_self]
  apply List.map_congr_left
  intro i _
  rw [← UInt8.ofNat_xor]
  congr 1
  apply Nat.eq_of_testBit_eq
  intro k
  rw [Nat.testBit_xor, ubTo_bit, ubTo_bit, ubTo_bit]
  by_cases hk : k < 8
  · simp only [hk, decide_true, Bool.true_and]
    exact outP_xor (high_lt hm hk) (by rw [runIn_length, runIn_length, hl]) (hx _)
  · simp [hk]
end Xp
end Go.Proofs.YtghinmlpkgcdiaaDoor
/-! Schedules: what Run returns of joined and of added units. -/
namespace Go.Proofs.YtghinmlpkgcdiaaDoor
set_option linter.unusedSimpArgs false
set_option linter.unusedVariables false
open Go.RowKit Go.Lib

theorem acc_of {f d p : Int} {ops : List (Int × Int)} {out : List Int} {ss : List ByteArray} {n : Nat} (hok : Xp.okS f d p ops out = true) (hl : (ss.length : Int) = d) (hne : 1 ≤ ss.length) (hall : ∀ s ∈ ss, s.size = n) (hz : n % (f.toNat / 8) = 0) :
    Xp.acc f d p ops out ss = true ∧ Xp.unitN ss = n := by
  have hu : (ss.headD ByteArray.empty).size = n := by
    cases ss with
    | nil => simp at hne
    | cons s r => exact hall s (by simp)
  refine ⟨?_, hu⟩
  unfold Xp.acc Xp.fits
  rw [hok, hu, decide_eq_true hl, decide_eq_true hz]
  have : (ss.any fun s => (s.size : Int) != (n : Int)) = false := by
    rw [List.any_eq_false]
    intro s hs
    rw [hall s hs]; simp
  rw [this]; rfl
theorem parity_length (f p : Int) (ops : List (Int × Int)) (out : List Int) (ss : List ByteArray) : (Xp.parity f p ops out ss).length = p.toNat := by unfold Xp.parity Xp.runOut; simp
theorem parity_sizes {f p : Int} {ops : List (Int × Int)} {out : List Int} {ss : List ByteArray} {u : List UInt8} (h : u ∈ Xp.parity f p ops out ss) : u.length = Xp.unitN ss := by
  unfold Xp.parity Xp.runOut at h
  obtain ⟨i, _, rfl⟩ := List.mem_map.1 h
  exact Xp.unitL_length _ _ _
theorem mem_zip {α β γ : Type} {f : α → β → γ} {x : γ} : ∀ {A : List α} {B : List β}, x ∈ List.zipWith f A B → ∃ a ∈ A, ∃ b ∈ B, x = f a b
  | [], _, h => by simp at h
  | _ :: _, [], h => by simp at h
  | a :: A, b :: B, h => by
    rw [List.zipWith_cons_cons] at h
    rcases List.mem_cons.1 h with rfl | h
    · exact ⟨a, by simp, b, by simp, rfl⟩
    · obtain ⟨x, hx, y, hy, e⟩ := mem_zip h
      exact ⟨x, List.mem_cons_of_mem _ hx, y, List.mem_cons_of_mem _ hy, e⟩
theorem zip_congr {α β γ : Type} {f g : α → β → γ} : ∀ {A : List α} {B : List β}, (∀ a ∈ A, ∀ b ∈ B, f a b = g a b) → List.zipWith f A B = List.zipWith g A B
  | [], _, h => by simp
  | _ :: _, [], h => by simp
  | a :: A, b :: B, h => by
    rw [List.zipWith_cons_cons, List.zipWith_cons_cons, h a (by simp) b (by simp), zip_congr fun x hx y hy => h x (List.mem_cons_of_mem _ hx) y (List.mem_cons_of_mem _ hy)]
section
variable {f d p : Int} {ops : List (Int × Int)} {out : List Int} {sa sb : List ByteArray}
theorem pw_lens (ha : Xp.acc f d p ops out sa = true) (hb : Xp.acc f d p ops out sb = true) : sa.length = sb.length ∧ 1 ≤ sa.length ∧ (∀ s ∈ sa, s.size = Xp.unitN sa) ∧ ∀ s ∈ sb, s.size = Xp.unitN sb := by
  obtain ⟨m, D, P, NS, rfl, rfl, rfl, hm, hD, hlD, hn, hall, hok⟩ := acc_parts ha
  obtain ⟨m', D', P', NS', e1, e2, e3, hm', hD', hlD', hn', hall', hok'⟩ := acc_parts hb
  exact ⟨by omega, by omega, hall, hall'⟩
theorem par_join (ha : Xp.acc f d p ops out sa = true) (hb : Xp.acc f d p ops out sb = true) :
    Xp.acc f d p ops out (List.zipWith (· ++ ·) sa sb) = true ∧ Xp.parity f p ops out (List.zipWith (· ++ ·) sa sb) = List.zipWith (· ++ ·) (Xp.parity f p ops out sa) (Xp.parity f p ops out sb) := by
  obtain ⟨m, D, P, NS, rfl, rfl, rfl, hm, hD, hlD, hn, hall, hok⟩ := acc_parts ha
  obtain ⟨m', D', P', NS', e1, e2, e3, hm', hD', hlD', hn', hall', hok'⟩ := acc_parts hb
  have e1 : m' = m := by omega
  have e2 : D' = D := by omega
  subst e1; subst e2
  have hl : sa.length = sb.length := by omega
  obtain ⟨h1, h2⟩ := acc_of (n := Xp.unitN sa + Xp.unitN sb) (ss := List.zipWith (· ++ ·) sa sb) hok (by rw [List.length_zipWith, hlD, hlD']; simp) (by rw [List.length_zipWith]; omega) (by
    intro s hs
    obtain ⟨a, ha, b, hb, rfl⟩ := mem_zip hs
    rw [ByteArray.size_append, hall a ha, hall' b hb]) (by
    rw [hn, hn', ← Nat.add_mul]; exact Nat.mul_mod_left _ _)
  refine ⟨h1, ?_⟩
  unfold Xp.parity
  rw [h2, hn]
  exact Xp.runOut_join hm sa sb _ _ hl fun a ha => (hall a ha).trans hn
theorem par_xor (ha : Xp.acc f d p ops out sa = true) (hb : Xp.acc f d p ops out sb = true) (he : Xp.unitN sa = Xp.unitN sb) :
    Xp.acc f d p ops out (List.zipWith (fun a b => strB (xorS a b)) sa sb) = true ∧ Xp.parity f p ops out (List.zipWith (fun a b => strB (xorS a b)) sa sb) = List.zipWith Fld.xorL (Xp.parity f p ops out sa) (Xp.parity f p ops out sb) := by
  obtain ⟨m, D, P, NS, rfl, rfl, rfl, hm, hD, hlD, hn, hall, hok⟩ := acc_parts ha
  obtain ⟨m', D', P', NS', e1, e2, e3, hm', hD', hlD', hn', hall', hok'⟩ := acc_parts hb
  have e1 : m' = m := by omega
  have e2 : D' = D := by omega
  subst e1; subst e2
  have hl : sa.length = sb.length := by omega
  have hz : List.zipWith (fun a b => strB (xorS a b)) sa sb = List.zipWith (fun a b => strB (Fld.xorL a.data.toList b.data.toList)) sa sb := zip_congr fun a ha b hb => by
    unfold xorS
    rw [if_pos ((hall a ha).trans (he.trans (hall' b hb).symm))]
  rw [hz]
  obtain ⟨h1, h2⟩ := acc_of (n := Xp.unitN sa) (ss := List.zipWith (fun a b => strB (Fld.xorL a.data.toList b.data.toList)) sa sb) hok (by rw [List.length_zipWith, hlD, hlD']; simp) (by rw [List.length_zipWith]; omega) (by
    intro s hs
    obtain ⟨a, ha, b, hb, rfl⟩ := mem_zip hs
    have e1 : a.data.toList.length = a.size := by rw [Array.length_toList]; rfl
    have e2 : b.data.toList.length = b.size := by rw [Array.length_toList]; rfl
    have := hall a ha; have := hall' b hb
    rw [strB_size, Fld.xorL_length (by omega), e1]; omega) (by
    rw [hn]; exact Nat.mul_mod_left _ _)
  refine ⟨h1, ?_⟩
  unfold Xp.parity
  rw [h2, ← he]
  exact Xp.runOut_xor hm sa sb _ _ hl hall fun b hb => (hall' b hb).trans he.symm
end
theorem StrIn.next {w w' : World} {q : Option Addr} {n k : Nat} {ss : List ByteArray} (h : StrIn w q n k ss) (hb : Below w.heap.size w w') : StrIn w' q n k ss :=
  ⟨h.len, h.cap, h.mx, (h.rd.below hb).more hb.size, h.sz⟩
theorem SchIn.next {w w' : World} {f d p : Int} {qo : Option Addr} {no ko : Nat} {qx : Option Addr} {nx kx : Nat} {ops : List (Int × Int)} {out : List Int} (h : SchIn w f d p qo no ko qx nx kx ops out) (hb : Below w.heap.size w w') : SchIn w' f d p qo no ko qx nx kx ops out :=
  ⟨h.f64, h.d64, h.p64, h.lo, h.co, h.mo, (h.ro.below hb).more hb.size, h.wo, h.lx, h.cx, h.mx, (h.rx.below hb).more hb.size, h.wx⟩
end Go.Proofs.YtghinmlpkgcdiaaDoor
