/- Opening schedules, codes, lists of strings. -/
import Derived.Test.YtghinmlpkgcdiaaDoorOpenL
import Derived.Test.YtghinmlpkgcdiaaDoorFldT
import Derived.Test.YtghinmlpkgcdiaaDoorX21
namespace Go.Proofs.YtghinmlpkgcdiaaDoor
set_option linter.unusedSimpArgs false
set_option linter.unusedVariables false
open Go.ChangeShapes Go.WideShapes Go.ChangeAt Go.RowKit Go.Deep

section
variable {H : Type} {enc : TypeId × Value → H} {P : Program} {w : World}
/-- a value of one cell that was read -/
def Got (enc : TypeId × Value → H) (P : Program) (w : World) (t : TypeId) (v : Value) : Prop := ∃ n y, DataW.trod enc P w 0 (fun _ => true) true n t [v] = some y
theorem open_fields {fuel : Nat} {t : TypeId} {fs : Array Field} {cs : List Value} {x : DataW H × List MemPlace} (ht : P.underlying t = some (.struct fs)) (hc : P.cellsOf t = fs.size)
    (hf : fs.toList.zipIdx.all (fun p => P.cellsOf p.1.type == 1 && p.1.offset == p.2) = true)
    (h : DataW.trod enc P w 0 (fun _ => true) true fuel t cs = some x) : cs.length = fs.size ∧ ∀ (i : Nat) (f : Field) (v : Value), fs[i]? = some f → cs[i]? = some v → Got enc P w f.type v := by
  obtain ⟨xs, n, _, _, hl, hlen, hx⟩ := DataW.trod_struct ht h
  rw [hc] at hl
  refine ⟨hl, fun i f v hi hv => ?_⟩
  have h4 := hx i f hi
  have hm := List.all_eq_true.1 hf (f, i) (by
    rw [List.mem_iff_getElem?]
    exact ⟨i, by rw [List.getElem?_zipIdx, Array.getElem?_toList, hi]; simp⟩)
  simp only [Bool.and_eq_true, beq_iff_eq] at hm
  have hi2 : i < cs.length := by
    by_cases h : i < cs.length
    · exact h
    · rw [List.getElem?_eq_none (by omega)] at hv; cases hv
  have hv2 : cs[i] = v := by rw [List.getElem?_eq_getElem hi2] at hv; exact Option.some.inj hv
  rw [hm.1, hm.2, List.drop_eq_getElem_cons hi2, List.take_succ_cons, List.take_zero, hv2, List.getElem?_eq_getElem (by omega)] at h4
  exact ⟨n, _, h4⟩
theorem got_int {k : IntKind} {t : TypeId} {v : Value} (ht : P.underlying t = some (.int k)) (h : Got enc P w t v) : ∃ z, v = .int k z ∧ (Lit.int k z).wf = true := by
  obtain ⟨n, y, h⟩ := h
  obtain ⟨z, e, _, hz⟩ := DataW.trod_int ht h
  injection e with e
  exact ⟨z, e, hz⟩
theorem got_bool {t : TypeId} {v : Value} (ht : P.underlying t = some .bool) (h : Got enc P w t v) : ∃ b, v = .bool b := by
  obtain ⟨n, y, h⟩ := h
  obtain ⟨b, e, _⟩ := DataW.trod_bool ht h
  injection e with e
  exact ⟨b, e⟩
theorem got_string {t : TypeId} {v : Value} (ht : P.underlying t = some .string) (h : Got enc P w t v) : ∃ s, v = .string s ∧ s.size ≤ maxLen := by
  obtain ⟨n, y, h⟩ := h
  obtain ⟨s, e, _, hs⟩ := DataW.trod_string ht h
  injection e with e
  exact ⟨s, e, hs⟩
theorem each_got {e : TypeId} (R : Value → Prop) : ∀ (xs : List Value) (ds : List (DataW H)), Each (fun v d => ∃ n p, DataW.trod enc P w 0 (fun _ => true) true n e [v] = some (d, p)) xs ds → (∀ v, Got enc P w e v → R v) → ∀ v ∈ xs, R v
  | [], _, _, _ => fun v hv => by cases hv
  | x :: xs, [], h, _ => h.elim
  | x :: xs, d :: ds, h, hR => by
    obtain ⟨⟨n, p, h0⟩, h1⟩ := h
    intro v hv
    rcases List.mem_cons.1 hv with rfl | hv
    · exact hR v ⟨n, _, h0⟩
    · exact each_got R xs ds h1 hR v hv
theorem got_list {t e : TypeId} {v : Value} (ht : P.underlying t = some (.slice e)) (hc : P.cellsOf e = 1) (h : Got enc P w t v) :
    ∃ (a : Option Addr) (len cap : Nat) (xs : List Value), v = .slice a len cap ∧ xs.length = len ∧ len ≤ cap ∧ cap ≤ maxLen ∧ Rd w w.heap.size a xs ∧ ∀ x ∈ xs, Got enc P w e x := by
  obtain ⟨n, y, h⟩ := h
  obtain ⟨a, len, cap, xs, ds, e1, h1, h2, h3, h4, _, _, h5⟩ := open_list ht hc h
  injection e1 with e1
  exact ⟨a, len, cap, xs, e1, h1, h2, h3, h4, each_got _ xs ds h5 fun v h => h⟩
theorem list_of {α : Type} {xs : List Value} {f : α → Value} {p : α → Prop} (h : ∀ x ∈ xs, ∃ z, x = f z ∧ p z) : ∃ zs : List α, xs = zs.map f ∧ ∀ z ∈ zs, p z := by
  induction xs with
  | nil => exact ⟨[], rfl, fun z hz => by cases hz⟩
  | cons x xs ih =>
    obtain ⟨zs, e, hz⟩ := ih fun y hy => h y (List.mem_cons_of_mem _ hy)
    obtain ⟨z, rfl, hp⟩ := h x (List.mem_cons_self ..)
    refine ⟨z :: zs, by rw [e, List.map_cons], fun y hy => ?_⟩
    rcases List.mem_cons.1 hy with rfl | hy
    · exact hp
    · exact hz y hy
theorem got_ints {k : IntKind} {t e : TypeId} {v : Value} (ht : P.underlying t = some (.slice e)) (he : P.underlying e = some (.int k)) (hc : P.cellsOf e = 1) (h : Got enc P w t v) :
    ∃ (a : Option Addr) (len cap : Nat) (zs : List Int), v = .slice a len cap ∧ zs.length = len ∧ len ≤ cap ∧ cap ≤ maxLen ∧ Rd w w.heap.size a (zs.map (Value.int k)) ∧ ∀ z ∈ zs, (Lit.int k z).wf = true := by
  obtain ⟨a, len, cap, xs, e1, h1, h2, h2', h3, h4⟩ := got_list ht hc h
  obtain ⟨zs, rfl, h5⟩ := list_of (f := Value.int k) (p := fun z => (Lit.int k z).wf = true) fun x hx => got_int he (h4 x hx)
  exact ⟨a, len, cap, zs, e1, by simpa using h1, h2, h2', h3, h5⟩
theorem got_strs {t e : TypeId} {v : Value} (ht : P.underlying t = some (.slice e)) (he : P.underlying e = some .string) (hc : P.cellsOf e = 1) (h : Got enc P w t v) :
    ∃ (a : Option Addr) (len cap : Nat) (us : List ByteArray), v = .slice a len cap ∧ us.length = len ∧ len ≤ cap ∧ cap ≤ maxLen ∧ Rd w w.heap.size a (strs us) ∧ ∀ u ∈ us, u.size ≤ maxLen := by
  obtain ⟨a, len, cap, xs, e1, h1, h2, h2', h3, h4⟩ := got_list ht hc h
  obtain ⟨us, rfl, h5⟩ := list_of (f := Value.string) (p := fun u => u.size ≤ maxLen) fun x hx => got_string he (h4 x hx)
  exact ⟨a, len, cap, us, e1, by simpa using h1, h2, h2', h3, h5⟩
end
section
variable {H : Type} {enc : TypeId × Value → H} {P : Program} {w : World}
def in64 (z : Int) : Prop := -9223372036854775808 ≤ z ∧ z ≤ 9223372036854775807
theorem open_ints_struct {fuel : Nat} {t : TypeId} {fs : Array Field} {cs : List Value} {x : DataW H × List MemPlace} (ht : P.underlying t = some (.struct fs)) (hc : P.cellsOf t = fs.size)
    (hf : ∀ i (h : i < fs.size), P.underlying fs[i].type = some (.int .i64) ∧ P.cellsOf fs[i].type = 1 ∧ fs[i].offset = i)
    (h : DataW.trod enc P w 0 (fun _ => true) true fuel t cs = some x) : ∃ zs : List Int, cs = zs.map (Value.int .i64) ∧ zs.length = fs.size ∧ ∀ z ∈ zs, in64 z := by
  obtain ⟨xs, n, _, _, hl, hlen, hx⟩ := DataW.trod_struct ht h
  rw [hc] at hl
  have hv : ∀ v ∈ cs, v = Value.int .i64 (intOf v) ∧ in64 (intOf v) := by
    intro v hv
    obtain ⟨i, hi, e⟩ := List.getElem_of_mem hv
    have hi2 : i < fs.size := by omega
    obtain ⟨h1, h2, h3⟩ := hf i hi2
    have h4 := hx i fs[i] (Array.getElem?_eq_getElem hi2)
    rw [h2, h3, List.drop_eq_getElem_cons hi, List.take_succ_cons, List.take_zero, e, List.getElem?_eq_getElem (by omega)] at h4
    obtain ⟨k, e1, _, w1⟩ := DataW.trod_int h1 h4
    injection e1 with e1
    subst e1
    exact ⟨rfl, wf_i64 w1⟩
  refine ⟨cs.map intOf, ?_, by rw [List.length_map]; exact hl, ?_⟩
  · rw [List.map_map]
    conv => lhs; rw [← List.map_id cs]
    exact List.map_congr_left fun v hm => (hv v hm).1
  · intro z hz
    obtain ⟨v, hm, rfl⟩ := List.mem_map.1 hz
    exact (hv v hm).2
end
theorem op_fields : ∃ fs : Array Field, Tryd.prog.underlying 66 = some (.struct fs) ∧ fs.size = 2 ∧
    ∀ i (h : i < fs.size), Tryd.prog.underlying fs[i].type = some (.int .i64) ∧ Tryd.prog.cellsOf fs[i].type = 1 ∧ fs[i].offset = i := by
  refine ⟨_, Tryd.underlying66, rfl, ?_⟩
  intro i h
  have h6 : i < 2 := h
  match i, h, h6 with
  | 0, _, _ => exact ⟨Tryd.underlying3, by kernel_rfl, rfl⟩
  | 1, _, _ => exact ⟨Tryd.underlying3, by kernel_rfl, rfl⟩
  | n + 2, _, h6 => omega
theorem op_cells : Tryd.prog.cellsOf 66 = 2 := by kernel_rfl
theorem opsC_inv (cs : List (Int × Int)) : ∀ (n : Nat) (u : Value), (opsC cs)[n]? = some u → ∃ c, cs[n / 2]? = some c ∧ ([.int .i64 c.1, .int .i64 c.2] : List Value)[n % 2]? = some u := by
  induction cs with
  | nil => intro n u h; simp [opsC] at h
  | cons d ds ih =>
    intro n u h
    match n, h with
    | 0, h => exact ⟨d, rfl, h⟩
    | 1, h => exact ⟨d, rfl, h⟩
    | m + 2, h =>
      obtain ⟨c, h1, h2⟩ := ih m u h
      refine ⟨c, ?_, ?_⟩
      · rw [Nat.add_div_right m (by decide : 0 < 2)]; exact h1
      · rw [Nat.add_mod_right]; exact h2
theorem add_add' (a : Addr) (m n : Nat) (v : Value) (w : World) (h : w.cell? ((a.add m).add n) = some v) : w.cell? (a.add (m + n)) = some v := by
  rw [← Addr.add_add]; exact h
section
variable {H : Type} {enc : TypeId × Value → H} {w : World}
theorem got_ops {t : TypeId} {v : Value} (ht : Tryd.prog.underlying t = some (.slice 66)) (hg : Got enc Tryd.prog w t v) :
    ∃ (a : Option Addr) (len cap : Nat) (l : List (Int × Int)), v = .slice a len cap ∧ l.length = len ∧ len ≤ cap ∧ cap ≤ maxLen ∧ Rd w w.heap.size a (opsC l) ∧ ∀ o ∈ l, in64 o.1 ∧ in64 o.2 := by
  obtain ⟨fuel, x, h⟩ := hg
  rcases open_slice ht h with ⟨e, rfl⟩ | ⟨a, len, cap, m, n, D, Pl, e, _, hl, hm, hmm, rfl, hx⟩
  · injection e with e
    exact ⟨none, 0, 0, [], e, rfl, Nat.le_refl _, by unfold maxLen; omega, Rd.nil _ _ _, fun o ho => by cases ho⟩
  · injection e with e
    have hmc : m = cap := by simpa using hmm
    have hc : ∀ i, i < len → ∃ c : Int × Int, (∀ j u, ([.int .i64 c.1, .int .i64 c.2] : List Value)[j]? = some u → w.cell? (a.add (i * 2 + j)) = some u) ∧ in64 c.1 ∧ in64 c.2 := by
      intro i hi
      obtain ⟨cs', h1, h2⟩ := hx i (by omega)
      rw [op_cells] at h1
      obtain ⟨_, h3, h4⟩ := World.cells?_some h1
      obtain ⟨fs, g1, g2, g3⟩ := op_fields
      obtain ⟨zs, rfl, hl2, hz⟩ := open_ints_struct g1 (by rw [op_cells, g2]) g3 h2
      rw [g2] at hl2
      match zs, hl2, hz, h4 with
      | [A, B], _, hz, h4 =>
        refine ⟨(A, B), fun j u hu => ?_, hz A (by simp), hz B (by simp)⟩
        have hj : j < 2 := by
          by_cases hj : j < 2
          · exact hj
          · rw [List.getElem?_eq_none (by simp; omega)] at hu; cases hu
        exact add_add' a _ _ u w ((h4 j hj).trans hu)
    obtain ⟨C, hC⟩ := choose_lt (α := Int × Int) (p := fun i c => (∀ j u, ([.int .i64 c.1, .int .i64 c.2] : List Value)[j]? = some u → w.cell? (a.add (i * 2 + j)) = some u) ∧ in64 c.1 ∧ in64 c.2) hc
    refine ⟨some a, len, cap, (List.range len).map C, e, by simp, hl, hm, rd_of_cells fun i u hu => ?_, fun o ho => ?_⟩
    · obtain ⟨c, h1, h2⟩ := opsC_inv _ i u hu
      have hi : i / 2 < len := by
        by_cases hi : i / 2 < len
        · exact hi
        · rw [List.getElem?_eq_none (by simp; omega)] at h1; cases h1
      have e : c = C (i / 2) := by
        rw [List.getElem?_map, List.getElem?_range hi] at h1
        simpa using h1.symm
      subst e
      have := (hC (i / 2) hi).1 (i % 2) u h2
      have e2 : i / 2 * 2 + i % 2 = i := by omega
      rw [e2] at this
      exact this
    · obtain ⟨i, hi, rfl⟩ := List.mem_map.1 ho
      exact (hC i (List.mem_range.1 hi)).2
/-- a schedule that came in -/
structure SchIn (w : World) (f d p : Int) (qo : Option Addr) (no ko : Nat) (qx : Option Addr) (nx kx : Nat) (ops : List (Int × Int)) (out : List Int) : Prop where
  f64 : in64 f
  d64 : in64 d
  p64 : in64 p
  lo : ops.length = no
  co : no ≤ ko
  mo : ko ≤ maxLen
  ro : Rd w w.heap.size qo (opsC ops)
  wo : ∀ o ∈ ops, in64 o.1 ∧ in64 o.2
  lx : out.length = nx
  cx : nx ≤ kx
  mx : kx ≤ maxLen
  rx : Rd w w.heap.size qx (ints out)
  wx : ∀ x ∈ out, in64 x
/-- strings that came in -/
structure StrIn (w : World) (q : Option Addr) (n k : Nat) (ss : List ByteArray) : Prop where
  len : ss.length = n
  cap : n ≤ k
  mx : k ≤ maxLen
  rd : Rd w w.heap.size q (strs ss)
  sz : ∀ s ∈ ss, s.size ≤ maxLen
end
theorem sch_fields : ∃ fs : Array Field, Tryd.prog.underlying 30 = some (.struct fs) ∧ fs.toList.zipIdx.all (fun p => Tryd.prog.cellsOf p.1.type == 1 && p.1.offset == p.2) = true ∧ Tryd.prog.cellsOf 30 = fs.size ∧ fs.map (·.type) = #[3, 3, 3, 28, 27] :=
  ⟨_, Tryd.underlying30, by kernel_rfl, by kernel_rfl, by kernel_rfl⟩
theorem open_sched {H : Type} {enc : TypeId × Value → H} {w : World} {fuel : Nat} {cs : List Value} {x : DataW H × List MemPlace} (h : DataW.trod enc Tryd.prog w 0 (fun _ => true) true fuel 30 cs = some x) :
    ∃ (f d p : Int) (qo : Option Addr) (no ko : Nat) (qx : Option Addr) (nx kx : Nat) (ops : List (Int × Int)) (out : List Int), cs = (schC f d p qo no ko qx nx kx).toList ∧ SchIn w f d p qo no ko qx nx kx ops out := by
  obtain ⟨fs, hu, hf, hc, ht⟩ := sch_fields
  obtain ⟨hl, hg⟩ := open_fields hu hc hf h
  have hsz : fs.size = 5 := by simpa using congrArg Array.size ht
  rw [hsz] at hl
  have hty : ∀ i t, (#[3, 3, 3, 28, 27] : Array TypeId)[i]? = some t → ∃ f : Field, fs[i]? = some f ∧ f.type = t := fun i t hi => by
    rw [← ht, Array.getElem?_map] at hi
    cases hfi : fs[i]? with
    | none => rw [hfi] at hi; cases hi
    | some f => rw [hfi] at hi; exact ⟨f, hfi, Option.some.inj hi⟩
  match cs, hl with
  | [v0, v1, v2, v3, v4], _ =>
    obtain ⟨f0, e0, t0⟩ := hty 0 _ rfl
    obtain ⟨f1, e1, t1⟩ := hty 1 _ rfl
    obtain ⟨f2, e2, t2⟩ := hty 2 _ rfl
    obtain ⟨f3, e3, t3⟩ := hty 3 _ rfl
    obtain ⟨f4, e4, t4⟩ := hty 4 _ rfl
    have g0 := hg 0 f0 v0 e0 rfl; rw [t0] at g0
    have g1 := hg 1 f1 v1 e1 rfl; rw [t1] at g1
    have g2 := hg 2 f2 v2 e2 rfl; rw [t2] at g2
    have g3 := hg 3 f3 v3 e3 rfl; rw [t3] at g3
    have g4 := hg 4 f4 v4 e4 rfl; rw [t4] at g4
    obtain ⟨f, rfl, wf⟩ := got_int Tryd.underlying3 g0
    obtain ⟨d, rfl, wd⟩ := got_int Tryd.underlying3 g1
    obtain ⟨p, rfl, wp⟩ := got_int Tryd.underlying3 g2
    obtain ⟨qo, no, ko, ops, rfl, h1, h2, h3, h4, h5⟩ := got_ops Tryd.underlying28 g3
    obtain ⟨qx, nx, kx, out, rfl, k1, k2, k3, k4, k5⟩ := got_ints Tryd.underlying27 Tryd.underlying3 (by kernel_rfl) g4
    exact ⟨f, d, p, qo, no, ko, qx, nx, kx, ops, out, rfl, wf_i64 wf, wf_i64 wd, wf_i64 wp, h1, h2, h3, h4, h5, k1, k2, k3, k4, fun x hx => wf_i64 (k5 x hx)⟩
theorem got_strIn {H : Type} {enc : TypeId × Value → H} {w : World} {v : Value} (g : Got enc Tryd.prog w 36 v) : ∃ (q : Option Addr) (n k : Nat) (ss : List ByteArray), v = .slice q n k ∧ StrIn w q n k ss := by
  obtain ⟨a, n, k, us, rfl, h1, h2, h3, h4, h5⟩ := got_strs Tryd.underlying36 Tryd.underlying9 (by kernel_rfl) g
  exact ⟨a, n, k, us, rfl, h1, h2, h3, h4, h5⟩
theorem pw_fields : ∃ fs : Array Field, Tryd.prog.underlying 51 = some (.struct fs) ∧ fs.map (·.type) = #[30, 36, 36, 36] ∧ fs.map (·.offset) = #[0, 5, 6, 7] :=
  ⟨_, Tryd.underlying51, by kernel_rfl, by kernel_rfl⟩
theorem pw_cells : Tryd.prog.cellsOf 51 = 8 ∧ Tryd.prog.cellsOf 30 = 5 ∧ Tryd.prog.cellsOf 36 = 1 := ⟨by kernel_rfl, by kernel_rfl, by kernel_rfl⟩
set_option maxRecDepth 100000 in
theorem open_pw {H : Type} {enc : TypeId × Value → H} {w : World} {fuel : Nat} {cs : List Value} {x : DataW H × List MemPlace} (h : DataW.trod enc Tryd.prog w 0 (fun _ => true) true fuel 51 cs = some x) :
    ∃ (f d p : Int) (qo : Option Addr) (no ko : Nat) (qx : Option Addr) (nx kx : Nat) (ops : List (Int × Int)) (out : List Int) (qa : Option Addr) (na ka : Nat) (sa : List ByteArray) (qb : Option Addr) (nb kb : Nat) (sb : List ByteArray) (qs : Option Addr) (ns ks : Nat),
      cs = (schC f d p qo no ko qx nx kx).toList ++ [.slice qa na ka, .slice qb nb kb, .slice qs ns ks] ∧ SchIn w f d p qo no ko qx nx kx ops out ∧ StrIn w qa na ka sa ∧ StrIn w qb nb kb sb := by
  obtain ⟨fs, hu, ht, hof⟩ := pw_fields
  obtain ⟨c1, c2, c3⟩ := pw_cells
  obtain ⟨xs, n, _, _, hl, hlen, hx⟩ := DataW.trod_struct hu h
  rw [c1] at hl
  have hsz : fs.size = 4 := by simpa using congrArg Array.size ht
  have hty : ∀ (i : Nat) (t : TypeId) (o : Nat), (#[30, 36, 36, 36] : Array TypeId)[i]? = some t → (#[0, 5, 6, 7] : Array Nat)[i]? = some o → ∃ f : Field, fs[i]? = some f ∧ f.type = t ∧ f.offset = o := fun i t o hi ho => by
    rw [← ht, Array.getElem?_map] at hi
    rw [← hof, Array.getElem?_map] at ho
    cases hfi : fs[i]? with
    | none => rw [hfi] at hi; cases hi
    | some f => rw [hfi] at hi ho; exact ⟨f, rfl, Option.some.inj hi, Option.some.inj ho⟩
  obtain ⟨f0, e0, t0, o0⟩ := hty 0 30 0 rfl rfl
  obtain ⟨f1, e1, t1, o1⟩ := hty 1 36 5 rfl rfl
  obtain ⟨f2, e2, t2, o2⟩ := hty 2 36 6 rfl rfl
  obtain ⟨f3, e3, t3, o3⟩ := hty 3 36 7 rfl rfl
  have h0 := hx 0 f0 e0; rw [t0, o0, c2] at h0
  have h1 := hx 1 f1 e1; rw [t1, o1, c3] at h1
  have h2 := hx 2 f2 e2; rw [t2, o2, c3] at h2
  have h3 := hx 3 f3 e3; rw [t3, o3, c3] at h3
  match cs, hl with
  | [v0, v1, v2, v3, v4, v5, v6, v7], _ =>
    rw [List.getElem?_eq_getElem (by omega)] at h0 h1 h2 h3
    obtain ⟨f, d, p, qo, no, ko, qx, nx, kx, ops, out, ec, hin⟩ := open_sched h0
    obtain ⟨qa, na, ka, sa, rfl, ha⟩ := got_strIn ⟨n, _, h1⟩
    obtain ⟨qb, nb, kb, sb, rfl, hb⟩ := got_strIn ⟨n, _, h2⟩
    obtain ⟨qs, ns, ks, ss, rfl, hs⟩ := got_strIn ⟨n, _, h3⟩
    refine ⟨f, d, p, qo, no, ko, qx, nx, kx, ops, out, qa, na, ka, sa, qb, nb, kb, sb, qs, ns, ks, ?_, hin, ha, hb⟩
    rw [← ec]; rfl
end Go.Proofs.YtghinmlpkgcdiaaDoor
