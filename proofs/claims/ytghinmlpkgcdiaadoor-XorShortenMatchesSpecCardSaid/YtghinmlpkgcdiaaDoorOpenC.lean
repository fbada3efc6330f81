/- Opening codes. -/
import Derived.Test.YtghinmlpkgcdiaaDoorXO1
namespace Go.Proofs.YtghinmlpkgcdiaaDoor
set_option linter.unusedSimpArgs false
set_option linter.unusedVariables false
open Go.ChangeShapes Go.WideShapes Go.ChangeAt Go.RowKit Go.Deep

/-- a code that came in -/
structure CodeIn (w : World) (f d : Int) (qp : Option Addr) (np kp : Nat) (zss : List (List Int)) : Prop where
  f64 : in64 f
  d64 : in64 d
  grid : Grid w w.heap.size qp np zss
  cap : np ≤ kp
  mx : kp ≤ maxLen
theorem CodeIn.next {w w' : World} {f d : Int} {qp : Option Addr} {np kp : Nat} {zss : List (List Int)} (h : CodeIn w f d qp np kp zss) (hb : Below w.heap.size w w') : CodeIn w' f d qp np kp zss :=
  ⟨h.f64, h.d64, (h.grid.below hb).more hb.size, h.cap, h.mx⟩
theorem lists_of {P : Value → List Int → Prop} : ∀ {xs : List Value}, (∀ x ∈ xs, ∃ zs, P x zs) → ∃ zss : List (List Int), zss.length = xs.length ∧ ∀ (i : Nat) (x : Value) (zs : List Int), xs[i]? = some x → zss[i]? = some zs → P x zs
  | [], _ => ⟨[], rfl, fun i x zs h => by simp at h⟩
  | x :: xs, h => by
    obtain ⟨zs, hz⟩ := h x (List.mem_cons_self ..)
    obtain ⟨zss, hl, hp⟩ := lists_of (fun y hy => h y (List.mem_cons_of_mem _ hy))
    refine ⟨zs :: zss, by simp [hl], fun i y zs2 h1 h2 => ?_⟩
    cases i with
    | zero => simp only [List.getElem?_cons_zero, Option.some.injEq] at h1 h2; subst h1; subst h2; exact hz
    | succ i => exact hp i y zs2 (by simpa using h1) (by simpa using h2)
theorem code_fields : ∃ fs : Array Field, Tryd.prog.underlying 26 = some (.struct fs) ∧ fs.toList.zipIdx.all (fun p => Tryd.prog.cellsOf p.1.type == 1 && p.1.offset == p.2) = true ∧ Tryd.prog.cellsOf 26 = fs.size ∧ fs.map (·.type) = #[9, 3, 3, 24, 3] :=
  ⟨_, Tryd.underlying26, by kernel_rfl, by kernel_rfl, by kernel_rfl⟩
theorem got_grid {H : Type} {enc : TypeId × Value → H} {w : World} {v : Value} (g : Got enc Tryd.prog w 24 v) : ∃ (q : Option Addr) (n k : Nat) (zss : List (List Int)), v = .slice q n k ∧ Grid w w.heap.size q n zss ∧ n ≤ k ∧ k ≤ maxLen := by
  obtain ⟨a, n, k, xs, rfl, h1, h2, h3, h4, h5⟩ := got_list Tryd.underlying24 (by kernel_rfl) g
  obtain ⟨zss, hl, hp⟩ := lists_of (P := fun x zs => ∃ (q : Option Addr) (k : Nat), x = .slice q zs.length k ∧ zs.length ≤ maxLen ∧ Rd w w.heap.size q (ints zs)) (fun x hx => by
    obtain ⟨q, len, cap, zs, e, g1, g2, g3, g4, g5⟩ := got_ints Tryd.underlying27 Tryd.underlying3 (by kernel_rfl) (h5 x hx)
    exact ⟨zs, q, cap, by rw [g1]; exact e, by omega, g4⟩)
  refine ⟨a, n, k, zss, rfl, ⟨by omega, fun i zs hz => ?_⟩, h2, h3⟩
  obtain ⟨x, hx⟩ : ∃ x, xs[i]? = some x := ⟨_, List.getElem?_eq_getElem (by
    have := (List.getElem?_eq_some_iff.1 hz).1
    omega)⟩
  obtain ⟨q, k2, rfl, hm, hr⟩ := hp i x zs hx hz
  obtain ⟨b, off, e, hb, hc⟩ := h4 i _ hx
  exact ⟨b, off, q, k2, e, hb, hc, hm, hr⟩
theorem open_code {H : Type} {enc : TypeId × Value → H} {w : World} {fuel : Nat} {cs : List Value} {x : DataW H × List MemPlace} (h : DataW.trod enc Tryd.prog w 0 (fun _ => true) true fuel 26 cs = some x) :
    ∃ (s : ByteArray) (f d : Int) (qp : Option Addr) (np kp : Nat) (dom : Int) (zss : List (List Int)), cs = (codC (.string s) f d qp np kp dom).toList ∧ CodeIn w f d qp np kp zss := by
  obtain ⟨fs, hu, hf, hc, ht⟩ := code_fields
  obtain ⟨hl, hg⟩ := open_fields hu hc hf h
  have hsz : fs.size = 5 := by simpa using congrArg Array.size ht
  rw [hsz] at hl
  have hty : ∀ i t, (#[9, 3, 3, 24, 3] : Array TypeId)[i]? = some t → ∃ f : Field, fs[i]? = some f ∧ f.type = t := fun i t hi => by
    rw [← ht, Array.getElem?_map] at hi
    cases hfi : fs[i]? with
    | none => rw [hfi] at hi; cases hi
    | some f => rw [hfi] at hi; exact ⟨f, hfi, Option.some.inj hi⟩
  match cs, hl with
  | [v0, v1, v2, v3, v4], _ =>
    obtain ⟨f0, e0, t0⟩ := hty 0 _ rfl
    obtain ⟨f1, e1, t1⟩ := hty 1 _ rfl
    obtain ⟨f2, e2, t2⟩ := hty 2 _ rfl
    obtain ⟨f3, e3, t3⟩ := hty 3 _ rfl
    obtain ⟨f4, e4, t4⟩ := hty 4 _ rfl
    have g0 := hg 0 f0 v0 e0 rfl; rw [t0] at g0
    have g1 := hg 1 f1 v1 e1 rfl; rw [t1] at g1
    have g2 := hg 2 f2 v2 e2 rfl; rw [t2] at g2
    have g3 := hg 3 f3 v3 e3 rfl; rw [t3] at g3
    have g4 := hg 4 f4 v4 e4 rfl; rw [t4] at g4
    obtain ⟨s, rfl, ws⟩ := got_string Tryd.underlying9 g0
    obtain ⟨f, rfl, wf⟩ := got_int Tryd.underlying3 g1
    obtain ⟨d, rfl, wd⟩ := got_int Tryd.underlying3 g2
    obtain ⟨qp, np, kp, zss, rfl, h1, h2, h3⟩ := got_grid g3
    obtain ⟨dom, rfl, wx⟩ := got_int Tryd.underlying3 g4
    exact ⟨s, f, d, qp, np, kp, dom, zss, rfl, wf_i64 wf, wf_i64 wd, h1, h2, h3⟩
end Go.Proofs.YtghinmlpkgcdiaaDoor
