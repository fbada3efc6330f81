/- A loop over a function ('for x := range f') whose iterator keeps cells of its own and may itself be run by another iterator: the contract of such an iterator over a fixed list, and the caller's law. -/
import Derived.RangeFuncNested
import Derived.RangeFuncBound
import Derived.RangeFuncCalls
import Derived.RangeFuncLeaves
import Derived.Test.YtghinmlpkgcdiaaDoorLib
namespace Go.Proofs.YtghinmlpkgcdiaaDoor
set_option linter.unusedSimpArgs false
set_option linter.unusedVariables false
open Go.RowKit

/-- Between two worlds nothing has turned but what X names and what is new. -/
structure Only (X : Nat → Prop) (w w' : World) : Prop where
  os : w'.os = w.os
  tape : w'.tape = w.tape
  output : w'.output = w.output
  size : w.heap.size ≤ w'.heap.size
  block : ∀ k, k < w.heap.size → ¬ X k → w'.heap[k]? = w.heap[k]?

variable {X Y : Nat → Prop} {a b c w w' : World} {B : Nat}
theorem Only.refl (X : Nat → Prop) (w : World) : Only X w w := ⟨rfl, rfl, rfl, Nat.le_refl _, fun _ _ _ => rfl⟩
theorem Only.trans (h : Only X a b) (k : Only X b c) : Only X a c :=
  ⟨k.os.trans h.os, k.tape.trans h.tape, k.output.trans h.output, Nat.le_trans h.size k.size, fun i hi hx => (k.block i (Nat.lt_of_lt_of_le hi h.size) hx).trans (h.block i hi hx)⟩
theorem Only.mono (h : Only X a b) (hy : ∀ k, k < a.heap.size → X k → Y k) : Only Y a b := ⟨h.os, h.tape, h.output, h.size, fun i hi hx => h.block i hi (fun e => hx (hy i hi e))⟩
theorem Only.of_below (h : Below B a b) (hy : ∀ k, k < a.heap.size → ¬ X k → k < B) : Only X a b := ⟨h.os, h.tape, h.output, h.size, fun i hi hx => h.block i (hy i hi hx)⟩
theorem Only.below (h : Only X a b) (hB : B ≤ a.heap.size) (hx : ∀ k, X k → B ≤ k) : Below B a b := ⟨h.os, h.tape, h.output, h.size, fun i hi => h.block i (by omega) (fun e => by have := hx i e; omega)⟩
theorem Only.setCell (h : Only X a b) {p : Addr} (hp : X p.block) (u : Value) : Only X a (b.setCell p u) :=
  h.trans ⟨rfl, rfl, rfl, by simp [World.setCell], fun k _ hx => Below.heap_setCell _ _ _ _ (fun e => hx (e ▸ hp))⟩
theorem Only.alloc (h : Only X a b) (o : Obj) : Only X a (b.alloc o) := h.trans ⟨rfl, rfl, rfl, by simp, fun k hk _ => Below.heap_alloc _ _ _ hk⟩
theorem Only.putObj (h : Only X a b) {l : Nat} (hl : X l) (o : Obj) : Only X a (b.putObj l o) :=
  h.trans ⟨rfl, rfl, rfl, by simp, fun k _ hx => World.putObj_heap_other (fun e => hx (e ▸ hl))⟩
theorem Only.row {g : Nat} {t : TypeId} {cs : Array Value} (h : Only X a b) (hr : Row a g t cs) (hx : ¬ X g) : Row b g t cs := (h.block g hr.lt hx).trans hr
theorem below_putObj (w : World) {l : Nat} (hl : B ≤ l) (o : Obj) : Below B w (w.putObj l o) :=
  ⟨rfl, rfl, rfl, by simp, fun k hk => World.putObj_heap_other (by omega)⟩

/-- The wide fence asks no depth. -/
theorem round_any {m m' : Nat} {P : Program} {l : Nat} {f : FuncId} {tmps : Array Value} {assign body : Code} {w : World} {R : Ending → World → Prop}
    (h : RoundIn Fence.wide m P l f tmps assign body w R) : RoundIn Fence.wide m' P l f tmps assign body w R :=
  ⟨h.1, fun c cs _ => h.2 c cs (fun d hd => by cases hd)⟩
/-- A call of yield of loop l, at whatever depth. -/
def YieldW (P : Program) (l : Nat) (args : Array Value) (W : World) (R : Ending → World → Prop) : Prop :=
  ∃ fn tmps assign body, (Instr.yield l args).run P W = .ok (.round l fn tmps assign body) W ∧ ∀ m, RoundIn Fence.wide m P l fn tmps assign body W R
/-- J does not mind what happens from block B on. -/
def Abide {α : Type} (B : Nat) (J : List α → World → Prop) : Prop := ∀ s A A', B ≤ A.heap.size → J s A → Below B A A' → J s A'

/-- The function g with the captured values lb hands the list xs to its yield, one by one, or stops where a round says so; Need: the blocks that it reads while rounds run. -/
def Gives {α : Type} (P : Program) (g : Nat) (lb : Array Value) (encs : α → Array Value) (Need : Nat → Prop) (xs : List α) (w : World) : Prop :=
  ∀ (l : Nat) (X : Nat → Prop) (J Jx : List α → World → Prop) (W : World), Below w.heap.size w W → (∀ k, X k → k < W.heap.size) → (∀ k, Need k → ¬ X k) →
    Abide W.heap.size J → Abide W.heap.size Jx →
    (∀ pre x W1, pre ++ [x] <+: xs → W.heap.size ≤ W1.heap.size → J pre W1 → YieldW P l (encs x) W1 fun e W' => Only X W1 W' ∧
      ((e = .returned (.bool true) ∧ J (pre ++ [x]) W') ∨ (e = .returned (.bool false) ∧ Jx (pre ++ [x]) W'))) →
    J [] W →
    CallsIn Fence.wide 5 P g (#[.func (.yield l) #[] #[]] ++ lb) W fun e W' => (∃ v, e = .returned v) ∧ (J xs W' ∨ ∃ pre, pre <+: xs ∧ Jx pre W')

/-- How the body of a round may be left. -/
def roundEnd {α : Type} (X : Nat → Prop) (I : List α → World → Prop) (Ix : Code → List α → World → Prop) (xs : List α) (W : World) : Exit → Act → World → Prop
  | .normal, _, W' => Only X W W' ∧ I xs W'
  | .ret, _, W' => Only X W W' ∧ Ix .ret xs W'
  | .exit id, _, W' => Only X W W' ∧ Ix (.exit id) xs W'
  | .goto t, _, W' => Only X W W' ∧ Ix (.goto t) xs W'
  | .panic _, _, _ => False
  | .outgrown, _, _ => False

/-- THE CALLER's LAW, in the wide fence, at an outermost loop. -/
theorem wp_range {α : Type} {P : Program} {g : Operand} {ps : Array Tmp} {assign body : Code} {Q : Exit → Act → World → Prop} {a : Act} {w : World} {gf : Nat} {lb : Array Value}
    (hg : a.eval g = .func (.func gf) #[] lb) (eg : ∀ args w, (callFunc gf args).run P w = .ok (.enter gf args) w)
    {encs : α → Array Value} {Need : Nat → Prop} {xs : List α} {w0 : World} (hseq : Gives P gf lb encs Need xs w0) (hb0 : Below w0.heap.size w0 w) (hps : ∀ x, (encs x).size = ps.size)
    (X : Nat → Prop) (hX : ∀ k, X k → k < w.heap.size) (hN : ∀ k, Need k → k < w.heap.size ∧ ¬ X k)
    (I : List α → World → Prop) (Ix : Code → List α → World → Prop) (hI : Abide w.heap.size I) (hIx : ∀ c, Abide w.heap.size (Ix c)) (h0 : I [] w) (a₁ : α → Act)
    (hassign : ∀ (l : Nat) (x : α) (W : World) (K : Act → World → Prop), K (a₁ x) W →
      assign.wpIn (Fence.wide.inRound l) 5 P (Exit.then K (fun _ _ _ => False)) { tmps := (ps.zip (encs x)).foldl (fun t (p, v) => t.setIfInBounds p v) a.tmps, defers := [] } W)
    (hbody : ∀ (l : Nat) (pre : List α) (x : α) (W : World), pre ++ [x] <+: xs → w.heap.size ≤ W.heap.size → I pre W → body.wpIn (Fence.wide.inRound l) 5 P (roundEnd X I Ix (pre ++ [x]) W) (a₁ x) W)
    (hdone : ∀ (W : World), w.heap.size ≤ W.heap.size → I xs W → W.heap[w.heap.size]? = some (.deferred (some [])) → Q .normal { a with defers := { target := .collected w.heap.size, args := #[] } :: a.defers } W)
    (hstop : ∀ (c : Code) (pre : List α) (W : World), w.heap.size ≤ W.heap.size → pre <+: xs → Ix c pre W → W.heap[w.heap.size]? = some (.deferred (some [])) →
      c.wpIn Fence.wide 5 P Q { a with defers := { target := .collected w.heap.size, args := #[] } :: a.defers } W) :
    (Code.rangeFunc g ps assign body).wpIn Fence.wide 5 P Q a w := by
  refine wpIn_rangeFunc ?_
  intro fn hfn
  have hroot : Fence.wide.round = none := rfl
  rw [hroot]
  obtain ⟨rec, hrec⟩ : ∃ rec : LoopState → Option Code → Loop, rec = fun st pe => { state := st, pending := pe, fn, tmps := a.tmps, params := ps, assign, body, defers := w.heap.size } := ⟨_, rfl⟩
  obtain ⟨W1, hW1⟩ : ∃ W1, (w.alloc (.deferred (some []))).alloc (.loop (rec .ready none)) = W1 := ⟨_, rfl⟩
  have hs1 : W1.heap.size = w.heap.size + 2 := by rw [← hW1]; simp
  have hL1 : W1.heap[w.heap.size + 1]? = some (.loop (rec .ready none)) := by
    rw [← hW1]; have := World.alloc_heap_new (w.alloc (.deferred (some []))) (.loop (rec .ready none)); rwa [World.size_alloc] at this
  have hD1 : W1.heap[w.heap.size]? = some (.deferred (some [])) := by
    rw [← hW1]; exact (Below.heap_alloc _ _ _ (by simp)).trans (World.alloc_heap_new w _)
  have hbw : Below w.heap.size w W1 := by rw [← hW1]; exact ((Below.refl _ w).alloc (Nat.le_refl _) _).alloc (by simp) _
  refine ⟨w.heap.size + 1, [{ target := .collected w.heap.size, args := #[] }], W1, { target := .fn (.func gf) lb, args := #[.func (.yield (w.heap.size + 1)) #[] #[]] }, W1, gf,
    #[.func (.yield (w.heap.size + 1)) #[] #[]] ++ lb, W1, ?_, ?_, ?_, ?_, fun h => (by cases h), ?_⟩
  · rw [← hW1, hrec]; exact run_enterLoop_outer _ _ _ _ _
  · simp only [resolve, hg]
    simp [go_sem]
  · intro f' _; trivial
  · simp [invoke, go_sem, eg]
  refine callsIn_wide.2 ((callsIn_wide (n := 5)).1 ((hseq (w.heap.size + 1) (fun k => X k ∨ k = w.heap.size + 1)
    (fun pre W => I pre W ∧ W.heap[w.heap.size + 1]? = some (.loop (rec .ready none)) ∧ W.heap[w.heap.size]? = some (.deferred (some [])))
    (fun pre W => ∃ c, Ix c pre W ∧ W.heap[w.heap.size + 1]? = some (.loop (rec .done (some c))) ∧ W.heap[w.heap.size]? = some (.deferred (some [])))
    W1 (hb0.trans (hbw.mono hb0.size)) ?_ ?_ ?_ ?_ ?_ ⟨hI [] w W1 (Nat.le_refl _) h0 hbw, hL1, hD1⟩).mono ?_))
  · rintro k (h | rfl)
    · have := hX k h; omega
    · omega
  · rintro k hk (h | rfl)
    · exact (hN k hk).2 h
    · have := (hN _ hk).1; omega
  · rintro s A A' hs ⟨hi, hl, hd⟩ hb
    exact ⟨hI s A A' (by omega) hi (hb.mono (by omega)), (hb.block _ (by omega)).trans hl, (hb.block _ (by omega)).trans hd⟩
  · rintro s A A' hs ⟨c, hi, hl, hd⟩ hb
    exact ⟨c, hIx c s A A' (by omega) hi (hb.mono (by omega)), (hb.block _ (by omega)).trans hl, (hb.block _ (by omega)).trans hd⟩
  · -- one round
    rintro pre x W hpre hsW ⟨hi, hl, hd⟩
    have hlt : w.heap.size + 1 < W.heap.size := (Array.getElem?_eq_some_iff.1 hl).1
    have hy := run_yield (P := P) (args := encs x) hl (by rw [hrec]; exact hps x)
    rw [hrec] at hy
    refine ⟨fn, _, assign, body, hy, fun m => round_any (roundIn_of_wpIn (n := 5) hfn (hassign _ x W _ ⟨_, run_beginRound hl (by rw [hrec]), ?_⟩))⟩
    have hl2 : (W.putObj (w.heap.size + 1) (.loop { rec .ready none with state := .busy })).heap[w.heap.size + 1]? = some (.loop { rec .ready none with state := .busy }) := World.putObj_heap_same hlt
    have hd2 : (W.putObj (w.heap.size + 1) (.loop { rec .ready none with state := .busy })).heap[w.heap.size]? = some (.deferred (some [])) := (World.putObj_heap_other (by omega)).trans hd
    refine wpIn_mono (hbody _ pre x _ hpre (by rw [World.putObj_size]; omega) (hI pre W _ (by omega) hi (below_putObj W (by omega) _))) ?_
    have fin : ∀ (jump : Option Code) (W3 : World), Only X (W.putObj (w.heap.size + 1) (.loop { rec .ready none with state := .busy })) W3 →
        (Instr.endRound (w.heap.size + 1) jump).run P W3 = .ok (.bool jump.isNone) (W3.putObj (w.heap.size + 1) (.loop (rec (if jump.isNone then .ready else .done) jump))) ∧
        (W3.putObj (w.heap.size + 1) (.loop (rec (if jump.isNone then .ready else .done) jump))).heap[w.heap.size + 1]? = some (.loop (rec (if jump.isNone then .ready else .done) jump)) ∧
        (W3.putObj (w.heap.size + 1) (.loop (rec (if jump.isNone then .ready else .done) jump))).heap[w.heap.size]? = some (.deferred (some [])) ∧
        Only (fun k => X k ∨ k = w.heap.size + 1) W (W3.putObj (w.heap.size + 1) (.loop (rec (if jump.isNone then .ready else .done) jump))) ∧ w.heap.size ≤ W3.heap.size := fun jump W3 ho => by
      have hl3 := (ho.block _ (by rw [World.putObj_size]; omega) (fun h => by have := hX _ h; omega)).trans hl2
      have hd3 := (ho.block _ (by rw [World.putObj_size]; omega) (fun h => by have := hX _ h; omega)).trans hd2
      have hlt3 := (Array.getElem?_eq_some_iff.1 hl3).1
      have := run_endRound (P := P) jump hl3
      rw [hrec] at this ⊢
      refine ⟨this, World.putObj_heap_same hlt3, (World.putObj_heap_other (by omega)).trans hd3, ?_, by omega⟩
      exact (((Only.refl _ W).putObj (.inr rfl) _).trans (by rw [hrec] at ho; exact ho.mono (fun _ _ h => .inl h))).putObj (.inr rfl) _
    rintro e a3 W3 hp
    cases e with
    | normal =>
      obtain ⟨ho, hi3⟩ := hp
      obtain ⟨hr, hl4, hd4, ho4, hsz⟩ := fin none W3 ho
      exact ⟨_, _, hr, ho4, .inl ⟨rfl, hI _ W3 _ hsz hi3 (below_putObj W3 (by omega) _), hl4, hd4⟩⟩
    | ret =>
      obtain ⟨ho, hi3⟩ := hp
      obtain ⟨hr, hl4, hd4, ho4, hsz⟩ := fin (some .ret) W3 ho
      exact ⟨_, _, hr, ho4, .inr ⟨rfl, .ret, hIx _ _ W3 _ hsz hi3 (below_putObj W3 (by omega) _), hl4, hd4⟩⟩
    | exit id =>
      obtain ⟨ho, hi3⟩ := hp
      obtain ⟨hr, hl4, hd4, ho4, hsz⟩ := fin (some (.exit id)) W3 ho
      exact ⟨_, _, hr, ho4, .inr ⟨rfl, .exit id, hIx _ _ W3 _ hsz hi3 (below_putObj W3 (by omega) _), hl4, hd4⟩⟩
    | goto t =>
      obtain ⟨ho, hi3⟩ := hp
      obtain ⟨hr, hl4, hd4, ho4, hsz⟩ := fin (some (.goto t)) W3 ho
      exact ⟨_, _, hr, ho4, .inr ⟨rfl, .goto t, hIx _ _ W3 _ hsz hi3 (below_putObj W3 (by omega) _), hl4, hd4⟩⟩
    | panic ch => exact hp.elim
    | outgrown => exact hp.elim
  · -- behind the iterator
    rintro e W2 ⟨⟨v, rfl⟩, (⟨hi, hl, hd⟩ | ⟨pre, hpre, c, hi, hl, hd⟩)⟩
    · have hlt := (Array.getElem?_eq_some_iff.1 hl).1
      exact ⟨none, _, by have := run_endLoop (P := P) hl (by rw [hrec]; simp); rw [hrec] at this; exact this,
        hdone _ (by rw [World.putObj_size]; omega) (hI _ W2 _ (by omega) hi (below_putObj W2 (by omega) _)) ((World.putObj_heap_other (by omega)).trans hd)⟩
    · have hlt := (Array.getElem?_eq_some_iff.1 hl).1
      exact ⟨some c, _, by have := run_endLoop (P := P) hl (by rw [hrec]; simp); rw [hrec] at this; exact this,
        hstop c pre _ (by rw [World.putObj_size]; omega) hpre (hIx c _ W2 _ (by omega) hi (below_putObj W2 (by omega) _)) ((World.putObj_heap_other (by omega)).trans hd)⟩

end Go.Proofs.YtghinmlpkgcdiaaDoor
