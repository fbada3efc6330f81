/- Schedules: the map of counts. -/
import Derived.Test.YtghinmlpkgcdiaaDoorOpenC
import Derived.Test.YtghinmlpkgcdiaaDoorP2
import Derived.WideKeyPair
import Derived.WideKeyEntry
import Derived.Maps.OwnOps
import Derived.Maps.RangeWalk
import Derived.Maps.Views
import Derived.Deep.RegionHeld3
namespace Go.Proofs.YtghinmlpkgcdiaaDoor
set_option linter.unusedSimpArgs false
set_option linter.unusedVariables false
open Go.RowKit Go.Lib Go.Maps

theorem pairA : Go.WideMaps.ArrKey Tryd.prog 59 3 2 := ⟨Tryd.underlying59, by kernel_rfl, by kernel_rfl, by kernel_rfl⟩
theorem types1 : ∃ m, Tryd.prog.types.size = m + 1 := ⟨Tryd.prog.types.size - 1, by
  have : 0 < Tryd.prog.types.size := of_decide_eq_true (by kernel_rfl)
  omega⟩
theorem pairK : Keyed Tryd.prog 59 := Keyed.of_law pairA.law
theorem zeroI (w : World) : (zeroValue 3).run Tryd.prog w = .ok (.int .i64 0) w := by kernel_rfl
abbrev pk (a b : Int) : Value := .agg #[.int .i64 a, .int .i64 b]
abbrev kl (a b : Int) : Lit := .string (keyBytes [.int .i64 a, .int .i64 b])
theorem wf_of {a : Int} (h : in64 a) : (Lit.int .i64 a).wf = true := WalkArith.wf_i64 h
theorem pk_key {a b : Int} (ha : in64 a) (hb : in64 b) : keyOf Tryd.prog 59 (pk a b) = some (kl a b) :=
  Go.WideMaps.keyOf_pair pairA Tryd.underlying3 types1 (wf_of ha) (wf_of hb)
theorem kl_inj {a b c d : Int} (ha : in64 a) (hb : in64 b) (hc : in64 c) (hd : in64 d) (h : kl a b = kl c d) : a = c ∧ b = d := by
  have h1 := pairK.inj (pk_key ha hb) (by rw [h]; exact pk_key hc hd)
  injection h1 with h1
  have h2 := congrArg (fun x : Array Value => x[0]?) h1
  have h3 := congrArg (fun x : Array Value => x[1]?) h1
  simp at h2 h3
  exact ⟨h2, h3⟩
set_option maxRecDepth 100000 in
theorem keyLits_int {m : Nat} {c : Value} {L : List Lit} (h : Tryd.prog.keyLits (m + 1) 3 [c] = some L) : ∃ a : Int, c = .int .i64 a ∧ L = [.int .i64 a] ∧ in64 a := by
  unfold Program.keyLits at h
  rw [Tryd.underlying3] at h
  cases c <;> simp at h
  obtain ⟨⟨rfl, hw⟩, rfl⟩ := h
  exact ⟨_, rfl, rfl, wf_i64 hw⟩
/-- a key is a pair -/
theorem pk_inv {v : Value} {l : Lit} (h : keyOf Tryd.prog 59 v = some l) : ∃ a b : Int, v = pk a b ∧ l = kl a b ∧ in64 a ∧ in64 b := by
  have h0 := h
  unfold keyOf at h
  simp only [pairA.hu] at h
  split at h
  · next hf =>
    rw [Bool.and_eq_true] at hf
    have hf2 := hf.2
    simp only [Value.formed, pairA.hu, pairA.size] at hf2
    obtain ⟨m, hm⟩ := types1
    rw [hm] at h
    cases v with
    | agg xs =>
      simp only [Option.map_eq_some_iff] at h
      obtain ⟨ls, hls, rfl⟩ := h
      unfold Program.keyLits at hls
      simp only [pairA.hu, Value.cells] at hls
      split at hls
      · next hsz =>
        rw [show List.range 2 = [0, 1] from rfl, List.mapM_cons, List.mapM_cons, List.mapM_nil] at hls
        rw [pairA.size] at hsz
        obtain ⟨c0, c1, hc⟩ : ∃ c0 c1, xs.toList = [c0, c1] := by
          match xs.toList, hsz with
          | [c0, c1], _ => exact ⟨c0, c1, rfl⟩
        obtain rfl : xs = #[c0, c1] := by apply Array.toList_inj.1; exact hc
        simp only [bind, pure, pairA.one, Option.map_eq_some_iff, Option.bind_eq_some_iff, Option.some.injEq] at hls
        obtain ⟨_, ⟨L0, h0', _, ⟨L1, h1', _, rfl, rfl⟩, rfl⟩, rfl⟩ := hls
        obtain ⟨a, rfl, rfl, ha⟩ := keyLits_int h0'
        obtain ⟨b, rfl, rfl, hb⟩ := keyLits_int h1'
        exact ⟨a, b, rfl, rfl, ha, hb⟩
      · cases hls
    | _ => simp at hf2
  · cases h
/-- how often a pair comes -/
def cI (PL : List (Nat × Nat)) (A B : Int) : Nat := PL.countP fun p => decide ((p.1 : Int) = A) && decide ((p.2 : Int) = B)
theorem cI_nat (PL : List (Nat × Nat)) (a b : Nat) : cI PL a b = PL.count (a, b) := by
  unfold cI
  rw [List.count_eq_countP]
  apply List.countP_congr
  intro p _
  obtain ⟨x, y⟩ := p
  simp only [Bool.and_eq_true, decide_eq_true_eq, beq_iff_eq, Prod.mk.injEq]
  omega
theorem cI_snoc (PL : List (Nat × Nat)) (a b : Nat) (A B : Int) : cI (PL ++ [(a, b)]) A B = cI PL A B + if (a : Int) = A ∧ (b : Int) = B then 1 else 0 := by
  unfold cI
  rw [List.countP_append, List.countP_singleton]
  congr 1
  by_cases h1 : (a : Int) = A <;> by_cases h2 : (b : Int) = B <;> simp [h1, h2]
/-- block b is a map of at most n entries that counts the pairs -/
def CntM (w : World) (b n : Nat) (PL : List (Nat × Nat)) : Prop :=
  ∃ D : DataW Unit, w.ownsMap Tryd.prog 59 (plainElem Tryd.prog 3) b n D ∧ ∀ A B : Int, in64 A → in64 B → D.atKey (kl A B) (.lit (.int .i64 0)) = .lit (.int .i64 (cI PL A B : Nat))
theorem CntM.kept {w w' : World} {b n : Nat} {PL : List (Nat × Nat)} {row : Option Nat} (h : CntM w b n PL) (hg : w.grownBy w' row) (hne : some b ≠ row) : CntM w' b n PL := by
  obtain ⟨D, h1, h2⟩ := h
  exact ⟨D, h1.kept hg hne, h2⟩
theorem CntM.below {w w' : World} {b n : Nat} {PL : List (Nat × Nat)} (h : CntM w b n PL) (hb : Below w.heap.size w w') : CntM w' b n PL := by
  obtain ⟨D, ⟨es, clock, h1, h2⟩, h3⟩ := h
  exact ⟨D, ⟨es, clock, (hb.block b (heap_lt h1)).trans h1, h2⟩, h3⟩
theorem CntM.made (w : World) : CntM (w.alloc (.map #[] 0)) w.heap.size 0 [] :=
  ⟨_, World.ownsMap_made w _ _ _, fun A B _ _ => rfl⟩
theorem CntM.lt {w : World} {b n : Nat} {PL : List (Nat × Nat)} (h : CntM w b n PL) : b < w.heap.size := by
  obtain ⟨D, h1, _⟩ := h
  exact h1.lt
theorem lit_inj {a b : Int} (h : (DataW.lit (.int .i64 a) : DataW Unit) = .lit (.int .i64 b)) : a = b := by
  injection h with h
  injection h
theorem val_inj {a b : Int} (h : Value.int .i64 a = .int .i64 b) : a = b := by injection h
/-- what mapEntry leaves: the map as it was, or one entry more, of the zero value -/
theorem entry_law {H : Type} {P : Program} {w : World} {t k e : TypeId} {R : Value → Option (DataW H × List MemPlace)} {b : Nat} {es : Array MapEntry} {clock : Nat} (K : Go.WideMaps.KeyLaw P k) (ht : P.underlying t = some (.map k e)) {z : Value} (hz : ∀ u : World, (zeroValue e).run P u = .ok z u) (hb : w.heap[b]? = some (.map es clock)) (F : Go.WideElems.Fit P k R es clock)
    {key : Value} {kl : Lit} (hkey : keyOf P k key = some kl) :
    ∃ (v : Value) (es1 : Array MapEntry) (clock1 : Nat), (Instr.mapEntry t (.map (some b)) key).run P w = .ok v (Go.ChangeMaps.setBlock w b (.map es1 clock1)) ∧
      ((es1 = es ∧ clock1 = clock) ∨ ((∀ x ∈ es.toList, x.key ≠ key) ∧ (Instr.mapUpdate t (.map (some b)) key z).run P w = .ok () (Go.ChangeMaps.setBlock w b (.map es1 clock1)))) := by
  rcases K.find w hkey es.toList F.keys with ⟨h1, h2⟩ | ⟨j, e0, h1, h2, h3⟩
  · refine ⟨.tuple #[z, goInt clock], es.push ⟨key, z, clock⟩, clock + 1, ?_, .inr ⟨h2, ?_⟩⟩
    · simp [Instr.mapEntry, run_underlying ht, MapKept.run_getObj_map hb, K.check w false hkey, h1, hz, MapKept.run_setObj_map _ hb, Result.andThen, Go.ChangeMaps.setBlock]
    · simp [Instr.mapUpdate, run_underlying ht, MapKept.run_getObj_map hb, K.check w false hkey, h1, MapKept.run_setObj_map _ hb, Result.andThen, Go.ChangeMaps.setBlock]
  · have hj : es[j]? = some e0 := by simpa using h2
    have hsame : es.modify j (fun e => { e with key := key }) = es := by
      apply Array.ext'
      rw [Array.toList_modify, Go.ChangeMaps.modify_eq_set _ _ _ _ h2]
      have : ({ e0 with key := key } : MapEntry) = e0 := by rw [← h3]
      rw [this]
      exact Go.WideElems.set_self _ _ _ h2
    refine ⟨.tuple #[e0.val, goInt e0.born], es, clock, ?_, .inl ⟨rfl, rfl⟩⟩
    simp [Instr.mapEntry, run_underlying ht, MapKept.run_getObj_map hb, K.check w false hkey, h1, hj, h3, K.stays w hkey, hsame, MapKept.run_setObj_map _ hb, Result.andThen, Go.ChangeMaps.setBlock]
set_option maxRecDepth 100000 in
set_option maxHeartbeats 1600000 in
/-- one pair more: what the three operations do -/
theorem CntM.ops {w : World} {b n : Nat} {PL : List (Nat × Nat)} (h : CntM w b n PL) (hn : n < maxLen) (hP : PL.length < 4611686018427387904) {x y : Nat} (hx : x ≤ 4611686018427387904) (hy : y ≤ 4611686018427387904) :
    (Instr.lookup 62 (.map (some b)) (pk x y) false).run Tryd.prog w = .ok (.int .i64 (PL.count (x, y) : Nat)) w ∧
    ∃ (v0 : Value) (st : Nat) (w1 : World), (Instr.mapEntry 62 (.map (some b)) (pk x y)).run Tryd.prog w = .ok (.tuple #[v0, .int .i64 (st : Int)]) w1 ∧ Below b w w1 ∧ (Instr.lookup 62 (.map (some b)) (pk x y) false).run Tryd.prog w1 = .ok (.int .i64 (PL.count (x, y) : Nat)) w1 ∧
      ∀ w2 : World, w2.heap[b]? = w1.heap[b]? → ∃ w3, (Instr.entryStore 62 (.map (some b)) (.int .i64 (st : Int)) (.int .i64 ((PL.count (x, y) + 1 : Nat) : Int))).run Tryd.prog w2 = .ok () w3 ∧ Below b w2 w3 ∧ CntM w3 b (n + 1) (PL ++ [(x, y)]) := by
  obtain ⟨D, ho, hD⟩ := h
  have hxi : in64 (x : Int) := by unfold in64; omega
  have hyi : in64 (y : Int) := by unfold in64; omega
  have hcl : PL.count (x, y) ≤ PL.length := List.count_le_length
  obtain ⟨c, hrun, hat, hwc⟩ := ho.lookup_int pairK Tryd.underlying62 Tryd.underlying3 (zeroI w) (pk_key hxi hyi)
  have hc : c = ((PL.count (x, y) : Nat) : Int) := by
    rw [hD _ _ hxi hyi, cI_nat] at hat
    exact (lit_inj hat).symm
  subst hc
  refine ⟨hrun, ?_⟩
  obtain ⟨w', hup, hown', hgr⟩ := ho.update pairK Tryd.underlying62 hn (pk_key hxi hyi) (plainElem_int (H := Unit) (a := ((PL.count (x, y) + 1 : Nat) : Int)) Tryd.underlying3 (wf_of (by unfold in64; omega)))
  obtain ⟨es, clock, hb, F, hs, rfl⟩ := ho
  obtain ⟨v0, st, es1, clock1, hent, _, hst⟩ := Go.WideElems.entry_then_store pairA.law Tryd.underlying62 (fun u => zeroI u) hb F (pk_key hxi hyi)
  have hlk1 : (Instr.lookup 62 (.map (some b)) (pk x y) false).run Tryd.prog (Go.ChangeMaps.setBlock w b (.map es1 clock1)) = .ok (.int .i64 (PL.count (x, y) : Nat)) (Go.ChangeMaps.setBlock w b (.map es1 clock1)) := by
    obtain ⟨v, es3, clock3, hent3, hor⟩ := entry_law pairA.law Tryd.underlying62 (fun u => zeroI u) hb F (pk_key hxi hyi)
    rw [hent] at hent3
    have e3 := (Result.ok.inj hent3).2
    have e4 := congrArg (fun W : World => W.heap[b]?) e3
    simp only [Go.ChangeMaps.heap_setBlock_same hb] at e4
    obtain ⟨e5, e6⟩ := Obj.map.inj (Option.some.inj e4)
    subst e5; subst e6
    rcases hor with ⟨rfl, rfl⟩ | ⟨hno, hup0⟩
    · have ho2 : (Go.ChangeMaps.setBlock w b (.map es1 clock1)).ownsMap Tryd.prog 59 (plainElem (H := Unit) Tryd.prog 3) b n _ := ⟨es1, clock1, Go.ChangeMaps.heap_setBlock_same hb _, F, hs, rfl⟩
      obtain ⟨c, hrun2, hat2, _⟩ := ho2.lookup_int pairK Tryd.underlying62 Tryd.underlying3 (zeroI _) (pk_key hxi hyi)
      rw [hD _ _ hxi hyi, cI_nat] at hat2
      rw [lit_inj hat2]; exact hrun2
    · have ho1 : w.ownsMap Tryd.prog 59 (plainElem (H := Unit) Tryd.prog 3) b n _ := ⟨es, clock, hb, F, hs, rfl⟩
      obtain ⟨w0, hup1, hown1, _⟩ := ho1.update pairK Tryd.underlying62 hn (pk_key hxi hyi) (plainElem_int (H := Unit) (a := 0) Tryd.underlying3 (wf_of (by unfold in64; omega)))
      rw [hup0] at hup1
      have hup1 := (Result.ok.inj hup1).2
      subst hup1
      obtain ⟨c, hrun2, hat2, _⟩ := hown1.lookup_int pairK Tryd.underlying62 Tryd.underlying3 (zeroI _) (pk_key hxi hyi)
      rw [atKey_put_same ⟨_, rfl⟩ (pairK.key (pk_key hxi hyi))] at hat2
      have hat3 := (lit_inj hat2).symm
      subst hat3
      have h0 : PL.count (x, y) = 0 := by
        rcases fit_look false pairK Tryd.underlying62 (zeroI w) hb F (pk_key hxi hyi) with ⟨hr0, _⟩ | ⟨e0, y0, he0, hk0, _⟩
        · have e9 := hrun.symm.trans hr0
          have e10 := val_inj (Result.ok.inj e9).1
          omega
        · exact absurd hk0 (hno e0 he0)
      rw [h0]; exact hrun2
  refine ⟨v0, st, _, hent, ?_, hlk1, fun w2 hw2 => ?_⟩
  · exact ⟨rfl, rfl, rfl, by simp [Go.ChangeMaps.setBlock], fun i hi => Go.ChangeMaps.heap_setBlock_other hb _ (by omega)⟩
  · rw [Go.ChangeMaps.heap_setBlock_same hb] at hw2
    obtain ⟨es', clock', hsr, hup'⟩ := hst w2 (.int .i64 ((PL.count (x, y) + 1 : Nat) : Int)) hw2
    refine ⟨_, hsr, ⟨rfl, rfl, rfl, by simp [Go.ChangeMaps.setBlock], fun i hi => Go.ChangeMaps.heap_setBlock_other hw2 _ (by omega)⟩, ?_⟩
    rw [hup'] at hup
    have hup := (Result.ok.inj hup).2
    subst hup
    obtain ⟨es2, clock2, hb2, F2, hs2, hd2⟩ := hown'
    rw [Go.ChangeMaps.heap_setBlock_same hb] at hb2
    obtain ⟨e1, e2⟩ := Obj.map.inj (Option.some.inj hb2)
    subst e1; subst e2
    refine ⟨_, ⟨es', clock', Go.ChangeMaps.heap_setBlock_same hw2 _, F2, hs2, rfl⟩, fun A B hA hB => ?_⟩
    rw [← hd2, cI_snoc]
    by_cases he : (x : Int) = A ∧ (y : Int) = B
    · obtain ⟨rfl, rfl⟩ := he
      rw [if_pos ⟨rfl, rfl⟩, atKey_put_same ⟨_, rfl⟩ (pairK.key (pk_key hxi hyi)), cI_nat]
    · rw [if_neg he, Nat.add_zero, atKey_put_other (fun e => he (by
        obtain ⟨a1, a2⟩ := kl_inj hA hB hxi hyi e
        exact ⟨a1.symm, a2.symm⟩))]
      exact hD A B hA hB
end Go.Proofs.YtghinmlpkgcdiaaDoor
