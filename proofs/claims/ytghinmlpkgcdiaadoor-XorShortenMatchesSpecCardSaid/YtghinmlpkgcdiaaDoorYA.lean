/- Schedules: the map of counts. Schedules: counts, the walk. Schedules: comparing pairs; is an element in a list. -/
import Derived.Test.YtghinmlpkgcdiaaDoorOpenC
import Derived.Test.YtghinmlpkgcdiaaDoorP2
import Derived.WideKeyPair
import Derived.WideKeyEntry
import Derived.Maps.OwnOps
import Derived.Maps.RangeWalk
import Derived.Maps.Views
import Derived.Deep.RegionHeld3
import Derived.Deep.DeepCutAuto
import Derived.BigQuiet
/-! Schedules: the map of counts. -/
namespace Go.Proofs.YtghinmlpkgcdiaaDoor
set_option linter.unusedSimpArgs false
set_option linter.unusedVariables false
open Go.RowKit Go.Lib Go.Maps

theorem pairA : Go.WideMaps.ArrKey Tryd.prog 59 3 2 := ⟨Tryd.underlying59, by kernel_rfl, by kernel_rfl, by kernel_rfl⟩
theorem types1 : ∃ m, Tryd.prog.types.size = m + 1 := ⟨Tryd.prog.types.size - 1, by
  have : 0 < Tryd.prog.types.size := of_decide_eq_true (by kernel_rfl)
  omega⟩
theorem pairK : Keyed Tryd.prog 59 := Keyed.of_law pairA.law
theorem zeroI (w : World) : (zeroValue 3).run Tryd.prog w = .ok (.int .i64 0) w := by kernel_rfl
abbrev pk (a b : Int) : Value := .agg #[.int .i64 a, .int .i64 b]
abbrev kl (a b : Int) : Lit := .string (keyBytes [.int .i64 a, .int .i64 b])
theorem wf_of {a : Int} (h : in64 a) : (Lit.int .i64 a).wf = true := WalkArith.wf_i64 h
theorem pk_key {a b : Int} (ha : in64 a) (hb : in64 b) : keyOf Tryd.prog 59 (pk a b) = some (kl a b) :=
  Go.WideMaps.keyOf_pair pairA Tryd.underlying3 types1 (wf_of ha) (wf_of hb)
theorem kl_inj {a b c d : Int} (ha : in64 a) (hb : in64 b) (hc : in64 c) (hd : in64 d) (h : kl a b = kl c d) : a = c ∧ b = d := by
  have h1 := pairK.inj (pk_key ha hb) (by rw [h]; exact pk_key hc hd)
  injection h1 with h1
  have h2 := congrArg (fun x : Array Value => x[0]?) h1
  have h3 := congrArg (fun x : Array Value => x[1]?) h1
  simp at h2 h3
  exact ⟨h2, h3⟩
set_option maxRecDepth 100000 in
theorem keyLits_int {m : Nat} {c : Value} {L : List Lit} (h : Tryd.prog.keyLits (m + 1) 3 [c] = some L) : ∃ a : Int, c = .int .i64 a ∧ L = [.int .i64 a] ∧ in64 a := by
  unfold Program.keyLits at h
  rw [Tryd.underlying3] at h
  cases c <;> simp at h
  obtain ⟨⟨rfl, hw⟩, rfl⟩ := h
  exact ⟨_, rfl, rfl, wf_i64 hw⟩
/-- a key is a pair -/
theorem pk_inv {v : Value} {l : Lit} (h : keyOf Tryd.prog 59 v = some l) : ∃ a b : Int, v = pk a b ∧ l = kl a b ∧ in64 a ∧ in64 b := by
  have h0 := h
  unfold keyOf at h
  simp only [pairA.hu] at h
  split at h
  · next hf =>
    rw [Bool.and_eq_true] at hf
    have hf2 := hf.2
    simp only [Value.formed, pairA.hu, pairA.size] at hf2
    obtain ⟨m, hm⟩ := types1
    rw [hm] at h
    cases v with
    | agg xs =>
      simp only [Option.map_eq_some_iff] at h
      obtain ⟨ls, hls, rfl⟩ := h
      unfold Program.keyLits at hls
      simp only [pairA.hu, Value.cells] at hls
      split at hls
      · next hsz =>
        rw [show List.range 2 = [0, 1] from rfl, List.mapM_cons, List.mapM_cons, List.mapM_nil] at hls
        rw [pairA.size] at hsz
        obtain ⟨c0, c1, hc⟩ : ∃ c0 c1, xs.toList = [c0, c1] := by
          match xs.toList, hsz with
          | [c0, c1], _ => exact ⟨c0, c1, rfl⟩
        obtain rfl : xs = #[c0, c1] := by apply Array.toList_inj.1; exact hc
        simp only [bind, pure, pairA.one, Option.map_eq_some_iff, Option.bind_eq_some_iff, Option.some.injEq] at hls
        obtain ⟨_, ⟨L0, h0', _, ⟨L1, h1', _, rfl, rfl⟩, rfl⟩, rfl⟩ := hls
        obtain ⟨a, rfl, rfl, ha⟩ := keyLits_int h0'
        obtain ⟨b, rfl, rfl, hb⟩ := keyLits_int h1'
        exact ⟨a, b, rfl, rfl, ha, hb⟩
      · cases hls
    | _ => simp at hf2
  · cases h
/-- how often a pair comes -/
def cI (PL : List (Nat × Nat)) (A B : Int) : Nat := PL.countP fun p => decide ((p.1 : Int) = A) && decide ((p.2 : Int) = B)
theorem cI_nat (PL : List (Nat × Nat)) (a b : Nat) : cI PL a b = PL.count (a, b) := by
  unfold cI
  rw [List.count_eq_countP]
  apply List.countP_congr
  intro p _
  obtain ⟨x, y⟩ := p
  simp only [Bool.and_eq_true, decide_eq_true_eq, beq_iff_eq, Prod.mk.injEq]
  omega
theorem cI_snoc (PL : List (Nat × Nat)) (a b : Nat) (A B : Int) : cI (PL ++ [(a, b)]) A B = cI PL A B + if (a : Int) = A ∧ (b : Int) = B then 1 else 0 := by
  unfold cI
  rw [List.countP_append, List.countP_singleton]
  congr 1
  by_cases h1 : (a : Int) = A <;> by_cases h2 : (b : Int) = B <;> simp [h1, h2]
/-- block b is a map of at most n entries that counts the pairs -/
def CntM (w : World) (b n : Nat) (PL : List (Nat × Nat)) : Prop :=
  ∃ D : DataW Unit, w.ownsMap Tryd.prog 59 (plainElem Tryd.prog 3) b n D ∧ ∀ A B : Int, in64 A → in64 B → D.atKey (kl A B) (.lit (.int .i64 0)) = .lit (.int .i64 (cI PL A B : Nat))
theorem CntM.kept {w w' : World} {b n : Nat} {PL : List (Nat × Nat)} {row : Option Nat} (h : CntM w b n PL) (hg : w.grownBy w' row) (hne : some b ≠ row) : CntM w' b n PL := by
  obtain ⟨D, h1, h2⟩ := h
  exact ⟨D, h1.kept hg hne, h2⟩
theorem CntM.below {w w' : World} {b n : Nat} {PL : List (Nat × Nat)} (h : CntM w b n PL) (hb : Below w.heap.size w w') : CntM w' b n PL := by
  obtain ⟨D, ⟨es, clock, h1, h2⟩, h3⟩ := h
  exact ⟨D, ⟨es, clock, (hb.block b (heap_lt h1)).trans h1, h2⟩, h3⟩
theorem CntM.made (w : World) : CntM (w.alloc (.map #[] 0)) w.heap.size 0 [] :=
  ⟨_, World.ownsMap_made w _ _ _, fun A B _ _ => rfl⟩
theorem CntM.lt {w : World} {b n : Nat} {PL : List (Nat × Nat)} (h : CntM w b n PL) : b < w.heap.size := by
  obtain ⟨D, h1, _⟩ := h
  exact h1.lt
theorem lit_inj {a b : Int} (h : (DataW.lit (.int .i64 a) : DataW Unit) = .lit (.int .i64 b)) : a = b := by
  injection h with h
  injection h
theorem val_inj {a b : Int} (h : Value.int .i64 a = .int .i64 b) : a = b := by injection h
/-- what mapEntry leaves: the map as it was, or one entry more, of the zero value -/
theorem entry_law {H : Type} {P : Program} {w : World} {t k e : TypeId} {R : Value → Option (DataW H × List MemPlace)} {b : Nat} {es : Array MapEntry} {clock : Nat} (K : Go.WideMaps.KeyLaw P k) (ht : P.underlying t = some (.map k e)) {z : Value} (hz : ∀ u : World, (zeroValue e).run P u = .ok z u) (hb : w.heap[b]? = some (.map es clock)) (F : Go.WideElems.Fit P k R es clock)
    {key : Value} {kl : Lit} (hkey : keyOf P k key = some kl) :
    ∃ (v : Value) (es1 : Array MapEntry) (clock1 : Nat), (Instr.mapEntry t (.map (some b)) key).run P w = .ok v (Go.ChangeMaps.setBlock w b (.map es1 clock1)) ∧
      ((es1 = es ∧ clock1 = clock) ∨ ((∀ x ∈ es.toList, x.key ≠ key) ∧ (Instr.mapUpdate t (.map (some b)) key z).run P w = .ok () (Go.ChangeMaps.setBlock w b (.map es1 clock1)))) := by
  rcases K.find w hkey es.toList F.keys with ⟨h1, h2⟩ | ⟨j, e0, h1, h2, h3⟩
  · refine ⟨.tuple #[z, goInt clock], es.push ⟨key, z, clock⟩, clock + 1, ?_, .inr ⟨h2, ?_⟩⟩
    · simp [Instr.mapEntry, run_underlying ht, MapKept.run_getObj_map hb, K.check w false hkey, h1, hz, MapKept.run_setObj_map _ hb, Result.andThen, Go.ChangeMaps.setBlock]
    · simp [Instr.mapUpdate, run_underlying ht, MapKept.run_getObj_map hb, K.check w false hkey, h1, MapKept.run_setObj_map _ hb, Result.andThen, Go.ChangeMaps.setBlock]
  · have hj : es[j]? = some e0 := by simpa using h2
    have hsame : es.modify j (fun e => { e with key := key }) = es := by
      apply Array.ext'
      rw [Array.toList_modify, Go.ChangeMaps.modify_eq_set _ _ _ _ h2]
      have : ({ e0 with key := key } : MapEntry) = e0 := by rw [← h3]
      rw [this]
      exact Go.WideElems.set_self _ _ _ h2
    refine ⟨.tuple #[e0.val, goInt e0.born], es, clock, ?_, .inl ⟨rfl, rfl⟩⟩
    simp [Instr.mapEntry, run_underlying ht, MapKept.run_getObj_map hb, K.check w false hkey, h1, hj, h3, K.stays w hkey, hsame, MapKept.run_setObj_map _ hb, Result.andThen, Go.ChangeMaps.setBlock]
set_option maxRecDepth 100000 in
set_option maxHeartbeats 1600000 in
/-- one pair more: what the three operations do -/
theorem CntM.ops {w : World} {b n : Nat} {PL : List (Nat × Nat)} (h : CntM w b n PL) (hn : n < maxLen) (hP : PL.length < 4611686018427387904) {x y : Nat} (hx : x ≤ 4611686018427387904) (hy : y ≤ 4611686018427387904) :
    (Instr.lookup 62 (.map (some b)) (pk x y) false).run Tryd.prog w = .ok (.int .i64 (PL.count (x, y) : Nat)) w ∧
    ∃ (v0 : Value) (st : Nat) (w1 : World), (Instr.mapEntry 62 (.map (some b)) (pk x y)).run Tryd.prog w = .ok (.tuple #[v0, .int .i64 (st : Int)]) w1 ∧ Below b w w1 ∧ (Instr.lookup 62 (.map (some b)) (pk x y) false).run Tryd.prog w1 = .ok (.int .i64 (PL.count (x, y) : Nat)) w1 ∧
      ∀ w2 : World, w2.heap[b]? = w1.heap[b]? → ∃ w3, (Instr.entryStore 62 (.map (some b)) (.int .i64 (st : Int)) (.int .i64 ((PL.count (x, y) + 1 : Nat) : Int))).run Tryd.prog w2 = .ok () w3 ∧ Below b w2 w3 ∧ CntM w3 b (n + 1) (PL ++ [(x, y)]) := by
  obtain ⟨D, ho, hD⟩ := h
  have hxi : in64 (x : Int) := by unfold in64; omega
  have hyi : in64 (y : Int) := by unfold in64; omega
  have hcl : PL.count (x, y) ≤ PL.length := List.count_le_length
  obtain ⟨c, hrun, hat, hwc⟩ := ho.lookup_int pairK Tryd.underlying62 Tryd.underlying3 (zeroI w) (pk_key hxi hyi)
  have hc : c = ((PL.count (x, y) : Nat) : Int) := by
    rw [hD _ _ hxi hyi, cI_nat] at hat
    exact (lit_inj hat).symm
  subst hc
  refine ⟨hrun, ?_⟩
  obtain ⟨w', hup, hown', hgr⟩ := ho.update pairK Tryd.underlying62 hn (pk_key hxi hyi) (plainElem_int (H := Unit) (a := ((PL.count (x, y) + 1 : Nat) : Int)) Tryd.underlying3 (wf_of (by unfold in64; omega)))
  obtain ⟨es, clock, hb, F, hs, rfl⟩ := ho
  obtain ⟨v0, st, es1, clock1, hent, _, hst⟩ := Go.WideElems.entry_then_store pairA.law Tryd.underlying62 (fun u => zeroI u) hb F (pk_key hxi hyi)
  have hlk1 : (Instr.lookup 62 (.map (some b)) (pk x y) false).run Tryd.prog (Go.ChangeMaps.setBlock w b (.map es1 clock1)) = .ok (.int .i64 (PL.count (x, y) : Nat)) (Go.ChangeMaps.setBlock w b (.map es1 clock1)) := by
    obtain ⟨v, es3, clock3, hent3, hor⟩ := entry_law pairA.law Tryd.underlying62 (fun u => zeroI u) hb F (pk_key hxi hyi)
    rw [hent] at hent3
    have e3 := (Result.ok.inj hent3).2
    have e4 := congrArg (fun W : World => W.heap[b]?) e3
    simp only [Go.ChangeMaps.heap_setBlock_same hb] at e4
    obtain ⟨e5, e6⟩ := Obj.map.inj (Option.some.inj e4)
    subst e5; subst e6
    rcases hor with ⟨rfl, rfl⟩ | ⟨hno, hup0⟩
    · have ho2 : (Go.ChangeMaps.setBlock w b (.map es1 clock1)).ownsMap Tryd.prog 59 (plainElem (H := Unit) Tryd.prog 3) b n _ := ⟨es1, clock1, Go.ChangeMaps.heap_setBlock_same hb _, F, hs, rfl⟩
      obtain ⟨c, hrun2, hat2, _⟩ := ho2.lookup_int pairK Tryd.underlying62 Tryd.underlying3 (zeroI _) (pk_key hxi hyi)
      rw [hD _ _ hxi hyi, cI_nat] at hat2
      rw [lit_inj hat2]; exact hrun2
    · have ho1 : w.ownsMap Tryd.prog 59 (plainElem (H := Unit) Tryd.prog 3) b n _ := ⟨es, clock, hb, F, hs, rfl⟩
      obtain ⟨w0, hup1, hown1, _⟩ := ho1.update pairK Tryd.underlying62 hn (pk_key hxi hyi) (plainElem_int (H := Unit) (a := 0) Tryd.underlying3 (wf_of (by unfold in64; omega)))
      rw [hup0] at hup1
      have hup1 := (Result.ok.inj hup1).2
      subst hup1
      obtain ⟨c, hrun2, hat2, _⟩ := hown1.lookup_int pairK Tryd.underlying62 Tryd.underlying3 (zeroI _) (pk_key hxi hyi)
      rw [atKey_put_same ⟨_, rfl⟩ (pairK.key (pk_key hxi hyi))] at hat2
      have hat3 := (lit_inj hat2).symm
      subst hat3
      have h0 : PL.count (x, y) = 0 := by
        rcases fit_look false pairK Tryd.underlying62 (zeroI w) hb F (pk_key hxi hyi) with ⟨hr0, _⟩ | ⟨e0, y0, he0, hk0, _⟩
        · have e9 := hrun.symm.trans hr0
          have e10 := val_inj (Result.ok.inj e9).1
          omega
        · exact absurd hk0 (hno e0 he0)
      rw [h0]; exact hrun2
  refine ⟨v0, st, _, hent, ?_, hlk1, fun w2 hw2 => ?_⟩
  · exact ⟨rfl, rfl, rfl, by simp [Go.ChangeMaps.setBlock], fun i hi => Go.ChangeMaps.heap_setBlock_other hb _ (by omega)⟩
  · rw [Go.ChangeMaps.heap_setBlock_same hb] at hw2
    obtain ⟨es', clock', hsr, hup'⟩ := hst w2 (.int .i64 ((PL.count (x, y) + 1 : Nat) : Int)) hw2
    refine ⟨_, hsr, ⟨rfl, rfl, rfl, by simp [Go.ChangeMaps.setBlock], fun i hi => Go.ChangeMaps.heap_setBlock_other hw2 _ (by omega)⟩, ?_⟩
    rw [hup'] at hup
    have hup := (Result.ok.inj hup).2
    subst hup
    obtain ⟨es2, clock2, hb2, F2, hs2, hd2⟩ := hown'
    rw [Go.ChangeMaps.heap_setBlock_same hb] at hb2
    obtain ⟨e1, e2⟩ := Obj.map.inj (Option.some.inj hb2)
    subst e1; subst e2
    refine ⟨_, ⟨es', clock', Go.ChangeMaps.heap_setBlock_same hw2 _, F2, hs2, rfl⟩, fun A B hA hB => ?_⟩
    rw [← hd2, cI_snoc]
    by_cases he : (x : Int) = A ∧ (y : Int) = B
    · obtain ⟨rfl, rfl⟩ := he
      rw [if_pos ⟨rfl, rfl⟩, atKey_put_same ⟨_, rfl⟩ (pairK.key (pk_key hxi hyi)), cI_nat]
    · rw [if_neg he, Nat.add_zero, atKey_put_other (fun e => he (by
        obtain ⟨a1, a2⟩ := kl_inj hA hB hxi hyi e
        exact ⟨a1.symm, a2.symm⟩))]
      exact hD A B hA hB
end Go.Proofs.YtghinmlpkgcdiaaDoor
/-! Schedules: counts, the walk. -/
namespace Go.Proofs.YtghinmlpkgcdiaaDoor
set_option linter.unusedSimpArgs false
set_option linter.unusedVariables false
open Go.RowKit Go.Lib Go.Maps Xp

section
variable {P : Program} {ops : Array Oper} {o : Oper} {act : Act} {w : World} {K : Act → World → Prop} {Q : Exit → Act → World → Prop} {E : Prop}
theorem step_lookup (hgd : o.guard = none) (m x : Operand) (t : TypeId) (ho : o.op = .lookup t m x false) (M X V : Value) (W' : World) (hm : act.eval m = M) (hx : act.eval x = X) (hrun : (Instr.lookup t M X false).run P w = .ok V W') (h : K (act.put o.dst V) W') :
    if Region.wanted o (yielded ops act.tmps) = true then Oper.wp P o act w K Q else E := by
  have hw : Region.wanted o (yielded ops act.tmps) = true := by simp [Region.wanted, hgd]
  rw [if_pos hw]
  unfold Oper.wp execOp
  simp only [ho, hm, hx, hrun, Sem.run_bind, Sem.run_pure, Result.andThen_ok]
  exact h
theorem step_entry (hgd : o.guard = none) (m x : Operand) (t : TypeId) (ho : o.op = .mapEntry t m x) (M X V : Value) (W' : World) (hm : act.eval m = M) (hx : act.eval x = X) (hrun : (Instr.mapEntry t M X).run P w = .ok V W') (h : K (act.put o.dst V) W') :
    if Region.wanted o (yielded ops act.tmps) = true then Oper.wp P o act w K Q else E := by
  have hw : Region.wanted o (yielded ops act.tmps) = true := by simp [Region.wanted, hgd]
  rw [if_pos hw]
  unfold Oper.wp execOp
  simp only [ho, hm, hx, hrun, Sem.run_bind, Sem.run_pure, Result.andThen_ok]
  exact h
theorem step_put (hgd : o.guard = none) (m s x : Operand) (t : TypeId) (ho : o.op = .entryStore t m s x) (M S X : Value) (W' : World) (hm : act.eval m = M) (hs : act.eval s = S) (hx : act.eval x = X) (hrun : (Instr.entryStore t M S X).run P w = .ok () W') (h : K (act.put o.dst undef) W') :
    if Region.wanted o (yielded ops act.tmps) = true then Oper.wp P o act w K Q else E := by
  have hw : Region.wanted o (yielded ops act.tmps) = true := by simp [Region.wanted, hgd]
  rw [if_pos hw]
  unfold Oper.wp execOp
  simp only [ho, hm, hs, hx, hrun, Sem.run_bind, Sem.run_pure, Result.andThen_ok]
  exact h
end
set_option maxRecDepth 100000 in
set_option maxHeartbeats 12800000 in
theorem counts_any (qs : Option Addr) (ns ks : Nat) (ls : List (List Nat)) (w : World) (hs : RowsT w qs ns ls) (hns : ns ≤ 1000000) (hlen : ∀ l ∈ ls, l.length ≤ 1000000) (hmem : ∀ l ∈ ls, ∀ x ∈ l, x ≤ 1000000000) (hpl : (allPairs ls).length ≤ 1000000000000) :
    Calls Tryd.prog 32 #[.slice qs ns ks] w fun e w' => (∃ n, n ≤ 1000000000000 ∧ e = .returned (.map (some w.heap.size)) ∧ CntM w' w.heap.size n (allPairs ls)) ∧ Below w.heap.size w w' := by
  have hmm := @run_makeMap Tryd.prog
  have HS := Lib.hid hs
  have HLS := Lib.hid hs.len
  have HLEN := Lib.hid hlen
  have HMEM := Lib.hid hmem
  have HPL := Lib.hid (fun (A B : List (Nat × Nat)) (h : ∃ C, allPairs ls = A ++ B ++ C) => show (A ++ B).length ≤ 1000000000000 from by
    obtain ⟨C, e⟩ := h
    rw [e, List.length_append] at hpl
    omega)
  clear hs hlen hmem hpl
  go_enter Tryd.func32, Tryd.ntmps32
  go_wp2_with fail
  go_loopw [13] (fun i wr => ∃ t n : Nat, t ≤ ns ∧ i = .int .i64 t ∧ Hid (n = (allPairs (ls.take t)).length) ∧ CntM wr w.heap.size n (allPairs (ls.take t)) ∧ Below w.heap.size w wr) (fun i _ => ns - (intOf i).toNat)
  case atStart => exact ⟨0, 0, Nat.zero_le _, rfl, Lib.hid rfl, CntM.made w, (Below.refl _ w).alloc (Nat.le_refl _) _⟩
  case round =>
    obtain ⟨t, n, ht, rfl, hn, hc, hb⟩ := hrel
    have HN := Lib.hid hn.out
    have HC := Lib.hid hc
    have HB := Lib.hid hb
    clear hn hc hb
    by_cases hlt : t < ns
    · have hd : decide ((t : Int) < ns) = true := decide_eq_true (by omega)
      obtain ⟨l, hl⟩ : ∃ l, ls[t]? = some l := ⟨_, List.getElem?_eq_getElem (by rw [HLS.out]; exact hlt)⟩
      obtain ⟨gs, cs, ql, kc, rfl, hrs, hcs, hkl, hxl⟩ := HS.out.row t l hl
      have hgs := hrs.lt
      have hcl : wr.cell? ⟨gs, t, none⟩ = some (.slice ql l.length kc) := (HB.out.cell (p := ⟨gs, t, none⟩) hgs).trans ((hrs.cell t).trans hcs)
      have HL := Lib.hid hl
      have HX := Lib.hid hxl
      have hll := HLEN.out l (List.mem_of_getElem? hl)
      obtain ⟨L, hL⟩ : ∃ L, l.length = L := ⟨_, rfl⟩
      have HLL := Lib.hid hL
      rw [hL] at hcl hll hkl
      clear hl hrs hcs hxl hL
      go_wp2_with fail
      clear hcl
      go_loopw [19] (fun i wr => ∃ i2 n : Nat, i2 ≤ L ∧ i = .int .i64 i2 ∧ Hid (n = (allPairs (ls.take t) ++ pairsTo l i2).length) ∧ CntM wr w.heap.size n (allPairs (ls.take t) ++ pairsTo l i2) ∧ Below w.heap.size w wr) (fun i _ => L - (intOf i).toNat)
      case atStart => exact ⟨0, n, Nat.zero_le _, rfl, Lib.hid (by rw [HN.out]; unfold pairsTo; simp), by unfold pairsTo; simpa using HC.out, HB.out⟩
      case round =>
        obtain ⟨i2, n2, hi2, rfl, hn, hc, hb⟩ := hrel
        have HN2 := Lib.hid hn.out
        have HC2 := Lib.hid hc
        have HB2 := Lib.hid hb
        clear hn hc hb
        by_cases hil : i2 < L
        · have hdi : decide ((i2 : Int) < L) = true := decide_eq_true (by omega)
          obtain ⟨x, hx⟩ : ∃ x, l[i2]? = some x := ⟨_, List.getElem?_eq_getElem (by rw [HLL.out]; exact hil)⟩
          obtain ⟨g2, cs2, rfl, hr2, hc2⟩ := HX.out i2 x hx
          have hg2 := hr2.lt
          have hcx : wr.cell? ⟨g2, i2, none⟩ = some (.int .i64 (x : Int)) := (HB2.out.cell (p := ⟨g2, i2, none⟩) hg2).trans ((hr2.cell i2).trans hc2)
          have HXX := Lib.hid hx
          have hxm := HMEM.out l (List.mem_of_getElem? HL.out) x (List.mem_of_getElem? hx)
          obtain ⟨M, hM⟩ : ∃ M, L - (i2 + 1) = M := ⟨_, rfl⟩
          have HMM := Lib.hid hM
          have HROW := Lib.hid (show Row w g2 3 cs2 from hr2)
          have HLM := Lib.hid (show ∀ (j y : Nat), l[j]? = some y → cs2[j]? = some (.int .i64 (y : Int)) from fun j y hy => by
            obtain ⟨g3, cs3, e3, hr3, hc3⟩ := HX.out j y hy
            injection e3 with e3
            injection e3 with e3
            subst e3
            have e4 := hr2.symm.trans hr3
            injection e4 with e4
            injection e4 with e4
            subst e4
            exact hc3)
          clear hx hr2 hc2
          obtain ⟨wo, rfl⟩ : ∃ wo : World, wo = wr := ⟨_, rfl⟩
          go_upto_region 8 with fail
          go_cut [27, 28, 29] (fun a b c wx => ∃ q k, a = .slice q M k ∧ b = .int .i64 M ∧ c = .int .i64 0 ∧ Hid (0 < M → q = some ⟨g2, i2 + 1, none⟩) ∧ wx = wo)
          case first =>
            by_cases hk1 : kc = i2 + 1
            · go_wp2_with fail
              go_meet
              exact ⟨_, _, rfl, rfl, rfl, Lib.hid (fun h => absurd h (by omega)), rfl⟩
            · go_wp2_with fail
              go_meet
              exact ⟨_, _, rfl, rfl, rfl, Lib.hid (fun h => rfl), rfl⟩
          case rest =>
            obtain ⟨q, k, rfl, rfl, rfl, hq, rfl⟩ := hcut
            have HQ := Lib.hid hq.out
            clear hq hcx
            have HHL := Lib.hid (show (headP l i2).length = M by rw [headP_length, HLL.out, HMM.out])
            go_wp2_with fail
            go_loopw [29] (fun i wr => ∃ j n : Nat, j ≤ M ∧ i = .int .i64 j ∧ Hid (n = (allPairs (ls.take t) ++ pairsTo l i2 ++ (headP l i2).take j).length) ∧ CntM wr w.heap.size n (allPairs (ls.take t) ++ pairsTo l i2 ++ (headP l i2).take j) ∧ Below w.heap.size w wr) (fun i _ => M - (intOf i).toNat)
            case atStart => exact ⟨0, n2, Nat.zero_le _, rfl, Lib.hid (by rw [HN2.out, List.take_zero, List.append_nil]), by rw [List.take_zero, List.append_nil]; exact HC2.out, HB2.out⟩
            case round =>
              obtain ⟨j, n3, hj, rfl, hn, hc, hb⟩ := hrel
              have HN3 := Lib.hid hn.out
              have HC3 := Lib.hid hc
              have HB3 := Lib.hid hb
              clear hn hc hb
              by_cases hjl : j < M
              · have hdj : decide ((j : Int) < M) = true := decide_eq_true (by omega)
                obtain rfl : q = some ⟨g2, i2 + 1, none⟩ := HQ.out (by omega)
                obtain ⟨y, hy⟩ : ∃ y, l[i2 + 1 + j]? = some y := ⟨_, List.getElem?_eq_getElem (by rw [HLL.out]; omega)⟩
                have hcy : wr.cell? ⟨g2, i2 + 1 + j, none⟩ = some (.int .i64 (y : Int)) := (HB3.out.cell (p := ⟨g2, i2 + 1 + j, none⟩) hg2).trans ((HROW.out.cell (i2 + 1 + j)).trans (HLM.out _ y hy))
                have hym := HMEM.out l (List.mem_of_getElem? HL.out) y (List.mem_of_getElem? hy)
                have HTK := Lib.hid (show (headP l i2).take (j + 1) = (headP l i2).take j ++ [(x, y)] by
                  rw [List.take_add_one, headP_get HXX.out hy]; rfl)
                obtain ⟨PL, hPL⟩ : ∃ PL, allPairs (ls.take t) ++ pairsTo l i2 ++ (headP l i2).take j = PL := ⟨_, rfl⟩
                have HPE := Lib.hid (show allPairs (ls.take t) ++ pairsTo l i2 ++ (headP l i2).take (j + 1) = PL ++ [(x, y)] by rw [HTK.out, ← List.append_assoc, hPL])
                rw [hPL] at HC3 HN3
                have hplen : PL.length ≤ 1000000000000 := by
                  rw [← hPL]
                  have h8 : pairsOf l = pairsTo l i2 ++ ((headP l i2).take j ++ ((headP l i2).drop j ++ (pairsOf l).drop (pairsTo l (i2 + 1)).length)) := by
                    have h7 : ∃ T, pairsOf l = pairsTo l (i2 + 1) ++ T := by
                      unfold pairsOf pairsTo
                      obtain ⟨r, hr⟩ : ∃ r, l.length = (i2 + 1) + r := ⟨l.length - (i2 + 1), by rw [HLL.out]; omega⟩
                      rw [hr, List.range_add, List.flatMap_append]
                      exact ⟨_, rfl⟩
                    obtain ⟨T, hT⟩ := h7
                    rw [hT, List.drop_left, pairsTo_succ, ← List.append_assoc ((headP l i2).take j), List.take_append_drop, List.append_assoc]
                  refine HPL.out (allPairs (ls.take t) ++ pairsTo l i2) _ ⟨((headP l i2).drop j ++ (pairsOf l).drop (pairsTo l (i2 + 1)).length) ++ allPairs (ls.drop (t + 1)), ?_⟩
                  have h6 : ls = ls.take t ++ l :: ls.drop (t + 1) := by
                    obtain ⟨hh, e⟩ := List.getElem?_eq_some_iff.1 HL.out
                    rw [← e, List.getElem_cons_drop, List.take_append_drop]
                  have h5 : allPairs ls = allPairs (ls.take t) ++ (pairsOf l ++ allPairs (ls.drop (t + 1))) := by
                    conv => lhs; rw [h6]
                    unfold allPairs
                    rw [List.flatMap_append, List.flatMap_cons]
                  conv => lhs; rw [h5, h8]
                  simp only [List.append_assoc]
                have hn3 : n3 < maxLen := by rw [HN3.out]; unfold maxLen; omega
                obtain ⟨hlk, v0, st, w1, hent, hb1, hlk2, hput⟩ := (show CntM wr.drew w.heap.size n3 PL from HC3.out).ops hn3 (by omega) (show x ≤ 4611686018427387904 by omega) (show y ≤ 4611686018427387904 by omega)
                obtain ⟨w2, hst, hb2, hc2⟩ := hput w1 rfl
                have HB1 := Lib.hid (show Below w.heap.size w w1 from HB3.out.drew.trans hb1)
                have HB4 := Lib.hid (show Below w.heap.size w w2 from HB1.out.trans hb2)
                have HC4 := Lib.hid hc2
                have hcnt : PL.count (x, y) ≤ 1000000000000 := Nat.le_trans List.count_le_length hplen
                obtain ⟨C, hC⟩ : ∃ C, PL.count (x, y) = C := ⟨_, rfl⟩
                rw [hC] at hlk hlk2 hst hcnt
                rw [Int.natCast_add, Int.natCast_one] at hst
                rw [← (show IntKind.i64.wrap ((C : Int) + 1) = (C : Int) + 1 by rw [IntKind.wrap_i64] <;> omega)] at hst
                clear hy hPL hput hb1 hb2 hc2 hC
                go_wp2_with fail
                go_region_held3 (fun wn => Below w.heap.size w wn) (first | exact HB4.out | exact HB1.out | exact HB3.out.drew | assumption) (first
                  | (refine step_lookup rfl (.tmp 33) (.tmp 36) 62 rfl _ _ _ _ rfl rfl hlk ?_)
                  | (refine step_lookup rfl (.tmp 33) (.tmp 36) 62 rfl _ _ _ _ rfl rfl hlk2 ?_)
                  | (refine step_entry rfl (.tmp 33) (.tmp 36) 62 rfl _ _ _ _ rfl rfl hent ?_)
                  | (refine step_put rfl (.tmp 33) (.tmp 40) (.tmp 38) 62 rfl _ _ _ _ rfl rfl rfl hst ?_))
                all_goals (
                  go_wp2
                  go_roundw
                  case rel => exact ⟨j + 1, n3 + 1, by omega, by go_num, Lib.hid (by rw [HPE.out, List.length_append, ← HN3.out]; rfl), by rw [HPE.out]; exact HC4.out, HB4.out⟩
                  case measure => simp [intOf]; omega)
              · have hdj : decide ((j : Int) < M) = false := decide_eq_false (by omega)
                have hdj2 : decide (j < M) = false := decide_eq_false (by omega)
                have h9 := HC3.out
                have h8 := HN3.out
                rw [List.take_of_length_le (l := headP l i2) (by rw [HHL.out]; omega), List.append_assoc, ← pairsTo_succ] at h9 h8
                have HC5 := Lib.hid h9
                have HN5 := Lib.hid h8
                clear h9 h8
                go_wp2_with fail
                go_roundw
                case rel => exact ⟨i2 + 1, n3, by omega, by go_num, Lib.hid HN5.out, HC5.out, HB3.out⟩
                case measure => simp [intOf]; omega
        · have hdi : decide ((i2 : Int) < L) = false := decide_eq_false (by omega)
          have hdi2 : decide (i2 < L) = false := decide_eq_false (by omega)
          have HIL := Lib.hid (show allPairs (ls.take t) ++ pairsTo l i2 = allPairs (ls.take (t + 1)) by
            rw [allPairs_take HL.out]; unfold pairsOf; rw [HLL.out, show i2 = L by omega])
          rw [HIL.out] at HC2 HN2
          go_wp2_with fail
          go_roundw
          case rel => exact ⟨t + 1, n2, by omega, by go_num, Lib.hid HN2.out, HC2.out, HB2.out⟩
          case measure => simp [intOf]; omega
    · have hd : decide ((t : Int) < ns) = false := decide_eq_false (by omega)
      have hd2 : decide (t < ns) = false := decide_eq_false (by omega)
      have h9 := HC.out
      have h8 := HN.out
      rw [List.take_of_length_le (by rw [HLS.out]; omega)] at h9 h8
      have hnn : n ≤ 1000000000000 := by
        rw [h8]
        have := HPL.out (allPairs ls) [] ⟨[], by simp⟩
        simpa using this
      have HC5 := Lib.hid h9
      clear h9 h8
      go_wp2
      go_ret
      exact ⟨⟨n, hnn, rfl, HC5.out⟩, HB.out⟩
end Go.Proofs.YtghinmlpkgcdiaaDoor
/-! Schedules: comparing pairs; is an element in a list. -/
namespace Go.Proofs.YtghinmlpkgcdiaaDoor
set_option linter.unusedSimpArgs false
set_option linter.unusedVariables false
open Go.RowKit Go.Lib

theorem isnan_any (x : Int) (w : World) : Calls Tryd.prog 94 #[.int .i64 x] w fun e w' => e = .returned (.bool false) ∧ w' = w := by
  have h : (x != x) = false := by simp
  go_enter Tryd.func94, Tryd.ntmps94
  go_wp2
  go_ret
  exact ⟨rfl, rfl⟩
def cmp1 (a b : Int) : Int := if a < b then -1 else if b < a then 1 else 0
theorem cmp_any (a b : Int) (w : World) : Calls Tryd.prog 87 #[.int .i64 a, .int .i64 b] w fun e w' => e = .returned (.int .i64 (cmp1 a b)) ∧ w' = w := by
  unfold cmp1
  by_cases h1 : a < b
  · have hd : decide (a < b) = true := decide_eq_true h1
    rw [if_pos h1]
    clear h1
    go_enter Tryd.func87, Tryd.ntmps87
    go_wp2_with fail
    refine (isnan_any a _).mono ?_
    rintro e w1 ⟨rfl, rfl⟩
    go_wp2_with fail
    refine (isnan_any b _).mono ?_
    rintro e w1 ⟨rfl, rfl⟩
    go_wp2
    go_ret
    exact ⟨rfl, rfl⟩
  · have hd : decide (a < b) = false := decide_eq_false h1
    rw [if_neg h1]
    by_cases h2 : b < a
    · have hd2 : decide (b < a) = true := decide_eq_true h2
      rw [if_pos h2]
      clear h1 h2
      go_enter Tryd.func87, Tryd.ntmps87
      go_wp2_with fail
      refine (isnan_any a _).mono ?_
      rintro e w1 ⟨rfl, rfl⟩
      go_wp2_with fail
      refine (isnan_any b _).mono ?_
      rintro e w1 ⟨rfl, rfl⟩
      go_wp2
      go_ret
      exact ⟨rfl, rfl⟩
    · have hd2 : decide (b < a) = false := decide_eq_false h2
      rw [if_neg h2]
      clear h1 h2
      go_enter Tryd.func87, Tryd.ntmps87
      go_wp2_with fail
      refine (isnan_any a _).mono ?_
      rintro e w1 ⟨rfl, rfl⟩
      go_wp2_with fail
      refine (isnan_any b _).mono ?_
      rintro e w1 ⟨rfl, rfl⟩
      go_wp2
      go_ret
      exact ⟨rfl, rfl⟩
theorem cmp1_zero {a b : Int} : cmp1 a b = 0 ↔ a = b := by
  unfold cmp1
  constructor
  · intro h
    split at h
    · omega
    · split at h <;> omega
  · intro h
    subst h
    rw [if_neg (by omega), if_neg (by omega)]
def cmp2 (A B C D : Int) : Int := if cmp1 A C = 0 then cmp1 B D else cmp1 A C
set_option maxRecDepth 100000 in
set_option maxHeartbeats 1600000 in
theorem comp2_any (g1 g2 : Nat) (A B C D : Int) (w : World) (ha : w.cell? ⟨g1, 0, none⟩ = some (.int .i64 A)) (hb : w.cell? ⟨g1, 1, none⟩ = some (.int .i64 B)) (hc : w.cell? ⟨g2, 0, none⟩ = some (.int .i64 C)) (hd : w.cell? ⟨g2, 1, none⟩ = some (.int .i64 D)) :
    Calls Tryd.prog 67 #[.slice (some ⟨g1, 0, none⟩) 2 2, .slice (some ⟨g2, 0, none⟩) 2 2] w fun e w' => e = .returned (.int .i64 (cmp2 A B C D)) ∧ w' = w := by
  obtain ⟨r0, h0⟩ : ∃ r, cmp1 A C = r := ⟨_, rfl⟩
  obtain ⟨r1, h1⟩ : ∃ r, cmp1 B D = r := ⟨_, rfl⟩
  have HC0 := Lib.hid (fun (W : World) => cmp_any A C W)
  have HC1 := Lib.hid (fun (W : World) => cmp_any B D W)
  rw [h0] at HC0
  rw [h1] at HC1
  unfold cmp2
  rw [h0, h1]
  clear h0 h1
  by_cases hz : r0 = 0
  · subst hz
    rw [if_pos rfl]
    by_cases hz1 : r1 = 0
    · subst hz1
      go_enter Tryd.func67, Tryd.ntmps67
      go_wp2_with fail
      go_loop [11] (fun i => ∃ k : Nat, k ≤ 2 ∧ i = .int .i64 k) (fun i => 2 - (intOf i).toNat)
      case atStart => exact ⟨0, by omega, rfl⟩
      case round =>
        obtain ⟨k, hk, rfl⟩ := hrel
        rcases (show k = 0 ∨ k = 1 ∨ k = 2 by omega) with rfl | rfl | rfl
        · go_wp2_with fail
          refine (HC0.out _).mono ?_
          rintro e w1 ⟨rfl, rfl⟩
          go_wp2_with fail
          go_round
          case rel => exact ⟨1, by omega, by go_num⟩
          case measure => simp [intOf]
        · go_wp2_with fail
          refine (HC1.out _).mono ?_
          rintro e w1 ⟨rfl, rfl⟩
          go_wp2_with fail
          go_round
          case rel => exact ⟨2, by omega, by go_num⟩
          case measure => simp [intOf]
        · go_wp2
          go_ret
          exact ⟨rfl, rfl⟩
    · have hne : (r1 == 0) = false := by simpa using hz1
      have hne2 : (r1 != 0) = true := by simpa using hz1
      go_enter Tryd.func67, Tryd.ntmps67
      go_wp2_with fail
      go_loop [11] (fun i => ∃ k : Nat, k ≤ 1 ∧ i = .int .i64 k) (fun i => 2 - (intOf i).toNat)
      case atStart => exact ⟨0, by omega, rfl⟩
      case round =>
        obtain ⟨k, hk, rfl⟩ := hrel
        rcases (show k = 0 ∨ k = 1 by omega) with rfl | rfl
        · go_wp2_with fail
          refine (HC0.out _).mono ?_
          rintro e w1 ⟨rfl, rfl⟩
          go_wp2_with fail
          go_round
          case rel => exact ⟨1, by omega, by go_num⟩
          case measure => simp [intOf]
        · go_wp2_with fail
          refine (HC1.out _).mono ?_
          rintro e w1 ⟨rfl, rfl⟩
          go_wp2
          go_ret
          exact ⟨rfl, rfl⟩
  · have hne : (r0 == 0) = false := by simpa using hz
    have hne2 : (r0 != 0) = true := by simpa using hz
    rw [if_neg hz]
    go_enter Tryd.func67, Tryd.ntmps67
    go_wp2_with fail
    go_loop [11] (fun i => i = .int .i64 0) (fun i => 2 - (intOf i).toNat)
    case atStart => rfl
    case round =>
      subst hrel
      go_wp2_with fail
      refine (HC0.out _).mono ?_
      rintro e w1 ⟨rfl, rfl⟩
      go_wp2
      go_ret
      exact ⟨rfl, rfl⟩
/-! ### is it there? -/
set_option maxRecDepth 100000 in
set_option maxHeartbeats 1600000 in
theorem index_any (q : Option Addr) (n k : Nat) (l : List Nat) (x : Nat) (w : World) (hl : l.length = n) (hn : n ≤ 1000000) (hr : Rd w w.heap.size q (nts l)) :
    Calls Tryd.prog 68 #[.slice q n k, .int .i64 (x : Int)] w fun e w' => (∃ r : Int, e = .returned (.int .i64 r) ∧ (0 ≤ r ↔ x ∈ l)) ∧ w' = w := by
  have HR := Lib.hid hr
  have HL := Lib.hid hl
  clear hr hl
  go_enter Tryd.func68, Tryd.ntmps68
  go_wp2_with fail
  go_loop [8] (fun i => ∃ t : Nat, t ≤ n ∧ i = .int .i64 t ∧ Hid (x ∉ l.take t)) (fun i => n - (intOf i).toNat)
  case atStart => exact ⟨0, by omega, rfl, Lib.hid (by simp)⟩
  case round =>
    obtain ⟨t, ht, rfl, hno⟩ := hrel
    have HNO := Lib.hid hno.out
    clear hno
    by_cases hlt : t < n
    · have hd : decide ((t : Int) < n) = true := decide_eq_true (by omega)
      obtain ⟨y, hy⟩ : ∃ y, l[t]? = some y := ⟨_, List.getElem?_eq_getElem (by rw [HL.out]; exact hlt)⟩
      obtain ⟨b, off, rfl, hb, hc⟩ := HR.out t (.int .i64 (y : Int)) (nts_get hy)
      by_cases hxy : x = y
      · have he : ((x : Int) == (y : Int)) = true := by rw [hxy]; simp
        have HM := Lib.hid (show ((0 : Int) ≤ (t : Int)) ↔ x ∈ l from ⟨fun _ => by rw [hxy]; exact List.mem_of_getElem? hy, fun _ => by omega⟩)
        clear hxy hy
        go_wp2
        go_ret
        exact ⟨⟨_, rfl, HM.out⟩, rfl⟩
      · have he : ((x : Int) == (y : Int)) = false := by
          rw [beq_eq_false_iff_ne]; omega
        have HNO2 := Lib.hid (show x ∉ l.take (t + 1) by
          rw [List.take_add_one, hy]
          intro h
          rcases List.mem_append.1 h with h | h
          · exact HNO.out h
          · exact hxy (by simpa using h))
        clear hxy hy
        go_wp2
        go_round
        case rel => exact ⟨t + 1, by omega, by go_num, Lib.hid HNO2.out⟩
        case measure => simp [intOf]; omega
    · have hd : decide ((t : Int) < n) = false := decide_eq_false (by omega)
      have hd2 : decide (t < n) = false := decide_eq_false (by omega)
      have HM := Lib.hid (show ((0 : Int) ≤ -1) ↔ x ∈ l from ⟨fun h => absurd h (by omega), fun h => by
        have h9 := HNO.out
        rw [List.take_of_length_le (by rw [HL.out]; omega)] at h9
        exact absurd h h9⟩)
      go_wp2
      go_ret
      exact ⟨⟨_, rfl, HM.out⟩, rfl⟩
theorem contains_any (q : Option Addr) (n k : Nat) (l : List Nat) (x : Nat) (w : World) (hl : l.length = n) (hn : n ≤ 1000000) (hr : Rd w w.heap.size q (nts l)) :
    Calls Tryd.prog 34 #[.slice q n k, .int .i64 (x : Int)] w fun e w' => e = .returned (.bool (decide (x ∈ l))) ∧ w' = w := by
  have HI := Lib.hid (index_any q n k l x w hl hn hr)
  clear hl hr
  go_enter Tryd.func34, Tryd.ntmps34
  go_wp2_with fail
  refine HI.out.mono ?_
  rintro e w1 ⟨⟨r, rfl, hr⟩, rfl⟩
  have HR := Lib.hid (show decide (0 ≤ r) = decide (x ∈ l) from decide_eq_decide.2 hr)
  clear hr
  go_wp2
  go_ret
  exact ⟨by rw [← HR.out]; rfl, rfl⟩
end Go.Proofs.YtghinmlpkgcdiaaDoor
