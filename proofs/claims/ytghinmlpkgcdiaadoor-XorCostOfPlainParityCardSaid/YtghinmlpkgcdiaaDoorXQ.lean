/- Schedules: running one, the plain words. Schedules: Run refuses. Schedules: Run, the walk. Schedules: the sanity example. -/
import Derived.Test.YtghinmlpkgcdiaaDoorXP
import Derived.Deep.Cut
/-! Schedules: running one, the plain words. -/
set_option linter.unusedVariables false
namespace Go.Proofs.YtghinmlpkgcdiaaDoor
namespace Xp

def bytesOf (s : ByteArray) (i : Nat) : Nat := (s.data.toList[i]?.getD 0).toNat
/-- the planes of all units -/
def runIn (m : Nat) (ss : List ByteArray) : List Nat := ss.flatMap fun s => plList m (bytesOf s) s.size 0
theorem plList_length (m : Nat) (f : Nat → Nat) (i k : Nat) : (plList m f i k).length = m := by simp [plList]
theorem runIn_length (m : Nat) (ss : List ByteArray) : (runIn m ss).length = ss.length * m := by
  unfold runIn
  induction ss with
  | nil => simp
  | cons r rs ih => rw [List.flatMap_cons, List.length_append, ih, plList_length, List.length_cons, Nat.add_mul]; omega
theorem runIn_take {m : Nat} {ss : List ByteArray} {t : Nat} {s : ByteArray} (h : ss[t]? = some s) : runIn m (ss.take (t + 1)) = runIn m (ss.take t) ++ plList m (bytesOf s) s.size 0 := by
  unfold runIn
  rw [List.take_add_one, h, List.flatMap_append]
  simp
/-- the plane of an output -/
def outN (R : List Nat) (r : Int) : Nat := if r < 0 then 0 else R[r.toNat]?.getD 0
/-- the planes of parity unit i -/
def outRow (m : Nat) (R : List Nat) (out : List Int) (i : Nat) : List Nat := (List.range m).map fun k => outN R (out[i * m + k]?.getD (-1))
/-- the parity units -/
def runOut (m n P : Nat) (R : List Nat) (out : List Int) : List (List UInt8) := (List.range P).map fun i => unitL m (fun K => (outRow m R out i)[K]?.getD 0) n
/-- do the units fit? -/
def fits (m : Nat) (ss : List ByteArray) : Bool := decide ((ss.headD ByteArray.empty).size % (m / 8) = 0) && !(ss.any fun s => (s.size : Int) != ((ss.headD ByteArray.empty).size : Int))
end Xp
end Go.Proofs.YtghinmlpkgcdiaaDoor
/-! Schedules: Run refuses. -/
namespace Go.Proofs.YtghinmlpkgcdiaaDoor
set_option linter.unusedSimpArgs false
set_option linter.unusedVariables false
open Go.RowKit Go.Lib

set_option maxRecDepth 100000 in
set_option maxHeartbeats 1600000 in
theorem run_no {m : Nat} (f d p : Int) (qo : Option Addr) (no ko : Nat) (qx : Option Addr) (nx kx : Nat) (ops : List (Int × Int)) (out : List Int) (qd : Option Addr) (nd kd : Nat) (ss : List ByteArray) (w : World) (ht : Tab w) (hno : no ≤ 9223372036854775807)
    (hlo : ops.length = no) (hro : Rd w w.heap.size qo (opsC ops)) (hlx : out.length = nx) (hrx : Rd w w.heap.size qx (ints out)) (hld : ss.length = nd) (hnd : nd ≤ 1000000) (hrd : Rd w w.heap.size qd (strs ss)) (hsz : ∀ s ∈ ss, s.size ≤ 1000)
    (h : Xp.okS f d p ops out = false ∨ (nd : Int) ≠ d ∨ (f = m ∧ Fld.IsM m ∧ 0 < nd ∧ Xp.okS f d p ops out = true ∧ (nd : Int) = d ∧ Xp.fits m ss = false)) :
    Calls Tryd.prog 15 #[schV f d p qo no ko qx nx kx, .slice qd nd kd] w fun e w' => e = .returned (.tuple #[.slice none 0 0, .int .i64 1]) ∧ Below w.heap.size w w' := by
  have HV := Lib.hid (fun (W : World) (hb : Below w.heap.size w W) => xvalid_any f d p qo no ko qx nx kx ops out W (ht.next hb) hno hlo ((hro.below hb).more hb.size) hlx ((hrx.below hb).more hb.size))
  have HCF := Lib.hid (fun (n : Int) (g : Nat) (W : World) (hb : Below w.heap.size w W) (hg : Row W g 3 #[.int .i64 n]) => rcont_any n g qd nd kd ss W hld hnd ((hrd.below hb).more hb.size) hg)
  have HRD := Lib.hid hrd
  have HLD := Lib.hid hld
  have HSZ := Lib.hid hsz
  obtain ⟨b1, e1⟩ : ∃ b, Xp.okS f d p ops out = b := ⟨_, rfl⟩
  obtain ⟨b2, e2⟩ : ∃ b, ((nd : Int) != d) = b := ⟨_, rfl⟩
  rw [e1] at HV h
  have HE2 := Lib.hid e2
  have hs : b1 = false ∨ (b1 = true ∧ b2 = true) ∨ (b1 = true ∧ b2 = false ∧ f = m ∧ Fld.IsM m ∧ 0 < nd ∧ Xp.fits m ss = false) := by
    rcases h with h | h | ⟨h1, h2, h3, h4, h5, h6⟩
    · exact .inl h
    · cases b1
      · exact .inl rfl
      · exact .inr (.inl ⟨rfl, by rw [← e2]; simpa using h⟩)
    · exact .inr (.inr ⟨h4, by rw [← e2]; simpa using h5, h1, h2, h3, h6⟩)
  unfold schV at HV ⊢
  have HW : Hid (Below w.heap.size w (w.alloc (.cells (schC f d p qo no ko qx nx kx) 30))) := Lib.hid ((Below.refl _ w).alloc (Nat.le_refl _) _)
  have HR : Hid (Row (w.alloc (.cells (schC f d p qo no ko qx nx kx) 30)) w.heap.size 30 (schC f d p qo no ko qx nx kx)) := Lib.hid (Row.new w _ _)
  clear ht hlo hro hlx hrx hld hrd hsz h e1
  rcases hs with rfl | ⟨rfl, rfl⟩ | ⟨rfl, rfl, rfl, hm, hnd0, hfit⟩
  · clear e2
    go_enter Tryd.func15, Tryd.ntmps15
    go_wp2_with fail
    refine (HV.out _ HW.out).mono ?_
    rintro e w1 ⟨rfl, hb⟩
    have HB1 := Lib.hid (below_call HW.out hb)
    clear hb
    go_wp2
    refine bodyPost_ret (v := .tuple #[.slice none 0 0, .int .i64 1]) ?_ rfl ⟨rfl, HB1.out⟩
    rw [results_tmp2 rfl]; rfl
  · go_enter Tryd.func15, Tryd.ntmps15
    go_wp2_with fail
    refine (HV.out _ HW.out).mono ?_
    rintro e w1 ⟨rfl, hb⟩
    have HB1 := Lib.hid (below_call HW.out hb)
    obtain ⟨c0, c1, c2, c3, c4⟩ := sbox (HR.out.below hb HR.out.lt)
    clear hb
    go_wp2
    refine bodyPost_ret (v := .tuple #[.slice none 0 0, .int .i64 1]) ?_ rfl ⟨rfl, HB1.out⟩
    rw [results_tmp2 rfl]; rfl
  · obtain ⟨s0, hs0⟩ : ∃ s0, ss[0]? = some s0 := ⟨_, List.getElem?_eq_getElem (by rw [HLD.out]; exact hnd0)⟩
    have hs0n := HSZ.out s0 (List.mem_of_getElem? hs0)
    unfold Xp.fits at hfit
    have hhd : ss.headD ByteArray.empty = s0 := by
      cases ss with
      | nil => simp at hs0
      | cons a l => simpa using hs0
    rw [hhd] at hfit
    have HFIT := Lib.hid hfit
    have HS0 := Lib.hid hs0
    obtain ⟨z, hz⟩ : ∃ z, m / 8 = z := ⟨_, rfl⟩
    have hz12 : 1 ≤ z ∧ z ≤ 2 := by rcases hm with rfl | rfl <;> omega
    have hm16 : 8 ≤ m ∧ m ≤ 16 := by rcases hm with rfl | rfl <;> omega
    have hq1 : (m : Int) / 8 = (z : Int) := by omega
    have HZ := Lib.hid hz
    obtain ⟨r, hr⟩ : ∃ r, s0.size % z = r := ⟨_, rfl⟩
    have hq2 : ((s0.size : Nat) : Int) % (z : Int) = (r : Int) := by rw [← Int.natCast_emod, hr]
    have HRR := Lib.hid hr
    clear hs0 hfit hz hr hm hhd
    go_enter Tryd.func15, Tryd.ntmps15
    go_wp2_with fail
    refine (HV.out _ HW.out).mono ?_
    rintro e w1 ⟨rfl, hb⟩
    have HB1 := Lib.hid (below_call HW.out hb)
    have HR1 := Lib.hid (HR.out.below hb HR.out.lt)
    obtain ⟨c0, c1, c2, c3, c4⟩ := sbox HR1.out
    obtain ⟨b, off, rfl, hbl, hc⟩ := (HRD.out.below HB1.out) 0 (.string s0) (by rw [strs, List.getElem?_map, HS0.out]; rfl)
    rw [Nat.add_zero] at hc
    have hz1 : w.heap.size < w1.heap.size := HR1.out.lt
    have HG := Lib.hid (show Row (w1.alloc (.cells #[.int .i64 ((s0.size : Nat) : Int)] 3)) w1.heap.size 3 #[.int .i64 ((s0.size : Nat) : Int)] from Row.new _ _ _)
    have HB2 := Lib.hid (HB1.out.alloc HB1.out.size (.cells #[.int .i64 ((s0.size : Nat) : Int)] 3))
    clear hb
    by_cases hr0 : r = 0
    · have hd : ((r : Int) != 0) = false := by simp; omega
      have hany : (ss.any fun s => (s.size : Int) != ((s0.size : Nat) : Int)) = true := by
        have h9 := HFIT.out
        rw [HZ.out, HRR.out, decide_eq_true hr0, Bool.true_and, Bool.not_eq_false'] at h9
        exact h9
      have HC2 := Lib.hid (HCF.out ((s0.size : Nat) : Int) w1.heap.size _ HB2.out HG.out)
      rw [hany] at HC2
      clear hany hr0
      go_wp2_with fail
      refine HC2.out.mono ?_
      rintro e w2 ⟨rfl, rfl⟩
      go_wp2
      refine bodyPost_ret (v := .tuple #[.slice none 0 0, .int .i64 1]) ?_ rfl ⟨rfl, HB2.out⟩
      rw [results_tmp2 rfl]; rfl
    · have hd : ((r : Int) != 0) = true := by simp; omega
      go_wp2
      refine bodyPost_ret (v := .tuple #[.slice none 0 0, .int .i64 1]) ?_ rfl ⟨rfl, HB2.out⟩
      rw [results_tmp2 rfl]; rfl
end Go.Proofs.YtghinmlpkgcdiaaDoor
/-! Schedules: Run, the walk. -/
namespace Go.Proofs.YtghinmlpkgcdiaaDoor
set_option linter.unusedSimpArgs false
set_option linter.unusedVariables false
open Go.RowKit Go.Shelf Go.Lib
attribute [local go_sem] Oper.semAt_some

theorem calls_round {l n : Nat} {P : Program} {f : FuncId} {args : Array Value} {w : World} {R : Ending → World → Prop} (h : Calls P f args w R) : CallsIn (Fence.wide.inRound l) n P f args w R :=
  show CallsIn Fence.wide n P f args w R from callsIn_wide.2 h
theorem Only.later {X : Nat → Prop} {w A A' : World} {B : Nat} (h : Only X w A) (hb : Below B A A') (hB : w.heap.size ≤ B) : Only X w A' :=
  ⟨hb.os.trans h.os, hb.tape.trans h.tape, hb.output.trans h.output, Nat.le_trans h.size hb.size, fun i hi hx => (hb.block i (by omega)).trans (h.block i hi hx)⟩
theorem wpListIn_app {F : Fence} {fuel : Nat} {P : Program} {w : World} {ops : Array Oper} {rest : List Oper} {o : Oper} {act : Act} {Q : Exit → Act → World → Prop} (hgd : o.guard = none) (s x : Operand) (t : TypeId)
    (ho : o.op = .call { callee := .builtin .append, args := #[s, x], argTypes := #[t, t] })
    (B : Nat) (e : TypeId) (z : Value) (bytes : Nat) (ht : P.underlying t = some (.slice e)) (he : Elem P e z bytes) (hzs : z.cells.size = 1)
    (a : Option Addr) (n c : Nat) (xs : List Value) (hs : act.eval s = .slice a n c) (hown : Own w B e a n c xs)
    (B2 : Nat) (A : Option Addr) (m mc : Nat) (news : List Value) (hx : act.eval x = .slice A m mc) (hr : Rd w B2 A news) (hl : news.length = m) (h1 : ∀ u ∈ news, u.oneCell' = true)
    (h63 : n + m ≤ maxLen) (hbytes : (n + m) * bytes ≤ 140737488355328) (hbase : B ≤ w.heap.size)
    (h : ∀ a' c' w', Own w' B e a' (n + m) c' (xs ++ news) → w.grownBy w' (Value.slice a n c).ownBlock → wpListIn F fuel P ops Q rest (act.put o.dst (.slice a' (n + m) c')) w') : wpListIn F fuel P ops Q (o :: rest) act w := by
  refine wpListIn_plain hgd fun K hK => ?_
  obtain ⟨a', c', w', hrun, h2, h3⟩ := run_app (P := P) w B t o.type e z bytes ht he hzs a n c xs hown B2 A m mc news hr hl h1 h63 hbytes hbase
  unfold Oper.wpIn
  refine ⟨by simp [Oper.about, ho, resolve, Target.leads, Sem.run_pure], ?_⟩
  rw [Oper.semAt_plain F _ _ (by rw [ho]; intro c hc'; cases hc')]
  simp [execOp, ho, resolve, invoke, builtin, hs, hx, hrun, Result.andThen]
  exact hK _ _ (h a' c' w' h2 h3)
theorem Keeps.only {X : Nat → Prop} {e : TypeId} {w A : World} (h : Only X w A) (hx : ∀ k, X k → ∃ e2 cs, Row w k e2 cs ∧ e ≠ e2) : Keeps e w A := fun g cs hr =>
  h.row hr (fun hX => by obtain ⟨e2, cs2, h2, hne⟩ := hx g hX; exact hne (Row.type hr h2))
theorem Own.only {X : Nat → Prop} {w A : World} {B : Nat} {e : TypeId} {a : Option Addr} {n c : Nat} {xs : List Value} (h : Only X w A) (ho : Own w B e a n c xs) (hx : ∀ g, a = some ⟨g, 0, none⟩ → ¬ X g) : Own A B e a n c xs :=
  ho.kept fun g hg => h.block g (ho.lt hg).2 (hx g hg)
/-- the strings' values -/
def strsB (OUT : List (List UInt8)) : List Value := OUT.map fun l => .string (strB l)
theorem strsB_take {OUT : List (List UInt8)} {c : Nat} {u : List UInt8} (h : OUT[c]? = some u) : strsB (OUT.take (c + 1)) = strsB (OUT.take c) ++ [.string (strB u)] := by
  unfold strsB; rw [List.take_add_one, h, List.map_append]; rfl
theorem runOut_get {m n P : Nat} {R : List Nat} {out : List Int} {c : Nat} (h : c < P) : (Xp.runOut m n P R out)[c]? = some (Xp.unitL m (fun K => (Xp.outRow m R out c)[K]?.getD 0) n) := by
  unfold Xp.runOut; rw [List.getElem?_map, List.getElem?_range h]; rfl
theorem outRow_take {m c i : Nat} {R : List Nat} {out : List Int} {x : Int} (hi : i < m) (hx : out[c * m + i]? = some x) : (Xp.outRow m R out c).take (i + 1) = (Xp.outRow m R out c).take i ++ [Xp.outN R x] := by
  rw [List.take_add_one]
  congr 1
  unfold Xp.outRow
  rw [List.getElem?_map, List.getElem?_range hi]
  simp [hx]
theorem outRow_length (m c : Nat) (R : List Nat) (out : List Int) : (Xp.outRow m R out c).length = m := by unfold Xp.outRow; simp
theorem cell_new (w : World) (e : TypeId) (u : Value) : ∀ (j : Nat) (v : Value), [u][j]? = some v → (w.alloc (.cells #[u] e)).cell? ((⟨w.heap.size, 0, none⟩ : Addr).add j) = some v := by
  intro j v hv
  rw [addr_add, Nat.zero_add, (Row.new w e #[u]).cell j, ← hv, ← Array.getElem?_toList]
theorem make_strs : (Tryd.prog.info? 9).map (fun i => (i.zero, i.size, i.bytes)) = some (some (.string ⟨#[]⟩), 1, 16) := by kernel_rfl
/-- an append that fits, at one operation of a drawn region: its run is known -/
theorem ready_app {F : Fence} {fuel : Nat} {P : Program} {w w' : World} {ys : Nat → Option Bool} {o : Oper} {act : Act} {K : Act → World → Prop} {Q : Exit → Act → World → Prop} {R : Prop} (hgd : o.guard = none) (s x : Operand) (t : TypeId)
    (ho : o.op = .call { callee := .builtin .append, args := #[s, x], argTypes := #[t, t] }) {vs vx v : Value} (hs : act.eval s = vs) (hx : act.eval x = vx)
    (hrun : (Builtin.append_ #[t, t] o.type #[vs, vx]).run P w = .ok v w') (h : K (act.put o.dst v) w') :
    if Region.wanted o ys = true then Oper.wpIn F fuel P o act w K Q else R := by
  rw [if_pos (by simp [Region.wanted, hgd])]
  unfold Oper.wpIn
  refine ⟨by simp [Oper.about, ho, resolve, Target.leads, Sem.run_pure], ?_⟩
  rw [Oper.semAt_plain F _ _ (by rw [ho]; intro c hc'; cases hc')]
  simp [execOp, ho, resolve, invoke, builtin, hs, hx, hrun, Result.andThen]
  exact h
set_option maxRecDepth 100000 in
set_option maxHeartbeats 12800000 in
theorem run_yes {m D : Nat} (hm : Fld.IsM m) (p : Nat) (qo : Option Addr) (no ko : Nat) (qx : Option Addr) (nx kx n NS : Nat) (ops : List (Int × Int)) (out : List Int) (qd : Option Addr) (kd : Nat) (ss : List ByteArray) (w : World) (ht : Tab w) (hno : no ≤ 131072)
    (hlo : ops.length = no) (hro : Rd w w.heap.size qo (opsC ops)) (hlx : out.length = nx) (hrx : Rd w w.heap.size qx (ints out)) (hkx : nx ≤ kx) (hkx2 : kx ≤ maxLen) (hok : Xp.okS m D p ops out = true) (hD : 1 ≤ D)
    (hld : ss.length = D) (hrd : Rd w w.heap.size qd (strs ss)) (hsz : ∀ s ∈ ss, s.size = n) (hnz : n = NS * (m / 8)) (hn : n ≤ 1000) :
    Calls Tryd.prog 15 #[schV m D p qo no ko qx nx kx, .slice qd D kd] w fun e w' => (∃ q k, e = .returned (.tuple #[.slice q p k, .int .i64 0]) ∧ Own w' w.heap.size 9 q p k ((Xp.runOut m n p (Xp.regs (Xp.runIn m ss) (natO ops)) out).map fun l => .string (strB l))) ∧ Below w.heap.size w w' := by
  have HV := Lib.hid (fun (W : World) (hb : Below w.heap.size w W) => xvalid_any m D p qo no ko qx nx kx ops out W (ht.next hb) (by omega) hlo ((hro.below hb).more hb.size) hlx ((hrx.below hb).more hb.size))
  rw [hok] at HV
  have HCF := Lib.hid (fun (g : Nat) (W : World) (hb : Below w.heap.size w W) (hg : Row W g 3 #[.int .i64 (n : Int)]) => show Calls Tryd.prog 42 #[.slice qd D kd, .func (.func 43) #[] #[.pointer (some ⟨g, 0, none⟩)]] W fun e w' => e = .returned (.bool false) ∧ w' = W from by
    have h9 := rcont_any n g qd D kd ss W hld (by
      unfold Xp.okS Xp.headOk at hok
      simp only [Bool.and_eq_true, decide_eq_true_eq] at hok
      omega) ((hrd.below hb).more hb.size) hg
    rw [show (ss.any fun s => (s.size : Int) != (n : Int)) = false by
      rw [List.any_eq_false]
      intro s hs
      rw [hsz s hs]
      simp] at h9
    exact h9)
  have h' := hok
  unfold Xp.okS at h'
  rw [Bool.and_eq_true, Bool.and_eq_true, hlo] at h'
  obtain ⟨⟨hhd, hops⟩, hall⟩ := h'
  unfold Xp.headOk at hhd
  simp only [Bool.and_eq_true, decide_eq_true_eq] at hhd
  obtain ⟨⟨⟨⟨⟨⟨_, hd1⟩, hd2⟩, hd3⟩, hd4⟩, _⟩, hnxp⟩ := hhd
  rw [hlx] at hnxp
  have hnxp2 : nx = p * m := by
    have : ((p * m : Nat) : Int) = (p : Int) * m := by simp
    omega
  have hm16 : 8 ≤ m ∧ m ≤ 16 := by rcases hm with rfl | rfl <;> omega
  have hDm : D * m ≤ 512 := by have := Nat.mul_le_mul (show D ≤ 32 by omega) hm16.2; omega
  have hpm : nx ≤ 512 := by have := Nat.mul_le_mul (show p ≤ 32 by omega) hm16.2; omega
  have hDm8 : 8 ≤ D * m := by have := Nat.mul_le_mul hD hm16.1; omega
  obtain ⟨NI, hNI⟩ : ∃ NI, D * m = NI := ⟨_, rfl⟩
  have hops2 : Xp.opsOk (NI : Int) ops = true := by rw [← hNI]; have : ((D * m : Nat) : Int) = (D : Int) * m := by simp
                                                    rw [this]; exact hops
  obtain ⟨W, hW⟩ : ∃ W, (NS + 63) / 64 = W := ⟨_, rfl⟩
  obtain ⟨z, hz⟩ : ∃ z, m / 8 = z := ⟨_, rfl⟩
  have hz12 : 1 ≤ z ∧ z ≤ 2 := by rcases hm with rfl | rfl <;> omega
  have hNS : NS ≤ 1000 := by
    rw [hz] at hnz
    have : NS * 1 ≤ NS * z := Nat.mul_le_mul_left _ hz12.1
    omega
  have hW16 : W ≤ 16 := by omega
  have hq1 : (m : Int) / 8 = (z : Int) := by omega
  have hq2 : (n : Int) % (z : Int) = 0 := by rw [hnz, hz, ← Int.natCast_emod, Nat.mul_mod_left]; rfl
  have HPL := Lib.hid (fun (s : ByteArray) (hs : s.size = n) (W2 : World) => planes_any (m := m) hm s NS W W2 (by rw [hs]; exact hnz) (by omega) hW)
  have HEV := Lib.hid (fun (W2 : World) (hb : Below w.heap.size w W2) (qi : Option Addr) (ki : Nat) (us : List Value) (hri : Rd W2 W2.heap.size qi us) (hrg : RegsOf W2 W us (Xp.runIn m ss)) => eval_any m D p qo no ko qx nx kx ops W NI qi ki us (Xp.runIn m ss) W2 (by omega) (by omega) hno hlo ((hro.below hb).more hb.size) hops2 (by rw [Xp.runIn_length, hld, hNI]) hri hrg)
  have HMW := make_words W (by omega)
  obtain ⟨R, hR⟩ : ∃ R, Xp.regs (Xp.runIn m ss) (natO ops) = R := ⟨_, rfl⟩
  have HRLEN := Lib.hid (show R.length = NI + no by rw [← hR, Xp.regs_length, natO_length, Xp.runIn_length, hld, hlo, hNI])
  rw [hR] at HEV ⊢
  obtain ⟨OUT, hOUT⟩ : ∃ OUT, Xp.runOut m n p R out = OUT := ⟨_, rfl⟩
  have HOUT := Lib.hid hOUT
  rw [hOUT]
  have HUN := Lib.hid (fun (ql : Option Addr) (kl : Nat) (vs : List Value) (ns : List Nat) (W2 : World) (hl : ns.length = m) (hr : Rd W2 W2.heap.size ql vs) (hrg : RegsOf W2 W vs ns) => unit_any hm ql kl n NS W vs ns W2 hnz hn hW hl hr hrg)
  have HALL := Lib.hid (fun (i : Nat) (x : Int) (hx : out[i]? = some x) => show -1 ≤ x ∧ x < (NI : Int) + no by
    have h9 := List.all_eq_true.1 hall x (List.mem_of_getElem? hx)
    unfold Xp.outOk at h9
    simp only [Bool.and_eq_true, decide_eq_true_eq] at h9
    have : ((D * m : Nat) : Int) = (D : Int) * m := by simp
    omega)
  have HRX := Lib.hid hrx
  have HLX := Lib.hid hlx
  have HRD := Lib.hid hrd
  have HLD := Lib.hid hld
  have HSZ := Lib.hid hsz
  have HM := Lib.hid hm
  have HNXP := Lib.hid hnxp2
  have HNI := Lib.hid hNI
  have hNI8 : 8 ≤ NI ∧ NI ≤ 512 := by omega
  have HWW := Lib.hid hW
  unfold schV at HV HEV ⊢
  have HWB : Hid (Below w.heap.size w (w.alloc (.cells (schC m D p qo no ko qx nx kx) 30))) := Lib.hid ((Below.refl _ w).alloc (Nat.le_refl _) _)
  have HR0 : Hid (Row (w.alloc (.cells (schC m D p qo no ko qx nx kx) 30)) w.heap.size 30 (schC m D p qo no ko qx nx kx)) := Lib.hid (Row.new w _ _)
  have hp32 : p ≤ 32 := by omega
  have hD32 : D ≤ 32 := by omega
  clear ht hlo hro hlx hrx hok hld hrd hsz hops hall hnxp hops2 hW hR hOUT hnxp2 hm hz hd1 hd2 hd3 hd4 hnz hNI hDm hDm8
  refine (callsIn_wide (n := 5)).1 ?_
  refine callsIn_of_wp_marks Tryd.func15 rfl trivial ?_ rfl
  simp only [Tryd.ntmps15, List.size_toArray, List.length_cons, List.length_nil, Nat.reduceAdd, Nat.reduceSub, Array.replicate_succ, Array.replicate_zero, List.push_toArray, List.append_toArray, List.nil_append, List.cons_append]
  refine wpIn_wide.2 ?_
  go_wp2_with fail
  refine (HV.out _ HWB.out).mono ?_
  rintro e w1 ⟨rfl, hb⟩
  have HB1 := Lib.hid (below_call HWB.out hb)
  have HR1 := Lib.hid (HR0.out.below hb HR0.out.lt)
  obtain ⟨c0, c1, c2, c3, c4⟩ := sbox HR1.out
  obtain ⟨s0, hs0⟩ : ∃ s0, ss[0]? = some s0 := ⟨_, List.getElem?_eq_getElem (by rw [HLD.out]; omega)⟩
  obtain ⟨bd, offd, rfl, hbl, hc⟩ := (HRD.out.below HB1.out) 0 (.string s0) (by rw [strs, List.getElem?_map, hs0]; rfl)
  have hsn := HSZ.out s0 (List.mem_of_getElem? hs0)
  rw [Nat.add_zero] at hc
  have hz1 : w.heap.size < w1.heap.size := HR1.out.lt
  have HG1 := Lib.hid (show Row (w1.alloc (.cells #[.int .i64 (n : Int)] 3)) w1.heap.size 3 #[.int .i64 (n : Int)] from Row.new _ _ _)
  have HB2 := Lib.hid (HB1.out.alloc HB1.out.size (.cells #[.int .i64 (n : Int)] 3))
  have HR2 := Lib.hid (HR1.out.alloc (.cells #[.int .i64 (n : Int)] 3))
  have hsn2 : ((s0.size : Nat) : Int) = (n : Int) := by rw [hsn]
  clear hb hs0 hsn HWB HR0
  go_wp2_with fail
  refine (HCF.out _ _ HB2.out HG1.out).mono ?_
  rintro e w2 ⟨rfl, rfl⟩
  go_wp2_with fail
  clear c0 c1 c2 c3 c4 hc hsn2
  obtain ⟨w3, hw3⟩ : ∃ w3, w3 = w1.alloc (.cells #[.int .i64 (n : Int)] 3) := ⟨_, rfl⟩
  rw [← hw3] at HB2 HR2 HG1 ⊢
  have hz3 : w1.heap.size < w3.heap.size := by rw [hw3]; simp
  clear hw3 HB1 HR1
  go_loopw [7, 44] (fun s i wr => ∃ (t n1 : Nat) (q : Option Addr) (k : Nat) (vs : List Value), t ≤ D ∧ i = .int .i64 t ∧ s = .slice q n1 k ∧ Hid (n1 = t * m) ∧ Own wr w3.heap.size 80 q n1 k vs ∧ RegsOf wr W vs (Xp.runIn m (ss.take t)) ∧ Below w3.heap.size w3 wr) (fun _ i _ => D - (intOf i).toNat)
  case atStart => exact ⟨0, 0, none, 0, [], Nat.zero_le _, rfl, rfl, Lib.hid (by simp), Own.nil _ _ _, RegsOf.nil _ _, Below.refl _ _⟩
  case round =>
    obtain ⟨t, n1, q, k, vs, htD, rfl, rfl, hn1, ho, hg, hb⟩ := hrel
    have HN1 := Lib.hid hn1.out
    have HO := Lib.hid ho
    have HG := Lib.hid hg
    have HB := Lib.hid hb
    have hsw := hb.size
    have hn512 : n1 ≤ 512 := by
      have h1 : t * m ≤ D * m := Nat.mul_le_mul_right _ htD
      have h2 := hn1.out
      have h3 := HNI.out
      have h4 := hNI8.2
      omega
    clear hn1 ho hg hb
    obtain ⟨c0, c1, c2, c3, c4⟩ := sbox (HR2.out.below HB.out HR2.out.lt)
    by_cases hlt : t < D
    · have hd : decide ((t : Int) < D) = true := decide_eq_true (by omega)
      obtain ⟨s, hs⟩ : ∃ s, ss[t]? = some s := ⟨_, List.getElem?_eq_getElem (by rw [HLD.out]; exact hlt)⟩
      obtain ⟨b', off', eb, hbl', hcs⟩ := ((HRD.out.below HB2.out).below (HB.out.mono HB2.out.size)) t (.string s) (by rw [strs, List.getElem?_map, hs]; rfl)
      injection eb with eb
      injection eb with eb1 eb2
      subst eb1; subst eb2
      have HSS := Lib.hid hs
      have HP := Lib.hid (HPL.out s (HSZ.out s (List.mem_of_getElem? hs)) wr)
      clear hs
      go_wp2_with fail
      refine HP.out.mono ?_
      rintro e w4 ⟨⟨q4, k4, vs4, rfl, ho4, hf4⟩, hb4⟩
      have HO4 := Lib.hid ho4
      have HF4 := Lib.hid hf4
      have HB4 := Lib.hid (below_call HB.out hb4)
      have HO5 := Lib.hid (HO.out.below hb4)
      have HG5 := Lib.hid (show RegsOf w4 W (vs ++ vs4) (Xp.runIn m (ss.take (t + 1))) by rw [Xp.runIn_take HSS.out]; exact (HG.out.keeps (Keeps.of_below hb4)).append hf4.regs)
      have HV4 := Lib.hid (show ∀ u ∈ vs4, u.oneCell' = true from hf4.regs.one)
      have HL4 := Lib.hid (show vs4.length = m by rw [hf4.len, Xp.plList_length])
      have hs4 := hb4.size
      clear ho4 hf4 hb4 hcs c0 c1 c2 c3 c4
      go_wp2_with (refine wpList_app _ rfl (.tmp 48) (.tmp 52) 76 rfl w3.heap.size 80 (.slice none 0 0) 24 Tryd.underlying76 elem_lists rfl q n1 k vs rfl HO5.out _ q4 m k4 vs4 rfl HO4.out.rd HL4.out HV4.out (by unfold maxLen; omega) (by omega) (by omega) ?_; intro a9 k9 w9 ho9 hg9; have HO9 := Lib.hid ho9; have HB9 := Lib.hid (below_grown2 HB4.out hg9 HO5.out (by omega) (Nat.le_refl _)); have HG9 := Lib.hid (HG5.out.keeps ((Keeps.refl 85 w4).grown HO5.out hg9 (by decide))); clear ho9 hg9)
      go_roundw
      case rel => exact ⟨t + 1, n1 + m, a9, k9, _, by omega, by go_num, rfl, Lib.hid (by rw [HN1.out, Nat.add_mul, Nat.one_mul]), HO9.out, HG9.out, HB9.out⟩
      case measure => simp [intOf]; omega
    · have hd : decide ((t : Int) < D) = false := decide_eq_false (by omega)
      obtain rfl : n1 = NI := by rw [HN1.out, ← HNI.out, show t = D by omega]
      have HG2 := Lib.hid (show RegsOf wr W vs (Xp.runIn m ss) from by
        have := HG.out
        rwa [List.take_of_length_le (by rw [HLD.out]; omega)] at this)
      have HBW := Lib.hid (HB2.out.trans (HB.out.mono HB2.out.size))
      have HR3 := Lib.hid (HR2.out.below HB.out HR2.out.lt)
      have HG3 := Lib.hid (HG1.out.below HB.out (by omega))
      go_wp2_with fail
      refine (HEV.out _ HBW.out _ _ _ HO.out.rd HG2.out).mono ?_
      rintro e w5 ⟨⟨q5, k5, vs5, rfl, ho5, hg5⟩, hb5⟩
      have HO5 := Lib.hid ho5
      have HG5 := Lib.hid hg5
      have HB5 := Lib.hid (below_call HBW.out hb5)
      have HR5 := Lib.hid (HR3.out.below hb5 HR3.out.lt)
      have HN5 := Lib.hid (HG3.out.below hb5 HG3.out.lt)
      have hs5 := hb5.size
      obtain ⟨v0, hv0, q0, k0, rfl, _⟩ := HG2.out.2 0 _ (List.getElem?_eq_getElem (by rw [Xp.runIn_length, HLD.out, HNI.out]; omega))
      obtain ⟨gi, rfl, hgi1, hgi2, hci, _⟩ := HO.out.at_ (k := 0) (by omega)
      rw [hv0] at hci
      have hgi5 : gi < w5.heap.size := by omega
      have hci5 := (hb5.cell (p := ⟨gi, 0, none⟩) hgi2).trans hci
      clear ho5 hg5 hb5 c0 c1 c2 c3 c4 hv0 hci
      go_upto_region 14 with fail
      obtain ⟨w6, hw6⟩ : ∃ w6, w6 = ((w5.alloc (.cells #[.slice q5 (n1 + no) k5] 76)).alloc (.cells (madeCells #[.int .u64 0] W) 85)).alloc (.cells #[.slice (some ⟨w5.heap.size + 1, 0, none⟩) W W] 80) := ⟨_, rfl⟩
      rw [← hw6]
      have hb56 : Below w5.heap.size w5 w6 := by rw [hw6]; exact (((Below.refl _ w5).alloc (Nat.le_refl _) _).alloc (by simp) _).alloc (by simp; omega) _
      have hsz6 : w6.heap.size = w5.heap.size + 3 := by rw [hw6]; simp
      have HRR := Lib.hid (show Row w6 w5.heap.size 76 #[.slice q5 (n1 + no) k5] by rw [hw6]; exact ((Row.new w5 _ _).alloc _).alloc _)
      have HZR := Lib.hid (show Row w6 (w5.heap.size + 2) 80 #[.slice (some ⟨w5.heap.size + 1, 0, none⟩) W W] by rw [hw6]; exact Row.made _ _ (by simp))
      have HZB := Lib.hid (show Bit w6 W (.slice (some ⟨w5.heap.size + 1, 0, none⟩) W W) 0 by
        have h9 := Own.new (w5.alloc (.cells #[.slice q5 (n1 + no) k5] 76)) 0 85 (madeCells #[.int .u64 0] W) W (Nat.zero_le _) (by rw [← Array.length_toList, toList_madeCells_one, List.length_replicate]) (by unfold maxLen; omega)
        rw [toList_madeCells_one, words0, size1] at h9
        rw [hw6]
        exact Bit.of_own (h9.alloc _) (fun _ _ => rfl))
      have HB6 := Lib.hid (below_call HB5.out hb56)
      have HR6 := Lib.hid (HR5.out.below hb56 HR5.out.lt)
      have HN6 := Lib.hid (HN5.out.below hb56 HN5.out.lt)
      have HO6 := Lib.hid (HO5.out.below hb56)
      have HG6 := Lib.hid (HG5.out.keeps (Keeps.of_below hb56))
      have hz6 : w.heap.size < w6.heap.size := HR6.out.lt
      have hsz6' : w5.heap.size + 2 < w6.heap.size := by omega
      clear hw6 hb56 hci5 hsz6
      obtain ⟨c0, c1, c2, c3, c4⟩ := sbox HR6.out
      obtain ⟨iS, hiS, hs0, hs1, hs2⟩ := info_parts make_strs
      go_wp2_with (refine wpList_make_own _ rfl (.const (.int .i64 0)) (.tmp 64) 36 rfl w6.heap.size 9 iS _ 1 Tryd.underlying36 hiS hs0 hs1 .i64 .i64 (p : Int) p rfl rfl rfl (by rw [hs2]; omega) (by unfold maxLen; omega) (Nat.le_refl _) ?_; intro w7 ho7 hg7; have HO7 := Lib.hid (show Own w7 w6.heap.size 9 _ 0 p [] from ho7); have HB7 := Lib.hid (below_grown2 (Below.refl w6.heap.size w6) hg7 (Own.nil _ w6.heap.size 9) (Nat.le_refl _) (Nat.le_refl _)); clear ho7 hg7; (obtain ⟨c0, c1, c2, c3, c4⟩ := sbox (HR6.out.below HB7.out HR6.out.lt)); have hz7 := HO7.out.lt rfl; have hz71 : w.heap.size < w7.heap.size := by omega)
      obtain ⟨b, off, HQB⟩ : ∃ b off, Hid (0 < p → qx = some ⟨b, off, none⟩) := by
        by_cases hp0 : 0 < p
        · have hx0 : 0 < nx := by rw [HNXP.out]; exact Nat.mul_pos hp0 (by omega)
          obtain ⟨b, off, e, _⟩ := HRX.out 0 (.int .i64 (out[0]'(by rw [HLX.out]; exact hx0))) (by rw [ints, List.getElem?_map, List.getElem?_eq_getElem (by rw [HLX.out]; exact hx0)]; rfl)
          exact ⟨b, off, Lib.hid fun _ => e⟩
        · exact ⟨0, 0, Lib.hid fun h => absurd h hp0⟩
      have HBW7 := Lib.hid (HB6.out.trans (HB7.out.mono HB6.out.size))
      clear c0 c1 c2 c3 c4
      refine (chunk_any qx nx kx (m : Int) (by omega) _).mono ?_
      rintro e w8x ⟨rfl, rfl⟩
      obtain ⟨w8, hw8⟩ : ∃ w8, w8 = ((w7.alloc (.cells #[.slice (some ⟨w6.heap.size, 0, none⟩) 0 p] 36)).alloc (.cells #[.slice qx nx kx] 27)).alloc (.cells #[.int .i64 (m : Int)] 3) := ⟨_, rfl⟩
      rw [← hw8]
      have hz8 : w8.heap.size = w7.heap.size + 3 := by rw [hw8]; simp
      have HZ8 := Lib.hid hz8
      have hb78 : Below w7.heap.size w7 w8 := by rw [hw8]; exact (((Below.refl _ w7).alloc (Nat.le_refl _) _).alloc (by simp) _).alloc (by simp; omega) _
      have hz67 : w6.heap.size < w7.heap.size := (HO7.out.lt rfl).2
      have HL8 := Lib.hid (show Row w8 w7.heap.size 36 #[.slice (some ⟨w6.heap.size, 0, none⟩) 0 p] by rw [hw8]; exact ((Row.new w7 _ _).alloc _).alloc _)
      have HC8 := Lib.hid (show Row w8 (w7.heap.size + 1) 27 #[.slice qx nx kx] by rw [hw8]; exact (Row.made _ _ (by simp)).alloc _)
      have HM8 := Lib.hid (show Row w8 (w7.heap.size + 2) 3 #[.int .i64 (m : Int)] by rw [hw8]; exact Row.made _ _ (by simp))
      have hb68 : Below w6.heap.size w6 w8 := HB7.out.trans (hb78.mono (by omega))
      have HO8 := Lib.hid (HO7.out.below hb78)
      have HRR8 := Lib.hid (HRR.out.below hb68 HRR.out.lt)
      have HZR8 := Lib.hid (HZR.out.below hb68 HZR.out.lt)
      have HZB8 := Lib.hid (HZB.out.keeps (Keeps.of_below hb68))
      have HN8 := Lib.hid (HN6.out.below hb68 HN6.out.lt)
      have HG8 := Lib.hid (HG6.out.keeps (Keeps.of_below hb68))
      have HOR8 := Lib.hid (HO6.out.below hb68)
      have HBW8 := Lib.hid (show Below w.heap.size w w8 from below_call HB6.out hb68)
      obtain ⟨csS, hcsS, _⟩ := HO8.out.row rfl
      have HSS8 := Lib.hid hcsS
      have HK8 := Lib.hid (fun (A : World) (h : Only (fun k => k = w6.heap.size ∨ k = w7.heap.size) w8 A) => show Keeps 85 w8 A from Keeps.only h (by
        rintro k (rfl | rfl)
        · exact ⟨_, _, HSS8.out, by decide⟩
        · exact ⟨_, _, HL8.out, by decide⟩))
      have hlt5 : w5.heap.size < w6.heap.size := HRR.out.lt
      have hlt52 : w5.heap.size + 2 < w6.heap.size := HZR.out.lt
      have hN6lt : w1.heap.size < w6.heap.size := HN6.out.lt
      have HB68 := Lib.hid hb68
      clear hw8 hb78 hb68 hcsS HB7 HO7 HRR HZR HZB HN6 HG6 HB6 HR6 HBW7 HG5 HB5 HO5 HR5 HN5 HG3 HR3 HG2 hz8
      go_wp2_with fail
      refine (wpIn_wide (n := 5)).1 ?_
      refine wp_range (gf := 78) (lb := #[.pointer (some ⟨w7.heap.size + 1, 0, none⟩), .pointer (some ⟨w7.heap.size + 1 + 1, 0, none⟩)]) rfl (enters_of Tryd.func78 (by kernel_rfl) rfl)
        (chunk_gives qx b off nx kx m p (w7.heap.size + 1) (w7.heap.size + 1 + 1) w8 HQB.out HC8.out HM8.out (by omega) (by omega) HNXP.out hkx hpm hkx2) (Below.refl _ _) (fun _ => rfl)
        (fun k => k = w6.heap.size ∨ k = w7.heap.size) (fun k h => by have := HZ8.out; omega) (fun k h => by have := HZ8.out; omega)
        (fun pre A => Only (fun k => k = w6.heap.size ∨ k = w7.heap.size) w8 A ∧ Row A w7.heap.size 36 #[.slice (some ⟨w6.heap.size, 0, none⟩) pre.length p] ∧ Own A w6.heap.size 9 (some ⟨w6.heap.size, 0, none⟩) pre.length p (strsB (OUT.take pre.length)))
        (fun c pre A => False) (fun pre A A' hs h hb => ⟨h.1.later hb (Nat.le_refl _), h.2.1.below hb (by have := HZ8.out; omega), h.2.2.kept fun g hg => hb.block g (by injection hg with hg; injection hg with hg; have := HZ8.out; omega)⟩) (fun c pre A A' _ h _ => h)
        ⟨Only.refl _ _, HL8.out, HO8.out⟩ ?a1 ?assign ?body ?done (fun c pre A _ _ h _ => h.elim)
      case assign =>
        intro l2 x A K hK
        gi_wp2
        exact hK
      case body =>
        rintro l2 pre c A hpre hsA ⟨hon, hrl, hoo⟩
        have hmx : Tryd.prog.follows .mixedOrders = true := by kernel_rfl
        obtain ⟨hpp, rfl⟩ : pre.length < p ∧ c = pre.length := by
          have h1 := hpre.length_le
          rw [List.length_append, List.length_singleton, List.length_range] at h1
          obtain ⟨t, ht⟩ := hpre
          have h2 := congrArg (fun l => l[pre.length]?) ht
          simp [List.getElem?_range (show pre.length < p by omega)] at h2
          exact ⟨by omega, by omega⟩
        obtain ⟨c, hc⟩ : ∃ c, pre.length = c := ⟨_, rfl⟩
        have HCL := Lib.hid hc
        rw [hc] at hrl hoo hpp ⊢
        have HON := Lib.hid hon
        have HBOX := Lib.hid hrl
        have HOO := Lib.hid hoo
        have HBA := Lib.hid (show Below w6.heap.size w8 A from hon.below (by have := HZ8.out; omega) (by rintro k (rfl | rfl) <;> omega))
        have hqx := HQB.out (by omega)
        subst hqx
        clear hc hon hrl hoo hpre
        unfold chunkV
        have HS68 := Lib.hid (show w6.heap.size < A.heap.size by have := HZ8.out; omega)
        gi_wp2_with fail
        gi_loopw [14, 74] (fun s i wr => ∃ (t : Nat) (q : Option Addr) (k : Nat) (vs : List Value), t ≤ m ∧ i = .int .i64 t ∧ s = .slice q t k ∧ Own wr A.heap.size 80 q t k vs ∧ RegsOf wr W vs ((Xp.outRow m R out c).take t) ∧ Below A.heap.size A wr) (fun _ i _ => m - (intOf i).toNat)
        case atStart => exact ⟨0, none, 0, [], Nat.zero_le _, rfl, rfl, Own.nil _ _ _, RegsOf.nil _ _, Below.refl _ _⟩
        case round =>
          obtain ⟨t, q, k, vs, htm, rfl, rfl, ho, hg, hb⟩ := hrel
          have HO := Lib.hid ho
          have HG := Lib.hid hg
          have HB := Lib.hid hb
          have hsw := hb.size
          have HBX := Lib.hid (show Only (fun k => k = w6.heap.size ∨ k = w7.heap.size) w8 wr from HON.out.later hb (by have := HZ8.out; omega))
          have HBWR := Lib.hid (show Below w.heap.size w wr from HBW8.out.trans (HBX.out.below (by have := HZ8.out; omega) (by rintro k (rfl | rfl) <;> omega)))
          clear ho hg hb
          by_cases hlt : t < m
          · have hd : decide ((t : Int) < m) = true := decide_eq_true (by omega)
            have hcm : c * m + t < nx := by
              have h1 := Nat.mul_le_mul_right m (show c + 1 ≤ p from hpp)
              rw [Nat.add_mul, Nat.one_mul] at h1
              rw [HNXP.out]; omega
            obtain ⟨x, hx⟩ : ∃ x, out[c * m + t]? = some x := ⟨_, List.getElem?_eq_getElem (by rw [HLX.out]; exact hcm)⟩
            have hxr := HALL.out _ _ hx
            have HTK := Lib.hid (outRow_take (R := R) hlt hx)
            obtain ⟨b', off', eb, hbl', hcx⟩ := (HRX.out.below HBWR.out) (c * m + t) (.int .i64 x) (by rw [ints, List.getElem?_map, hx]; rfl)
            injection eb with eb
            injection eb with eb1 eb2
            subst eb1; subst eb2
            obtain ⟨cm, hcmE⟩ : ∃ cm, c * m = cm := ⟨_, rfl⟩
            have HCM := Lib.hid hcmE
            rw [hcmE] at hcx hcm ⊢
            rw [← Nat.add_assoc] at hcx
            clear hx hcmE
            have hwA := HS68.out
            have hn1' : t + 1 ≤ maxLen := by unfold maxLen; omega
            by_cases hneg : x < 0
            · have hdn : decide (x < 0) = true := decide_eq_true hneg
              have hZ : wr.cell? ⟨w5.heap.size + 1 + 1, 0, none⟩ = some (.slice (some ⟨w5.heap.size + 1, 0, none⟩) W W) := (HBX.out.row HZR8.out (by rintro (h | h) <;> omega)).cell 0
              have HOA := Lib.hid (HO.out.alloc (.cells #[.slice (some ⟨w5.heap.size + 1, 0, none⟩) W W] 80))
              have HZW := Lib.hid (show Bit wr W (.slice (some ⟨w5.heap.size + 1, 0, none⟩) W W) (Xp.outN R x) by rw [Xp.outN, if_pos hneg]; exact HZB8.out.keeps (HK8.out wr HBX.out))
              gi_wp2_with (refine wpListIn_app rfl (.tmp 80) (.tmp 82) 76 rfl A.heap.size 80 (.slice none 0 0) 24 Tryd.underlying76 elem_lists rfl q t k vs rfl HOA.out _ (some ⟨wr.heap.size, 0, none⟩) 1 1 [.slice (some ⟨w5.heap.size + 1, 0, none⟩) W W] rfl (Rd.one wr _ _) rfl (by intro u hu; simp only [List.mem_singleton] at hu; subst hu; rfl) hn1' (by omega) (by simp; omega) ?_; intro a9 k9 w9 ho9 hg9; have HO9 := Lib.hid ho9; have HB9 := Lib.hid (below_grown (HB.out.alloc HB.out.size _) hg9 HOA.out (by simp; omega)); have HG9 := Lib.hid ((HG.out.keeps ((Keeps.refl 85 wr).alloc (.cells #[.slice (some ⟨w5.heap.size + 1, 0, none⟩) W W] 80) |>.grown HOA.out hg9 (by decide))).snoc (HZW.out.keeps ((Keeps.refl 85 wr).alloc (.cells #[.slice (some ⟨w5.heap.size + 1, 0, none⟩) W W] 80) |>.grown HOA.out hg9 (by decide)))); clear ho9 hg9)
              go_roundw
              case rel => exact ⟨t + 1, a9, k9, _, by omega, by go_num, rfl, HO9.out, by rw [HTK.out]; exact HG9.out, HB9.out⟩
              case measure => simp [intOf]; omega
            · have hdn : decide (x < 0) = false := decide_eq_false hneg
              obtain ⟨X, rfl⟩ : ∃ X : Nat, x = X := ⟨x.toNat, by omega⟩
              have hRX : wr.cell? ⟨w5.heap.size, 0, none⟩ = some (.slice q5 (n1 + no) k5) := (HBX.out.row HRR8.out (by rintro (h | h) <;> omega)).cell 0
              have hXR : X < R.length := by rw [HRLEN.out]; omega
              obtain ⟨v, hv, hbit⟩ := HG8.out.2 X _ (List.getElem?_eq_getElem hXR)
              obtain ⟨g5, rfl, hg51, hg52, hc5, hf5⟩ := HO6.out.at_ (k := X) (by omega)
              have hB6R : Below w6.heap.size w6 wr := HB68.out.trans (HBX.out.below (by have := HZ8.out; omega) (by rintro k (rfl | rfl) <;> omega))
              have hc5r : wr.cell? ⟨g5, X, none⟩ = some v := ((hB6R.cell (p := ⟨g5, X, none⟩) hg52).trans hc5).trans hv
              obtain ⟨qv, kv, rfl, _⟩ := id hbit
              have HVB := Lib.hid (show Bit wr W (.slice qv W kv) (Xp.outN R X) by
                rw [Xp.outN, if_neg (by omega), Int.toNat_natCast, List.getElem?_eq_getElem hXR]
                exact hbit.keeps (HK8.out wr HBX.out))
              have HOA := Lib.hid (HO.out.alloc (.cells #[.slice qv W kv] 80))
              clear hbit hv hc5 hB6R
              gi_wp2_with (refine wpListIn_app rfl (.tmp 84) (.tmp 89) 76 rfl A.heap.size 80 (.slice none 0 0) 24 Tryd.underlying76 elem_lists rfl q t k vs rfl HOA.out _ (some ⟨wr.heap.size, 0, none⟩) 1 1 [.slice qv W kv] rfl (Rd.one wr _ _) rfl (by intro u hu; simp only [List.mem_singleton] at hu; subst hu; rfl) hn1' (by omega) (by simp; omega) ?_; intro a9 k9 w9 ho9 hg9; have HO9 := Lib.hid ho9; have HB9 := Lib.hid (below_grown (HB.out.alloc HB.out.size _) hg9 HOA.out (by simp; omega)); have HG9 := Lib.hid ((HG.out.keeps ((Keeps.refl 85 wr).alloc (.cells #[.slice qv W kv] 80) |>.grown HOA.out hg9 (by decide))).snoc (HVB.out.keeps ((Keeps.refl 85 wr).alloc (.cells #[.slice qv W kv] 80) |>.grown HOA.out hg9 (by decide)))); clear ho9 hg9)
              go_roundw
              case rel => exact ⟨t + 1, a9, k9, _, by omega, by go_num, rfl, HO9.out, by rw [HTK.out]; exact HG9.out, HB9.out⟩
              case measure => simp [intOf]; omega
          · have hd : decide ((t : Int) < m) = false := decide_eq_false (by omega)
            have htm' : t = m := by omega
            subst htm'
            have HGF := Lib.hid (show RegsOf wr W vs (Xp.outRow t R out c) from by
              have := HG.out
              rwa [List.take_of_length_le (by rw [outRow_length]; exact Nat.le_refl _)] at this)
            obtain ⟨U, hU⟩ : ∃ U, Xp.unitL t (fun K => (Xp.outRow t R out c)[K]?.getD 0) n = U := ⟨_, rfl⟩
            have HUO := Lib.hid (show OUT[c]? = some U by rw [← HOUT.out, runOut_get hpp, hU])
            have HUC := Lib.hid (HUN.out q k vs (Xp.outRow t R out c) wr.drew (outRow_length _ _ _ _) HO.out.rd HGF.out)
            rw [hU] at HUC
            clear hU
            have hwA := HS68.out
            have hz67A : w7.heap.size < A.heap.size := by have := HZ8.out; omega
            have HBA2 := Lib.hid (HBOX.out.below HB.out (by omega))
            have hcL : wr.cell? ⟨w7.heap.size, 0, none⟩ = some (.slice (some ⟨w6.heap.size, 0, none⟩) c p) := HBA2.out.cell 0
            have HNR := Lib.hid (HBX.out.row HN8.out (by rintro (h | h) <;> omega))
            have hcN : wr.cell? ⟨w1.heap.size, 0, none⟩ = some (.int .i64 (n : Int)) := HNR.out.cell 0
            have hcLd : wr.drew.cell? ⟨w7.heap.size, 0, none⟩ = some (.slice (some ⟨w6.heap.size, 0, none⟩) c p) := hcL
            have hcNd : wr.drew.cell? ⟨w1.heap.size, 0, none⟩ = some (.int .i64 (n : Int)) := hcN
            gi_wp2_with fail
            refine wpIn_region_any (by assumption) ?_
            try (change wpAnyIn _ _ _ _ _ _ _ _ _ (World.drew _))
            refine wpAnyIn_ready (rs := [0, 1, 2]) (by kernel_rfl) (by simp) ?_
            refine AllReadyIn.cons rfl (fun K hK => ?_) ?_
            · go_simp
              refine hK _ _ ?_
              clear hK K
              refine wpAnyIn_ready (rs := [1, 2]) (by kernel_rfl) (by simp) ?_
              refine AllReadyIn.cons rfl (fun K hK => ?_) ?_
              · go_simp
                refine hK _ _ ?_
                clear hK K
                refine wpAnyIn_ready (rs := [2]) (by kernel_rfl) (by simp) ?_
                refine AllReadyIn.cons rfl (fun K hK => ?_) ?_
                · go_simp
                  refine hK _ _ ?_
                  clear hK K
                  refine wpAnyIn_ready (rs := [3]) (by kernel_rfl) (by simp) ?_
                  refine AllReadyIn.cons rfl (fun K hK => ?_) ?_
                  · go_simp
                    gi_wp2_with (refine ⟨trivial, ?_⟩; refine (calls_round HUC.out).mono ?_; rintro e A1 ⟨rfl, hbU⟩; have HBU := Lib.hid (show Below wr.heap.size wr A1 from undrew hbU); have hszU := hbU.size; have hLrow := HBA2.out.below HBU.out HBA2.out.lt; have hcL1 : A1.cell? ⟨w7.heap.size, 0, none⟩ = some (.slice (some ⟨w6.heap.size, 0, none⟩) c p) := hLrow.cell 0; have hzA1 : w7.heap.size < A1.heap.size := hLrow.lt; obtain ⟨wA, hap, hoA, hgA⟩ := run_append_fits (P := Tryd.prog) (w := A1.alloc (.cells #[.string (strB U)] 9)) w6.heap.size 36 36 9 iS 1 Tryd.underlying36 hiS hs1 w6.heap.size c p (strsB (OUT.take c)) (((HOO.out.below HB.out).below HBU.out).alloc _) ⟨A1.heap.size, 0, none⟩ 1 1 [.string (strB U)] rfl (cell_new A1 9 _) (by intro u hu; simp only [List.mem_singleton] at hu; subst hu; rfl) (by omega); have HLA := Lib.hid (show Row wA w7.heap.size 36 #[.slice (some ⟨w6.heap.size, 0, none⟩) c p] from (hgA.block _ (by simp; omega) (by intro e; injection e with e; omega)).trans (hLrow.alloc _)); have hcA : wA.cell? ⟨w7.heap.size, 0, none⟩ = some (.slice (some ⟨w6.heap.size, 0, none⟩) c p) := HLA.out.cell 0; have hfA := HLA.out.frozen 0; have HOF := Lib.hid hoA; have HGF := Lib.hid hgA; clear hoA hgA hbU hLrow)
                    refine wpAnyIn_ready (rs := [4]) (by kernel_rfl) (by simp) ?_
                    refine AllReadyIn.cons rfl (fun K hK => ?_) ?_
                    · go_simp
                      refine hK _ _ ?_
                      clear hK K
                      refine wpAnyIn_ready (rs := [5]) (by kernel_rfl) (by simp) ?_
                      refine AllReadyIn.cons rfl (fun K hK => ?_) ?_
                      · refine ready_app rfl (.tmp 92) (.tmp 96) 36 rfl rfl rfl hap ?_
                        refine hK _ _ ?_
                        clear hK K
                        try simp only [Act.put, List.setIfInBounds_toArray, List.set_cons_zero, List.set_cons_succ]
                        refine wpAnyIn_ready (rs := [6]) (by kernel_rfl) (by simp) ?_
                        refine AllReadyIn.cons rfl (fun K hK => ?_) ?_
                        · go_simp
                          refine hK _ _ ?_
                          clear hK K
                          refine wpAnyIn_done (by kernel_rfl) ?_ _
                          gi_wp2
                          have hOA : Only (fun k => k = w6.heap.size ∨ k = w7.heap.size) A wA := (Only.of_below ((below_call HB.out HBU.out).alloc (by have := HB.out.size; have := HBU.out.size; omega) (.cells #[.string (strB U)] 9)) (fun k hk _ => hk)).grown HGF.out (by rintro k e; injection e with e; exact .inl e.symm)
                          refine ⟨hOA.setCell (p := ⟨w7.heap.size, 0, none⟩) (.inr rfl) _, (HON.out.trans hOA).setCell (p := ⟨w7.heap.size, 0, none⟩) (.inr rfl) _, ?_, ?_⟩
                          · rw [List.length_append, List.length_singleton, HCL.out]
                            exact HLA.out.put 0 _
                          · rw [List.length_append, List.length_singleton, HCL.out, strsB_take HUO.out]
                            exact Own.far (show Own wA w6.heap.size 9 (some ⟨w6.heap.size, 0, none⟩) (c + 1) p (strsB (OUT.take c) ++ [.string (strB U)]) from HOF.out) (by intro g hg; injection hg with hg; injection hg with hg; show g ≠ w7.heap.size; omega) _
                        exact AllReadyIn.nil
                      exact AllReadyIn.nil
                    exact AllReadyIn.nil
                  exact AllReadyIn.nil
                exact AllReadyIn.nil
              refine AllReadyIn.cons rfl (fun K hK => ?_) ?_
              · go_simp
                refine hK _ _ ?_
                clear hK K
                refine wpAnyIn_ready (rs := [1]) (by kernel_rfl) (by simp) ?_
                refine AllReadyIn.cons rfl (fun K hK => ?_) ?_
                · go_simp
                  refine hK _ _ ?_
                  clear hK K
                  refine wpAnyIn_ready (rs := [3]) (by kernel_rfl) (by simp) ?_
                  refine AllReadyIn.cons rfl (fun K hK => ?_) ?_
                  · go_simp
                    gi_wp2_with (refine ⟨trivial, ?_⟩; refine (calls_round HUC.out).mono ?_; rintro e A1 ⟨rfl, hbU⟩; have HBU := Lib.hid (show Below wr.heap.size wr A1 from undrew hbU); have hszU := hbU.size; have hLrow := HBA2.out.below HBU.out HBA2.out.lt; have hcL1 : A1.cell? ⟨w7.heap.size, 0, none⟩ = some (.slice (some ⟨w6.heap.size, 0, none⟩) c p) := hLrow.cell 0; have hzA1 : w7.heap.size < A1.heap.size := hLrow.lt; obtain ⟨wA, hap, hoA, hgA⟩ := run_append_fits (P := Tryd.prog) (w := A1.alloc (.cells #[.string (strB U)] 9)) w6.heap.size 36 36 9 iS 1 Tryd.underlying36 hiS hs1 w6.heap.size c p (strsB (OUT.take c)) (((HOO.out.below HB.out).below HBU.out).alloc _) ⟨A1.heap.size, 0, none⟩ 1 1 [.string (strB U)] rfl (cell_new A1 9 _) (by intro u hu; simp only [List.mem_singleton] at hu; subst hu; rfl) (by omega); have HLA := Lib.hid (show Row wA w7.heap.size 36 #[.slice (some ⟨w6.heap.size, 0, none⟩) c p] from (hgA.block _ (by simp; omega) (by intro e; injection e with e; omega)).trans (hLrow.alloc _)); have hcA : wA.cell? ⟨w7.heap.size, 0, none⟩ = some (.slice (some ⟨w6.heap.size, 0, none⟩) c p) := HLA.out.cell 0; have hfA := HLA.out.frozen 0; have HOF := Lib.hid hoA; have HGF := Lib.hid hgA; clear hoA hgA hbU hLrow)
                    refine wpAnyIn_ready (rs := [4]) (by kernel_rfl) (by simp) ?_
                    refine AllReadyIn.cons rfl (fun K hK => ?_) ?_
                    · go_simp
                      refine hK _ _ ?_
                      clear hK K
                      refine wpAnyIn_ready (rs := [5]) (by kernel_rfl) (by simp) ?_
                      refine AllReadyIn.cons rfl (fun K hK => ?_) ?_
                      · refine ready_app rfl (.tmp 92) (.tmp 96) 36 rfl rfl rfl hap ?_
                        refine hK _ _ ?_
                        clear hK K
                        try simp only [Act.put, List.setIfInBounds_toArray, List.set_cons_zero, List.set_cons_succ]
                        refine wpAnyIn_ready (rs := [6]) (by kernel_rfl) (by simp) ?_
                        refine AllReadyIn.cons rfl (fun K hK => ?_) ?_
                        · go_simp
                          refine hK _ _ ?_
                          clear hK K
                          refine wpAnyIn_done (by kernel_rfl) ?_ _
                          gi_wp2
                          have hOA : Only (fun k => k = w6.heap.size ∨ k = w7.heap.size) A wA := (Only.of_below ((below_call HB.out HBU.out).alloc (by have := HB.out.size; have := HBU.out.size; omega) (.cells #[.string (strB U)] 9)) (fun k hk _ => hk)).grown HGF.out (by rintro k e; injection e with e; exact .inl e.symm)
                          refine ⟨hOA.setCell (p := ⟨w7.heap.size, 0, none⟩) (.inr rfl) _, (HON.out.trans hOA).setCell (p := ⟨w7.heap.size, 0, none⟩) (.inr rfl) _, ?_, ?_⟩
                          · rw [List.length_append, List.length_singleton, HCL.out]
                            exact HLA.out.put 0 _
                          · rw [List.length_append, List.length_singleton, HCL.out, strsB_take HUO.out]
                            exact Own.far (show Own wA w6.heap.size 9 (some ⟨w6.heap.size, 0, none⟩) (c + 1) p (strsB (OUT.take c) ++ [.string (strB U)]) from HOF.out) (by intro g hg; injection hg with hg; injection hg with hg; show g ≠ w7.heap.size; omega) _
                        exact AllReadyIn.nil
                      exact AllReadyIn.nil
                    exact AllReadyIn.nil
                  exact AllReadyIn.nil
                exact AllReadyIn.nil
              exact AllReadyIn.nil
            refine AllReadyIn.cons rfl (fun K hK => ?_) ?_
            · go_simp
              refine hK _ _ ?_
              clear hK K
              refine wpAnyIn_ready (rs := [0, 2]) (by kernel_rfl) (by simp) ?_
              refine AllReadyIn.cons rfl (fun K hK => ?_) ?_
              · go_simp
                refine hK _ _ ?_
                clear hK K
                refine wpAnyIn_ready (rs := [2]) (by kernel_rfl) (by simp) ?_
                refine AllReadyIn.cons rfl (fun K hK => ?_) ?_
                · go_simp
                  refine hK _ _ ?_
                  clear hK K
                  refine wpAnyIn_ready (rs := [3]) (by kernel_rfl) (by simp) ?_
                  refine AllReadyIn.cons rfl (fun K hK => ?_) ?_
                  · go_simp
                    gi_wp2_with (refine ⟨trivial, ?_⟩; refine (calls_round HUC.out).mono ?_; rintro e A1 ⟨rfl, hbU⟩; have HBU := Lib.hid (show Below wr.heap.size wr A1 from undrew hbU); have hszU := hbU.size; have hLrow := HBA2.out.below HBU.out HBA2.out.lt; have hcL1 : A1.cell? ⟨w7.heap.size, 0, none⟩ = some (.slice (some ⟨w6.heap.size, 0, none⟩) c p) := hLrow.cell 0; have hzA1 : w7.heap.size < A1.heap.size := hLrow.lt; obtain ⟨wA, hap, hoA, hgA⟩ := run_append_fits (P := Tryd.prog) (w := A1.alloc (.cells #[.string (strB U)] 9)) w6.heap.size 36 36 9 iS 1 Tryd.underlying36 hiS hs1 w6.heap.size c p (strsB (OUT.take c)) (((HOO.out.below HB.out).below HBU.out).alloc _) ⟨A1.heap.size, 0, none⟩ 1 1 [.string (strB U)] rfl (cell_new A1 9 _) (by intro u hu; simp only [List.mem_singleton] at hu; subst hu; rfl) (by omega); have HLA := Lib.hid (show Row wA w7.heap.size 36 #[.slice (some ⟨w6.heap.size, 0, none⟩) c p] from (hgA.block _ (by simp; omega) (by intro e; injection e with e; omega)).trans (hLrow.alloc _)); have hcA : wA.cell? ⟨w7.heap.size, 0, none⟩ = some (.slice (some ⟨w6.heap.size, 0, none⟩) c p) := HLA.out.cell 0; have hfA := HLA.out.frozen 0; have HOF := Lib.hid hoA; have HGF := Lib.hid hgA; clear hoA hgA hbU hLrow)
                    refine wpAnyIn_ready (rs := [4]) (by kernel_rfl) (by simp) ?_
                    refine AllReadyIn.cons rfl (fun K hK => ?_) ?_
                    · go_simp
                      refine hK _ _ ?_
                      clear hK K
                      refine wpAnyIn_ready (rs := [5]) (by kernel_rfl) (by simp) ?_
                      refine AllReadyIn.cons rfl (fun K hK => ?_) ?_
                      · refine ready_app rfl (.tmp 92) (.tmp 96) 36 rfl rfl rfl hap ?_
                        refine hK _ _ ?_
                        clear hK K
                        try simp only [Act.put, List.setIfInBounds_toArray, List.set_cons_zero, List.set_cons_succ]
                        refine wpAnyIn_ready (rs := [6]) (by kernel_rfl) (by simp) ?_
                        refine AllReadyIn.cons rfl (fun K hK => ?_) ?_
                        · go_simp
                          refine hK _ _ ?_
                          clear hK K
                          refine wpAnyIn_done (by kernel_rfl) ?_ _
                          gi_wp2
                          have hOA : Only (fun k => k = w6.heap.size ∨ k = w7.heap.size) A wA := (Only.of_below ((below_call HB.out HBU.out).alloc (by have := HB.out.size; have := HBU.out.size; omega) (.cells #[.string (strB U)] 9)) (fun k hk _ => hk)).grown HGF.out (by rintro k e; injection e with e; exact .inl e.symm)
                          refine ⟨hOA.setCell (p := ⟨w7.heap.size, 0, none⟩) (.inr rfl) _, (HON.out.trans hOA).setCell (p := ⟨w7.heap.size, 0, none⟩) (.inr rfl) _, ?_, ?_⟩
                          · rw [List.length_append, List.length_singleton, HCL.out]
                            exact HLA.out.put 0 _
                          · rw [List.length_append, List.length_singleton, HCL.out, strsB_take HUO.out]
                            exact Own.far (show Own wA w6.heap.size 9 (some ⟨w6.heap.size, 0, none⟩) (c + 1) p (strsB (OUT.take c) ++ [.string (strB U)]) from HOF.out) (by intro g hg; injection hg with hg; injection hg with hg; show g ≠ w7.heap.size; omega) _
                        exact AllReadyIn.nil
                      exact AllReadyIn.nil
                    exact AllReadyIn.nil
                  exact AllReadyIn.nil
                exact AllReadyIn.nil
              refine AllReadyIn.cons rfl (fun K hK => ?_) ?_
              · go_simp
                refine hK _ _ ?_
                clear hK K
                refine wpAnyIn_ready (rs := [0, 3]) (by kernel_rfl) (by simp) ?_
                refine AllReadyIn.cons rfl (fun K hK => ?_) ?_
                · go_simp
                  refine hK _ _ ?_
                  clear hK K
                  refine wpAnyIn_ready (rs := [3]) (by kernel_rfl) (by simp) ?_
                  refine AllReadyIn.cons rfl (fun K hK => ?_) ?_
                  · go_simp
                    gi_wp2_with (refine ⟨trivial, ?_⟩; refine (calls_round HUC.out).mono ?_; rintro e A1 ⟨rfl, hbU⟩; have HBU := Lib.hid (show Below wr.heap.size wr A1 from undrew hbU); have hszU := hbU.size; have hLrow := HBA2.out.below HBU.out HBA2.out.lt; have hcL1 : A1.cell? ⟨w7.heap.size, 0, none⟩ = some (.slice (some ⟨w6.heap.size, 0, none⟩) c p) := hLrow.cell 0; have hzA1 : w7.heap.size < A1.heap.size := hLrow.lt; obtain ⟨wA, hap, hoA, hgA⟩ := run_append_fits (P := Tryd.prog) (w := A1.alloc (.cells #[.string (strB U)] 9)) w6.heap.size 36 36 9 iS 1 Tryd.underlying36 hiS hs1 w6.heap.size c p (strsB (OUT.take c)) (((HOO.out.below HB.out).below HBU.out).alloc _) ⟨A1.heap.size, 0, none⟩ 1 1 [.string (strB U)] rfl (cell_new A1 9 _) (by intro u hu; simp only [List.mem_singleton] at hu; subst hu; rfl) (by omega); have HLA := Lib.hid (show Row wA w7.heap.size 36 #[.slice (some ⟨w6.heap.size, 0, none⟩) c p] from (hgA.block _ (by simp; omega) (by intro e; injection e with e; omega)).trans (hLrow.alloc _)); have hcA : wA.cell? ⟨w7.heap.size, 0, none⟩ = some (.slice (some ⟨w6.heap.size, 0, none⟩) c p) := HLA.out.cell 0; have hfA := HLA.out.frozen 0; have HOF := Lib.hid hoA; have HGF := Lib.hid hgA; clear hoA hgA hbU hLrow)
                    refine wpAnyIn_ready (rs := [4]) (by kernel_rfl) (by simp) ?_
                    refine AllReadyIn.cons rfl (fun K hK => ?_) ?_
                    · go_simp
                      refine hK _ _ ?_
                      clear hK K
                      refine wpAnyIn_ready (rs := [5]) (by kernel_rfl) (by simp) ?_
                      refine AllReadyIn.cons rfl (fun K hK => ?_) ?_
                      · refine ready_app rfl (.tmp 92) (.tmp 96) 36 rfl rfl rfl hap ?_
                        refine hK _ _ ?_
                        clear hK K
                        try simp only [Act.put, List.setIfInBounds_toArray, List.set_cons_zero, List.set_cons_succ]
                        refine wpAnyIn_ready (rs := [6]) (by kernel_rfl) (by simp) ?_
                        refine AllReadyIn.cons rfl (fun K hK => ?_) ?_
                        · go_simp
                          refine hK _ _ ?_
                          clear hK K
                          refine wpAnyIn_done (by kernel_rfl) ?_ _
                          gi_wp2
                          have hOA : Only (fun k => k = w6.heap.size ∨ k = w7.heap.size) A wA := (Only.of_below ((below_call HB.out HBU.out).alloc (by have := HB.out.size; have := HBU.out.size; omega) (.cells #[.string (strB U)] 9)) (fun k hk _ => hk)).grown HGF.out (by rintro k e; injection e with e; exact .inl e.symm)
                          refine ⟨hOA.setCell (p := ⟨w7.heap.size, 0, none⟩) (.inr rfl) _, (HON.out.trans hOA).setCell (p := ⟨w7.heap.size, 0, none⟩) (.inr rfl) _, ?_, ?_⟩
                          · rw [List.length_append, List.length_singleton, HCL.out]
                            exact HLA.out.put 0 _
                          · rw [List.length_append, List.length_singleton, HCL.out, strsB_take HUO.out]
                            exact Own.far (show Own wA w6.heap.size 9 (some ⟨w6.heap.size, 0, none⟩) (c + 1) p (strsB (OUT.take c) ++ [.string (strB U)]) from HOF.out) (by intro g hg; injection hg with hg; injection hg with hg; show g ≠ w7.heap.size; omega) _
                        exact AllReadyIn.nil
                      exact AllReadyIn.nil
                    exact AllReadyIn.nil
                  exact AllReadyIn.nil
                refine AllReadyIn.cons rfl (fun K hK => ?_) ?_
                · go_simp
                  gi_wp2_with (refine ⟨trivial, ?_⟩; refine (calls_round HUC.out).mono ?_; rintro e A1 ⟨rfl, hbU⟩; have HBU := Lib.hid (show Below wr.heap.size wr A1 from undrew hbU); have hszU := hbU.size; have hLrow := HBA2.out.below HBU.out HBA2.out.lt; have hcL1 : A1.cell? ⟨w7.heap.size, 0, none⟩ = some (.slice (some ⟨w6.heap.size, 0, none⟩) c p) := hLrow.cell 0; have hzA1 : w7.heap.size < A1.heap.size := hLrow.lt; obtain ⟨wA, hap, hoA, hgA⟩ := run_append_fits (P := Tryd.prog) (w := A1.alloc (.cells #[.string (strB U)] 9)) w6.heap.size 36 36 9 iS 1 Tryd.underlying36 hiS hs1 w6.heap.size c p (strsB (OUT.take c)) (((HOO.out.below HB.out).below HBU.out).alloc _) ⟨A1.heap.size, 0, none⟩ 1 1 [.string (strB U)] rfl (cell_new A1 9 _) (by intro u hu; simp only [List.mem_singleton] at hu; subst hu; rfl) (by omega); have HLA := Lib.hid (show Row wA w7.heap.size 36 #[.slice (some ⟨w6.heap.size, 0, none⟩) c p] from (hgA.block _ (by simp; omega) (by intro e; injection e with e; omega)).trans (hLrow.alloc _)); have hcA : wA.cell? ⟨w7.heap.size, 0, none⟩ = some (.slice (some ⟨w6.heap.size, 0, none⟩) c p) := HLA.out.cell 0; have hfA := HLA.out.frozen 0; have HOF := Lib.hid hoA; have HGF := Lib.hid hgA; clear hoA hgA hbU hLrow)
                  refine wpAnyIn_ready (rs := [0, 4]) (by kernel_rfl) (by simp) ?_
                  refine AllReadyIn.cons rfl (fun K hK => ?_) ?_
                  · go_simp
                    refine hK _ _ ?_
                    clear hK K
                    refine wpAnyIn_ready (rs := [4]) (by kernel_rfl) (by simp) ?_
                    refine AllReadyIn.cons rfl (fun K hK => ?_) ?_
                    · go_simp
                      refine hK _ _ ?_
                      clear hK K
                      refine wpAnyIn_ready (rs := [5]) (by kernel_rfl) (by simp) ?_
                      refine AllReadyIn.cons rfl (fun K hK => ?_) ?_
                      · refine ready_app rfl (.tmp 92) (.tmp 96) 36 rfl rfl rfl hap ?_
                        refine hK _ _ ?_
                        clear hK K
                        try simp only [Act.put, List.setIfInBounds_toArray, List.set_cons_zero, List.set_cons_succ]
                        refine wpAnyIn_ready (rs := [6]) (by kernel_rfl) (by simp) ?_
                        refine AllReadyIn.cons rfl (fun K hK => ?_) ?_
                        · go_simp
                          refine hK _ _ ?_
                          clear hK K
                          refine wpAnyIn_done (by kernel_rfl) ?_ _
                          gi_wp2
                          have hOA : Only (fun k => k = w6.heap.size ∨ k = w7.heap.size) A wA := (Only.of_below ((below_call HB.out HBU.out).alloc (by have := HB.out.size; have := HBU.out.size; omega) (.cells #[.string (strB U)] 9)) (fun k hk _ => hk)).grown HGF.out (by rintro k e; injection e with e; exact .inl e.symm)
                          refine ⟨hOA.setCell (p := ⟨w7.heap.size, 0, none⟩) (.inr rfl) _, (HON.out.trans hOA).setCell (p := ⟨w7.heap.size, 0, none⟩) (.inr rfl) _, ?_, ?_⟩
                          · rw [List.length_append, List.length_singleton, HCL.out]
                            exact HLA.out.put 0 _
                          · rw [List.length_append, List.length_singleton, HCL.out, strsB_take HUO.out]
                            exact Own.far (show Own wA w6.heap.size 9 (some ⟨w6.heap.size, 0, none⟩) (c + 1) p (strsB (OUT.take c) ++ [.string (strB U)]) from HOF.out) (by intro g hg; injection hg with hg; injection hg with hg; show g ≠ w7.heap.size; omega) _
                        exact AllReadyIn.nil
                      exact AllReadyIn.nil
                    exact AllReadyIn.nil
                  refine AllReadyIn.cons rfl (fun K hK => ?_) ?_
                  · go_simp
                    refine hK _ _ ?_
                    clear hK K
                    refine wpAnyIn_ready (rs := [0]) (by kernel_rfl) (by simp) ?_
                    refine AllReadyIn.cons rfl (fun K hK => ?_) ?_
                    · go_simp
                      refine hK _ _ ?_
                      clear hK K
                      refine wpAnyIn_ready (rs := [5]) (by kernel_rfl) (by simp) ?_
                      refine AllReadyIn.cons rfl (fun K hK => ?_) ?_
                      · refine ready_app rfl (.tmp 92) (.tmp 96) 36 rfl rfl rfl hap ?_
                        refine hK _ _ ?_
                        clear hK K
                        try simp only [Act.put, List.setIfInBounds_toArray, List.set_cons_zero, List.set_cons_succ]
                        refine wpAnyIn_ready (rs := [6]) (by kernel_rfl) (by simp) ?_
                        refine AllReadyIn.cons rfl (fun K hK => ?_) ?_
                        · go_simp
                          refine hK _ _ ?_
                          clear hK K
                          refine wpAnyIn_done (by kernel_rfl) ?_ _
                          gi_wp2
                          have hOA : Only (fun k => k = w6.heap.size ∨ k = w7.heap.size) A wA := (Only.of_below ((below_call HB.out HBU.out).alloc (by have := HB.out.size; have := HBU.out.size; omega) (.cells #[.string (strB U)] 9)) (fun k hk _ => hk)).grown HGF.out (by rintro k e; injection e with e; exact .inl e.symm)
                          refine ⟨hOA.setCell (p := ⟨w7.heap.size, 0, none⟩) (.inr rfl) _, (HON.out.trans hOA).setCell (p := ⟨w7.heap.size, 0, none⟩) (.inr rfl) _, ?_, ?_⟩
                          · rw [List.length_append, List.length_singleton, HCL.out]
                            exact HLA.out.put 0 _
                          · rw [List.length_append, List.length_singleton, HCL.out, strsB_take HUO.out]
                            exact Own.far (show Own wA w6.heap.size 9 (some ⟨w6.heap.size, 0, none⟩) (c + 1) p (strsB (OUT.take c) ++ [.string (strB U)]) from HOF.out) (by intro g hg; injection hg with hg; injection hg with hg; show g ≠ w7.heap.size; omega) _
                        exact AllReadyIn.nil
                      exact AllReadyIn.nil
                    exact AllReadyIn.nil
                  exact AllReadyIn.nil
                exact AllReadyIn.nil
              exact AllReadyIn.nil
            refine AllReadyIn.cons rfl (fun K hK => ?_) ?_
            · go_simp
              refine hK _ _ ?_
              clear hK K
              refine wpAnyIn_ready (rs := [0, 1]) (by kernel_rfl) (by simp) ?_
              refine AllReadyIn.cons rfl (fun K hK => ?_) ?_
              · go_simp
                refine hK _ _ ?_
                clear hK K
                refine wpAnyIn_ready (rs := [1]) (by kernel_rfl) (by simp) ?_
                refine AllReadyIn.cons rfl (fun K hK => ?_) ?_
                · go_simp
                  refine hK _ _ ?_
                  clear hK K
                  refine wpAnyIn_ready (rs := [3]) (by kernel_rfl) (by simp) ?_
                  refine AllReadyIn.cons rfl (fun K hK => ?_) ?_
                  · go_simp
                    gi_wp2_with (refine ⟨trivial, ?_⟩; refine (calls_round HUC.out).mono ?_; rintro e A1 ⟨rfl, hbU⟩; have HBU := Lib.hid (show Below wr.heap.size wr A1 from undrew hbU); have hszU := hbU.size; have hLrow := HBA2.out.below HBU.out HBA2.out.lt; have hcL1 : A1.cell? ⟨w7.heap.size, 0, none⟩ = some (.slice (some ⟨w6.heap.size, 0, none⟩) c p) := hLrow.cell 0; have hzA1 : w7.heap.size < A1.heap.size := hLrow.lt; obtain ⟨wA, hap, hoA, hgA⟩ := run_append_fits (P := Tryd.prog) (w := A1.alloc (.cells #[.string (strB U)] 9)) w6.heap.size 36 36 9 iS 1 Tryd.underlying36 hiS hs1 w6.heap.size c p (strsB (OUT.take c)) (((HOO.out.below HB.out).below HBU.out).alloc _) ⟨A1.heap.size, 0, none⟩ 1 1 [.string (strB U)] rfl (cell_new A1 9 _) (by intro u hu; simp only [List.mem_singleton] at hu; subst hu; rfl) (by omega); have HLA := Lib.hid (show Row wA w7.heap.size 36 #[.slice (some ⟨w6.heap.size, 0, none⟩) c p] from (hgA.block _ (by simp; omega) (by intro e; injection e with e; omega)).trans (hLrow.alloc _)); have hcA : wA.cell? ⟨w7.heap.size, 0, none⟩ = some (.slice (some ⟨w6.heap.size, 0, none⟩) c p) := HLA.out.cell 0; have hfA := HLA.out.frozen 0; have HOF := Lib.hid hoA; have HGF := Lib.hid hgA; clear hoA hgA hbU hLrow)
                    refine wpAnyIn_ready (rs := [4]) (by kernel_rfl) (by simp) ?_
                    refine AllReadyIn.cons rfl (fun K hK => ?_) ?_
                    · go_simp
                      refine hK _ _ ?_
                      clear hK K
                      refine wpAnyIn_ready (rs := [5]) (by kernel_rfl) (by simp) ?_
                      refine AllReadyIn.cons rfl (fun K hK => ?_) ?_
                      · refine ready_app rfl (.tmp 92) (.tmp 96) 36 rfl rfl rfl hap ?_
                        refine hK _ _ ?_
                        clear hK K
                        try simp only [Act.put, List.setIfInBounds_toArray, List.set_cons_zero, List.set_cons_succ]
                        refine wpAnyIn_ready (rs := [6]) (by kernel_rfl) (by simp) ?_
                        refine AllReadyIn.cons rfl (fun K hK => ?_) ?_
                        · go_simp
                          refine hK _ _ ?_
                          clear hK K
                          refine wpAnyIn_done (by kernel_rfl) ?_ _
                          gi_wp2
                          have hOA : Only (fun k => k = w6.heap.size ∨ k = w7.heap.size) A wA := (Only.of_below ((below_call HB.out HBU.out).alloc (by have := HB.out.size; have := HBU.out.size; omega) (.cells #[.string (strB U)] 9)) (fun k hk _ => hk)).grown HGF.out (by rintro k e; injection e with e; exact .inl e.symm)
                          refine ⟨hOA.setCell (p := ⟨w7.heap.size, 0, none⟩) (.inr rfl) _, (HON.out.trans hOA).setCell (p := ⟨w7.heap.size, 0, none⟩) (.inr rfl) _, ?_, ?_⟩
                          · rw [List.length_append, List.length_singleton, HCL.out]
                            exact HLA.out.put 0 _
                          · rw [List.length_append, List.length_singleton, HCL.out, strsB_take HUO.out]
                            exact Own.far (show Own wA w6.heap.size 9 (some ⟨w6.heap.size, 0, none⟩) (c + 1) p (strsB (OUT.take c) ++ [.string (strB U)]) from HOF.out) (by intro g hg; injection hg with hg; injection hg with hg; show g ≠ w7.heap.size; omega) _
                        exact AllReadyIn.nil
                      exact AllReadyIn.nil
                    exact AllReadyIn.nil
                  exact AllReadyIn.nil
                exact AllReadyIn.nil
              refine AllReadyIn.cons rfl (fun K hK => ?_) ?_
              · go_simp
                refine hK _ _ ?_
                clear hK K
                refine wpAnyIn_ready (rs := [0, 3]) (by kernel_rfl) (by simp) ?_
                refine AllReadyIn.cons rfl (fun K hK => ?_) ?_
                · go_simp
                  refine hK _ _ ?_
                  clear hK K
                  refine wpAnyIn_ready (rs := [3]) (by kernel_rfl) (by simp) ?_
                  refine AllReadyIn.cons rfl (fun K hK => ?_) ?_
                  · go_simp
                    gi_wp2_with (refine ⟨trivial, ?_⟩; refine (calls_round HUC.out).mono ?_; rintro e A1 ⟨rfl, hbU⟩; have HBU := Lib.hid (show Below wr.heap.size wr A1 from undrew hbU); have hszU := hbU.size; have hLrow := HBA2.out.below HBU.out HBA2.out.lt; have hcL1 : A1.cell? ⟨w7.heap.size, 0, none⟩ = some (.slice (some ⟨w6.heap.size, 0, none⟩) c p) := hLrow.cell 0; have hzA1 : w7.heap.size < A1.heap.size := hLrow.lt; obtain ⟨wA, hap, hoA, hgA⟩ := run_append_fits (P := Tryd.prog) (w := A1.alloc (.cells #[.string (strB U)] 9)) w6.heap.size 36 36 9 iS 1 Tryd.underlying36 hiS hs1 w6.heap.size c p (strsB (OUT.take c)) (((HOO.out.below HB.out).below HBU.out).alloc _) ⟨A1.heap.size, 0, none⟩ 1 1 [.string (strB U)] rfl (cell_new A1 9 _) (by intro u hu; simp only [List.mem_singleton] at hu; subst hu; rfl) (by omega); have HLA := Lib.hid (show Row wA w7.heap.size 36 #[.slice (some ⟨w6.heap.size, 0, none⟩) c p] from (hgA.block _ (by simp; omega) (by intro e; injection e with e; omega)).trans (hLrow.alloc _)); have hcA : wA.cell? ⟨w7.heap.size, 0, none⟩ = some (.slice (some ⟨w6.heap.size, 0, none⟩) c p) := HLA.out.cell 0; have hfA := HLA.out.frozen 0; have HOF := Lib.hid hoA; have HGF := Lib.hid hgA; clear hoA hgA hbU hLrow)
                    refine wpAnyIn_ready (rs := [4]) (by kernel_rfl) (by simp) ?_
                    refine AllReadyIn.cons rfl (fun K hK => ?_) ?_
                    · go_simp
                      refine hK _ _ ?_
                      clear hK K
                      refine wpAnyIn_ready (rs := [5]) (by kernel_rfl) (by simp) ?_
                      refine AllReadyIn.cons rfl (fun K hK => ?_) ?_
                      · refine ready_app rfl (.tmp 92) (.tmp 96) 36 rfl rfl rfl hap ?_
                        refine hK _ _ ?_
                        clear hK K
                        try simp only [Act.put, List.setIfInBounds_toArray, List.set_cons_zero, List.set_cons_succ]
                        refine wpAnyIn_ready (rs := [6]) (by kernel_rfl) (by simp) ?_
                        refine AllReadyIn.cons rfl (fun K hK => ?_) ?_
                        · go_simp
                          refine hK _ _ ?_
                          clear hK K
                          refine wpAnyIn_done (by kernel_rfl) ?_ _
                          gi_wp2
                          have hOA : Only (fun k => k = w6.heap.size ∨ k = w7.heap.size) A wA := (Only.of_below ((below_call HB.out HBU.out).alloc (by have := HB.out.size; have := HBU.out.size; omega) (.cells #[.string (strB U)] 9)) (fun k hk _ => hk)).grown HGF.out (by rintro k e; injection e with e; exact .inl e.symm)
                          refine ⟨hOA.setCell (p := ⟨w7.heap.size, 0, none⟩) (.inr rfl) _, (HON.out.trans hOA).setCell (p := ⟨w7.heap.size, 0, none⟩) (.inr rfl) _, ?_, ?_⟩
                          · rw [List.length_append, List.length_singleton, HCL.out]
                            exact HLA.out.put 0 _
                          · rw [List.length_append, List.length_singleton, HCL.out, strsB_take HUO.out]
                            exact Own.far (show Own wA w6.heap.size 9 (some ⟨w6.heap.size, 0, none⟩) (c + 1) p (strsB (OUT.take c) ++ [.string (strB U)]) from HOF.out) (by intro g hg; injection hg with hg; injection hg with hg; show g ≠ w7.heap.size; omega) _
                        exact AllReadyIn.nil
                      exact AllReadyIn.nil
                    exact AllReadyIn.nil
                  exact AllReadyIn.nil
                refine AllReadyIn.cons rfl (fun K hK => ?_) ?_
                · go_simp
                  gi_wp2_with (refine ⟨trivial, ?_⟩; refine (calls_round HUC.out).mono ?_; rintro e A1 ⟨rfl, hbU⟩; have HBU := Lib.hid (show Below wr.heap.size wr A1 from undrew hbU); have hszU := hbU.size; have hLrow := HBA2.out.below HBU.out HBA2.out.lt; have hcL1 : A1.cell? ⟨w7.heap.size, 0, none⟩ = some (.slice (some ⟨w6.heap.size, 0, none⟩) c p) := hLrow.cell 0; have hzA1 : w7.heap.size < A1.heap.size := hLrow.lt; obtain ⟨wA, hap, hoA, hgA⟩ := run_append_fits (P := Tryd.prog) (w := A1.alloc (.cells #[.string (strB U)] 9)) w6.heap.size 36 36 9 iS 1 Tryd.underlying36 hiS hs1 w6.heap.size c p (strsB (OUT.take c)) (((HOO.out.below HB.out).below HBU.out).alloc _) ⟨A1.heap.size, 0, none⟩ 1 1 [.string (strB U)] rfl (cell_new A1 9 _) (by intro u hu; simp only [List.mem_singleton] at hu; subst hu; rfl) (by omega); have HLA := Lib.hid (show Row wA w7.heap.size 36 #[.slice (some ⟨w6.heap.size, 0, none⟩) c p] from (hgA.block _ (by simp; omega) (by intro e; injection e with e; omega)).trans (hLrow.alloc _)); have hcA : wA.cell? ⟨w7.heap.size, 0, none⟩ = some (.slice (some ⟨w6.heap.size, 0, none⟩) c p) := HLA.out.cell 0; have hfA := HLA.out.frozen 0; have HOF := Lib.hid hoA; have HGF := Lib.hid hgA; clear hoA hgA hbU hLrow)
                  refine wpAnyIn_ready (rs := [0, 4]) (by kernel_rfl) (by simp) ?_
                  refine AllReadyIn.cons rfl (fun K hK => ?_) ?_
                  · go_simp
                    refine hK _ _ ?_
                    clear hK K
                    refine wpAnyIn_ready (rs := [4]) (by kernel_rfl) (by simp) ?_
                    refine AllReadyIn.cons rfl (fun K hK => ?_) ?_
                    · go_simp
                      refine hK _ _ ?_
                      clear hK K
                      refine wpAnyIn_ready (rs := [5]) (by kernel_rfl) (by simp) ?_
                      refine AllReadyIn.cons rfl (fun K hK => ?_) ?_
                      · refine ready_app rfl (.tmp 92) (.tmp 96) 36 rfl rfl rfl hap ?_
                        refine hK _ _ ?_
                        clear hK K
                        try simp only [Act.put, List.setIfInBounds_toArray, List.set_cons_zero, List.set_cons_succ]
                        refine wpAnyIn_ready (rs := [6]) (by kernel_rfl) (by simp) ?_
                        refine AllReadyIn.cons rfl (fun K hK => ?_) ?_
                        · go_simp
                          refine hK _ _ ?_
                          clear hK K
                          refine wpAnyIn_done (by kernel_rfl) ?_ _
                          gi_wp2
                          have hOA : Only (fun k => k = w6.heap.size ∨ k = w7.heap.size) A wA := (Only.of_below ((below_call HB.out HBU.out).alloc (by have := HB.out.size; have := HBU.out.size; omega) (.cells #[.string (strB U)] 9)) (fun k hk _ => hk)).grown HGF.out (by rintro k e; injection e with e; exact .inl e.symm)
                          refine ⟨hOA.setCell (p := ⟨w7.heap.size, 0, none⟩) (.inr rfl) _, (HON.out.trans hOA).setCell (p := ⟨w7.heap.size, 0, none⟩) (.inr rfl) _, ?_, ?_⟩
                          · rw [List.length_append, List.length_singleton, HCL.out]
                            exact HLA.out.put 0 _
                          · rw [List.length_append, List.length_singleton, HCL.out, strsB_take HUO.out]
                            exact Own.far (show Own wA w6.heap.size 9 (some ⟨w6.heap.size, 0, none⟩) (c + 1) p (strsB (OUT.take c) ++ [.string (strB U)]) from HOF.out) (by intro g hg; injection hg with hg; injection hg with hg; show g ≠ w7.heap.size; omega) _
                        exact AllReadyIn.nil
                      exact AllReadyIn.nil
                    exact AllReadyIn.nil
                  refine AllReadyIn.cons rfl (fun K hK => ?_) ?_
                  · go_simp
                    refine hK _ _ ?_
                    clear hK K
                    refine wpAnyIn_ready (rs := [0]) (by kernel_rfl) (by simp) ?_
                    refine AllReadyIn.cons rfl (fun K hK => ?_) ?_
                    · go_simp
                      refine hK _ _ ?_
                      clear hK K
                      refine wpAnyIn_ready (rs := [5]) (by kernel_rfl) (by simp) ?_
                      refine AllReadyIn.cons rfl (fun K hK => ?_) ?_
                      · refine ready_app rfl (.tmp 92) (.tmp 96) 36 rfl rfl rfl hap ?_
                        refine hK _ _ ?_
                        clear hK K
                        try simp only [Act.put, List.setIfInBounds_toArray, List.set_cons_zero, List.set_cons_succ]
                        refine wpAnyIn_ready (rs := [6]) (by kernel_rfl) (by simp) ?_
                        refine AllReadyIn.cons rfl (fun K hK => ?_) ?_
                        · go_simp
                          refine hK _ _ ?_
                          clear hK K
                          refine wpAnyIn_done (by kernel_rfl) ?_ _
                          gi_wp2
                          have hOA : Only (fun k => k = w6.heap.size ∨ k = w7.heap.size) A wA := (Only.of_below ((below_call HB.out HBU.out).alloc (by have := HB.out.size; have := HBU.out.size; omega) (.cells #[.string (strB U)] 9)) (fun k hk _ => hk)).grown HGF.out (by rintro k e; injection e with e; exact .inl e.symm)
                          refine ⟨hOA.setCell (p := ⟨w7.heap.size, 0, none⟩) (.inr rfl) _, (HON.out.trans hOA).setCell (p := ⟨w7.heap.size, 0, none⟩) (.inr rfl) _, ?_, ?_⟩
                          · rw [List.length_append, List.length_singleton, HCL.out]
                            exact HLA.out.put 0 _
                          · rw [List.length_append, List.length_singleton, HCL.out, strsB_take HUO.out]
                            exact Own.far (show Own wA w6.heap.size 9 (some ⟨w6.heap.size, 0, none⟩) (c + 1) p (strsB (OUT.take c) ++ [.string (strB U)]) from HOF.out) (by intro g hg; injection hg with hg; injection hg with hg; show g ≠ w7.heap.size; omega) _
                        exact AllReadyIn.nil
                      exact AllReadyIn.nil
                    exact AllReadyIn.nil
                  exact AllReadyIn.nil
                exact AllReadyIn.nil
              exact AllReadyIn.nil
            exact AllReadyIn.nil
      case done =>
        rintro A hsA ⟨hon, hrl, hoo⟩ hD
        rw [List.length_range] at hrl hoo
        have HON := Lib.hid hon
        have HBOX := Lib.hid hrl
        have HOO := Lib.hid hoo
        have hcA : A.cell? ⟨w7.heap.size, 0, none⟩ = some (.slice (some ⟨w6.heap.size, 0, none⟩) p p) := HBOX.out.cell 0
        have HFB := Lib.hid (show Below w.heap.size w A from HBW8.out.trans (HON.out.below (by have := HZ8.out; omega) (by rintro k (rfl | rfl) <;> omega)))
        clear hon hrl hoo
        go_wp2
        refine ⟨by simp, .inl ⟨_, _, rfl, run_takeDeferred hD, ?_⟩⟩
        refine ⟨_, by rw [results_tmp2 rfl]; rfl, ⟨_, _, rfl, ?_⟩, ?_⟩
        · have hOL : OUT.length = p := by rw [← HOUT.out]; unfold Xp.runOut; simp
          have h9 := HOO.out
          rw [List.take_of_length_le (by omega)] at h9
          exact (h9.mono (by omega)).kept fun g hg => World.putObj_heap_other (by injection hg with hg; injection hg with hg; have := HZ8.out; omega)
        · exact HFB.out.trans (below_putObj A (by have := HZ8.out; omega) _)
end Go.Proofs.YtghinmlpkgcdiaaDoor
/-! Schedules: the sanity example. -/
namespace Go.Proofs.YtghinmlpkgcdiaaDoor
set_option linter.unusedSimpArgs false
set_option linter.unusedVariables false
open Go.RowKit Go.Lib

abbrev sanO : List (Int × Int) := (Xp.fin 16 [] (Xp.csets 8 [[1, 1], [1, 2]])).1
abbrev sanX : List Int := (Xp.fin 16 [] (Xp.csets 8 [[1, 1], [1, 2]])).2
theorem san_ok : Xp.okC 8 2 (intsOf [[1, 1], [1, 2]]) = true := by kernel_rfl
theorem san_len : sanO.length = 19 := by kernel_rfl
theorem san_lenX : sanX.length = 16 := by kernel_rfl
theorem san_okS : Xp.okS 8 2 2 sanO sanX = true := by kernel_rfl
theorem san_run : Xp.runOut 8 1 2 (Xp.regs (Xp.runIn 8 [⟨#[1]⟩, ⟨#[128]⟩]) (natO sanO)) sanX = [[129], [28]] := by kernel_rfl
theorem san_sets : (Xp.sets 16 (Xp.regs (Xp.inputs 16) (natO sanO)) sanX)[10]?.map List.length = some 3 := by kernel_rfl
theorem san_grid (w : World) (g1 g2 g3 : Nat) (h1 : Row w g1 3 #[.int .i64 1, .int .i64 1]) (h2 : Row w g2 3 #[.int .i64 1, .int .i64 2]) (h3 : Row w g3 27 #[.slice (some ⟨g1, 0, none⟩) 2 2, .slice (some ⟨g2, 0, none⟩) 2 2]) : Grid w w.heap.size (some ⟨g3, 0, none⟩) 2 (intsOf [[1, 1], [1, 2]]) := by
  refine ⟨rfl, fun i zs hz => ?_⟩
  rcases i with _ | _ | i
  · simp [intsOf] at hz
    subst hz
    exact ⟨g3, 0, _, 2, rfl, h3.lt, h3.cell 0, by decide, Rd.row h1 h1.lt fun j v hv => by rw [← hv, ← Array.getElem?_toList]; rfl⟩
  · simp [intsOf] at hz
    subst hz
    exact ⟨g3, 0, _, 2, rfl, h3.lt, h3.cell 1, by decide, Rd.row h2 h2.lt fun j v hv => by rw [← hv, ← Array.getElem?_toList]; rfl⟩
  · simp [intsOf] at hz
theorem san_comp (g : Nat) (w : World) (ht : Tab w) (h : Grid w w.heap.size (some ⟨g, 0, none⟩) 2 (intsOf [[1, 1], [1, 2]])) :
    Calls Tryd.prog 11 #[.agg (codC (.string ⟨#[]⟩) 8 2 (some ⟨g, 0, none⟩) 2 2 0)] w fun e w' => (∃ q k qx kx, e = .returned (.tuple #[schV 8 2 2 q 19 k qx 16 kx, .int .i64 0]) ∧ OpsR w' w.heap.size q 19 k sanO ∧ Own w' w.heap.size 3 qx 16 kx (ints sanX)) ∧ Below w.heap.size w w' := by
  have h9 := compile_yes (m := 8) (D := 2) (.inl rfl) (.string ⟨#[]⟩) (some ⟨g, 0, none⟩) 2 2 0 [[1, 1], [1, 2]] w ht h rfl (by decide) (by decide) (by decide) san_ok
  rw [show ((2 * 8 : Nat) : Int) = 16 from rfl, show (Xp.fin 16 [] (Xp.csets 8 [[1, 1], [1, 2]])).1.length = 19 from san_len] at h9
  exact h9
theorem san_runs (q : Option Addr) (k : Nat) (qx : Option Addr) (kx g B : Nat) (w : World) (ht : Tab w) (ho : OpsR w B q 19 k sanO) (hx : Own w B 3 qx 16 kx (ints sanX)) (hg : Row w g 9 #[.string ⟨#[1]⟩, .string ⟨#[128]⟩]) :
    Calls Tryd.prog 15 #[schV 8 2 2 q 19 k qx 16 kx, .slice (some ⟨g, 0, none⟩) 2 2] w fun e w' => (∃ q k, e = .returned (.tuple #[.slice q 2 k, .int .i64 0]) ∧ Own w' w.heap.size 9 q 2 k [.string ⟨#[129]⟩, .string ⟨#[28]⟩]) ∧ Below w.heap.size w w' := by
  have h9 := run_yes (m := 8) (D := 2) (.inl rfl) 2 q 19 k qx 16 kx 1 1 sanO sanX (some ⟨g, 0, none⟩) 2 [⟨#[1]⟩, ⟨#[128]⟩] w ht (by decide) san_len ho.rd san_lenX hx.rd hx.cap hx.le san_okS (by decide) rfl (Rd.row hg hg.lt fun j v hv => by rw [← hv, ← Array.getElem?_toList]; rfl) (by decide) rfl (by decide)
  rw [san_run] at h9
  exact h9
theorem san_setsR (q : Option Addr) (k : Nat) (qx : Option Addr) (kx B : Nat) (w : World) (ht : Tab w) (ho : OpsR w B q 19 k sanO) (hx : Own w B 3 qx 16 kx (ints sanX)) :
    Calls Tryd.prog 18 #[schV 8 2 2 q 19 k qx 16 kx] w fun e w' => (∃ g k q2 k2, e = .returned (.tuple #[.slice (some ⟨g, 0, none⟩) 16 k, .int .i64 0]) ∧ g < w'.heap.size ∧ w'.cell? ⟨g, 10, none⟩ = some (.slice q2 3 k2)) ∧ Below w.heap.size w w' := by
  have h9 := xsets_yes (m := 8) (.inl rfl) 2 2 q 19 k qx 16 kx 16 sanO sanX w ht (by decide) san_len ho.rd san_lenX hx.rd san_okS rfl (by decide) (by decide)
  refine h9.mono ?_
  rintro e w' ⟨⟨q3, k3, vs, rfl, hv, hf⟩, hb⟩
  obtain ⟨g, rfl, hg1, hg2, hc, _⟩ := hv.at_ (k := 10) (by decide)
  have hs := san_sets
  obtain ⟨l, hl, hl3⟩ := Option.map_eq_some_iff.1 hs
  obtain ⟨q2, k2, e2, _⟩ := hf.own 10 l hl
  rw [hl3] at e2
  exact ⟨⟨g, k3, q2, k2, rfl, hg2, hc.trans e2⟩, hb⟩

set_option maxRecDepth 100000 in
set_option maxHeartbeats 3200000 in
theorem sanity11_any (w : World) (ht : Tab w) :
    Calls Tryd.prog 10 #[] w fun e w' => e = .returned (.bool true) ∧ Below w.heap.size w w' := by
  have HT := Lib.hid ht
  clear ht
  go_enter Tryd.func10, Tryd.ntmps10
  go_upto_region 2 with fail
  obtain ⟨w1, hw1⟩ : ∃ w1, w1 = (((w.alloc (.cells #[.int .i64 1, .int .i64 1] 3)).alloc (.cells #[.int .i64 1, .int .i64 2] 3)).alloc (.cells #[.slice (some ⟨w.heap.size, 0, none⟩) 2 2, .slice (some ⟨w.heap.size + 1, 0, none⟩) 2 2] 27)).alloc (.cells #[.string ⟨#[]⟩, .int .i64 8, .int .i64 2, .slice (some ⟨w.heap.size + 1 + 1, 0, none⟩) 2 2, .int .i64 0] 26) := ⟨_, rfl⟩
  rw [← hw1]
  have HB1 := Lib.hid (show Below w.heap.size w w1 by rw [hw1]; exact ((((Below.refl _ w).alloc (Nat.le_refl _) _).alloc (by simp) _).alloc (by simp; omega) _).alloc (by simp; omega) _)
  have HG := Lib.hid (show Grid w1 w1.heap.size (some ⟨w.heap.size + 1 + 1, 0, none⟩) 2 (intsOf [[1, 1], [1, 2]]) from san_grid w1 w.heap.size (w.heap.size + 1) (w.heap.size + 1 + 1) (by rw [hw1]; exact (((Row.new w _ _).alloc _).alloc _).alloc _) (by rw [hw1]; exact ((Row.made _ _ (by simp)).alloc _).alloc _) (by rw [hw1]; exact (Row.made _ _ (by simp)).alloc _))
  have HC := Lib.hid (show Row w1 (w.heap.size + 1 + 1 + 1) 26 (codC (.string ⟨#[]⟩) 8 2 (some ⟨w.heap.size + 1 + 1, 0, none⟩) 2 2 0) by rw [hw1]; exact Row.made _ _ (by simp))
  clear hw1
  obtain ⟨c0, c1, c2, c3, c4⟩ := cbox HC.out
  go_wp2_with fail
  refine (san_comp (w.heap.size + 1 + 1) w1 (HT.out.next HB1.out) HG.out).mono ?_
  rintro e w2 ⟨⟨q, k, qx, kx, rfl, ho, hx⟩, hb⟩
  have HB2 := Lib.hid (below_call HB1.out hb)
  have HO := Lib.hid ho
  have HX := Lib.hid hx
  clear c0 c1 c2 c3 c4 ho hx hb HG HC
  unfold schV
  go_upto_region 3 with fail
  obtain ⟨w3, hw3⟩ : ∃ w3, w3 = w2.alloc (.cells (schC 8 2 2 q 19 k qx 16 kx) 30) := ⟨_, rfl⟩
  rw [← hw3]
  have HB3 := Lib.hid (show Below w.heap.size w w3 by rw [hw3]; exact HB2.out.alloc HB2.out.size _)
  have HO3 := Lib.hid (show OpsR w3 w1.heap.size q 19 k sanO by rw [hw3]; exact HO.out.kept fun g hg => Below.heap_alloc _ _ _ (HO.out.lt hg).2.1)
  have HX3 := Lib.hid (show Own w3 w1.heap.size 3 qx 16 kx (ints sanX) by rw [hw3]; exact HX.out.alloc _)
  have HS3 := Lib.hid (show Row w3 w2.heap.size 30 (schC 8 2 2 q 19 k qx 16 kx) by rw [hw3]; exact Row.new _ _ _)
  have hz3 : w2.heap.size < w3.heap.size := HS3.out.lt
  clear hw3
  obtain ⟨c0, c1, c2, c3, c4⟩ := sbox HS3.out
  go_wp2_with fail
  have HB4 := Lib.hid (HB3.out.alloc HB3.out.size (.cells #[.string ⟨#[1]⟩, .string ⟨#[128]⟩] 9))
  refine (san_runs q k qx kx w3.heap.size w1.heap.size _ (HT.out.next HB4.out) (HO3.out.kept fun g hg => Below.heap_alloc _ _ _ (HO3.out.lt hg).2.1) (HX3.out.alloc _) (Row.new _ _ _)).mono ?_
  rintro e w5 ⟨⟨qu, ku, rfl, hu⟩, hb⟩
  have HB5 := Lib.hid (below_call HB4.out hb)
  have HO5 := Lib.hid (show OpsR w5 w1.heap.size q 19 k sanO from HO3.out.kept fun g hg => (hb.block g (by have := (HO3.out.lt hg).2.1; simp; omega)).trans (Below.heap_alloc _ _ _ (HO3.out.lt hg).2.1))
  have HX5 := Lib.hid ((HX3.out.alloc (.cells #[.string ⟨#[1]⟩, .string ⟨#[128]⟩] 9)).below hb)
  have HS5 := Lib.hid ((HS3.out.alloc (.cells #[.string ⟨#[1]⟩, .string ⟨#[128]⟩] 9)).below hb (by simp; omega))
  have HU5 := Lib.hid hu
  clear c0 c1 c2 c3 c4 hb hu
  obtain ⟨c0, c1, c2, c3, c4⟩ := sbox HS5.out
  go_wp2_with fail
  refine (san_setsR q k qx kx w1.heap.size _ (HT.out.next HB5.out) HO5.out HX5.out).mono ?_
  rintro e w6 ⟨⟨gl, kl, q2, k2, rfl, hgl, hcl⟩, hb⟩
  have HB6 := Lib.hid (below_call HB5.out hb)
  have HS6 := Lib.hid (HS5.out.below hb HS5.out.lt)
  obtain ⟨gu, rfl, hgu1, hgu2, hu0, _⟩ := HU5.out.at_ (k := 0) (by decide)
  have hu1 := HU5.out.at_ (k := 1) (by decide)
  obtain ⟨gu', eg, _, _, hu1, _⟩ := hu1
  injection eg with eg
  injection eg with eg
  subst eg
  have hv0 : w6.cell? ⟨gu, 0, none⟩ = some (.string ⟨#[129]⟩) := (hb.cell (p := ⟨gu, 0, none⟩) hgu2).trans hu0
  have hv1 : w6.cell? ⟨gu, 1, none⟩ = some (.string ⟨#[28]⟩) := (hb.cell (p := ⟨gu, 1, none⟩) hgu2).trans hu1
  clear c0 c1 c2 c3 c4 hb hu0 hu1
  obtain ⟨c0, c1, c2, c3, c4⟩ := sbox HS6.out
  go_wp2
  go_ret
  exact ⟨rfl, HB6.out⟩
end Go.Proofs.YtghinmlpkgcdiaaDoor
