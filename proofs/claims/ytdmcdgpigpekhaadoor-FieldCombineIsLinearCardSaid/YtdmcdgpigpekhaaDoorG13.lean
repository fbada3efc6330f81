/- Fields: the multiple of a string added to a row of bytes. -/
import Derived.Test.YtdmcdgpigpekhaaDoorG12
import Derived.Test.YtdmcdgpigpekhaaDoorG11
namespace Go.Proofs.YtdmcdgpigpekhaaDoor
set_option linter.unusedSimpArgs false
set_option linter.unusedVariables false
open Go.RowKit Go.Shelf Go.Lib
attribute [local go_sem] Oper.semAt_some

theorem calls_round {l n : Nat} {P : Program} {f : FuncId} {args : Array Value} {w : World} {R : Ending → World → Prop} (h : Calls P f args w R) : CallsIn (Fence.wide.inRound l) n P f args w R :=
  show CallsIn Fence.wide n P f args w R from callsIn_wide.2 h
/-- block g holds just these bytes -/
def Byts (w : World) (g : Nat) (bs : List UInt8) : Prop := Row w g 5 (bs.map v8).toArray
theorem Byts.cell {w : World} {g : Nat} {bs : List UInt8} (h : Byts w g bs) {k : Nat} (hk : k < bs.length) : w.cell? ⟨g, k, none⟩ = some (.int .u8 ((bs[k]?.getD 0).toNat : Int)) ∧ w.frozen? ⟨g, k, none⟩ = false := by
  refine ⟨?_, Row.frozen h k⟩
  rw [Row.cell h k]
  simp [List.getElem?_eq_getElem hk, v8]
theorem Byts.put {w : World} {g : Nat} {bs : List UInt8} (h : Byts w g bs) (k : Nat) (x : UInt8) : Byts (w.setCell ⟨g, k, none⟩ (v8 x)) g (bs.set k x) := by
  have := Row.put h k (v8 x)
  unfold Byts
  rw [show ((bs.set k x).map v8).toArray = (bs.map v8).toArray.setIfInBounds k (v8 x) by simp [List.map_set]]
  exact this
theorem Byts.rd {w : World} {g : Nat} {bs : List UInt8} (h : Byts w g bs) : Rd w w.heap.size (some ⟨g, 0, none⟩) (bs.map v8) :=
  Rd.row h (Row.lt h) fun j u hu => by rw [← hu]; simp
theorem Only.tab {X : Nat → Prop} {w w' : World} (h : Only X w w') (ht : Tab w) (hx : ¬ X 0) : Tab w' := by
  obtain ⟨t, fr, h1⟩ := ht
  exact ⟨t, fr, (h.block 0 (Array.getElem?_eq_some_iff.1 h1).1 hx).trans h1⟩
theorem Only.later {X : Nat → Prop} {w A A' : World} {B : Nat} (h : Only X w A) (hb : Below B A A') (hB : w.heap.size ≤ B) : Only X w A' :=
  ⟨hb.os.trans h.os, hb.tape.trans h.tape, hb.output.trans h.output, Nat.le_trans h.size hb.size, fun i hi hx => (hb.block i (by omega)).trans (h.block i hi hx)⟩
set_option maxRecDepth 100000 in
theorem fsymbols_any (m : Int) (u : ByteArray) (w : World) :
    Calls Tryd.prog 45 #[.int .i64 m, .string u] w fun e w' => e = .returned (.func (.func 50) #[] #[.pointer (some ⟨w.heap.size, 0, none⟩), .pointer (some ⟨w.heap.size + 1, 0, none⟩)]) ∧ w' = (w.alloc (.cells #[.int .i64 m] 3)).alloc (.cells #[.string u] 9) := by
  go_enter Tryd.func45, Tryd.ntmps45
  go_wp2_with fail
  go_ret
  exact ⟨rfl, rfl⟩
/-- the bytes that are done after j bytes of the symbol at I -/
def doneF (I S j p : Nat) : Bool := decide (p < I) || (decide (I + S - j ≤ p) && decide (p < I + S))
theorem byte_mod (x : UInt8) (y : Nat) : Value.int .u8 (bits .xor .u8 (x.toNat : Int) ((y : Int) % 256)) = v8 (x ^^^ UInt8.ofNat y) := by
  have e : (y : Int) % 256 = ((UInt8.ofNat y).toNat : Int) := by rw [UInt8.toNat_ofNat']; rfl
  rw [e, b8_xor]; rfl
set_option maxRecDepth 100000 in
set_option maxHeartbeats 3200000 in
theorem accumulate_any (m c : Nat) (hm : Fld.IsM m) (hc : c < 2 ^ m) (u : ByteArray) (g n cap : Nat) (B : List UInt8) (w : World) (ht : Tab w) (hg : Byts w g B) (h0 : 0 < g) (hl : B.length = n) (hu : u.size = n) (hdv : n % Fld.size m = 0) (hn : n ≤ 100000000) (hcap : n ≤ cap) :
    Calls Tryd.prog 34 #[.slice (some ⟨g, 0, none⟩) n cap, .int .i64 (m : Int), .int .i64 (c : Int), .string u] w fun e w' => (∃ v, e = .returned v) ∧ Byts w' g (Fld.xorL B (Fld.scl m c u.data.toList)) ∧ Only (fun k => k = g) w w' := by
  refine (callsIn_wide (n := 5)).1 ?_
  have HT := Lib.hid ht
  have HG := Lib.hid hg
  have HM := Lib.hid hm
  have HC := Lib.hid hc
  have hgl := Row.lt hg
  obtain ⟨T, hT⟩ : ∃ T, Fld.xorL B (Fld.scl m c u.data.toList) = T := ⟨_, rfl⟩
  have HTT := Lib.hid hT
  have hLu : u.data.toList.length = n := by rw [len_data, hu]
  have hTl : T.length = n := by rw [← hT, Fld.xorL_length (by rw [Fld.scl_length, hLu, hl]), hl]
  obtain ⟨S, hS⟩ : ∃ S, Fld.size m = S := ⟨_, rfl⟩
  have hSi : (m : Int) / 8 = (S : Int) := by rw [← hS]; unfold Fld.size; omega
  have hS2 : 0 < S ∧ S ≤ 2 := by rw [← hS]; rcases hm with rfl | rfl <;> decide
  obtain ⟨hS0, hS2⟩ := hS2
  rw [hS] at hdv
  have HS := Lib.hid hS
  have HLU := Lib.hid hLu
  have HTL := Lib.hid hTl
  have HBL := Lib.hid hl
  have HUS := Lib.hid hu
  have HDV := Lib.hid hdv
  have hm16 := m_le hm
  clear ht hg hm hc hT hS hLu hTl hl hdv
  refine callsIn_of_wp_marks Tryd.func34 rfl trivial ?_ rfl
  simp only [Tryd.ntmps34, List.size_toArray, List.length_cons, List.length_nil, Nat.reduceAdd, Nat.reduceSub, Array.replicate_succ, Array.replicate_zero, List.push_toArray, List.append_toArray, List.nil_append, List.cons_append]
  gi_wp2_with fail
  refine ⟨trivial, ?_⟩
  obtain ⟨w3, hw3⟩ : ∃ W, W = ((w.alloc (.cells #[.slice (some ⟨g, 0, none⟩) n cap] 50)).alloc (.cells #[.int .i64 (m : Int)] 3)).alloc (.cells #[.int .i64 (c : Int)] 3) := ⟨_, rfl⟩
  rw [← hw3]
  have hz3 : w3.heap.size = w.heap.size + 3 := by rw [hw3]; simp
  have hb3 : Below w.heap.size w w3 := by rw [hw3]; exact (((Below.refl _ w).alloc (Nat.le_refl _) _).alloc (by simp) _).alloc (by simp; omega) _
  have hr0 : Row w3 w.heap.size 50 #[.slice (some ⟨g, 0, none⟩) n cap] := by rw [hw3]; exact ((Row.new w _ _).alloc _).alloc _
  have hr1 : Row w3 (w.heap.size + 1) 3 #[.int .i64 (m : Int)] := by rw [hw3]; exact (Row.made _ _ (by simp)).alloc _
  have hr2 : Row w3 (w.heap.size + 2) 3 #[.int .i64 (c : Int)] := by rw [hw3]; exact Row.made _ _ (by simp)
  clear hw3
  refine (callsIn_wide.2 (fsymbols_any (m : Int) u w3)).mono ?_
  rintro e w4 ⟨rfl, hw4⟩
  have hb4 : Below w3.heap.size w3 w4 := by rw [hw4]; exact ((Below.refl _ w3).alloc (Nat.le_refl _) _).alloc (by simp) _
  have hz4 : w4.heap.size = w3.heap.size + 2 := by rw [hw4]; simp
  have hrm : Row w4 w3.heap.size 3 #[.int .i64 (m : Int)] := by rw [hw4]; exact (Row.new w3 _ _).alloc _
  have hru : Row w4 (w3.heap.size + 1) 9 #[.string u] := by rw [hw4]; exact Row.made _ _ (by simp)
  clear hw4
  have HR0 := Lib.hid (hr0.below hb4 hr0.lt)
  have HR1 := Lib.hid (hr1.below hb4 hr1.lt)
  have HR2 := Lib.hid (hr2.below hb4 hr2.lt)
  have HRM := Lib.hid hrm
  have HRU := Lib.hid hru
  have HG4 := Lib.hid (show Byts w4 g B from (Row.below HG.out hb3 hgl).below hb4 (by omega))
  have HO4 := Lib.hid (show Only (fun k => k = g) w w4 from Only.of_below (below_call hb3 hb4) (fun k hk _ => hk))
  have HZ3 := Lib.hid hz3
  have HZ4 := Lib.hid hz4
  clear hr0 hr1 hr2 hrm hru hb3 hb4 hz3 hz4
  gi_wp2_with fail
  refine wp_range (gf := 50) (lb := #[.pointer (some ⟨w3.heap.size, 0, none⟩), .pointer (some ⟨w3.heap.size + 1, 0, none⟩)]) rfl (enters_of Tryd.func50 (by kernel_rfl) rfl)
    (sym_gives m HM.out u w3.heap.size (w3.heap.size + 1) w4 HRM.out HRU.out (by omega)) (Below.refl _ _) (fun _ => rfl)
    (fun k => k = g) (fun k h => by have := HZ3.out; have := HZ4.out; omega) (fun k h => by have := HZ3.out; have := HZ4.out; omega)
    (fun pre A => Row A w.heap.size 50 #[.slice (some ⟨g, 0, none⟩) n cap] ∧ Row A (w.heap.size + 1) 3 #[.int .i64 (m : Int)] ∧ Row A (w.heap.size + 2) 3 #[.int .i64 (c : Int)] ∧ Byts A g (Fld.mixL (fun p => decide (p < pre.length * S)) B T) ∧ Only (fun k => k = g) w A)
    (fun c pre A => False) (fun pre A A' hs h hb => ⟨h.1.below hb (by have := HZ3.out; have := HZ4.out; omega), h.2.1.below hb (by have := HZ3.out; have := HZ4.out; omega), h.2.2.1.below hb (by have := HZ3.out; have := HZ4.out; omega), Row.below h.2.2.2.1 hb (by have := HZ3.out; have := HZ4.out; omega), h.2.2.2.2.later hb (by have := HZ3.out; have := HZ4.out; omega)⟩) (fun c pre A A' _ h _ => h)
    ⟨HR0.out, HR1.out, HR2.out, by rw [Fld.mixL_none (fun p _ => by simp)]; exact HG4.out, HO4.out⟩ ?a1 ?assign ?body ?done (fun c pre A _ _ h _ => h.elim)
  case assign =>
    intro l2 x A K hK
    gi_wp2
    exact hK
  case body =>
    rintro l2 pre ⟨I, V⟩ A hpre hsA ⟨k0, k1, k2, k3, k4⟩
    obtain ⟨ex, hlt⟩ := Fld.syms_at hpre
    rw [HS.out] at ex hlt
    injection ex with eI eV
    rw [← eI] at eV
    have hIn : I + S ≤ n := by
      rw [HLU.out] at hlt
      have h1 := Nat.mul_le_mul_right S hlt
      rw [Nat.succ_mul] at h1
      rw [eI]
      exact Nat.le_trans h1 (Nat.div_mul_le_self _ _)
    have HV := Lib.hid (show V < 2 ^ m by rw [eV]; exact Fld.symAt_lt HM.out _ _)
    obtain ⟨X, hX⟩ : ∃ X, Fld.mul m c V = X := ⟨_, rfl⟩
    have hX16 : X < 65536 := by rw [← hX]; exact pow_le HM.out (Fld.mul_lt HM.out _ HC.out)
    have HX := Lib.hid hX
    have HTV := Lib.hid (fun j (hj : j < S) => (show T[I + (S - 1 - j)]?.getD 0 = (B[I + (S - 1 - j)]?.getD 0) ^^^ UInt8.ofNat (X / 256 ^ j) by
      have hp : I + (S - 1 - j) < B.length := by rw [HBL.out]; omega
      have h1 := Fld.sclB_at HM.out c u.data.toList pre.length j (by rw [HS.out]; exact hj)
      rw [HS.out, ← eI, ← eV, hX] at h1
      rw [← HTT.out, Fld.xorL_get (by rw [Fld.scl_length, HLU.out, HBL.out]) hp, Fld.scl_get m c _ (by rw [HLU.out]; omega), h1]; rfl))
    have hk0 : A.cell? ⟨w.heap.size, 0, none⟩ = some (.slice (some ⟨g, 0, none⟩) n cap) := k0.cell 0
    have hk1 : A.cell? ⟨w.heap.size + 1, 0, none⟩ = some (.int .i64 (m : Int)) := k1.cell 0
    have hk2 : A.cell? ⟨w.heap.size + 1 + 1, 0, none⟩ = some (.int .i64 (c : Int)) := k2.cell 0
    have HK0 := Lib.hid k0
    have HK1 := Lib.hid k1
    have HK2 := Lib.hid k2
    have HK3 := Lib.hid k3
    have HK4 := Lib.hid k4
    have HEI := Lib.hid eI
    clear k0 k1 k2 k3 k4 hX hpre eI eV hlt
    gi_wp2_with fail
    refine ⟨trivial, ?_⟩
    refine (calls_round (product_any m c V HM.out HC.out HV.out A (Only.tab HK4.out HT.out (by omega)))).mono ?_
    rw [HX.out]
    rintro e A1 ⟨rfl, hb⟩
    have hk01 : A1.cell? ⟨w.heap.size, 0, none⟩ = some (.slice (some ⟨g, 0, none⟩) n cap) := (HK0.out.below hb HK0.out.lt).cell 0
    have hk11 : A1.cell? ⟨w.heap.size + 1, 0, none⟩ = some (.int .i64 (m : Int)) := (HK1.out.below hb HK1.out.lt).cell 0
    have HA1 := Lib.hid hb
    have hszA := hb.size
    clear hb hk0 hk1 hk2
    have hIn9 : (I : Int) + (S : Int) ≤ 100000000 := by omega
    gi_wp2_with fail
    gi_loopw [9, 10] (fun x i wr => ∃ j : Nat, j ≤ S ∧ i = .int .i64 ((I : Int) + (S : Int) - 1 - (j : Int)) ∧ x = .int .i64 ((X / 256 ^ j : Nat) : Int) ∧ Row wr w.heap.size 50 #[.slice (some ⟨g, 0, none⟩) n cap] ∧ Byts wr g (Fld.mixL (doneF I S j) B T) ∧ Only (fun k => k = g) A wr) (fun _ i _ => (intOf i + 1 - (I : Int)).toNat)
    case atStart =>
      refine ⟨0, Nat.zero_le _, by simp, by simp, HK0.out.below HA1.out HK0.out.lt, ?_, Only.of_below HA1.out (fun k hk _ => hk)⟩
      rw [Fld.mixL_cong (g := fun p => decide (p < pre.length * S)) (fun p _ => by unfold doneF; rw [← HEI.out, Bool.eq_iff_iff]; simp; omega)]
      exact Row.below HK3.out HA1.out (Row.lt HK3.out)
    case round =>
      obtain ⟨j, hj, rfl, rfl, hr, hby, hon⟩ := hrel
      have hcr : wr.cell? ⟨w.heap.size, 0, none⟩ = some (.slice (some ⟨g, 0, none⟩) n cap) := hr.cell 0
      have HRR := Lib.hid hr
      have HBY := Lib.hid hby
      have HON := Lib.hid hon
      clear hr hby hon
      by_cases hlt : j < S
      · have hd : decide ((I : Int) ≤ (I : Int) + (S : Int) - 1 - (j : Int)) = true := by simp; omega
        obtain ⟨q, hq⟩ : ∃ q, I + (S - 1 - j) = q := ⟨_, rfl⟩
        have hqi : (I : Int) + (S : Int) - 1 - (j : Int) = (q : Int) := by omega
        have hqn : q < n := by omega
        obtain ⟨hc, hf⟩ := HBY.out.cell (k := q) (by rw [Fld.mixL_length, HBL.out]; exact hqn)
        obtain ⟨y, hy⟩ : ∃ y, (Fld.mixL (doneF I S j) B T)[q]?.getD 0 = y := ⟨_, rfl⟩
        rw [hy] at hc
        obtain ⟨Z, hZ⟩ : ∃ Z, X / 256 ^ j = Z := ⟨_, rfl⟩
        have HZN := Lib.hid (show X / 256 ^ (j + 1) = Z / 256 by rw [Nat.pow_succ, ← Nat.div_div_eq_div_mul, hZ])
        have hZ16 : Z < 65536 := by rw [← hZ]; exact Nat.lt_of_le_of_lt (Nat.div_le_self _ _) hX16
        have HSET := Lib.hid (show (Fld.mixL (doneF I S j) B T).set q (y ^^^ UInt8.ofNat Z) = Fld.mixL (doneF I S (j + 1)) B T by
          have hqB : q < B.length := by rw [HBL.out]; exact hqn
          have e1 : y = B[q]?.getD 0 := by
            rw [Fld.mixL_get _ _ _ hqB, show doneF I S j q = false by unfold doneF; rw [Bool.or_eq_false_iff]; simp; omega] at hy
            simpa using hy.symm
          have e2 := HTV.out j hlt
          rw [hq, hZ, ← e1] at e2
          rw [Fld.mixL_set _ _ _ hqB _ e2.symm]
          exact Fld.mixL_cong fun p _ => by unfold doneF; rw [Bool.eq_iff_iff]; simp; omega)
        have hqi2 := Lib.hid (show (q : Int) - 1 = (I : Int) + (S : Int) - 1 - ((j + 1 : Nat) : Int) by omega)
        have hIq : I ≤ q := by omega
        rw [hqi, hZ]
        clear hy hZ hq hqi hd
        have hd : decide (I ≤ q) = true := by simp; omega
        gi_wp2
        go_roundw
        case rel =>
          refine ⟨j + 1, by omega, congrArg (Value.int .i64) hqi2.out, ?_, HRR.out.far (by show w.heap.size ≠ g; omega) _, ?_, HON.out.setCell (p := ⟨g, q, none⟩) rfl _⟩
          · rw [HZN.out]; rfl
          · rw [byte_mod, ← HSET.out]; exact HBY.out.put q _
        case measure => simp [intOf]; omega
      · have hjS : j = S := by omega
        have hd : decide ((I : Int) ≤ (I : Int) + (S : Int) - 1 - (j : Int)) = false := by simp; omega
        have HBY2 := Lib.hid (show Byts wr g (Fld.mixL (fun p => decide (p < (pre ++ [(I, V)]).length * S)) B T) by
          have := HBY.out
          rw [hjS] at this
          rwa [Fld.mixL_cong (g := fun p => decide (p < (pre ++ [(I, V)]).length * S)) (fun p _ => by unfold doneF; rw [List.length_append, List.length_singleton, Nat.add_mul, Nat.one_mul, ← HEI.out, Bool.eq_iff_iff]; simp; omega)] at this)
        clear hjS
        gi_wp2
        exact ⟨HON.out, HRR.out, HON.out.row HK1.out (by show ¬ w.heap.size + 1 = g; omega), HON.out.row HK2.out (by show ¬ w.heap.size + 2 = g; omega), HBY2.out, HK4.out.trans HON.out⟩
  case done =>
    rintro A hsA ⟨k0, k1, k2, k3, k4⟩ hD
    have hall : (Fld.syms m u.data.toList).length * S = n := by
      rw [Fld.syms_length, HLU.out, HS.out]
      have h1 := Nat.div_add_mod n S
      rw [HDV.out, Nat.mul_comm] at h1
      exact h1
    rw [Fld.mixL_all (by rw [HBL.out, HTL.out]) (fun p hp => by rw [hall, ← HBL.out]; simpa using hp)] at k3
    have HK3 := Lib.hid k3
    have HK4 := Lib.hid k4
    clear k0 k1 k2 k3 k4 hall
    gi_wp2
    refine ⟨by simp, .inl ⟨_, _, rfl, run_takeDeferred hD, ?_⟩⟩
    have hlt4 := (Array.getElem?_eq_some_iff.1 hD).1
    rw [HTT.out]
    refine ⟨_, results_none rfl _ _ _, ⟨_, rfl⟩, (World.putObj_heap_other (by have := HZ3.out; have := HZ4.out; omega)).trans HK3.out, HK4.out.later (B := w4.heap.size) (below_putObj A (Nat.le_refl _) _) (by have := HZ3.out; have := HZ4.out; omega)⟩
end Go.Proofs.YtdmcdgpigpekhaaDoor
