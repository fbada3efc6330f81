/- Fields: the reference's multiple of a string. -/
import Derived.Test.YtdmcdgpigpekhaaDoorG10
namespace Go.Proofs.YtdmcdgpigpekhaaDoor
set_option linter.unusedSimpArgs false
set_option linter.unusedVariables false
open Go.RowKit Go.Lib

/-- can the string be scaled? -/
def sclOk (m c : Int) (n : Nat) : Bool := allB m [c] && !(decide (m = 16) && decide (n % 2 = 1))
def sclS (m c : Int) (u : ByteArray) : List UInt8 := if sclOk m c u.size then Fld.scl m.toNat c.toNat u.data.toList else []
def sclE (m c : Int) (n : Nat) : Int := if sclOk m c n then 0 else 1
theorem u8_wrap (x : Nat) : Value.int .u8 (IntKind.u8.wrap (x : Int)) = v8 (UInt8.ofNat x) := by
  rw [IntKind.wrap_u8', v8, UInt8.toNat_ofNat']
  rfl
theorem u8_mod (x : Nat) : Value.int .u8 ((x : Int) % 256) = v8 (UInt8.ofNat x) := by
  rw [v8, UInt8.toNat_ofNat']; rfl
theorem scl_take {m : Nat} (c : Nat) (l : List UInt8) {k : Nat} (h : k < l.length) : (Fld.scl m c l).take (k + 1) = (Fld.scl m c l).take k ++ [Fld.sclB m c l k] := by
  rw [List.take_add_one, Fld.scl_get m c l h]; rfl
theorem scl8_at (c : Nat) (l : List UInt8) (k : Nat) : Fld.sclB 8 c l k = UInt8.ofNat (Fld.mul 8 c (l[k]?.getD 0).toNat) := by
  unfold Fld.sclB Fld.symAt Fld.size
  simp
theorem scl16_at (c : Nat) (l : List UInt8) (k : Nat) :
    Fld.sclB 16 c l (2 * k) = UInt8.ofNat (Fld.mul 16 c (256 * (l[2 * k]?.getD 0).toNat + (l[2 * k + 1]?.getD 0).toNat) / 256) ∧
    Fld.sclB 16 c l (2 * k + 1) = UInt8.ofNat (Fld.mul 16 c (256 * (l[2 * k]?.getD 0).toNat + (l[2 * k + 1]?.getD 0).toNat) % 256) := by
  have e1 := Fld.sclB_at (.inr rfl : Fld.IsM 16) c l k 1 (by decide)
  have e0 := Fld.sclB_at (.inr rfl : Fld.IsM 16) c l k 0 (by decide)
  have hs : Fld.size 16 = 2 := rfl
  rw [hs] at e1 e0
  have hsy : Fld.symAt 16 l (k * 2) = 256 * (l[2 * k]?.getD 0).toNat + (l[2 * k + 1]?.getD 0).toNat := by
    unfold Fld.symAt; rw [if_neg (by decide), Nat.mul_comm k 2]
  rw [hsy] at e1 e0
  refine ⟨?_, ?_⟩
  · rw [show 2 * k = k * 2 + (2 - 1 - 1) by omega, e1, show k * 2 + (2 - 1 - 1) = 2 * k by omega]
    try simp
  · rw [show 2 * k + 1 = k * 2 + (2 - 1 - 0) by omega, e0]
    apply UInt8.toNat_inj.1
    rw [UInt8.toNat_ofNat', UInt8.toNat_ofNat']
    simp [Nat.mul_comm k 2]

set_option maxRecDepth 100000 in
set_option maxHeartbeats 1600000 in
theorem rscale_no (m c : Int) (u : ByteArray) (w : World) (hu : u.size ≤ 100000000) (h : sclOk m c u.size = false) :
    Calls Tryd.prog 13 #[.int .i64 m, .int .i64 c, .string u] w fun e w' => e = .returned (pairS [] 1) ∧ Below w.heap.size w w' := by
  cases hv : allB m [c] with
  | false =>
    have HV := Lib.hid hv
    clear h hv
    go_enter Tryd.func13, Tryd.ntmps13
    go_wp2_with fail
    refine (rvalid_any m c _).mono ?_
    rw [HV.out]
    rintro e w1 ⟨rfl, rfl⟩
    go_wp2_with fail
    refine bodyPost_ret (v := .tuple #[.string ⟨#[]⟩, .int .i64 1]) ?_ rfl ⟨rfl, Below.refl _ _⟩
    rw [results_tmp2 rfl]; rfl
  | true =>
    have HV := Lib.hid hv
    have h16 : m = 16 ∧ u.size % 2 = 1 := by
      unfold sclOk at h
      rw [hv, Bool.true_and, Bool.not_eq_false', Bool.and_eq_true, decide_eq_true_eq, decide_eq_true_eq] at h
      exact h
    obtain ⟨rfl, hodd⟩ := h16
    have hb : ((u.size : Int) % 2 == 1) = true := by rw [beq_iff_eq]; omega
    clear h hv hodd
    go_enter Tryd.func13, Tryd.ntmps13
    go_wp2_with fail
    refine (rvalid_any 16 c _).mono ?_
    rw [HV.out]
    rintro e w1 ⟨rfl, rfl⟩
    go_wp2_with fail
    refine bodyPost_ret (v := .tuple #[.string ⟨#[]⟩, .int .i64 1]) ?_ rfl ⟨rfl, Below.refl _ _⟩
    rw [results_tmp2 rfl]; rfl
theorem times8 (a b : Nat) (ha : a < 2 ^ 8) (hb : b < 2 ^ 8) (w : World) :
    Calls Tryd.prog 35 #[.int .i64 8, .int .i64 (a : Int), .int .i64 (b : Int)] w fun e w' => e = .returned (.int .i64 (Fld.mul 8 a b : Int)) ∧ w' = w := times_any 8 a b (.inl rfl) ha hb w
theorem times16 (a b : Nat) (ha : a < 2 ^ 16) (hb : b < 2 ^ 16) (w : World) :
    Calls Tryd.prog 35 #[.int .i64 16, .int .i64 (a : Int), .int .i64 (b : Int)] w fun e w' => e = .returned (.int .i64 (Fld.mul 16 a b : Int)) ∧ w' = w := times_any 16 a b (.inr rfl) ha hb w
set_option maxRecDepth 100000 in
set_option maxHeartbeats 1600000 in
theorem rscale8 (c : Nat) (u : ByteArray) (w : World) (hu : u.size ≤ 100000000) (hc : c < 2 ^ 8) :
    Calls Tryd.prog 13 #[.int .i64 8, .int .i64 (c : Int), .string u] w fun e w' => e = .returned (pairS (Fld.scl 8 c u.data.toList) 0) ∧ Below w.heap.size w w' := by
  have HV := Lib.hid (show allB 8 [(c : Int)] = true from allB_one (.inl rfl) hc)
  have HC := Lib.hid hc
  obtain ⟨n, hn⟩ : ∃ n, u.size = n := ⟨_, rfl⟩
  have HL := Lib.hid (show u.data.toList.length = n by rw [len_data, hn])
  have HS := Lib.hid (show (Fld.scl 8 c u.data.toList).length = n by rw [Fld.scl_length, HL.out])
  clear hc
  go_enter Tryd.func13, Tryd.ntmps13
  go_wp2_with fail
  refine (rvalid_any 8 (c : Int) _).mono ?_
  rw [HV.out]
  rintro e w1 ⟨rfl, rfl⟩
  go_wp2_with fail
  go_loopw [9, 10] (fun o i wr => ∃ (k cc : Nat) (q : Option Addr), k ≤ n ∧ i = .int .i64 k ∧ o = .slice q k cc ∧ Own wr w1.heap.size 5 q k cc (((Fld.scl 8 c u.data.toList).take k).map v8) ∧ Below w1.heap.size w1 wr) (fun _ i _ => n - (intOf i).toNat)
  case atStart => exact ⟨0, 0, none, by omega, rfl, rfl, Own.nil _ _ _, Below.refl _ _⟩
  case round =>
    obtain ⟨k, cc, q, hk, rfl, rfl, ho, hbel⟩ := hrel
    have HO := Lib.hid ho
    have HB := Lib.hid hbel
    clear ho hbel
    have hn9 : n ≤ 100000000 := by omega
    by_cases hlt : k < n
    · have hku : k < u.size := by omega
      obtain ⟨x, hx⟩ : ∃ x, u[k] = x := ⟨_, rfl⟩
      have HT := Lib.hid (show (Fld.scl 8 c u.data.toList).take (k + 1) = (Fld.scl 8 c u.data.toList).take k ++ [UInt8.ofNat (Fld.mul 8 c x.toNat)] by
        rw [scl_take c _ (by rw [HL.out]; exact hlt), scl8_at, data_get u k hku, hx])
      have hx8 : x.toNat < 2 ^ 8 := x.toNat_lt
      have HX8 := Lib.hid hx8
      have hxb : (x.toNat : Int) ≤ 255 := by have := x.toNat_lt; omega
      clear hx8
      go_wp2_with fail
      refine (times8 c x.toNat HC.out HX8.out _).mono ?_
      rintro e w2 ⟨rfl, rfl⟩
      go_wp2_with (refine wpList_app _ rfl (.tmp 37) (.tmp 46) 50 rfl w1.heap.size 5 (.int .u8 0) 1 Tryd.underlying50 elem_u8 rfl q k cc _ rfl (HO.out.alloc _) _ (some ⟨w2.heap.size, 0, none⟩) 1 1 [.int .u8 ((Fld.mul 8 c x.toNat : Int) % 256)] rfl (Rd.one w2 _ _) rfl (by intro u hu; simp only [List.mem_singleton] at hu; subst hu; rfl) (by unfold maxLen; omega) (by omega) (by have := HB.out.size; simp; omega) ?_; intro a2 c2 w3 ho hg; rw [u8_mod] at ho; have HO2 := Lib.hid ho; have HB2 := Lib.hid (below_grown (HB.out.alloc HB.out.size _) hg (HO.out.alloc _) (by have := HB.out.size; simp; omega)); clear ho hg)
      go_roundw
      case rel => exact ⟨k + 1, c2, a2, by omega, by go_num, rfl, by rw [HT.out, List.map_append]; exact HO2.out, HB2.out⟩
      case measure => simp [intOf]; omega
    · have h1 : k = n := by omega
      subst h1
      have hcv2 : (convert 50 9 (.slice q k cc)).run Tryd.prog wr = .ok (.string (strB (Fld.scl 8 c u.data.toList))) wr := by
        have := conv_all wr q k cc _ HO.out.rd (by rw [List.length_take, HS.out]; omega)
        rwa [List.take_of_length_le (by rw [HS.out]; omega)] at this
      have hd : decide (k < k) = false := by simp
      go_wp2_with fail
      refine bodyPost_ret (v := .tuple #[.string (strB (Fld.scl 8 c u.data.toList)), .int .i64 0]) ?_ rfl ⟨rfl, HB.out⟩
      rw [results_tmp2 rfl]; rfl
theorem u8_div {X : Nat} (h : X < 65536) : Value.int .u8 ((X : Int) / 256) = v8 (UInt8.ofNat (X / 256)) := by
  have e : (X : Int) / 256 = ((X / 256 : Nat) : Int) := by omega
  rw [e, v8, UInt8.toNat_ofNat', Nat.mod_eq_of_lt (by omega)]
theorem u8_rem (X : Nat) : Value.int .u8 ((X : Int) % 256) = v8 (UInt8.ofNat (X % 256)) := by
  have e : (X : Int) % 256 = ((X % 256 : Nat) : Int) := by omega
  rw [e, v8, UInt8.toNat_ofNat', Nat.mod_mod]
theorem rd_pair (w : World) (t : TypeId) (a b : Value) : Rd (w.alloc (.cells #[a, b] t)) (w.heap.size + 1) (some ⟨w.heap.size, 0, none⟩) [a, b] :=
  Rd.row (Row.new w t #[a, b]) (Nat.lt_succ_self _) fun j v hv => by rw [← hv, ← Array.getElem?_toList]
set_option maxRecDepth 100000 in
set_option maxHeartbeats 1600000 in
theorem rscale16 (c : Nat) (u : ByteArray) (w : World) (hu : u.size ≤ 100000000) (hc : c < 2 ^ 16) (he : u.size % 2 = 0) :
    Calls Tryd.prog 13 #[.int .i64 16, .int .i64 (c : Int), .string u] w fun e w' => e = .returned (pairS (Fld.scl 16 c u.data.toList) 0) ∧ Below w.heap.size w w' := by
  have HV := Lib.hid (show allB 16 [(c : Int)] = true from allB_one (.inr rfl) hc)
  have HC := Lib.hid hc
  obtain ⟨n, hn⟩ : ∃ n, u.size = 2 * n := ⟨u.size / 2, by omega⟩
  have HL := Lib.hid (show u.data.toList.length = 2 * n by rw [len_data, hn])
  have HS := Lib.hid (show (Fld.scl 16 c u.data.toList).length = 2 * n by rw [Fld.scl_length, HL.out])
  have hb : ((u.size : Int) % 2 == 1) = false := by rw [beq_eq_false_iff_ne]; omega
  have hu2 : u.size ≤ 100000000 := hu
  have HN := Lib.hid hn
  clear hc he hn
  go_enter Tryd.func13, Tryd.ntmps13
  go_wp2_with fail
  refine (rvalid_any 16 (c : Int) _).mono ?_
  rw [HV.out]
  rintro e w1 ⟨rfl, rfl⟩
  go_wp2_with fail
  go_loopw [9, 10] (fun o i wr => ∃ (k K cc : Nat) (q : Option Addr), k ≤ n ∧ K = 2 * k ∧ i = .int .i64 K ∧ o = .slice q K cc ∧ Own wr w1.heap.size 5 q K cc (((Fld.scl 16 c u.data.toList).take K).map v8) ∧ Below w1.heap.size w1 wr) (fun _ i _ => 2 * n - (intOf i).toNat)
  case atStart => exact ⟨0, 0, 0, none, by omega, rfl, rfl, rfl, Own.nil _ _ _, Below.refl _ _⟩
  case round =>
    obtain ⟨k, K, cc, q, hk, hK, rfl, rfl, ho, hbel⟩ := hrel
    have HO := Lib.hid ho
    have HB := Lib.hid hbel
    have HK := Lib.hid hK
    clear ho hbel
    have hn9 : 2 * n ≤ 100000000 := by rw [← HN.out]; exact hu
    by_cases hlt : k < n
    · have hk0 : K < u.size := by rw [HN.out, hK]; omega
      have hk1 : K + 1 < u.size := by rw [HN.out, hK]; omega
      obtain ⟨x, hx⟩ : ∃ x, u[K] = x := ⟨_, rfl⟩
      obtain ⟨y, hy⟩ : ∃ y, u[K + 1] = y := ⟨_, rfl⟩
      obtain ⟨X, hX⟩ : ∃ X, Fld.mul 16 c (256 * x.toNat + y.toNat) = X := ⟨_, rfl⟩
      have hX16 : X < 65536 := by rw [← hX]; exact pow_le (.inr rfl) (Fld.mul_lt (.inr rfl) _ HC.out)
      have HT := Lib.hid (show (Fld.scl 16 c u.data.toList).take (K + 1 + 1) = (Fld.scl 16 c u.data.toList).take K ++ [UInt8.ofNat (X / 256), UInt8.ofNat (X % 256)] by
        obtain ⟨e1, e2⟩ := scl16_at c u.data.toList k
        rw [← hK, data_get u _ hk0, data_get u _ hk1, hx, hy, hX] at e1 e2
        rw [scl_take c _ (by rw [HL.out, hK]; omega), scl_take c _ (by rw [HL.out, hK]; omega), e1, e2, List.append_assoc]; rfl)
      have hxb : (x.toNat : Int) ≤ 255 := by have := x.toNat_lt; omega
      have hyb : (y.toNat : Int) ≤ 255 := by have := y.toNat_lt; omega
      have HZ := Lib.hid (show 256 * x.toNat + y.toNat < 2 ^ 16 by have := x.toNat_lt; have := y.toNat_lt; rw [show 2 ^ 16 = 65536 by decide]; omega)
      have HX := Lib.hid hX
      obtain ⟨Z, hZ⟩ : ∃ Z, 256 * x.toNat + y.toNat = Z := ⟨_, rfl⟩
      have hZi : (256 : Int) * (x.toNat : Int) + (y.toNat : Int) = (Z : Int) := by omega
      rw [hZ] at HZ HX
      have hK9 : K ≤ 100000000 := by omega
      clear hX hZ hK
      go_wp2_with fail
      have hw1 : IntKind.i64.wrap ((K : Int) + 1) = (K : Int) + 1 := IntWalk.i64_in _ (by omega)
      have hw2 : IntKind.i64.wrap (256 * (x.toNat : Int)) = 256 * (x.toNat : Int) := IntWalk.i64_in _ (by omega)
      have hw3 : IntKind.i64.wrap (Z : Int) = (Z : Int) := IntWalk.i64_in _ (by have := HZ.out; rw [show 2 ^ 16 = 65536 by decide] at this; omega)
      go_quiet ((go_at_call 35; exact Calls.quiet_of_same (times16 c Z HC.out HZ.out _)))
      rw [HX.out]
      clear hw1 hw2 hw3 hZi
      obtain ⟨W, hW⟩ : ∃ W, W = wr.drewN nq := ⟨_, rfl⟩
      rw [← hW]
      have HOW := Lib.hid (show Own W w1.heap.size 5 q K cc (((Fld.scl 16 c u.data.toList).take K).map v8) by rw [hW]; exact HO.out.drewN nq)
      have HBW := Lib.hid (show Below w1.heap.size w1 W by rw [hW]; exact below_drewN HB.out nq)
      clear hW
      go_wp2_with (refine wpList_app _ rfl (.tmp 62) (.tmp 69) 50 rfl w1.heap.size 5 (.int .u8 0) 1 Tryd.underlying50 elem_u8 rfl q K cc _ rfl (HOW.out.alloc _) _ (some ⟨W.heap.size, 0, none⟩) 2 2 [.int .u8 ((X : Int) / 256), .int .u8 ((X : Int) % 256)] rfl (rd_pair W _ _ _) rfl (by intro u hu; simp only [List.mem_cons, List.not_mem_nil, or_false] at hu; rcases hu with rfl | rfl <;> rfl) (by unfold maxLen; omega) (by omega) (by have := HBW.out.size; simp; omega) ?_; intro a2 c2 w3 ho hg; rw [u8_div hX16, u8_rem] at ho; have HO2 := Lib.hid ho; have HB2 := Lib.hid (below_grown (HBW.out.alloc HBW.out.size _) hg (HOW.out.alloc _) (by have := HBW.out.size; simp; omega)); clear ho hg)
      go_roundw
      case rel =>
        refine ⟨k + 1, K + 1 + 1, c2, a2, by omega, by rw [HK.out]; omega, by go_num, rfl, ?_, HB2.out⟩
        rw [HT.out, List.map_append]; exact HO2.out
      case measure => have := HK.out; simp [intOf]; omega
    · have h1 : k = n := by omega
      subst h1
      have hcv2 : (convert 50 9 (.slice q K cc)).run Tryd.prog wr = .ok (.string (strB (Fld.scl 16 c u.data.toList))) wr := by
        have := conv_all wr q K cc _ HO.out.rd (by rw [List.length_take, HS.out, hK]; omega)
        rwa [List.take_of_length_le (by rw [HS.out, hK]; omega)] at this
      have hd : decide (K < u.size) = false := by have := HN.out; simp; omega
      clear hK
      go_wp2_with fail
      refine bodyPost_ret (v := .tuple #[.string (strB (Fld.scl 16 c u.data.toList)), .int .i64 0]) ?_ rfl ⟨rfl, HB.out⟩
      rw [results_tmp2 rfl]; rfl
theorem rscale_any (m c : Int) (u : ByteArray) (w : World) (hu : u.size ≤ 100000000) :
    Calls Tryd.prog 13 #[.int .i64 m, .int .i64 c, .string u] w fun e w' => e = .returned (pairS (sclS m c u) (sclE m c u.size)) ∧ Below w.heap.size w w' := by
  cases h : sclOk m c u.size with
  | false => rw [sclS, sclE, h]; exact rscale_no m c u w hu h
  | true =>
    rw [sclS, sclE, h]
    unfold sclOk at h
    rw [Bool.and_eq_true] at h
    obtain ⟨h1, h2⟩ := h
    obtain ⟨k, x, hk, rfl, rfl, hx⟩ := one_get h1
    rcases hk with rfl | rfl
    · exact rscale8 x u w hu hx
    · refine rscale16 x u w hu hx ?_
      simp at h2
      omega
end Go.Proofs.YtdmcdgpigpekhaaDoor
