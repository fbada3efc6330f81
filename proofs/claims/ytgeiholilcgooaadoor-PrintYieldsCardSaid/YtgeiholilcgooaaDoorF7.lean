/- Fingerprint: the reference's exponents and twins. -/
import Derived.Test.YtgeiholilcgooaaDoorF5
import Derived.Test.YtgeiholilcgooaaDoorLawCommutes
namespace Go.Proofs.YtgeiholilcgooaaDoor
set_option linter.unusedSimpArgs false
set_option linter.unusedVariables false
open Go.RowKit Go.Lib

/-- the reference's list: the exponents below g -/
def eg (g : Nat) : List Nat := (List.range g).filter fun i => (4812730177 / 2 ^ i) % 2 == 1
def intl (l : List Nat) : List Value := l.map fun g : Nat => .int .i64 (g : Int)
theorem eg_yes {g : Nat} (h : (4812730177 / 2 ^ g) % 2 = 1) : eg (g + 1) = eg g ++ [g] := by
  unfold eg; rw [List.range_succ, List.filter_append]; simp [h]
theorem eg_no {g : Nat} (h : ¬ (4812730177 / 2 ^ g) % 2 = 1) : eg (g + 1) = eg g := by
  unfold eg; rw [List.range_succ, List.filter_append]; simp [h]
theorem eg_len (g : Nat) : (eg g).length ≤ g := by
  unfold eg; exact Nat.le_trans (List.length_filter_le _ _) (by simp)
theorem eg_all : eg 33 = Crc.exps.reverse := by decide +kernel
theorem elem_int : Elem Tryd.prog 3 (.int .i64 0) 8 := by unfold Elem; kernel_rfl

/-- what exponents returns -/
def RetL (w : World) (e : Ending) (w' : World) : Prop := ∃ (a : Option Addr) (c : Nat), e = .returned (.slice a 18 c) ∧ Own w' w.heap.size 3 a 18 c (intl Crc.exps.reverse) ∧ Below w.heap.size w w'
set_option maxRecDepth 100000 in
theorem rexp_any (w : World) : Calls Tryd.prog 18 #[] w (RetL w) := by
  go_enter Tryd.func18, Tryd.ntmps18
  go_wp2_with fail
  go_loopw [1, 2, 3] (fun o p g wr => ∃ (a : Option Addr) (c G : Nat), G ≤ 33 ∧ o = .slice a (eg G).length c ∧ p = .int .i64 ((4812730177 / 2 ^ G : Nat) : Int) ∧ g = .int .i64 G ∧ Own wr w.heap.size 3 a (eg G).length c (intl (eg G)) ∧ Below w.heap.size w wr) (fun _ _ g _ => 33 - (intOf g).toNat)
  case atStart => exact ⟨none, 0, 0, by omega, rfl, rfl, rfl, Own.nil _ _ _, Below.refl _ _⟩
  case round =>
    obtain ⟨a, c, G, hG, rfl, rfl, rfl, ho, hb⟩ := hrel
    have HO := Lib.hid ho
    have HB := Lib.hid hb
    clear ho hb
    have hlen := eg_len G
    by_cases hlt : G < 33
    · have hd : decide ((G : Int) ≤ 32) = true := by simp; omega
      obtain ⟨P, hP⟩ : ∃ P, 4812730177 / 2 ^ G = P := ⟨_, rfl⟩
      have hPle : P ≤ 4812730177 := by rw [← hP]; exact Nat.div_le_self _ _
      have HP := Lib.hid (show 4812730177 / 2 ^ (G + 1) = P / 2 by rw [Nat.pow_succ, ← Nat.div_div_eq_div_mul, hP])
      by_cases h1 : P % 2 = 1
      · have hb1 : ((P : Int) % 2 == 1) = true := by rw [beq_iff_eq]; omega
        have HE := Lib.hid (eg_yes (g := G) (by rw [hP]; exact h1))
        rw [hP]
        obtain ⟨n, hn⟩ : ∃ n, (eg G).length = n := ⟨_, rfl⟩
        have HN := Lib.hid hn
        rw [hn] at hlen
        rw [hn]
        have HO2 := Lib.hid (show Own wr w.heap.size 3 a n c (intl (eg G)) by have := HO.out; rwa [hn] at this)
        clear h1 hP hn
        go_wp2_with (refine wpList_app _ rfl _ _ 39 rfl w.heap.size 3 (.int .i64 0) 8 Tryd.underlying39 elem_int rfl a n c (intl (eg G)) rfl (HO2.out.alloc _) _ _ 1 1 _ rfl (Rd.one wr 3 (.int .i64 (G : Int))) rfl (by intro u hu; simp at hu; subst hu; rfl) (by unfold maxLen; omega) (by omega) (by have := HB.out.size; simp; omega) ?_; intro a' c' w1 ho hg; have HO1 := Lib.hid ho; have HB1 := Lib.hid (below_grown2 (HB.out.alloc HB.out.size (.cells #[.int .i64 (G : Int)] 3)) hg (HO2.out.alloc _) (by have := HB.out.size; simp; omega) (Nat.le_refl _)); clear ho hg)
        go_roundw
        case rel =>
          refine ⟨a', c', G + 1, by omega, ?_, by rw [HP.out]; rfl, by go_num, ?_, HB1.out⟩
          · rw [HE.out, List.length_append, HN.out]; rfl
          · rw [HE.out, List.length_append, HN.out]
            have := HO1.out
            rw [intl, List.map_append]
            exact this
        case measure => simp [intOf]; omega
      · have hb1 : ((P : Int) % 2 == 1) = false := by rw [beq_eq_false_iff_ne]; omega
        have HE := Lib.hid (eg_no (g := G) (by rw [hP]; exact h1))
        rw [hP]
        obtain ⟨n, hn⟩ : ∃ n, (eg G).length = n := ⟨_, rfl⟩
        have HN := Lib.hid hn
        rw [hn] at hlen
        rw [hn]
        clear h1 hP hn
        go_wp2
        go_roundw
        case rel =>
          refine ⟨a, c, G + 1, by omega, ?_, by rw [HP.out]; rfl, by go_num, ?_, HB.out⟩
          · rw [HE.out, HN.out]
          · rw [HE.out]; exact HO.out
        case measure => simp [intOf]; omega
    · have h33 : G = 33 := by omega
      subst h33
      have HL := Lib.hid (show (eg 33).length = 18 by rw [eg_all]; decide)
      have hd : decide (((33 : Nat) : Int) ≤ 32) = false := by decide
      rw [HL.out]
      go_wp2
      go_ret
      refine ⟨a, c, rfl, ?_, HB.out⟩
      have := HO.out
      rw [HL.out, eg_all] at this
      exact this

/-- the other way round -/
theorem hit_append (k q : Nat) (a b : List Nat) : Crc.hit k q (a ++ b) = (Crc.hit k q a ^^ Crc.hit k q b) := by
  induction a with
  | nil => simp [Crc.hit]
  | cons x a ih =>
    show (decide (k + 32 - x = q) ^^ Crc.hit k q (a ++ b)) = ((decide (k + 32 - x = q) ^^ Crc.hit k q a) ^^ Crc.hit k q b)
    rw [ih, Bool.xor_assoc]
theorem hit_rev (k q : Nat) (l : List Nat) : Crc.hit k q l.reverse = Crc.hit k q l := by
  induction l with
  | nil => rfl
  | cons x l ih =>
    rw [List.reverse_cons, hit_append, ih, Bool.xor_comm]
    show ((decide (k + 32 - x = q) ^^ false) ^^ _) = _
    rw [Bool.xor_false]; rfl
theorem flips_rev (k : Nat) (l : List UInt8) (h : k + 32 < 8 * l.length) : Crc.flips k Crc.exps.reverse l = Crc.twin k l := by
  refine Crc.bits_ext (by rw [Crc.flips_length, Crc.twin_length]) fun q => ?_
  unfold Crc.twin
  rw [Crc.bitAt_flips _ _ _ _ h, Crc.bitAt_flips _ _ _ _ h, hit_rev]
theorem erev_len : Crc.exps.reverse.length = 18 := by decide
theorem erev_le : ∀ g ∈ Crc.exps.reverse, g ≤ 32 := by decide
theorem bit_go2 (x : UInt8) (p : Nat) : Value.int .u8 (bits .xor .u8 (x.toNat : Int) ((2 ^ (p % 8) : Nat) : Int)) = v8 (x ^^^ Crc.bitOf (p % 8)) := by
  have h8 : p % 8 < 8 := Nat.mod_lt _ (by decide)
  rw [← Crc.bitOf_toNat _ h8, b8_xor]; rfl
theorem pow_small {s : Nat} (h : s < 7) : 2 * 2 ^ s < 256 ∧ 2 * 2 ^ s = 2 ^ (s + 1) := by
  refine ⟨?_, by rw [Nat.pow_succ]; omega⟩
  have : 2 ^ s ≤ 2 ^ 6 := Nat.pow_le_pow_right (by decide) (by omega)
  omega
set_option maxRecDepth 100000 in
set_option maxHeartbeats 3200000 in
theorem rtwin_ok (s : ByteArray) (k : Nat) (w : World) (hs : s.size ≤ 300) (hk : k < space s.size) :
    Calls Tryd.prog 14 #[.string s, .int .i64 (k : Int)] w fun e w' => e = .returned (.tuple #[.string (tw k s), .int .i64 0]) ∧ Below w.heap.size w w' := by
  have hk8 := (space_lt hk).1
  rw [len_data] at hk8
  have hd2 : decide (space s.size ≤ k) = false := by simp; omega
  obtain ⟨cB, wB, hcv, hbB, hB⟩ := conv_bytes w s
  have HB := Lib.hid hbB
  have HR := Lib.hid hB
  clear hbB hB
  go_enter Tryd.func14, Tryd.ntmps14
  go_wp2_with fail
  refine (rspace_any s.size _ hs).mono ?_
  rintro e w0 ⟨rfl, rfl⟩
  go_wp2_with fail
  refine (rexp_any _).mono ?_
  rintro e w2 ⟨a, c, rfl, ho, hb⟩
  have HO := Lib.hid ho
  have HR2 := Lib.hid (HR.out.below hb HR.out.lt)
  have HB2 := Lib.hid (below_call HB.out hb)
  obtain ⟨gA, ha, hgA, hgA2, _, _⟩ := ho.at_ (k := 0) (by omega)
  subst ha
  have HNE := Lib.hid (show w0.heap.size ≠ gA by have := HR.out.lt; omega)
  clear hb ho hgA hgA2
  go_wp2_with fail
  go_loopw [8] (fun j wr => ∃ J : Nat, J ≤ 18 ∧ j = .int .i64 J ∧ Byt wr w0.heap.size (Crc.flips k (Crc.exps.reverse.take J) s.data.toList) ∧ Own wr wB.heap.size 3 (some ⟨gA, 0, none⟩) 18 c (intl Crc.exps.reverse) ∧ Below w0.heap.size w0 wr) (fun j _ => 18 - (intOf j).toNat)
  case atStart => exact ⟨0, by omega, rfl, HR2.out, HO.out, HB2.out⟩
  case round =>
    obtain ⟨J, hJ, rfl, hb, ho, hbel⟩ := hrel
    have HBy := Lib.hid hb
    have HOr := Lib.hid ho
    have HBl := Lib.hid hbel
    clear hb hbel
    by_cases hlt : J < 18
    · obtain ⟨g, hg⟩ : ∃ g, Crc.exps.reverse[J]? = some g := ⟨_, List.getElem?_eq_getElem (by rw [erev_len]; exact hlt)⟩
      have hg32 : g ≤ 32 := erev_le _ (List.mem_of_getElem? hg)
      have HG := Lib.hid (show Crc.exps.reverse.take (J + 1) = Crc.exps.reverse.take J ++ [g] by rw [List.take_add_one, hg]; rfl)
      obtain ⟨gB, eB, _, _, hcell, _⟩ := ho.at_ hlt
      injection eB with eB
      injection eB with eB
      subst eB
      have hcl : wr.cell? ⟨gA, J, none⟩ = some (.int .i64 (g : Int)) := by rw [hcell, intl, List.getElem?_map, hg]; rfl
      obtain ⟨q, hq⟩ : ∃ q : Nat, q = k + 32 - g := ⟨_, rfl⟩
      have hqi : (k : Int) + 32 - (g : Int) = (q : Int) := by omega
      have hq8 : q / 8 < s.size := by omega
      have hqm : q % 8 < 8 := Nat.mod_lt _ (by decide)
      have HQ := Lib.hid hq
      have hfl : (Crc.flips k (Crc.exps.reverse.take J) s.data.toList).length = s.size := by rw [Crc.flips_length, len_data]
      obtain ⟨hc, hf⟩ := HBy.out.cell (k := q / 8) (by rw [hfl]; exact hq8)
      have HFL := Lib.hid hfl
      clear hq hfl ho hcell hg
      go_wp2_with fail
      go_loop [10, 11] (fun b i => ∃ S : Nat, S ≤ q % 8 ∧ i = .int .i64 S ∧ b = .int .u8 ((2 ^ S : Nat) : Int)) (fun _ i => 8 - (intOf i).toNat)
      case atStart => exact ⟨0, by omega, rfl, rfl⟩
      case round =>
        obtain ⟨S, hS, rfl, rfl⟩ := hrel
        by_cases hSl : S < q % 8
        · obtain ⟨p1, p2⟩ := pow_small (s := S) (by omega)
          have HP2 := Lib.hid p2
          obtain ⟨z, hz⟩ : ∃ z, 2 ^ S = z := ⟨_, rfl⟩
          rw [hz] at p1
          have HZ := Lib.hid hz
          rw [hz]
          clear p2 hz
          have hd : decide ((S : Int) < (q : Int) % 8) = true := by simp; omega
          go_wp2_with fail
          go_round
          case rel => exact ⟨S + 1, by omega, by go_num, by rw [← HP2.out, HZ.out]; rfl⟩
          case measure => simp [intOf]; omega
        · have hSe : S = q % 8 := by omega
          have hd : decide ((S : Int) < (q : Int) % 8) = false := by simp; omega
          have HBG := Lib.hid (bit_go2 ((Crc.flips k (Crc.exps.reverse.take J) s.data.toList)[q / 8]?.getD 0) q)
          rw [← hSe] at HBG
          obtain ⟨z, hz⟩ : ∃ z, 2 ^ S = z := ⟨_, rfl⟩
          rw [hz] at HBG ⊢
          have hz8 : z < 256 := by rw [← hz]; exact Nat.lt_of_lt_of_le (Nat.pow_lt_pow_right (by decide) (by omega : S < 8)) (by decide)
          have HSE := Lib.hid hSe
          clear hz hSe
          go_wp2_with fail
          go_roundw
          case rel =>
            refine ⟨J + 1, by omega, by go_num, ?_, HOr.out.far (fun g hg => by injection hg with hg; injection hg with hg; subst hg; exact fun e => HNE.out e.symm) _, HBl.out.setCell (Nat.le_refl _) _⟩
            rw [HBG.out, HG.out, flips_snoc, ← HQ.out, HSE.out]
            exact HBy.out.flip (by rw [HFL.out]; omega)
          case measure => simp [intOf]; omega
    · have h18 : J = 18 := by omega
      subst h18
      have hfl : (Crc.flips k (Crc.exps.reverse.take 18) s.data.toList).length = s.size := by rw [Crc.flips_length, len_data]
      have hcv2 := conv_str wr 32 9 5 _ s.size cB _ Tryd.underlying32 Tryd.underlying5 Tryd.underlying9 HBy.out.rd hfl (by omega)
      have HF := Lib.hid (show strB (Crc.flips k (Crc.exps.reverse.take 18) s.data.toList) = tw k s by
        rw [List.take_of_length_le (by rw [erev_len]; omega), flips_rev _ _ (by rw [len_data]; omega)]; rfl)
      rw [HF.out] at hcv2
      clear hfl
      go_wp2_with fail
      refine bodyPost_ret (v := .tuple #[.string (tw k s), .int .i64 0]) ?_ rfl ⟨rfl, HBl.out⟩
      rw [results_tmp2 rfl]; rfl
end Go.Proofs.YtgeiholilcgooaaDoor
