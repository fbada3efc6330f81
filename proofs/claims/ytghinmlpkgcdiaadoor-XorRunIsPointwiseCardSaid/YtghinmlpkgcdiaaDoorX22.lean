/- Schedules: few units, few operations; Run, both ways in one. -/
import Derived.Test.YtghinmlpkgcdiaaDoorOpenX
namespace Go.Proofs.YtghinmlpkgcdiaaDoor
set_option linter.unusedSimpArgs false
set_option linter.unusedVariables false
open Go.RowKit Go.Lib

def few08 (ss : List ByteArray) : Bool := decide (ss.length ≤ 24) && ss.all fun s => decide (s.size ≤ 64)
def few11 (f d : Int) (no nx : Nat) : Bool := decide (d ≤ 5) && decide (f ≤ 16) && decide (wrap64 (d * f) ≤ 40) && decide (nx ≤ 40) && decide (no ≤ 300)
set_option maxRecDepth 100000 in
set_option maxHeartbeats 1600000 in
theorem few11_any (f d p : Int) (qo : Option Addr) (no ko : Nat) (qx : Option Addr) (nx kx : Nat) (w : World) :
    Calls Tryd.prog 23 #[schV f d p qo no ko qx nx kx] w fun e w' => e = .returned (.bool (few11 f d no nx)) ∧ Below w.heap.size w w' := by
  unfold schV few11
  have HB := Lib.hid ((Below.refl _ w).alloc (Nat.le_refl _) (.cells (schC f d p qo no ko qx nx kx) 30))
  obtain ⟨b1, e1⟩ : ∃ b, decide (d ≤ 5) = b := ⟨_, rfl⟩
  obtain ⟨b2, e2⟩ : ∃ b, decide (f ≤ 16) = b := ⟨_, rfl⟩
  obtain ⟨b3, e3⟩ : ∃ b, decide (wrap64 (d * f) ≤ 40) = b := ⟨_, rfl⟩
  obtain ⟨b4, e4⟩ : ∃ b, decide (nx ≤ 40) = b := ⟨_, rfl⟩
  obtain ⟨b5, e5⟩ : ∃ b, decide (no ≤ 300) = b := ⟨_, rfl⟩
  have e4' : decide ((nx : Int) ≤ 40) = b4 := by rw [← e4, decide_eq_decide]; omega
  have e5' : decide ((no : Int) ≤ 300) = b5 := by rw [← e5, decide_eq_decide]; omega
  rw [e1, e2, e3, e4, e5]
  clear e4 e5
  cases b1
  · go_enter Tryd.func23, Tryd.ntmps23
    go_wp2
    go_ret
    exact ⟨rfl, HB.out⟩
  cases b2
  · go_enter Tryd.func23, Tryd.ntmps23
    go_wp2
    go_ret
    exact ⟨rfl, HB.out⟩
  cases b3
  · go_enter Tryd.func23, Tryd.ntmps23
    go_wp2
    go_ret
    exact ⟨rfl, HB.out⟩
  cases b4
  · go_enter Tryd.func23, Tryd.ntmps23
    go_wp2
    go_ret
    exact ⟨rfl, HB.out⟩
  go_enter Tryd.func23, Tryd.ntmps23
  go_wp2
  go_ret
  exact ⟨by cases b5 <;> rfl, HB.out⟩
set_option maxRecDepth 100000 in
set_option maxHeartbeats 1600000 in
theorem few08_any (q : Option Addr) (n k : Nat) (ss : List ByteArray) (w : World) (h : StrIn w q n k ss) :
    Calls Tryd.prog 13 #[.slice q n k] w fun e w' => e = .returned (.bool (few08 ss)) ∧ w' = w := by
  have HL := Lib.hid h.len
  have HR := Lib.hid h.rd
  have HSZ := Lib.hid h.sz
  unfold few08
  rw [h.len]
  clear h
  by_cases hn : n ≤ 24
  · have hd : decide ((24 : Int) < n) = false := decide_eq_false (by omega)
    have hd2 : decide (n ≤ 24) = true := decide_eq_true hn
    rw [hd2, Bool.true_and]
    clear hd2
    obtain ⟨F, hF⟩ : ∃ F, (ss.all fun s => decide (s.size ≤ 64)) = F := ⟨_, rfl⟩
    have HF := Lib.hid hF
    rw [hF]
    clear hF
    go_enter Tryd.func13, Tryd.ntmps13
    go_wp2
    clear hd
    go_loop [3] (fun i => ∃ t : Nat, t ≤ n ∧ i = .int .i64 t ∧ ((ss.take t).all fun s => decide (s.size ≤ 64)) = true) (fun i => n - (intOf i).toNat)
    case atStart => exact ⟨0, by omega, rfl, rfl⟩
    case round =>
      obtain ⟨t, ht, rfl, ha⟩ := hrel
      have HA := Lib.hid ha
      clear ha
      by_cases hlt : t < n
      · have hd : decide ((t : Int) < n) = true := decide_eq_true (by omega)
        obtain ⟨s, hx⟩ : ∃ x, ss[t]? = some x := ⟨_, List.getElem?_eq_getElem (by rw [HL.out]; exact hlt)⟩
        obtain ⟨b, off, rfl, hb, hc⟩ := HR.out t (.string s) (by rw [strs, List.getElem?_map, hx]; rfl)
        have hsm := HSZ.out s (List.mem_of_getElem? hx)
        unfold maxLen at hsm
        by_cases h64 : s.size ≤ 64
        · have hd6 : decide ((64 : Int) < s.size) = false := decide_eq_false (by omega)
          have HA2 := Lib.hid (show ((ss.take (t + 1)).all fun s => decide (s.size ≤ 64)) = true by
            rw [List.take_add_one, hx, List.all_append, HA.out]; simp [h64])
          clear hx
          go_wp2
          go_round
          case rel => exact ⟨t + 1, by omega, by go_num, HA2.out⟩
          case measure => simp [intOf]; omega
        · have hd6 : decide ((64 : Int) < s.size) = true := decide_eq_true (by omega)
          have HF2 := Lib.hid (show F = false by
            rw [← HF.out, List.all_eq_false]
            exact ⟨s, List.mem_of_getElem? hx, by simp; omega⟩)
          clear hx
          go_wp2
          go_ret
          exact ⟨by rw [HF2.out]; rfl, rfl⟩
      · have h1 : t = n := by omega
        have hd : decide ((t : Int) < n) = false := decide_eq_false (by omega)
        have HF2 := Lib.hid (show F = true by
          rw [← HF.out]
          have := HA.out
          rwa [List.take_of_length_le (by rw [HL.out]; omega)] at this)
        clear h1
        go_wp2
        go_ret
        exact ⟨by rw [HF2.out]; rfl, rfl⟩
  · have hd : decide ((24 : Int) < n) = true := decide_eq_true (by omega)
    have hd2 : decide (n ≤ 24) = false := decide_eq_false hn
    rw [hd2, Bool.false_and]
    clear hd2
    go_enter Tryd.func13, Tryd.ntmps13
    go_wp2
    go_ret
    exact ⟨rfl, rfl⟩
/-- does Run accept? -/
def Xp.acc (f d p : Int) (ops : List (Int × Int)) (out : List Int) (ss : List ByteArray) : Bool := Xp.okS f d p ops out && decide ((ss.length : Int) = d) && Xp.fits f.toNat ss
/-- the length of the units -/
def Xp.unitN (ss : List ByteArray) : Nat := (ss.headD ByteArray.empty).size
/-- the parity units, as strings -/
def Xp.parity (f p : Int) (ops : List (Int × Int)) (out : List Int) (ss : List ByteArray) : List (List UInt8) := Xp.runOut f.toNat (Xp.unitN ss) p.toNat (Xp.regs (Xp.runIn f.toNat ss) (natO ops)) out
theorem acc_parts {f d p : Int} {ops : List (Int × Int)} {out : List Int} {ss : List ByteArray} (h : Xp.acc f d p ops out ss = true) :
    ∃ m D P NS : Nat, f = m ∧ d = D ∧ p = P ∧ Fld.IsM m ∧ 1 ≤ D ∧ ss.length = D ∧ Xp.unitN ss = NS * (m / 8) ∧ (∀ s ∈ ss, s.size = Xp.unitN ss) ∧ Xp.okS f d p ops out = true := by
  unfold Xp.acc at h
  rw [Bool.and_eq_true, Bool.and_eq_true] at h
  obtain ⟨⟨h1, h2⟩, h3⟩ := h
  have h2 := of_decide_eq_true h2
  have h1' := h1
  unfold Xp.okS at h1'
  rw [Bool.and_eq_true, Bool.and_eq_true] at h1'
  obtain ⟨⟨hh, _⟩, _⟩ := h1'
  unfold Xp.headOk at hh
  simp only [Bool.and_eq_true, Bool.or_eq_true, decide_eq_true_eq] at hh
  obtain ⟨⟨⟨⟨⟨⟨hf, hd1⟩, hp0⟩, _⟩, _⟩, _⟩, _⟩ := hh
  unfold Xp.fits at h3
  rw [Bool.and_eq_true] at h3
  obtain ⟨h4, h5⟩ := h3
  have h4 := of_decide_eq_true h4
  refine ⟨f.toNat, d.toNat, p.toNat, Xp.unitN ss / (f.toNat / 8), by omega, by omega, by omega, ?_, by omega, by omega, ?_, ?_, h1⟩
  · rcases hf with rfl | rfl
    · exact .inl rfl
    · exact .inr rfl
  · have := Nat.div_add_mod (Xp.unitN ss) (f.toNat / 8)
    unfold Xp.unitN at this ⊢
    rw [h4] at this
    rw [Nat.mul_comm]; omega
  · intro s hs
    by_cases e : s.size = Xp.unitN ss
    · exact e
    · exfalso
      have : (ss.any fun s => (s.size : Int) != ((ss.headD ByteArray.empty).size : Int)) = true := List.any_eq_true.2 ⟨s, hs, by
        unfold Xp.unitN at e
        simp only [bne_iff_ne, ne_eq]; omega⟩
      rw [this] at h5; simp at h5
theorem run_acc {f d p : Int} {qo : Option Addr} {no ko : Nat} {qx : Option Addr} {nx kx : Nat} {ops : List (Int × Int)} {out : List Int} (B : Nat) {qd : Option Addr} {nd kd : Nat} {ss : List ByteArray} (w : World) (ht : Tab w) (hno : no ≤ 131072) (hs : SchIn w f d p qo no ko qx nx kx ops out)
    (hl : ss.length = nd) (hr : Rd w w.heap.size qd (strs ss)) (hsz : ∀ s ∈ ss, s.size ≤ 1000) (h : Xp.acc f d p ops out ss = true) :
    Calls Tryd.prog 15 #[schV f d p qo no ko qx nx kx, .slice qd nd kd] w fun e w' => (∃ q k, e = .returned (.tuple #[.slice q p.toNat k, .int .i64 0]) ∧ Own w' w.heap.size 9 q p.toNat k (strsB (Xp.parity f p ops out ss))) ∧ Below w.heap.size w w' := by
  obtain ⟨m, D, P, NS, rfl, rfl, rfl, hm, hD, hlD, hn, hall, hok⟩ := acc_parts h
  have hn1000 : Xp.unitN ss ≤ 1000 := by
    cases ss with
    | nil => simp at hlD; omega
    | cons s r => exact hsz s (by simp)
  have h9 := run_yes (m := m) (D := D) hm P qo no ko qx nx kx (Xp.unitN ss) NS ops out qd kd ss w ht hno hs.lo hs.ro hs.lx hs.rx hs.cx hs.mx hok hD hlD hr hall hn hn1000
  rw [← hl, hlD]
  exact h9
theorem run_rej {f d p : Int} {qo : Option Addr} {no ko : Nat} {qx : Option Addr} {nx kx : Nat} {ops : List (Int × Int)} {out : List Int} {qd : Option Addr} {nd kd : Nat} {ss : List ByteArray} (w : World) (ht : Tab w) (hno : no ≤ 131072) (hs : SchIn w f d p qo no ko qx nx kx ops out)
    (hl : ss.length = nd) (hnd : nd ≤ 1000000) (hr : Rd w w.heap.size qd (strs ss)) (hsz : ∀ s ∈ ss, s.size ≤ 1000) (h : Xp.acc f d p ops out ss = false) :
    Calls Tryd.prog 15 #[schV f d p qo no ko qx nx kx, .slice qd nd kd] w fun e w' => e = .returned (.tuple #[.slice none 0 0, .int .i64 1]) ∧ Below w.heap.size w w' := by
  refine run_no (m := f.toNat) f d p qo no ko qx nx kx ops out qd nd kd ss w ht (by omega) hs.lo hs.ro hs.lx hs.rx hl hnd hr hsz ?_
  by_cases h1 : Xp.okS f d p ops out = true
  · by_cases h2 : (nd : Int) = d
    · refine .inr (.inr ?_)
      have h1' := h1
      unfold Xp.okS at h1'
      rw [Bool.and_eq_true, Bool.and_eq_true] at h1'
      obtain ⟨⟨hh, _⟩, _⟩ := h1'
      unfold Xp.headOk at hh
      simp only [Bool.and_eq_true, Bool.or_eq_true, decide_eq_true_eq] at hh
      obtain ⟨⟨⟨⟨⟨⟨hf, hd1⟩, hp0⟩, _⟩, _⟩, _⟩, _⟩ := hh
      refine ⟨by omega, ?_, by omega, h1, h2, ?_⟩
      · rcases hf with rfl | rfl
        · exact .inl rfl
        · exact .inr rfl
      · unfold Xp.acc at h
        rw [h1, hl, decide_eq_true h2] at h
        simpa using h
    · exact .inr (.inl h2)
  · exact .inl (by simpa using h1)
end Go.Proofs.YtghinmlpkgcdiaaDoor
