/- Schedules: are all units of one length? -/
import Derived.Test.YtghinmlpkgcdiaaDoorX16
namespace Go.Proofs.YtghinmlpkgcdiaaDoor
set_option linter.unusedSimpArgs false
set_option linter.unusedVariables false
open Go.RowKit Go.Lib

def strs (l : List ByteArray) : List Value := l.map .string
set_option maxRecDepth 100000 in
theorem rcell_any (n : Int) (s : ByteArray) (g : Nat) (w : World) (hg : Row w g 3 #[.int .i64 n]) :
    Calls Tryd.prog 43 #[.string s, .pointer (some ⟨g, 0, none⟩)] w fun e w' => e = .returned (.bool ((s.size : Int) != n)) ∧ w' = w := by
  have hc := hg.cell 0
  simp only [List.getElem?_toArray, List.getElem?_cons_zero] at hc
  clear hg
  go_enter Tryd.func43, Tryd.ntmps43
  go_wp2
  go_ret
  exact ⟨rfl, rfl⟩
set_option maxRecDepth 100000 in
theorem rindex_any (n : Int) (g : Nat) (a : Option Addr) (m k0 : Nat) (ss : List ByteArray) (w : World) (hl : ss.length = m) (hm : m ≤ 1000000) (hr : Rd w w.heap.size a (strs ss)) (hg : Row w g 3 #[.int .i64 n]) :
    Calls Tryd.prog 75 #[.slice a m k0, .func (.func 43) #[] #[.pointer (some ⟨g, 0, none⟩)]] w fun e w' => Found (ss.any fun s => (s.size : Int) != n) e ∧ w' = w := by
  have HR := Lib.hid hr
  have HL := Lib.hid hl
  have HF := Lib.hid (fun (s : ByteArray) => rcell_any n s g w hg)
  clear hr hl hg
  go_enter Tryd.func75, Tryd.ntmps75
  go_wp2
  go_loop [8] (fun i => ∃ k : Nat, k ≤ m ∧ i = .int .i64 k ∧ (ss.take k).any (fun s => (s.size : Int) != n) = false) (fun i => m - (intOf i).toNat)
  case atStart => exact ⟨0, by omega, rfl, rfl⟩
  case round =>
    obtain ⟨k, hk, rfl, ha⟩ := hrel
    have HA := Lib.hid ha
    clear ha
    by_cases hlt : k < m
    · obtain ⟨s, hx⟩ : ∃ x, ss[k]? = some x := ⟨_, List.getElem?_eq_getElem (by rw [HL.out]; exact hlt)⟩
      obtain ⟨b, off, rfl, hb, hc⟩ := HR.out k (.string s) (by rw [strs, List.getElem?_map, hx]; rfl)
      have HX := Lib.hid hx
      clear hx
      obtain ⟨bx, hbx⟩ : ∃ bx, ((s.size : Int) != n) = bx := ⟨_, rfl⟩
      have HC := Lib.hid (HF.out s)
      rw [hbx] at HC
      have HBX := Lib.hid hbx
      clear hbx
      go_wp2_with fail
      refine HC.out.mono ?_
      rintro e w1 ⟨rfl, rfl⟩
      cases bx
      · go_wp2
        go_round
        case rel => exact ⟨k + 1, by omega, by go_num, by rw [any_take2 HA.out HX.out]; exact HBX.out⟩
        case measure => simp [intOf]; omega
      · go_wp2
        go_ret
        refine ⟨.inr ⟨?_, k, rfl⟩, rfl⟩
        rw [List.any_eq_true]
        exact ⟨s, List.mem_of_getElem? HX.out, HBX.out⟩
    · have h1 : k = m := by omega
      have HA2 := Lib.hid (show ss.any (fun s => (s.size : Int) != n) = false by
        have := HA.out
        rwa [List.take_of_length_le (by rw [HL.out]; omega)] at this)
      clear h1
      go_wp2
      go_ret
      exact ⟨.inl ⟨HA2.out, rfl⟩, rfl⟩
set_option maxRecDepth 100000 in
theorem rcont_any (n : Int) (g : Nat) (a : Option Addr) (m k0 : Nat) (ss : List ByteArray) (w : World) (hl : ss.length = m) (hm : m ≤ 1000000) (hr : Rd w w.heap.size a (strs ss)) (hg : Row w g 3 #[.int .i64 n]) :
    Calls Tryd.prog 42 #[.slice a m k0, .func (.func 43) #[] #[.pointer (some ⟨g, 0, none⟩)]] w fun e w' => e = .returned (.bool (ss.any fun s => (s.size : Int) != n)) ∧ w' = w := by
  have h := rindex_any n g a m k0 ss w hl hm hr hg
  generalize (ss.any fun s => (s.size : Int) != n) = b at h ⊢
  have H := Lib.hid h
  clear h hl hm hr hg
  go_enter Tryd.func42, Tryd.ntmps42
  go_wp2_with fail
  refine H.out.mono ?_
  rintro e w1 ⟨hf, rfl⟩
  rcases hf with ⟨rfl, rfl⟩ | ⟨rfl, k, rfl⟩
  · go_wp2
    go_ret
    exact ⟨rfl, rfl⟩
  · have hd : decide (0 ≤ (k : Int)) = true := by simp
    go_wp2
    go_ret
    exact ⟨rfl, rfl⟩
end Go.Proofs.YtghinmlpkgcdiaaDoor
