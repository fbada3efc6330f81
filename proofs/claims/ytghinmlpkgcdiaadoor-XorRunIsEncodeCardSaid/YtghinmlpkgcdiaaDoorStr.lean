/- A string made a row of bytes of one's own, read and written. -/
import Derived.Test.YtghinmlpkgcdiaaDoorOwn
import Derived.Lib.ConvBytes
import Derived.Laws.Rows
namespace Go.Proofs.YtghinmlpkgcdiaaDoor
set_option linter.unusedSimpArgs false
set_option linter.unusedVariables false
open Go.RowKit Go.Lib

def strB (l : List UInt8) : ByteArray := ⟨l.toArray⟩
theorem strB_size (l : List UInt8) : (strB l).size = l.length := by simp [strB, ByteArray.size]
theorem strB_data (l : List UInt8) : (strB l).data.toList = l := by simp [strB]
theorem strB_of (s : ByteArray) : strB s.data.toList = s := by
  apply ByteArray.ext
  simp [strB]
theorem len_data (s : ByteArray) : s.data.toList.length = s.size := Array.length_toList
theorem conv_str {P : Program} (w : World) (src dst e : TypeId) (a : Option Addr) (n c : Nat) (bs : List UInt8) {B : Nat} (hs : P.underlying src = some (.slice e)) (he : P.underlying e = some (.int .u8)) (hd : P.underlying dst = some .string)
    (h : Rd w B a (bs.map v8)) (hl : bs.length = n) (hn : 0 < n) : (convert src dst (.slice a n c)).run P w = .ok (.string (strB bs)) w := by
  subst hl
  obtain ⟨x, hx⟩ : ∃ x, bs[0]? = some x := ⟨_, List.getElem?_eq_getElem hn⟩
  obtain ⟨b, off, rfl, _, _⟩ := h 0 (v8 x) (by rw [List.getElem?_map, hx]; rfl)
  refine run_convert_bytes_back w src dst e ⟨b, off, none⟩ c bs hs he hd fun j hj => ?_
  obtain ⟨b', off', e1, _, hc⟩ := h j (v8 bs[j]) (by rw [List.getElem?_map, List.getElem?_eq_getElem hj]; rfl)
  injection e1 with e1
  injection e1 with e1 e2
  subst e1 e2
  have : (⟨b, off, none⟩ : Addr).add j = ⟨b, off + j, none⟩ := by unfold Addr.add; split <;> simp_all
  rw [this]; exact hc
theorem below_bytes (w : World) (e : TypeId) (s : ByteArray) : Below w.heap.size w (bytesWorld w e s) := by
  refine ⟨?_, ?_, ?_, ?_, fun k hk => bytesWorld_at_old w e s k hk⟩
  · simp [bytesWorld, World.freeze, World.alloc, World.drew, -World.alloc_eq, -World.drew_eq]
  · simp [bytesWorld, World.freeze, World.alloc, World.drew, -World.alloc_eq, -World.drew_eq]
  · simp [bytesWorld, World.freeze, World.alloc, World.drew, -World.alloc_eq, -World.drew_eq]
  · rw [bytesWorld_size]; omega

/-- block g holds the bytes bs, and more behind them; what lies in the row may be written -/
def Byt (w : World) (g : Nat) (bs : List UInt8) : Prop := ∃ (cs : Array Value) (t : TypeId), w.heap[g]? = some (.cells cs t (cs.size, cs.size + 1)) ∧ bs.length ≤ cs.size ∧ ∀ (k : Nat) (x : UInt8), bs[k]? = some x → cs[k]? = some (v8 x)
variable {w w' : World} {g : Nat} {bs : List UInt8}
theorem Byt.lt (h : Byt w g bs) : g < w.heap.size := by
  obtain ⟨cs, t, h, _⟩ := h
  exact (Array.getElem?_eq_some_iff.1 h).1
theorem Byt.cell (h : Byt w g bs) {k : Nat} (hk : k < bs.length) : w.cell? ⟨g, k, none⟩ = some (.int .u8 ((bs[k]?.getD 0).toNat : Int)) ∧ w.frozen? ⟨g, k, none⟩ = false := by
  obtain ⟨cs, t, h, hl, hc⟩ := h
  have := hc k bs[k] (List.getElem?_eq_getElem hk)
  refine ⟨?_, ?_⟩
  · rw [List.getElem?_eq_getElem hk]
    simp only [World.cell?, h]
    simpa [v8] using this
  · simp only [World.frozen?, h]
    simp; omega
theorem Byt.same (h : Byt w g bs) (e : w'.heap[g]? = w.heap[g]?) : Byt w' g bs := by
  obtain ⟨cs, t, h, r⟩ := h
  exact ⟨cs, t, e.trans h, r⟩
theorem Byt.below {B : Nat} (h : Byt w g bs) (hb : Below B w w') (hg : g < B) : Byt w' g bs := h.same (hb.block g hg)
theorem Byt.drew (h : Byt w g bs) : Byt w.drew g bs := h
theorem Byt.put (h : Byt w g bs) (k : Nat) (x : UInt8) : Byt (w.setCell ⟨g, k, none⟩ (v8 x)) g (bs.set k x) := by
  obtain ⟨cs, t, h, hl, hc⟩ := h
  refine ⟨cs.setIfInBounds k (v8 x), t, ?_, by simp; exact hl, fun j y hy => ?_⟩
  · have hlt := (Array.getElem?_eq_some_iff.1 h).1
    have hk := (Array.getElem?_eq_some_iff.1 h).2
    show (w.heap.modify g _)[g]? = _
    rw [Array.getElem?_eq_getElem (by rw [Array.size_modify]; exact hlt), Array.getElem_modify_self, hk]
    simp
  · by_cases e : k = j
    · subst e
      have hj : k < bs.length := by
        have := (List.getElem?_eq_some_iff.1 hy).1
        rwa [List.length_set] at this
      rw [List.getElem?_set_self hj] at hy
      injection hy with hy
      rw [Array.getElem?_setIfInBounds_self_of_lt (by omega), hy]
    · rw [List.getElem?_set_ne e] at hy
      rw [Array.getElem?_setIfInBounds_ne e]
      exact hc j y hy
theorem Byt.rd (h : Byt w g bs) : Rd w w.heap.size (some ⟨g, 0, none⟩) (bs.map v8) := by
  intro j u hu
  rw [List.getElem?_map] at hu
  obtain ⟨x, hx, rfl⟩ := Option.map_eq_some_iff.1 hu
  obtain ⟨hj, e⟩ := List.getElem?_eq_some_iff.1 hx
  refine ⟨g, 0, rfl, h.lt, ?_⟩
  rw [Nat.zero_add, (h.cell hj).1, hx]; rfl
theorem conv_bytes (w : World) (s : ByteArray) : ∃ (c : Nat) (w' : World), (convert 9 91 (.string s)).run Tryd.prog w = .ok (.slice (some ⟨w.heap.size, 0, none⟩) s.size c) w' ∧
    Below w.heap.size w w' ∧ Byt w' w.heap.size s.data.toList := by
  refine ⟨_, _, Go.Lib.run_convert_string_bytes (P := Tryd.prog) w 9 91 5 s Tryd.underlying9 Tryd.underlying91 Tryd.underlying5, below_bytes _ _ _, _, _, bytesWorld_at_new _ _ _, ?_, fun k x hx => ?_⟩
  · rw [len_data]
    rw [bytesCells, Array.size_append, Array.size_map]
    exact Nat.le_add_right _ _
  · have hk := (List.getElem?_eq_some_iff.1 hx).1
    rw [len_data] at hk
    have h := bytesWorld_cell w 5 s k hk
    simp only [World.cell?, bytesWorld_at_new] at h
    rw [List.getD_eq_getElem?_getD, hx] at h
    simpa [v8] using h
theorem conv_bytes2 (w : World) (s : ByteArray) : ∃ (c : Nat) (w' : World), (convert 9 91 (.string s)).run Tryd.prog w = .ok (.slice (some ⟨w.heap.size, 0, none⟩) s.size c) w' ∧
    Below w.heap.size w w' ∧ Byt w' w.heap.size s.data.toList ∧ s.size ≤ c := by
  obtain ⟨c, w', h, h1, h2⟩ := conv_bytes w s
  refine ⟨c, w', h, h1, h2, ?_⟩
  have h3 := Go.Lib.run_convert_string_bytes (P := Tryd.prog) w 9 91 5 s Tryd.underlying9 Tryd.underlying91 Tryd.underlying5
  rw [h] at h3
  injection h3 with h4 _
  injection h4 with _ _ h5
  rw [h5]
  exact grownCap_ge _ _ _ _
theorem str_beq (a b : ByteArray) : (a.toList == b.toList) = decide (a.data.toList = b.data.toList) := by
  rw [ByteArray.toList_eq, ByteArray.toList_eq]
  rw [Bool.eq_iff_iff, beq_iff_eq, decide_eq_true_eq]
theorem strB_inj {a b : ByteArray} (h : a.data.toList = b.data.toList) : a = b := by rw [← strB_of a, ← strB_of b, h]
theorem elem_u8 : Elem Tryd.prog 5 (.int .u8 0) 1 := by unfold Elem; kernel_rfl
theorem elem_int : Elem Tryd.prog 3 (.int .i64 0) 8 := by unfold Elem; kernel_rfl
theorem v8_one (bs : List UInt8) : ∀ u ∈ bs.map v8, u.oneCell' = true := by
  intro u hu
  obtain ⟨x, _, rfl⟩ := List.mem_map.1 hu
  rfl
theorem data_get (s : ByteArray) (k : Nat) (h : k < s.size) : s.data.toList[k]?.getD 0 = s[k] := by
  have h' : k < s.data.toList.length := by rw [len_data]; exact h
  rw [List.getElem?_eq_getElem h']; rfl
theorem conv_zero (w : World) (a : Option Addr) (c : Nat) : (convert 91 9 (.slice a 0 c)).run Tryd.prog w = .ok (.string ByteArray.empty) w := by
  rw [run_convert_bytes_string w 91 9 5 a 0 c Tryd.underlying91 Tryd.underlying5 Tryd.underlying9]
  cases a <;> simp [Conv.bytesToString, loadCells]
  all_goals rfl
/-- a row of bytes as a string, empty or not -/
theorem conv_all (w : World) (a : Option Addr) (n c : Nat) (bs : List UInt8) {B : Nat} (h : Rd w B a (bs.map v8)) (hl : bs.length = n) :
    (convert 91 9 (.slice a n c)).run Tryd.prog w = .ok (.string (strB bs)) w := by
  by_cases h0 : 0 < n
  · exact conv_str w 91 9 5 a n c bs Tryd.underlying91 Tryd.underlying5 Tryd.underlying9 h hl h0
  · obtain rfl : n = 0 := by omega
    have : bs = [] := List.length_eq_zero_iff.1 hl
    subst this
    exact conv_zero w a c
theorem make_bytes (m : Nat) (hm : m ≤ 100000000) (u : World) : (Instr.makeSlice 91 (.int .i64 (m : Int)) (.int .i64 (m : Int))).run Tryd.prog u =
    .ok (.slice (some ⟨u.heap.size, 0, none⟩) m m) (u.alloc (.cells (madeCells #[.int .u8 0] m) 5)) := by
  obtain ⟨i0, hi, hz0, hz1, hz2⟩ := info_parts (show (Tryd.prog.info? 5).map (fun i => (i.zero, i.size, i.bytes)) = some (some (.int .u8 0), 1, 1) by kernel_rfl)
  have h := run_make (P := Tryd.prog) u 91 5 i0 (.int .u8 0) Tryd.underlying91 hi hz0 .i64 .i64 (m : Int) (m : Int) (by omega) (Int.le_refl _) (by rw [hz2]; omega) (by omega)
  have e : (m : Int).toNat = m := by omega
  rw [e] at h
  simpa [hz1, Value.cells] using h
end Go.Proofs.YtghinmlpkgcdiaaDoor
