/- Fingerprint: a string made a row of bytes of one's own, read and written. -/
import Derived.Test.YtgeiholilcgooaaDoorOwn
import Derived.Test.YtgeiholilcgooaaDoorTw
import Derived.Test.YtgeiholilcgooaaDoorCrcW2
import Derived.Lib.ConvBytes
import Derived.Laws.Rows
namespace Go.Proofs.YtgeiholilcgooaaDoor
set_option linter.unusedSimpArgs false
set_option linter.unusedVariables false
open Go.RowKit Go.Lib

def strB (l : List UInt8) : ByteArray := ⟨l.toArray⟩
theorem strB_size (l : List UInt8) : (strB l).size = l.length := by simp [strB, ByteArray.size]
theorem strB_data (l : List UInt8) : (strB l).data.toList = l := by simp [strB]
theorem strB_of (s : ByteArray) : strB s.data.toList = s := by
  apply ByteArray.ext
  simp [strB]
theorem len_data (s : ByteArray) : s.data.toList.length = s.size := Array.length_toList
theorem conv_str {P : Program} (w : World) (src dst e : TypeId) (a : Option Addr) (n c : Nat) (bs : List UInt8) {B : Nat} (hs : P.underlying src = some (.slice e)) (he : P.underlying e = some (.int .u8)) (hd : P.underlying dst = some .string)
    (h : Rd w B a (bs.map v8)) (hl : bs.length = n) (hn : 0 < n) : (convert src dst (.slice a n c)).run P w = .ok (.string (strB bs)) w := by
  subst hl
  obtain ⟨x, hx⟩ : ∃ x, bs[0]? = some x := ⟨_, List.getElem?_eq_getElem hn⟩
  obtain ⟨b, off, rfl, _, _⟩ := h 0 (v8 x) (by rw [List.getElem?_map, hx]; rfl)
  refine run_convert_bytes_back w src dst e ⟨b, off, none⟩ c bs hs he hd fun j hj => ?_
  obtain ⟨b', off', e1, _, hc⟩ := h j (v8 bs[j]) (by rw [List.getElem?_map, List.getElem?_eq_getElem hj]; rfl)
  injection e1 with e1
  injection e1 with e1 e2
  subst e1 e2
  have : (⟨b, off, none⟩ : Addr).add j = ⟨b, off + j, none⟩ := by unfold Addr.add; split <;> simp_all
  rw [this]; exact hc
theorem below_bytes (w : World) (e : TypeId) (s : ByteArray) : Below w.heap.size w (bytesWorld w e s) := by
  refine ⟨?_, ?_, ?_, ?_, fun k hk => bytesWorld_at_old w e s k hk⟩
  · simp [bytesWorld, World.freeze, World.alloc, World.drew, -World.alloc_eq, -World.drew_eq]
  · simp [bytesWorld, World.freeze, World.alloc, World.drew, -World.alloc_eq, -World.drew_eq]
  · simp [bytesWorld, World.freeze, World.alloc, World.drew, -World.alloc_eq, -World.drew_eq]
  · rw [bytesWorld_size]; omega

/-- block g holds the bytes bs, and more behind them; what lies in the row may be written -/
def Byt (w : World) (g : Nat) (bs : List UInt8) : Prop := ∃ (cs : Array Value) (t : TypeId), w.heap[g]? = some (.cells cs t (cs.size, cs.size + 1)) ∧ bs.length ≤ cs.size ∧ ∀ (k : Nat) (x : UInt8), bs[k]? = some x → cs[k]? = some (v8 x)
variable {w w' : World} {g : Nat} {bs : List UInt8}
theorem Byt.lt (h : Byt w g bs) : g < w.heap.size := by
  obtain ⟨cs, t, h, _⟩ := h
  exact (Array.getElem?_eq_some_iff.1 h).1
theorem Byt.cell (h : Byt w g bs) {k : Nat} (hk : k < bs.length) : w.cell? ⟨g, k, none⟩ = some (.int .u8 ((bs[k]?.getD 0).toNat : Int)) ∧ w.frozen? ⟨g, k, none⟩ = false := by
  obtain ⟨cs, t, h, hl, hc⟩ := h
  have := hc k bs[k] (List.getElem?_eq_getElem hk)
  refine ⟨?_, ?_⟩
  · rw [List.getElem?_eq_getElem hk]
    simp only [World.cell?, h]
    simpa [v8] using this
  · simp only [World.frozen?, h]
    simp; omega
theorem Byt.same (h : Byt w g bs) (e : w'.heap[g]? = w.heap[g]?) : Byt w' g bs := by
  obtain ⟨cs, t, h, r⟩ := h
  exact ⟨cs, t, e.trans h, r⟩
theorem Byt.below {B : Nat} (h : Byt w g bs) (hb : Below B w w') (hg : g < B) : Byt w' g bs := h.same (hb.block g hg)
theorem Byt.drew (h : Byt w g bs) : Byt w.drew g bs := h
theorem Byt.put (h : Byt w g bs) (k : Nat) (x : UInt8) : Byt (w.setCell ⟨g, k, none⟩ (v8 x)) g (bs.set k x) := by
  obtain ⟨cs, t, h, hl, hc⟩ := h
  refine ⟨cs.setIfInBounds k (v8 x), t, ?_, by simp; exact hl, fun j y hy => ?_⟩
  · have hlt := (Array.getElem?_eq_some_iff.1 h).1
    have hk := (Array.getElem?_eq_some_iff.1 h).2
    show (w.heap.modify g _)[g]? = _
    rw [Array.getElem?_eq_getElem (by rw [Array.size_modify]; exact hlt), Array.getElem_modify_self, hk]
    simp
  · by_cases e : k = j
    · subst e
      have hj : k < bs.length := by
        have := (List.getElem?_eq_some_iff.1 hy).1
        rwa [List.length_set] at this
      rw [List.getElem?_set_self hj] at hy
      injection hy with hy
      rw [Array.getElem?_setIfInBounds_self_of_lt (by omega), hy]
    · rw [List.getElem?_set_ne e] at hy
      rw [Array.getElem?_setIfInBounds_ne e]
      exact hc j y hy
theorem Byt.flip (h : Byt w g bs) {p : Nat} (hp : p < 8 * bs.length) : Byt (w.setCell ⟨g, p / 8, none⟩ (v8 (bs[p / 8]?.getD 0 ^^^ Crc.bitOf (p % 8)))) g (Crc.flip p bs) := by
  rw [Crc.flip_set _ _ hp]
  exact h.put _ _
theorem Byt.rd (h : Byt w g bs) : Rd w w.heap.size (some ⟨g, 0, none⟩) (bs.map v8) := by
  intro j u hu
  rw [List.getElem?_map] at hu
  obtain ⟨x, hx, rfl⟩ := Option.map_eq_some_iff.1 hu
  obtain ⟨hj, e⟩ := List.getElem?_eq_some_iff.1 hx
  refine ⟨g, 0, rfl, h.lt, ?_⟩
  rw [Nat.zero_add, (h.cell hj).1, hx]; rfl
theorem conv_bytes (w : World) (s : ByteArray) : ∃ (c : Nat) (w' : World), (convert 9 32 (.string s)).run Tryd.prog w = .ok (.slice (some ⟨w.heap.size, 0, none⟩) s.size c) w' ∧
    Below w.heap.size w w' ∧ Byt w' w.heap.size s.data.toList := by
  refine ⟨_, _, Go.Lib.run_convert_string_bytes (P := Tryd.prog) w 9 32 5 s Tryd.underlying9 Tryd.underlying32 Tryd.underlying5, below_bytes _ _ _, _, _, bytesWorld_at_new _ _ _, ?_, fun k x hx => ?_⟩
  · rw [len_data]
    rw [bytesCells, Array.size_append, Array.size_map]
    exact Nat.le_add_right _ _
  · have hk := (List.getElem?_eq_some_iff.1 hx).1
    rw [len_data] at hk
    have h := bytesWorld_cell w 5 s k hk
    simp only [World.cell?, bytesWorld_at_new] at h
    rw [List.getD_eq_getElem?_getD, hx] at h
    simpa [v8] using h
theorem bit_go (x : UInt8) (p : Nat) : Value.int .u8 (bits .xor .u8 (x.toNat : Int) (2 ^ (p % 8) % 256)) = v8 (x ^^^ Crc.bitOf (p % 8)) := by
  have h8 : p % 8 < 8 := Nat.mod_lt _ (by decide)
  have e : (2 : Int) ^ (p % 8) % 256 = ((Crc.bitOf (p % 8)).toNat : Int) := by
    rw [Crc.bitOf_toNat _ h8]
    have h2 : 2 ^ (p % 8) < 2 ^ 8 := Nat.pow_lt_pow_right (by decide) h8
    have h3 : (2 : Int) ^ (p % 8) = ((2 ^ (p % 8) : Nat) : Int) := by simp
    rw [h3]
    generalize 2 ^ (p % 8) = z at h2
    omega
  rw [e, b8_xor]; rfl

set_option maxRecDepth 100000 in
/-- fingerprint.Of -/
theorem fof_any (s : ByteArray) (w : World) (hs : s.size ≤ 9223372036854775807) :
    Calls Tryd.prog 11 #[.string s] w fun e w' => e = .returned (v32 (Crc.crc s.data.toList)) ∧ Below w.heap.size w w' := by
  obtain ⟨cB, wB, hcv, hbB, hB⟩ := conv_bytes w s
  have HB := Lib.hid hbB
  have HR := Lib.hid hB
  clear hbB hB
  go_enter Tryd.func11, Tryd.ntmps11
  go_wp2_with fail
  refine (of_any _ s.size cB _ s.data.toList wB (len_data s) hs (Nat.le_refl _) HR.out.rd).mono ?_
  rintro e w1 ⟨rfl, hb⟩
  have H1 := Lib.hid (below_call HB.out hb)
  clear hb
  go_wp2_with fail
  go_ret
  exact ⟨rfl, H1.out⟩
/-- how many twins -/
def space (n : Nat) : Nat := if 2000 < n then 0 else 8 * n - 32
theorem fspace_any (n : Nat) (w : World) (hn : n ≤ 1000000000000) :
    Calls Tryd.prog 10 #[.int .i64 (n : Int)] w fun e w' => e = .returned (.int .i64 (space n : Int)) ∧ w' = w := by
  by_cases h : 2000 < n
  · have hd : decide (2000 < (n : Int)) = true := by simp; omega
    go_enter Tryd.func10, Tryd.ntmps10
    go_wp2_with fail
    go_ret
    exact ⟨by rw [space, if_pos h]; rfl, rfl⟩
  · have hd : decide (2000 < (n : Int)) = false := by simp; omega
    go_enter Tryd.func10, Tryd.ntmps10
    have H := Lib.hid h
    clear h
    go_wp2_with fail
    all_goals go_ret
    all_goals (refine ⟨?_, rfl⟩; rw [space, if_neg H.out])
    all_goals (refine ret_int ?_; omega)
end Go.Proofs.YtgeiholilcgooaaDoor
