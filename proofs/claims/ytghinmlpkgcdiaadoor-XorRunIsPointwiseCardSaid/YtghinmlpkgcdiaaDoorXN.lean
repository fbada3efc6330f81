/- Schedules: running one is pointwise, the plain law. -/
import Derived.Test.YtghinmlpkgcdiaaDoorXM
import Derived.Test.YtghinmlpkgcdiaaDoorStr
import Derived.Test.YtghinmlpkgcdiaaDoorG10
set_option linter.unusedVariables false
namespace Go.Proofs.YtghinmlpkgcdiaaDoor
namespace Xp

/-- bit x of the planes of a unit -/
def bitsOf (m : Nat) (s : ByteArray) (x : Nat) : List Bool := (List.range m).map fun K => decide (byteAt m K x < s.size) && (bytesOf s (byteAt m K x)).testBit (K % 8)
theorem bitsOf_length (m : Nat) (s : ByteArray) (x : Nat) : (bitsOf m s x).length = m := by simp [bitsOf]
theorem runIn_bits {m : Nat} (hm : m = 8 ∨ m = 16) (ss : List ByteArray) (x : Nat) : (runIn m ss).map (fun n => n.testBit x) = ss.flatMap fun s => bitsOf m s x := by
  unfold runIn
  rw [List.map_flatMap]
  congr 1
  funext s
  unfold plList bitsOf
  rw [List.map_map]
  apply List.map_congr_left
  intro K hK
  show (plPart m (bytesOf s) s.size 0 K).testBit x = _
  rw [plPart_zero, plTo_bit hm _ (List.mem_range.1 hK)]
theorem bytesOf_append (a b : ByteArray) (j : Nat) : bytesOf (a ++ b) j = if j < a.size then bytesOf a j else bytesOf b (j - a.size) := by
  unfold bytesOf
  have e : (a ++ b).data.toList = a.data.toList ++ b.data.toList := by simp
  have hl : a.data.toList.length = a.size := by rw [Array.length_toList]; rfl
  rw [e]
  by_cases h : j < a.size
  · rw [if_pos h, List.getElem?_append_left (by omega)]
  · rw [if_neg h, List.getElem?_append_right (by omega), hl]
theorem bitsOf_left {m NA x : Nat} (hm : m = 8 ∨ m = 16) {a b : ByteArray} (ha : a.size = NA * (m / 8)) (hx : x < NA) : bitsOf m (a ++ b) x = bitsOf m a x := by
  unfold bitsOf
  apply List.map_congr_left
  intro K hK
  have hK := List.mem_range.1 hK
  have h1 : byteAt m K x < a.size := by
    rw [ha]; unfold byteAt
    rcases hm with rfl | rfl <;> simp <;> omega
  rw [bytesOf_append, if_pos h1, ByteArray.size_append]
  congr 1
  rw [decide_eq_decide]; omega
theorem bitsOf_right {m NA x : Nat} (hm : m = 8 ∨ m = 16) {a b : ByteArray} (ha : a.size = NA * (m / 8)) (hx : NA ≤ x) : bitsOf m (a ++ b) x = bitsOf m b (x - NA) := by
  unfold bitsOf
  apply List.map_congr_left
  intro K hK
  have hK := List.mem_range.1 hK
  have h1 : byteAt m K x = byteAt m K (x - NA) + a.size := by
    rw [ha]; unfold byteAt
    rcases hm with rfl | rfl <;> simp <;> omega
  rw [bytesOf_append, if_neg (by omega), ByteArray.size_append, h1, Nat.add_sub_cancel]
  congr 1
  rw [decide_eq_decide]; omega
theorem bytesOf_xor {a b : ByteArray} (h : a.size = b.size) (j : Nat) : bytesOf (strB (Fld.xorL a.data.toList b.data.toList)) j = bytesOf a j ^^^ bytesOf b j := by
  unfold bytesOf
  rw [strB_data]
  have hl : a.data.toList.length = a.size := by rw [Array.length_toList]; rfl
  have hl2 : b.data.toList.length = b.size := by rw [Array.length_toList]; rfl
  by_cases hj : j < a.size
  · rw [Fld.xorL_get (by omega) (by omega)]
    simp only [Option.getD_some, UInt8.toNat_xor]
  · rw [List.getElem?_eq_none (by rw [Fld.xorL_length (by omega)]; omega), List.getElem?_eq_none (by omega), List.getElem?_eq_none (by omega)]; rfl
theorem bitsOf_xor {m x : Nat} {a b : ByteArray} (h : a.size = b.size) : bitsOf m (strB (Fld.xorL a.data.toList b.data.toList)) x = List.zipWith xor (bitsOf m a x) (bitsOf m b x) := by
  have hl : a.data.toList.length = a.size := by rw [Array.length_toList]; rfl
  have hl2 : b.data.toList.length = b.size := by rw [Array.length_toList]; rfl
  unfold bitsOf
  rw [List.zipWith_map, List.zipWith_self]
  apply List.map_congr_left
  intro K _
  rw [bytesOf_xor h, strB_size, Fld.xorL_length (by omega), hl, Nat.testBit_xor, ← h]
  cases decide (byteAt m K x < a.size) <;> simp
theorem flatMap_zip_left {α β γ : Type} {op : α → β → α} {F G : α → List γ} : ∀ (A : List α) (B : List β), A.length = B.length → (∀ a ∈ A, ∀ b ∈ B, F (op a b) = G a) → (List.zipWith op A B).flatMap F = A.flatMap G
  | [], [], _, _ => rfl
  | a :: A, b :: B, hl, h => by
    rw [List.zipWith_cons_cons, List.flatMap_cons, List.flatMap_cons, h a (by simp) b (by simp), flatMap_zip_left A B (by simpa using hl) fun x hx y hy => h x (List.mem_cons_of_mem _ hx) y (List.mem_cons_of_mem _ hy)]
theorem flatMap_zip_right {α β γ : Type} {op : β → α → α} {F G : α → List γ} : ∀ (A : List β) (B : List α), A.length = B.length → (∀ a ∈ A, ∀ b ∈ B, F (op a b) = G b) → (List.zipWith op A B).flatMap F = B.flatMap G
  | [], [], _, _ => rfl
  | a :: A, b :: B, hl, h => by
    rw [List.zipWith_cons_cons, List.flatMap_cons, List.flatMap_cons, h a (by simp) b (by simp), flatMap_zip_right A B (by simpa using hl) fun x hx y hy => h x (List.mem_cons_of_mem _ hx) y (List.mem_cons_of_mem _ hy)]
theorem flatMap_zip_xor {α : Type} {op : α → α → α} {F : α → List Bool} {m : Nat} (hF : ∀ a, (F a).length = m) : ∀ (A B : List α), A.length = B.length → (∀ a ∈ A, ∀ b ∈ B, F (op a b) = List.zipWith xor (F a) (F b)) → (List.zipWith op A B).flatMap F = List.zipWith xor (A.flatMap F) (B.flatMap F)
  | [], [], _, _ => rfl
  | a :: A, b :: B, hl, h => by
    rw [List.zipWith_cons_cons, List.flatMap_cons, List.flatMap_cons, List.flatMap_cons, h a (by simp) b (by simp), flatMap_zip_xor hF A B (by simpa using hl) (fun x hx y hy => h x (List.mem_cons_of_mem _ hx) y (List.mem_cons_of_mem _ hy)), List.zipWith_append (by rw [hF, hF])]
/-- plane K of parity unit c -/
def outP (m : Nat) (R : List Nat) (out : List Int) (c K : Nat) : Nat := (outRow m R out c)[K]?.getD 0
theorem outP_eq {m K : Nat} (R : List Nat) (out : List Int) (c : Nat) (hK : K < m) : outP m R out c K = outN R (out[c * m + K]?.getD (-1)) := by
  unfold outP outRow
  rw [List.getElem?_map, List.getElem?_range hK]; rfl
theorem runOut_eq (m n P : Nat) (R : List Nat) (out : List Int) : runOut m n P R out = (List.range P).map fun i => unitL m (outP m R out i) n := rfl
/-- the bits of two lists of registers agree -/
theorem outP_congr {m x x' K : Nat} (hK : K < m) {l l' : List Nat} {os : List (Nat × Nat)} {out : List Int} {c : Nat} (h : l.map (fun n => n.testBit x) = l'.map (fun n => n.testBit x')) :
    (outP m (regs l os) out c K).testBit x = (outP m (regs l' os) out c K).testBit x' := by
  rw [outP_eq _ _ _ hK, outP_eq _ _ _ hK, outN_bit, outN_bit, regs_bit, regs_bit, h]
theorem outP_xor {m x K : Nat} (hK : K < m) {l a b : List Nat} {os : List (Nat × Nat)} {out : List Int} {c : Nat} (hl : a.length = b.length) (h : l.map (fun n => n.testBit x) = List.zipWith xor (a.map (fun n => n.testBit x)) (b.map (fun n => n.testBit x))) :
    (outP m (regs l os) out c K).testBit x = ((outP m (regs a os) out c K).testBit x ^^ (outP m (regs b os) out c K).testBit x) := by
  rw [outP_eq _ _ _ hK, outP_eq _ _ _ hK, outP_eq _ _ _ hK, outN_bit, outN_bit, outN_bit, regs_bit, regs_bit, regs_bit, h, regsB_xor _ _ _ (by simp [hl])]
  generalize out[c * m + K]?.getD (-1) = r
  by_cases hr : r < 0
  · simp [hr]
  · simp only [hr, if_false]
    have hlen : (regsB (a.map fun n => n.testBit x) os).length = (regsB (b.map fun n => n.testBit x) os).length := by
      rw [← regs_bit, ← regs_bit, List.length_map, List.length_map, regs_length, regs_length, hl]
    rw [List.getElem?_zipWith]
    by_cases hi : r.toNat < (regsB (a.map fun n => n.testBit x) os).length
    · rw [List.getElem?_eq_getElem hi, List.getElem?_eq_getElem (by omega)]; rfl
    · rw [List.getElem?_eq_none (by omega), List.getElem?_eq_none (by omega)]; rfl
theorem high_mod {m a : Nat} (i : Nat) (hm : m = 8 ∨ m = 16) : high m (a * (m / 8) + i) = high m i := by
  unfold high
  rw [Nat.mul_comm a, Nat.mul_add_mod]
theorem runOut_join {m NA nB P : Nat} (hm : m = 8 ∨ m = 16) (A B : List ByteArray) (os : List (Nat × Nat)) (out : List Int) (hl : A.length = B.length) (hA : ∀ a ∈ A, a.size = NA * (m / 8)) :
    runOut m (NA * (m / 8) + nB) P (regs (runIn m (List.zipWith (· ++ ·) A B)) os) out = List.zipWith (· ++ ·) (runOut m (NA * (m / 8)) P (regs (runIn m A) os) out) (runOut m nB P (regs (runIn m B) os) out) := by
  have hz : 0 < m / 8 := by rcases hm with rfl | rfl <;> decide
  have hlo : ∀ x, x < NA → (runIn m (List.zipWith (· ++ ·) A B)).map (fun n => n.testBit x) = (runIn m A).map (fun n => n.testBit x) := fun x hx => by
    rw [runIn_bits hm, runIn_bits hm]
    exact flatMap_zip_left A B hl fun a ha b hb => bitsOf_left hm (hA a ha) hx
  have hhi : ∀ x, NA ≤ x → (runIn m (List.zipWith (· ++ ·) A B)).map (fun n => n.testBit x) = (runIn m B).map (fun n => n.testBit (x - NA)) := fun x hx => by
    rw [runIn_bits hm, runIn_bits hm]
    exact flatMap_zip_right A B hl fun a ha b hb => bitsOf_right hm (hA a ha) hx
  rw [runOut_eq, runOut_eq, runOut_eq, List.zipWith_map, List.zipWith_self]
  apply List.map_congr_left
  intro c _
  unfold unitL
  rw [List.range_add, List.map_append, List.map_map]
  congr 1
  · apply List.map_congr_left
    intro i hi
    have hi := List.mem_range.1 hi
    congr 1
    apply ubTo_congr
    intro k hk
    exact outP_congr (high_lt hm hk) (hlo _ ((Nat.div_lt_iff_lt_mul hz).2 hi))
  · apply List.map_congr_left
    intro i hi
    show UInt8.ofNat _ = UInt8.ofNat _
    congr 1
    apply ubTo_congr
    intro k hk
    rw [high_mod i hm]
    have e : (NA * (m / 8) + i) / (m / 8) = NA + i / (m / 8) := by
      rw [Nat.add_comm, Nat.add_mul_div_right _ _ hz, Nat.add_comm]
    rw [e, outP_congr (high_lt hm hk) (hhi _ (Nat.le_add_right _ _)), Nat.add_sub_cancel_left]
theorem runOut_xor {m n P : Nat} (hm : m = 8 ∨ m = 16) (A B : List ByteArray) (os : List (Nat × Nat)) (out : List Int) (hl : A.length = B.length) (hA : ∀ a ∈ A, a.size = n) (hB : ∀ b ∈ B, b.size = n) :
    runOut m n P (regs (runIn m (List.zipWith (fun a b => strB (Fld.xorL a.data.toList b.data.toList)) A B)) os) out = List.zipWith Fld.xorL (runOut m n P (regs (runIn m A) os) out) (runOut m n P (regs (runIn m B) os) out) := by
  have hx : ∀ x, (runIn m (List.zipWith (fun a b => strB (Fld.xorL a.data.toList b.data.toList)) A B)).map (fun n => n.testBit x) = List.zipWith xor ((runIn m A).map (fun n => n.testBit x)) ((runIn m B).map (fun n => n.testBit x)) := fun x => by
    rw [runIn_bits hm, runIn_bits hm, runIn_bits hm]
    exact flatMap_zip_xor (F := fun s => bitsOf m s x) (fun a => bitsOf_length m a x) A B hl fun a ha b hb => bitsOf_xor ((hA a ha).trans (hB b hb).symm)
  rw [runOut_eq, runOut_eq, runOut_eq, List.zipWith_map, List.zipWith_self]
  apply List.map_congr_left
  intro c _
  unfold unitL Fld.xorL
  rw [List.zipWith_map, List.zipWith_self]
  apply List.map_congr_left
  intro i _
  rw [← UInt8.ofNat_xor]
  congr 1
  apply Nat.eq_of_testBit_eq
  intro k
  rw [Nat.testBit_xor, ubTo_bit, ubTo_bit, ubTo_bit]
  by_cases hk : k < 8
  · simp only [hk, decide_true, Bool.true_and]
    exact outP_xor (high_lt hm hk) (by rw [runIn_length, runIn_length, hl]) (hx _)
  · simp [hk]
end Xp
end Go.Proofs.YtghinmlpkgcdiaaDoor
