/- Appending a number of zero bytes that 'make' never makes: append(b, make([]byte, n)...). -/
import Derived.Test.YtdkkoogcaininaaOwn
import Derived.Lib.AppendStr
namespace Go.Proofs.Ytdkkoogcaininaa
set_option linter.unusedSimpArgs false
set_option linter.unusedVariables false
open Go.RowKit Go.Lib

def zeroB (m : Nat) : ByteArray := ⟨Array.replicate m 0⟩
theorem zeroB_size (m : Nat) : (zeroB m).size = m := by simp [zeroB, ByteArray.size]
theorem zeroCells_one (m : Nat) : Builtin.zeroCells #[Value.int .u8 0] m = Array.replicate m (.int .u8 0) := by
  apply Array.ext
  · simp [Builtin.zeroCells]
  · intro i h1 h2
    simp [Builtin.zeroCells, Nat.mod_one]
theorem zeroB_cells (m : Nat) : (strCells (zeroB m)).toArray = Array.replicate m (.int .u8 0) := by
  apply Array.ext'
  simp [strCells, zeroB]
theorem run_append_zeros {P : Program} (t I S ty e : TypeId) (i : TypeInfo) (ht : P.underlying t = some (.slice e)) (hI : P.underlying I = some (.int .i64)) (hS : P.underlying S = some .string) (hi : P.info? e = some i)
    (hz : i.zero = some (.int .u8 0)) (h1 : i.size = 1) (h2 : i.bytes = 1) (a : Option Addr) (n c m : Nat) (hm : m ≤ 1000000) (hn : n ≤ 1000000) (hnc : n ≤ c) (w : World) :
    (Builtin.append_ #[t, I] ty #[.slice a n c, .int .i64 (m : Int)]).run P w = (Builtin.append_ #[t, S] ty #[.slice a n c, .string (zeroB m)]).run P w := by
  have hw : IntKind.i64.wrap (m : Int) = m := IntWalk.i64_in _ (by omega)
  have hn0 : ¬ ((m : Int) < 0) := by omega
  have hk : ¬ (281474976710656 < (m : Int)) := by omega
  have hk2 : ¬ (9223372036854775807 < ((n : Int) + (m : Int))) := by omega
  have hk3 : ¬ (9223372036854775807 < ((n : Int) + max (m : Int) 0)) := by omega
  have hf : ∀ w, (Builtin.firstCells 1 m (.string (zeroB m))).run P w = .ok (Array.replicate m (.int .u8 0)) w := fun w => by
    have := run_firstCells_string (P := P) w 1 (zeroB m)
    rwa [zeroB_size, zeroB_cells] at this
  have hcz : (Value.int IntKind.u8 0).cells = #[Value.int .u8 0] := rfl
  by_cases h0 : m = 0
  · subst h0
    have hw0 : IntKind.i64.wrap (0 : Int) = 0 := hw
    simp [Builtin.append_, run_underlying ht, run_underlying hI, run_underlying hS, sizeOf, typeInfo, hi, Builtin.lenOf, asInt, asIntOf, hw0, h1, h2, zeroB_size, hf, hnc]
  · have h0' : ¬ ((m : Int) ≤ 0) := by omega
    by_cases hr : n + m ≤ c
    · simp [Builtin.append_, run_underlying ht, run_underlying hI, run_underlying hS, sizeOf, typeInfo, zeroValue, hi, hz, Builtin.lenOf, asInt, asIntOf, hw, hn0, hk, h0, h0', hr, h1, h2, zeroB_size, hf, hcz, zeroCells_one]
    · have h48' : ¬ (281474976710656 < Builtin.nextslicecap (n + m) c) := by
        have := nextslicecap_le (need := n + m) (old := c) (by omega); omega
      simp [Builtin.append_, run_underlying ht, run_underlying hI, run_underlying hS, sizeOf, typeInfo, zeroValue, hi, hz, Builtin.lenOf, asInt, asIntOf, hw, hn0, hk, hk2, hk3, h0, h0', hr, h48', h1, h2, zeroB_size, hf, hcz, zeroCells_one, Question.forced]
def strB (l : List UInt8) : ByteArray := ⟨l.toArray⟩
theorem strB_size (l : List UInt8) : (strB l).size = l.length := by simp [strB, ByteArray.size]
theorem strB_data (l : List UInt8) : (strB l).data.toList = l := by simp [strB]
theorem strB_app (a b : List UInt8) : strB a ++ strB b = strB (a ++ b) := by
  apply ByteArray.ext
  simp [strB]
theorem conv_str {P : Program} (w : World) (src dst e : TypeId) (a : Option Addr) (n c : Nat) (bs : List UInt8) {B : Nat} (hs : P.underlying src = some (.slice e)) (he : P.underlying e = some (.int .u8)) (hd : P.underlying dst = some .string)
    (h : Rd w B a (bs.map v8)) (hl : bs.length = n) (hn : 0 < n) : (convert src dst (.slice a n c)).run P w = .ok (.string (strB bs)) w := by
  subst hl
  obtain ⟨x, hx⟩ : ∃ x, bs[0]? = some x := ⟨_, List.getElem?_eq_getElem hn⟩
  obtain ⟨b, off, rfl, _, _⟩ := h 0 (v8 x) (by rw [List.getElem?_map, hx]; rfl)
  refine run_convert_bytes_back w src dst e ⟨b, off, none⟩ c bs hs he hd fun j hj => ?_
  obtain ⟨b', off', e1, _, hc⟩ := h j (v8 bs[j]) (by rw [List.getElem?_map, List.getElem?_eq_getElem hj]; rfl)
  injection e1 with e1
  injection e1 with e1 e2
  subst e1 e2
  have : (⟨b, off, none⟩ : Addr).add j = ⟨b, off + j, none⟩ := by unfold Addr.add; split <;> simp_all
  rw [this]; exact hc
theorem wpList_appz {P : Program} {w : World} {ops : Array Oper} {rest : List Oper} {o : Oper} {act : Act} {Q : Exit → Act → World → Prop} (hgd : o.guard = none) (sl x : Operand) (t I S : TypeId)
    (ho : o.op = .call { callee := .builtin .append, args := #[sl, x], argTypes := #[t, I] })
    (B : Nat) (e : TypeId) (ht : P.underlying t = some (.slice e)) (hI : P.underlying I = some (.int .i64)) (hu : P.underlying S = some .string) (he : Elem P e (.int .u8 0) 1)
    (a : Option Addr) (n c : Nat) (bs : List UInt8) (hs : act.eval sl = .slice a n c) (hown : Own w B e a n c (bs.map v8)) (m : Nat) (hx : act.eval x = .int .i64 (m : Int))
    (hn : n ≤ 1000000) (hm : m ≤ 1000000) (hbase : B ≤ w.heap.size)
    (h : ∀ a' c' w', Own w' B e a' (n + m) c' ((bs ++ List.replicate m 0).map v8) → w.grownBy w' (Value.slice a n c).ownBlock → wpList P ops Q rest (act.put o.dst (.slice a' (n + m) c')) w') : wpList P ops Q (o :: rest) act w := by
  obtain ⟨i, hi, hz0, hz1, hz2⟩ := info_parts he
  refine wpList_plain hgd fun K hK => ?_
  obtain ⟨v', w', hr, hw', hg, _⟩ := run_append_own_string (P := P) w B t S o.type e i ht hu hi hz0 hz1 hz2 (.slice a n c) n (bs.map v8) hown (zeroB m) (by rw [zeroB_size]; unfold maxLen; omega) (by rw [zeroB_size]; omega) hbase
  rw [← run_append_zeros t I S o.type e i ht hI hu hi hz0 hz1 hz2 a n c m hm hn hown.cap w] at hr
  rw [zeroB_size, show strCells (zeroB m) = (List.replicate m (0 : UInt8)).map v8 by simp [strCells, zeroB, v8], ← List.map_append] at hw'
  unfold Oper.wp execOp
  simp only [ho, resolve, invoke, builtin, Sem.run_bind, Sem.run_pure, Result.andThen_ok, List.map_toArray, List.map_cons, List.map_nil, hs, hx, hr]
  rcases hw'.2 with ⟨rfl, hn⟩ | ⟨g, cap, cur, rfl, hr⟩
  · have := h none 0 w' (by rw [hn] at hw' ⊢; exact hw') hg
    rw [hn] at this
    exact hK _ _ this
  · exact hK _ _ (h (some ⟨g, 0, none⟩) cap w' hw' hg)
end Go.Proofs.Ytdkkoogcaininaa
