/- Fingerprint: four bytes laid over a string are seen; copy into a row of bytes. -/
import Derived.Test.YtgeiholilcgooaaDoorF5
import Derived.Test.YtgeiholilcgooaaDoorLawCollides
import Derived.StillTailTactics
import Derived.Laws.IdiomCopy
namespace Go.Proofs.YtgeiholilcgooaaDoor
set_option linter.unusedSimpArgs false
set_option linter.unusedVariables false
open Go.RowKit Go.Lib

namespace Crc
theorem crc_front (z l m : List UInt8) (h : l.length = m.length) : crc (z ++ l) = crc (z ++ m) ↔ crc l = crc m := by
  rw [crc_eq_iff _ _ (by simp [h]), crc_eq_iff _ _ h, diff_append _ _ _ _ _ rfl, diff_same, (s8_lin.it _).zero]
theorem burst4 (l m a b : List UInt8) (ha : a.length = 4) (hb : b.length = 4) (h : crc (l ++ (a ++ m)) = crc (l ++ (b ++ m))) : a = b := by
  match a, ha, b, hb with
  | [a0, a1, a2, a3], _, [b0, b1, b2, b3], _ =>
    apply Decidable.byContradiction
    intro hne
    have hx : ∀ x y : UInt8, x ^^^ (x ^^^ y) = y := fun x y => by rw [← UInt8.xor_assoc]; simp
    have hz : ∀ x y : UInt8, x ^^^ y = 0 → x = y := fun x y h => by
      have := hx x y
      rw [h] at this
      simpa using this
    refine burst l m a0 a1 a2 a3 (a0 ^^^ b0) (a1 ^^^ b1) (a2 ^^^ b2) (a3 ^^^ b3) (fun hc => hne ?_) ?_
    · rw [hz _ _ hc.1, hz _ _ hc.2.1, hz _ _ hc.2.2.1, hz _ _ hc.2.2.2]
    · rw [hx, hx, hx, hx]; exact h
/-- at most four bytes in one place -/
theorem burst_some (p m a b : List UInt8) (ha : a.length ≤ 4) (hab : a.length = b.length) (h : crc (p ++ (a ++ m)) = crc (p ++ (b ++ m))) : a = b := by
  have h1 := (crc_front [0, 0, 0, 0] _ _ (by simp [hab])).2 h
  have hq : ([0, 0, 0, 0] : List UInt8) ++ p = (([0, 0, 0, 0] : List UInt8) ++ p).take (p.length + a.length) ++ (([0, 0, 0, 0] : List UInt8) ++ p).drop (p.length + a.length) := (List.take_append_drop _ _).symm
  have hl : ((([0, 0, 0, 0] : List UInt8) ++ p).drop (p.length + a.length)).length = 4 - a.length := by simp; omega
  generalize (([0, 0, 0, 0] : List UInt8) ++ p).take (p.length + a.length) = q1 at hq
  generalize (([0, 0, 0, 0] : List UInt8) ++ p).drop (p.length + a.length) = q2 at hq hl
  have e : ∀ t, ([0, 0, 0, 0] : List UInt8) ++ (p ++ (t ++ m)) = q1 ++ ((q2 ++ t) ++ m) := fun t => by
    rw [← List.append_assoc, hq, List.append_assoc, List.append_assoc]
  rw [e a, e b] at h1
  have := burst4 q1 m (q2 ++ a) (q2 ++ b) (by simp [hl]; omega) (by simp [hl]; omega) h1
  exact List.append_cancel_left this
end Crc

/-- cs laid over bs from place p on -/
def over (bs : List UInt8) : Nat → List UInt8 → List UInt8
  | _, [] => bs
  | p, c :: r => over (bs.set p c) (p + 1) r
theorem over_length (cs : List UInt8) : ∀ (bs : List UInt8) (p : Nat), (over bs p cs).length = bs.length := by
  induction cs with
  | nil => intro bs p; rfl
  | cons c r ih => intro bs p; rw [over, ih, List.length_set]
theorem over_parts (cs : List UInt8) : ∀ (p a m : List UInt8), a.length = cs.length → over (p ++ (a ++ m)) p.length cs = p ++ (cs ++ m) := by
  induction cs with
  | nil => intro p a m h; have : a = [] := by simpa using h
           rw [this]; rfl
  | cons c r ih =>
    intro p a m h
    match a, h with
    | x :: a, h =>
      rw [over]
      have e : (p ++ (x :: a ++ m)).set p.length c = (p ++ [c]) ++ (a ++ m) := by simp
      have := ih (p ++ [c]) a m (by simpa using h)
      rw [List.length_append, List.length_singleton] at this
      rw [e, this]; simp
/-- what is laid over is seen, or is the same -/
theorem over_crc (bs cs : List UInt8) (p : Nat) (hc : cs.length ≤ 4) (hp : p + cs.length ≤ bs.length) : Crc.crc (over bs p cs) = Crc.crc bs ↔ over bs p cs = bs := by
  constructor
  · intro h
    have e : bs = bs.take p ++ ((bs.drop p).take cs.length ++ (bs.drop p).drop cs.length) := by rw [List.take_append_drop, List.take_append_drop]
    have hl : (bs.take p).length = p := by simp; omega
    have h2 : ((bs.drop p).take cs.length).length = cs.length := by simp; omega
    have ho : over bs p cs = bs.take p ++ (cs ++ (bs.drop p).drop cs.length) := by
      have := over_parts cs (bs.take p) ((bs.drop p).take cs.length) ((bs.drop p).drop cs.length) h2
      rwa [← e, hl] at this
    have h3 : Crc.crc (bs.take p ++ (cs ++ (bs.drop p).drop cs.length)) = Crc.crc (bs.take p ++ ((bs.drop p).take cs.length ++ (bs.drop p).drop cs.length)) := by rw [← e, ← ho]; exact h
    have := Crc.burst_some _ _ _ _ hc h2.symm h3
    rw [ho]
    conv => rhs; rw [e]
    rw [← this]
  · intro h; rw [h]

theorem byt_setCells (g : Nat) (cs : List UInt8) : ∀ (w : World) (bs : List UInt8) (p : Nat), Byt w g bs → Byt (w.setCells g p (cs.map v8)) g (over bs p cs) := by
  induction cs with
  | nil => intro w bs p h; exact h
  | cons c r ih => intro w bs p h; exact ih _ _ _ (h.put p c)
theorem below_setCells {B g : Nat} (hg : B ≤ g) (vs : List Value) : ∀ (w : World) (p : Nat), Below B w (w.setCells g p vs) := by
  induction vs with
  | nil => intro w p; exact Below.refl _ _
  | cons v r ih => intro w p; exact ((Below.refl B w).setCell (p := ⟨g, p, none⟩) hg v).trans (ih _ _)
theorem conv_bytes2 (w : World) (s : ByteArray) : ∃ (c : Nat) (w' : World), (convert 9 32 (.string s)).run Tryd.prog w = .ok (.slice (some ⟨w.heap.size, 0, none⟩) s.size c) w' ∧
    Below w.heap.size w w' ∧ Byt w' w.heap.size s.data.toList ∧ s.size ≤ c := by
  obtain ⟨c, w', h, h1, h2⟩ := conv_bytes w s
  refine ⟨c, w', h, h1, h2, ?_⟩
  have h3 := Go.Lib.run_convert_string_bytes (P := Tryd.prog) w 9 32 5 s Tryd.underlying9 Tryd.underlying32 Tryd.underlying5
  rw [h] at h3
  injection h3 with h4 _
  injection h4 with _ _ h5
  rw [h5]
  exact grownCap_ge _ _ _ _
/-- copy into a row of bytes -/
theorem run_copy_byt {w : World} {g : Nat} {bs : List UInt8} (h : Byt w g bs) (off dLen dCap : Nat) (ad : Addr) (sLen sCap : Nat) (cs : List UInt8) (hn : cs.length = Nat.min sLen dLen)
    (hsrc : ∀ j v, (cs.map v8)[j]? = some v → w.cell? (ad.add j) = some v) (hfit : off + cs.length ≤ bs.length) (T : TypeId) :
    ∃ w', (Builtin.copy_ #[32, 32] T #[.slice (some ⟨g, off, none⟩) dLen dCap, .slice (some ad) sLen sCap]).run Tryd.prog w = .ok (goInt cs.length) w' ∧ Byt w' g (over bs off cs) ∧ ∀ B, B ≤ g → Below B w w' := by
  refine ⟨_, (run_copy_cells w 32 32 T 5 g off dLen dCap ad sLen sCap (cs.map v8) Tryd.underlying32 (by kernel_rfl) (by simpa using hn) hsrc (fun j hj => ?_) (fun j hj => ?_) ?_).trans (by rw [List.length_map]), byt_setCells g cs w bs off h, fun B hB => below_setCells hB _ _ _⟩
  · rw [(h.cell (k := off + j) (by simp at hj; omega)).1]; rfl
  · exact (h.cell (k := off + j) (by simp at hj; omega)).2
  · intro v hv
    obtain ⟨x, _, rfl⟩ := List.mem_map.1 hv
    rfl
theorem wpList_copy_byt {ops : Array Oper} {rest : List Oper} {o : Oper} {a : Act} {w : World} {Q : Exit → Act → World → Prop} (hgd : o.guard = none) (d s : Operand)
    (ho : o.op = .call { callee := .builtin .copy, args := #[d, s], argTypes := #[32, 32] }) {g : Nat} {bs : List UInt8} (h : Byt w g bs) (off dLen dCap : Nat) (ad : Addr) (sLen sCap : Nat)
    (hd : a.eval d = .slice (some ⟨g, off, none⟩) dLen dCap) (hs : a.eval s = .slice (some ad) sLen sCap) (cs : List UInt8) (hn : cs.length = Nat.min sLen dLen)
    (hsrc : ∀ j v, (cs.map v8)[j]? = some v → w.cell? (ad.add j) = some v) (hfit : off + cs.length ≤ bs.length)
    (k : ∀ w', Byt w' g (over bs off cs) → (∀ B, B ≤ g → Below B w w') → wpList Tryd.prog ops Q rest (a.put o.dst (goInt cs.length)) w') : wpList Tryd.prog ops Q (o :: rest) a w := by
  refine wpList_plain hgd fun K hK => ?_
  obtain ⟨w', hrun, h1, h2⟩ := run_copy_byt h off dLen dCap ad sLen sCap cs hn hsrc hfit o.type
  unfold Oper.wp
  simp [execOp, ho, resolve, invoke, builtin, hd, hs, hrun, Result.andThen]
  exact hK _ _ (k w' h1 h2)
end Go.Proofs.YtgeiholilcgooaaDoor
