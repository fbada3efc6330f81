/- Small words for walks: a block known whole, a slice that reads as a list, u32 values as bit vectors. -/
import Derived.Test.YtghinmlpkgcdiaaDoorRows
import Derived.WalkKit
import Derived.Lib.Hide
import Derived.Lib.SlBytesConst
import Derived.Deep.QuietTactic
import Derived.BigQuiet
namespace Go.Proofs.YtghinmlpkgcdiaaDoor
set_option linter.unusedSimpArgs false
set_option linter.unusedVariables false
open Go.RowKit

/-- block g holds the row cs, unfrozen -/
def Row (w : World) (g : Nat) (t : TypeId) (cs : Array Value) : Prop := w.heap[g]? = some (.cells cs t (0, 0))
section
variable {w w' : World} {g : Nat} {t : TypeId} {cs : Array Value}
theorem Row.lt (h : Row w g t cs) : g < w.heap.size := by
  by_cases hlt : g < w.heap.size
  · exact hlt
  · unfold Row at h; rw [Array.getElem?_eq_none (by omega)] at h; cases h
theorem Row.cell (h : Row w g t cs) (i : Nat) : w.cell? ⟨g, i, none⟩ = cs[i]? := cell_of_row w g i cs t (0, 0) h
theorem Row.frozen (h : Row w g t cs) (i : Nat) : w.frozen? ⟨g, i, none⟩ = false := by unfold Row at h; simp [World.frozen?, h]
theorem Row.new (w : World) (t : TypeId) (cs : Array Value) : Row (w.alloc (.cells cs t)) w.heap.size t cs := heap_alloc_new w _
theorem size1 (w : World) (o : Obj) : (w.alloc o).heap.size = w.heap.size + 1 := by simp
theorem Row.made {w : World} {n : Nat} (t : TypeId) (cs : Array Value) (h : n = w.heap.size) : Row (w.alloc (.cells cs t)) n t cs := by subst h; exact heap_alloc_new w _
theorem Row.alloc (h : Row w g t cs) (o : Obj) : Row (w.alloc o) g t cs := (Below.heap_alloc w o g h.lt).trans h
theorem Row.drew (h : Row w g t cs) : Row w.drew g t cs := h
theorem Row.drewN (h : Row w g t cs) (n : Nat) : Row (w.drewN n) g t cs := h
theorem Row.put (h : Row w g t cs) (i : Nat) (u : Value) : Row (w.setCell ⟨g, i, none⟩ u) g t (cs.setIfInBounds i u) := heap_setCell_same w g i cs t u h
theorem Row.far (h : Row w g t cs) {p : Addr} (hp : g ≠ p.block) (u : Value) : Row (w.setCell p u) g t cs := (heap_setCell_other w p g u hp).trans h
theorem Row.below {B : Nat} (h : Row w g t cs) (hb : Below B w w') (hg : g < B) : Row w' g t cs := (hb.block g hg).trans h
theorem Row.whole (h : Row w g t cs) (new : Array Value) : Row (w.setRow g new) g t new := setRow_heap w g cs new t _ h
theorem Row.apart (h : Row w g t cs) {g' : Nat} (hg : g ≠ g') (new : Array Value) : Row (w.setRow g' new) g t cs := (setRow_other w g' g new hg).trans h
theorem size_put (w : World) (p : Addr) (u : Value) : (w.setCell p u).heap.size = w.heap.size := by simp [World.setCell]
end

theorem below_whole {B : Nat} {a w : World} (h : Below B a w) {g : Nat} (hg : B ≤ g) (cs : Array Value) : Below B a (w.setRow g cs) :=
  ⟨h.os, h.tape, h.output, by rw [size_setRow]; exact h.size, fun k hk => (setRow_other w g k cs (by omega)).trans (h.block k hk)⟩

/-- the store of a whole row -/
theorem wpList_store_row {P : Program} {ops : Array Oper} {rest : List Oper} {o : Oper} {a : Act} {w : World} {Q : Exit → Act → World → Prop} (hgd : o.guard = none) (ty : TypeId) (x y : Operand) (ho : o.op = .store ty x y)
    (g : Nat) (cells : Array Value) (hx : a.eval x = .pointer (some ⟨g, 0, none⟩)) (hy : a.eval y = .agg cells)
    (t : TypeId) (old : Array Value) (hg : w.heap[g]? = some (.cells old t (0, 0))) (hi : (P.info? ty).map (·.size) = some cells.size)
    (hold : old.size = cells.size) (h1 : cells.all (·.oneCell') = true)
    (h : wpList P ops Q rest (a.put o.dst undef) (w.setRow g cells)) : wpList P ops Q (o :: rest) a w :=
  wpList_plain hgd fun _ hK => wp_store_row ty x y ho g cells hx hy t old hg hi hold h1 (hK _ _ h)

/-- two results, the first of them a struct in memory -/
theorem results_row_tmp {P : Program} {fn : Func} {p u : Tmp} {ty : TypeId} (h : fn.results = #[.cell p ty, .tmp u]) (tmps : Array Value) (w : World) (g : Nat) (t : TypeId) (cs : Array Value) (d : TypeDesc) (v2 : Value)
    (hp : tmps.getD p undef = .pointer (some ⟨g, 0, none⟩)) (hq : tmps.getD u undef = v2) (hg : Row w g t cs) (hu : P.underlying ty = some d) (hd : (match d with | .struct _ | .array _ _ => true | _ => false) = true)
    (hi : (P.info? ty).map (·.size) = some cs.size) : (results fn tmps).run P w = .ok (.tuple #[.agg cs, v2]) w := by
  rw [results_cell_tmp h, hp, hq]
  simp [asAddr, run_loadVar_row w g t ty cs (0, 0) d hg hu hd hi]

/-- the value at address a, onwards, reads as the list xs; all of it lies below block B -/
def Rd (w : World) (B : Nat) (a : Option Addr) (xs : List Value) : Prop :=
  ∀ j u, xs[j]? = some u → ∃ b off, a = some ⟨b, off, none⟩ ∧ b < B ∧ w.cell? ⟨b, off + j, none⟩ = some u
section
variable {w w' : World} {B B' : Nat} {a : Option Addr} {xs : List Value}
theorem Rd.keep (h : Rd w B a xs) (hk : ∀ b o, b < B → w'.cell? ⟨b, o, none⟩ = w.cell? ⟨b, o, none⟩) : Rd w' B a xs := fun j u hu => by
  obtain ⟨b, off, e, hb, hc⟩ := h j u hu
  exact ⟨b, off, e, hb, (hk _ _ hb).trans hc⟩
theorem Rd.more (h : Rd w B a xs) (hB : B ≤ B') : Rd w B' a xs := fun j u hu => by
  obtain ⟨b, off, e, hb, hc⟩ := h j u hu
  exact ⟨b, off, e, by omega, hc⟩
theorem Rd.below (h : Rd w B a xs) (hb : Below B w w') : Rd w' B a xs := h.keep fun b o hl => hb.cell (p := ⟨b, o, none⟩) hl
theorem Rd.drewN (h : Rd w B a xs) (n : Nat) : Rd (w.drewN n) B a xs := h
theorem Rd.alloc (h : Rd w B a xs) (hB : B ≤ w.heap.size) (o : Obj) : Rd (w.alloc o) B a xs := h.keep fun b off hl => World.cell?_alloc_lt w o ⟨b, off, none⟩ (by show b < _; omega)
theorem Rd.whole (h : Rd w B a xs) {g : Nat} (hg : B ≤ g) (cs : Array Value) : Rd (w.setRow g cs) B a xs := h.keep fun b off hl =>
  World.cell?_of_block (w := w) (setRow_other w g b cs (by omega))
theorem Rd.put (h : Rd w B a xs) {p : Addr} (hp : B ≤ p.block) (u : Value) : Rd (w.setCell p u) B a xs := h.keep fun b off hl =>
  World.cell?_of_block (w := w) (heap_setCell_other w p b u (by omega))
theorem Rd.row {w : World} {B g : Nat} {t : TypeId} {cs : Array Value} {xs : List Value} (h : Row w g t cs) (hg : g < B) (hx : ∀ (j : Nat) (u : Value), xs[j]? = some u → cs[j]? = some u) : Rd w B (some ⟨g, 0, none⟩) xs :=
  fun j u hu => ⟨g, 0, rfl, hg, by rw [Nat.zero_add, h.cell]; exact hx j u hu⟩
theorem Rd.take {w : World} {B : Nat} {a : Option Addr} {xs : List Value} (h : Rd w B a xs) (k : Nat) : Rd w B a (xs.take k) := fun j u hu => by
  rw [List.getElem?_take] at hu
  split at hu
  · exact h j u hu
  · cases hu
theorem Rd.nil (w : World) (B : Nat) (a : Option Addr) : Rd w B a [] := fun j u hu => by simp at hu
end

theorem Rd.mark (w : World) (t : TypeId) (C : Array Value) (n m : Nat) (xs : List Value) (hx : ∀ (j : Nat) (u : Value), xs[j]? = some u → C[j]? = some u) :
    Rd (w.alloc (.cells C t (n, m))) (w.heap.size + 1) (some ⟨w.heap.size, 0, none⟩) xs :=
  fun j u hu => ⟨w.heap.size, 0, rfl, Nat.lt_succ_self _, by rw [Nat.zero_add, World.cell?_alloc_mark]; exact hx j u hu⟩
theorem below_call {a w w' : World} (h : Below a.heap.size a w) (hb : Below w.heap.size w w') : Below a.heap.size a w' := h.trans (hb.mono h.size)

theorem undrew {B : Nat} {a w : World} (h : Below B a.drew w) : Below B a w := ⟨h.os, h.tape, h.output, h.size, h.block⟩
theorem undrewN {B n : Nat} {a w : World} (h : Below B (a.drewN n) w) : Below B a w := ⟨h.os, h.tape, h.output, h.size, h.block⟩

/-! ### numbers -/
def v8 (x : UInt8) : Value := .int .u8 (x.toNat : Int)
def v32 (x : BitVec 32) : Value := .int .u32 (x.toNat : Int)
theorem ofInt32 (x : BitVec 32) : BitVec.ofInt 32 (x.toNat : Int) = x := by
  rw [BitVec.ofInt_natCast, BitVec.ofNat_toNat]; simp
theorem wrap_toNat (x : BitVec 32) : IntKind.u32.wrap (x.toNat : Int) = (x.toNat : Int) := by
  rw [IntKind.wrap_u32]; have := x.isLt; omega
theorem b32_xor (x y : BitVec 32) : bits .xor .u32 (x.toNat : Int) (y.toNat : Int) = ((x ^^^ y).toNat : Int) := by
  unfold bits
  show IntKind.u32.wrap ((BitVec.ofInt 32 (x.toNat : Int) ^^^ BitVec.ofInt 32 (y.toNat : Int)).toNat : Int) = _
  rw [ofInt32, ofInt32]; exact wrap_toNat _
theorem b32_and (x y : BitVec 32) : bits .and .u32 (x.toNat : Int) (y.toNat : Int) = ((x &&& y).toNat : Int) := by
  unfold bits
  show IntKind.u32.wrap ((BitVec.ofInt 32 (x.toNat : Int) &&& BitVec.ofInt 32 (y.toNat : Int)).toNat : Int) = _
  rw [ofInt32, ofInt32]; exact wrap_toNat _
theorem b32_neg (x : BitVec 32) : IntKind.u32.wrap (0 - (x.toNat : Int)) = ((-x).toNat : Int) := by
  rw [IntKind.wrap_u32, BitVec.toNat_neg]; have := x.isLt; omega
theorem b32_shr (x : BitVec 32) (n : Nat) : ((x >>> n).toNat : Int) = (x.toNat : Int) / 2 ^ n := by
  rw [BitVec.toNat_ushiftRight, Nat.shiftRight_eq_div_pow, Int.natCast_ediv]; simp
theorem b32_lo (x : BitVec 32) : (x.toNat : Int) % 256 = ((x &&& 255#32).toNat : Int) := by
  rw [BitVec.toNat_and]
  have : x.toNat &&& 255 = x.toNat % 256 := Nat.and_two_pow_sub_one_eq_mod x.toNat 8
  show _ = ((x.toNat &&& 255 : Nat) : Int)
  rw [this]; omega
theorem b8_xor (x y : UInt8) : bits .xor .u8 (x.toNat : Int) (y.toNat : Int) = ((x ^^^ y).toNat : Int) := by
  rw [u8_xor_nat _ _ x.toNat_lt y.toNat_lt, UInt8.toNat_xor]
theorem made_get (z : Value) (n j : Nat) (u : Value) (h : (List.replicate n z)[j]? = some u) : (madeCells #[z] n)[j]? = some u := by
  rw [← Array.getElem?_toList, toList_madeCells_one]; exact h
theorem below_drewN {B : Nat} {a w : World} (h : Below B a w) (n : Nat) : Below B a (w.drewN n) := ⟨h.os, h.tape, h.output, h.size, h.block⟩
theorem ret_int {k : IntKind} {a b : Int} (h : a = b) : Ending.returned (.int k a) = .returned (.int k b) := by rw [h]
theorem ret_bool {a b : Bool} (h : a = b) : Ending.returned (.bool a) = .returned (.bool b) := by rw [h]
end Go.Proofs.YtghinmlpkgcdiaaDoor
