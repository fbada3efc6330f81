/- Sector: what a label is, and a string made a slice of bytes. -/
import Derived.Test.YtdkkoogcaininaaS10
import Derived.Lib.ConvBytes
namespace Go.Proofs.Ytdkkoogcaininaa
set_option linter.unusedSimpArgs false
set_option linter.unusedVariables false
open Go.RowKit Go.Lib

theorem results_row2_tmp {P : Program} {fn : Func} {p q u : Tmp} {ty ty2 : TypeId} (h : fn.results = #[.cell p ty, .cell q ty2, .tmp u]) (tmps : Array Value) (w : World) (g g2 : Nat) (t t2 : TypeId) (cs cs2 : Array Value) (d d2 : TypeDesc) (v : Value)
    (hp : tmps.getD p undef = .pointer (some ⟨g, 0, none⟩)) (hq : tmps.getD q undef = .pointer (some ⟨g2, 0, none⟩)) (hv : tmps.getD u undef = v) (hg : Row w g t cs) (hg2 : Row w g2 t2 cs2)
    (hu : P.underlying ty = some d) (hd : (match d with | .struct _ | .array _ _ => true | _ => false) = true) (hi : (P.info? ty).map (·.size) = some cs.size)
    (hu2 : P.underlying ty2 = some d2) (hd2 : (match d2 with | .struct _ | .array _ _ => true | _ => false) = true) (hi2 : (P.info? ty2).map (·.size) = some cs2.size) :
    (results fn tmps).run P w = .ok (.tuple #[.agg cs, .agg cs2, v]) w := by
  have e1 := run_loadVar_row w g t ty cs (0, 0) d hg hu hd hi
  have e2 := run_loadVar_row w g2 t2 ty2 cs2 (0, 0) d2 hg2 hu2 hd2 hi2
  rw [Array.getD_eq_getD_getElem?] at hp hq hv
  simp [results, h, hp, hq, hv, asAddr, e1, e2]
theorem extract_list (s : ByteArray) (a b : Nat) : (s.extract a b).data.toList = (s.data.toList.drop a).take (b - a) := by
  rw [ByteArray.data_extract, Array.toList_extract]
theorem below_bytes (w : World) (e : TypeId) (s : ByteArray) : Below w.heap.size w (bytesWorld w e s) := by
  refine ⟨?_, ?_, ?_, ?_, fun k hk => bytesWorld_at_old w e s k hk⟩
  · simp [bytesWorld, World.freeze, World.alloc, World.drew, -World.alloc_eq, -World.drew_eq]
  · simp [bytesWorld, World.freeze, World.alloc, World.drew, -World.alloc_eq, -World.drew_eq]
  · simp [bytesWorld, World.freeze, World.alloc, World.drew, -World.alloc_eq, -World.drew_eq]
  · rw [bytesWorld_size]; omega
theorem conv_bytes (w : World) (s : ByteArray) : ∃ (c : Nat) (w' : World), (convert 9 40 (.string s)).run Try.prog w = .ok (.slice (some ⟨w.heap.size, 0, none⟩) s.size c) w' ∧
    Below w.heap.size w w' ∧ Rd w' w'.heap.size (some ⟨w.heap.size, 0, none⟩) (s.data.toList.map v8) := by
  refine ⟨_, _, Go.Lib.run_convert_string_bytes (P := Try.prog) w 9 40 5 s Try.underlying9 Try.underlying40 Try.underlying5, below_bytes _ _ _, ?_⟩
  intro j u hu
  rw [List.getElem?_map] at hu
  obtain ⟨x, hx, rfl⟩ := Option.map_eq_some_iff.1 hu
  obtain ⟨hj, e⟩ := List.getElem?_eq_some_iff.1 hx
  refine ⟨w.heap.size, 0, rfl, by rw [bytesWorld_size]; omega, ?_⟩
  rw [Nat.zero_add, bytesWorld_cell w _ s j (by rw [len_data] at hj; exact hj), List.getD_eq_getElem?_getD, hx]; rfl
/-- the label of 64 bytes -/
def fA (l : List UInt8) : Nat := (l.getD 4 0).toNat
def fD (l : List UInt8) : Nat := (l.getD 5 0).toNat
def fI (l : List UInt8) : Nat := numOf ((l.drop 6).take 2)
def fE (l : List UInt8) : Nat := numOf ((l.drop 8).take 4)
def fC (l : List UInt8) : Nat := numOf ((l.drop 12).take 4)
def fQ (l : List UInt8) : Nat := numOf (l.take 4)
def sumOk (l : List UInt8) : Bool := decide (fQ l = (Crc.crc (l.drop 4)).toNat)
def whole (l : List UInt8) : Bool := decide ((l.drop 8).take 8 = l.drop 56)
def labOk (l : List UInt8) : Bool := sumOk l && placeB (fD l) (fA l) (fI l) && genB (fE l) (fC l) && whole l
/-- the parts and the error: (disk, area, index, epoch, count, error) -/
def labOf (l : List UInt8) : Nat × Nat × Nat × Nat × Nat × Nat := if l.length ≠ 64 then (0, 0, 0, 0, 0, 1) else if labOk l then (fD l, fA l, fI l, fE l, fC l, 0) else (0, 0, 0, 0, 0, 7)
@[reducible] def labV (x : Nat × Nat × Nat × Nat × Nat × Nat) : Value :=
  .tuple #[.agg #[.int .i64 (x.1 : Nat), .int .i64 (x.2.1 : Nat), .int .i64 (x.2.2.1 : Nat)], .agg #[.int .i64 (x.2.2.2.1 : Nat), .int .i64 (x.2.2.2.2.1 : Nat)], .int .i64 (x.2.2.2.2.2 : Nat)]
theorem at_nat (s : ByteArray) (k : Nat) (h : k < s.size) : s[k].toNat = (s.data.toList.getD k 0).toNat := by
  have hl : k < s.data.toList.length := by rw [len_data]; exact h
  rw [List.getD_eq_getElem?_getD, List.getElem?_eq_getElem hl]; rfl
theorem str_beq (a b : ByteArray) : (a.toList == b.toList) = decide (a.data.toList = b.data.toList) := by
  rw [ByteArray.toList_eq, ByteArray.toList_eq]
  rw [Bool.eq_iff_iff, beq_iff_eq, decide_eq_true_eq]
end Go.Proofs.Ytdkkoogcaininaa
