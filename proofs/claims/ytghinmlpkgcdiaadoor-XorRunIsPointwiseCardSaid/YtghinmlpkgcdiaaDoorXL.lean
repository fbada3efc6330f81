/- Schedules: running one, the plain words. -/
import Derived.Test.YtghinmlpkgcdiaaDoorXK
set_option linter.unusedVariables false
namespace Go.Proofs.YtghinmlpkgcdiaaDoor
namespace Xp

def bytesOf (s : ByteArray) (i : Nat) : Nat := (s.data.toList[i]?.getD 0).toNat
/-- the planes of all units -/
def runIn (m : Nat) (ss : List ByteArray) : List Nat := ss.flatMap fun s => plList m (bytesOf s) s.size 0
theorem plList_length (m : Nat) (f : Nat → Nat) (i k : Nat) : (plList m f i k).length = m := by simp [plList]
theorem runIn_length (m : Nat) (ss : List ByteArray) : (runIn m ss).length = ss.length * m := by
  unfold runIn
  induction ss with
  | nil => simp
  | cons r rs ih => rw [List.flatMap_cons, List.length_append, ih, plList_length, List.length_cons, Nat.add_mul]; omega
theorem runIn_take {m : Nat} {ss : List ByteArray} {t : Nat} {s : ByteArray} (h : ss[t]? = some s) : runIn m (ss.take (t + 1)) = runIn m (ss.take t) ++ plList m (bytesOf s) s.size 0 := by
  unfold runIn
  rw [List.take_add_one, h, List.flatMap_append]
  simp
/-- the plane of an output -/
def outN (R : List Nat) (r : Int) : Nat := if r < 0 then 0 else R[r.toNat]?.getD 0
/-- the planes of parity unit i -/
def outRow (m : Nat) (R : List Nat) (out : List Int) (i : Nat) : List Nat := (List.range m).map fun k => outN R (out[i * m + k]?.getD (-1))
/-- the parity units -/
def runOut (m n P : Nat) (R : List Nat) (out : List Int) : List (List UInt8) := (List.range P).map fun i => unitL m (fun K => (outRow m R out i)[K]?.getD 0) n
/-- do the units fit? -/
def fits (m : Nat) (ss : List ByteArray) : Bool := decide ((ss.headD ByteArray.empty).size % (m / 8) = 0) && !(ss.any fun s => (s.size : Int) != ((ss.headD ByteArray.empty).size : Int))
end Xp
end Go.Proofs.YtghinmlpkgcdiaaDoor
