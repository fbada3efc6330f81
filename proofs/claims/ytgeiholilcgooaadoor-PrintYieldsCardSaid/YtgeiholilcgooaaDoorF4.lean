/- Fingerprint: the sanity example of chapter 04. -/
import Derived.Test.YtgeiholilcgooaaDoorF3
namespace Go.Proofs.YtgeiholilcgooaaDoor
set_option linter.unusedSimpArgs false
set_option linter.unusedVariables false
open Go.RowKit Go.Shelf Go.Lib
attribute [local go_sem] Oper.semAt_some

theorem tw0_any (w : World) (ht : Tab w) : Calls Tryd.prog 9 #[.string ⟨#[0, 0, 0, 0, 0]⟩, .int .i64 0] w fun e w' => e = .returned (.tuple #[.string ⟨#[241, 118, 236, 5, 1]⟩, .int .i64 0]) ∧ Below w.heap.size w w' := by
  have h := ftwin_ok ⟨#[0, 0, 0, 0, 0]⟩ 0 w ht (by decide)
  rw [show strB (Crc.twin 0 (⟨#[0, 0, 0, 0, 0]⟩ : ByteArray).data.toList) = ⟨#[241, 118, 236, 5, 1]⟩ by decide +kernel] at h
  exact h
theorem tw1_any (w : World) : Calls Tryd.prog 9 #[.string ⟨#[0, 0, 0, 0]⟩, .int .i64 0] w fun e w' => e = .returned (.tuple #[.string ⟨#[]⟩, .int .i64 1]) ∧ Below w.heap.size w w' :=
  ftwin_no ⟨#[0, 0, 0, 0]⟩ 0 w (by decide) (.inr (by decide))
theorem of9_any (w : World) : Calls Tryd.prog 11 #[.string ⟨#[49, 50, 51, 52, 53, 54, 55, 56, 57]⟩] w fun e w' => e = .returned (.int .u32 3808858755) ∧ Below w.heap.size w w' := by
  have h := fof_any ⟨#[49, 50, 51, 52, 53, 54, 55, 56, 57]⟩ w (by decide)
  rw [show v32 (Crc.crc (⟨#[49, 50, 51, 52, 53, 54, 55, 56, 57]⟩ : ByteArray).data.toList) = .int .u32 3808858755 by
    have : (Crc.crc (⟨#[49, 50, 51, 52, 53, 54, 55, 56, 57]⟩ : ByteArray).data.toList).toNat = 3808858755 := by decide +kernel
    rw [v32, this]; rfl] at h
  exact h
theorem sp4_any (w : World) : Calls Tryd.prog 10 #[.int .i64 4] w fun e w' => e = .returned (.int .i64 0) ∧ w' = w := fspace_any 4 w (by decide)
theorem sp32_any (w : World) : Calls Tryd.prog 10 #[.int .i64 32] w fun e w' => e = .returned (.int .i64 224) ∧ w' = w := fspace_any 32 w (by decide)
theorem results_bool_cell {fn : Func} {p : Tmp} {t : TypeId} (h : fn.results = #[.cell p 4]) {tmps : Array Value} {w : World} {g : Nat} {b : Bool}
    (hp : tmps.getD p undef = .pointer (some ⟨g, 0, none⟩)) (hr : Row w g t #[.bool b]) : (results fn tmps).run Tryd.prog w = .ok (.bool b) w := by
  have hc : w.cell? ⟨g, 0, none⟩ = some (.bool b) := hr.cell 0
  have hp' : tmps[p]?.getD undef = .pointer (some ⟨g, 0, none⟩) := by simpa using hp
  have hia : (isAgg 4).run Tryd.prog w = .ok false w := by kernel_rfl
  simp [results, h, hp', asAddr, hia, hc, go_sem]
theorem twinsOf_mem {b x : List UInt8} (h : x ∈ twinsOf b) : x.length = b.length := by
  simp only [twinsOf, List.mem_map] at h
  obtain ⟨k, _, rfl⟩ := h
  exact Crc.twin_length _ _

set_option maxRecDepth 100000 in
set_option maxHeartbeats 4000000 in
theorem sanity_any (w : World) (ht : Tab w) :
    Calls Tryd.prog 8 #[] w fun e w' => e = .returned (.bool true) ∧ Below w.heap.size w w' := by
  refine (callsIn_wide (n := 5)).1 ?_
  have HT := Lib.hid ht
  clear ht
  refine callsIn_of_wp_marks Tryd.func8 rfl trivial ?_ rfl
  simp only [Tryd.ntmps8, List.size_toArray, List.length_cons, List.length_nil, Nat.reduceAdd, Nat.reduceSub, Array.replicate_succ, Array.replicate_zero, List.push_toArray, List.append_toArray, List.nil_append, List.cons_append]
  gi_wp2_with fail
  refine ⟨trivial, ?_⟩
  refine (callsIn_wide.2 (tw0_any _ (HT.out.below ((Below.refl _ w).alloc (Nat.le_refl _) _) HT.out.lt))).mono ?_
  rintro e w1 ⟨rfl, hb⟩
  have HC := Lib.hid ((Row.new w 4 #[.bool false]).below hb (by simp))
  have HB := Lib.hid (below_call ((Below.refl _ w).alloc (Nat.le_refl _) _) hb)
  clear hb
  gi_wp2_with fail
  refine ⟨trivial, ?_⟩
  refine (callsIn_wide.2 (tw1_any _)).mono ?_
  rintro e w2 ⟨rfl, hb⟩
  have HC2 := Lib.hid (HC.out.below hb HC.out.lt)
  have HB2 := Lib.hid (below_call HB.out hb)
  clear hb HC HB
  gi_wp2_with fail
  refine ⟨trivial, ?_⟩
  obtain ⟨w3, hw3⟩ : ∃ W, W = w2.alloc (.cells #[.int .i64 0] 3) := ⟨_, rfl⟩
  rw [← hw3]
  have HC3 := Lib.hid (show Row w3 w.heap.size 4 #[.bool false] by rw [hw3]; exact HC2.out.alloc _)
  have HN3 := Lib.hid (show Row w3 w2.heap.size 3 #[.int .i64 0] by rw [hw3]; exact Row.new w2 _ _)
  have HB3 := Lib.hid (show Below w.heap.size w w3 by rw [hw3]; exact HB2.out.alloc (HB2.out.size) _)
  have HZ3 := Lib.hid (show w3.heap.size = w2.heap.size + 1 by rw [hw3]; simp)
  have hz2 : w.heap.size < w2.heap.size := HC2.out.lt
  clear hw3 HC2 HB2
  refine (callsIn_wide.2 (ltwins_any ⟨#[97, 98, 99, 100, 101]⟩ w3)).mono ?_
  rintro e w4 ⟨rfl, hru, hrl, hb, hsz⟩
  have HC4 := Lib.hid (HC3.out.below hb HC3.out.lt)
  have HN4 := Lib.hid (HN3.out.below hb HN3.out.lt)
  have HB4 := Lib.hid (below_call HB3.out hb)
  have HT4 := Lib.hid (HT.out.below HB4.out HT.out.lt)
  have HRU := Lib.hid hru
  have HRL := Lib.hid hrl
  clear hb HC3 HN3 HB3 hru hrl
  gi_wp2_with fail
  have hz0 := HT.out.lt
  have HZ4 := Lib.hid hsz
  clear hsz
  refine wp_range (gf := 17) (lb := #[.pointer (some ⟨w3.heap.size + 1, 0, none⟩)]) rfl (enters_of Tryd.func17 (by kernel_rfl) rfl)
    (outer_gives ⟨#[97, 98, 99, 100, 101]⟩ w3.heap.size (w3.heap.size + 1) w4 HRL.out HRU.out HT4.out (by decide)) (Below.refl _ _) (fun _ => rfl)
    (fun k => k = w2.heap.size) (fun k h => by have := HZ3.out; have := HZ4.out; omega) (fun k h => by have := HZ3.out; have := HZ4.out; omega)
    (fun pre A => Row A w.heap.size 4 #[.bool false] ∧ Row A w2.heap.size 3 #[.int .i64 (pre.length : Int)] ∧ Below w.heap.size w A)
    (fun c pre A => False) ?_ (fun c pre A A' _ h _ => h) ⟨HC4.out, HN4.out, HB4.out⟩ ?a1 ?assign ?body ?done (fun c pre A _ _ h _ => h.elim)
  · rintro pre A A' hsz ⟨h1, h2, h3⟩ hb
    have h4 := HZ3.out
    have h5 := HZ4.out
    exact ⟨h1.below hb (by omega), h2.below hb (by omega), h3.trans (hb.mono (by omega))⟩
  case assign =>
    intro l2 x A K hK
    gi_wp2
    exact hK
  case body =>
    rintro l2 pre x A hpre hsA ⟨h1, h2, h3⟩
    have hx5 : (strB x).size = 5 := by
      rw [strB_size]
      exact twinsOf_mem (hpre.subset (by simp))
    have hlen : pre.length < 16000 := by
      have := hpre.length_le
      rw [twinsOf_length] at this
      have e : space (⟨#[97, 98, 99, 100, 101]⟩ : ByteArray).data.toList.length = 8 := by decide
      rw [e] at this
      simp at this
      omega
    have hcn : A.cell? ⟨w2.heap.size, 0, none⟩ = some (.int .i64 (pre.length : Int)) := h2.cell 0
    have hfn := h2.frozen 0
    have H1 := Lib.hid h1
    have H2 := Lib.hid h2
    have H3 := Lib.hid h3
    have HP := Lib.hid hpre
    clear h1 h2 h3 hpre
    gi_wp2
    refine ⟨(Only.refl (fun k => k = w2.heap.size) A).setCell (p := ⟨w2.heap.size, 0, none⟩) rfl _, H1.out.far (by show w.heap.size ≠ w2.heap.size; omega) _, ?_, H3.out.setCell (by show w.heap.size ≤ w2.heap.size; omega) _⟩
    rw [List.length_append, List.length_singleton, Int.natCast_add]
    exact H2.out.put 0 _
  case done =>
    rintro A hsA ⟨h1, h2, h3⟩ hD
    have hl8 : (twinsOf [97, 98, 99, 100, 101]).length = 8 := by rw [twinsOf_length]; decide
    have h2' : Row A w2.heap.size 3 #[.int .i64 8] := by rw [hl8] at h2; exact h2
    have H1 := Lib.hid h1
    have H2 := Lib.hid h2'
    have H3 := Lib.hid h3
    have HD := Lib.hid hD
    clear h1 h2 h3 h2' hl8 hD
    gi_wp2_with fail
    refine ⟨trivial, ?_⟩
    refine (callsIn_wide.2 (of9_any A)).mono ?_
    rintro e w5 ⟨rfl, hb⟩
    have HB5 := Lib.hid (below_call H3.out hb)
    have HC5 := Lib.hid (H1.out.below hb H1.out.lt)
    have hcn : w5.cell? ⟨w2.heap.size, 0, none⟩ = some (.int .i64 8) := (H2.out.below hb H2.out.lt).cell 0
    have hsc : w5.cell? ⟨w.heap.size, 0, none⟩ = some (.bool false) := HC5.out.cell 0
    have hsf := HC5.out.frozen 0
    have HD5 := Lib.hid ((hb.block w4.heap.size (Array.getElem?_eq_some_iff.1 HD.out).1).trans HD.out)
    clear hb
    gi_wp2_with fail
    refine ⟨trivial, ?_⟩
    refine (callsIn_wide.2 (sp4_any _)).mono ?_
    rintro e w6 ⟨rfl, rfl⟩
    gi_wp2_with fail
    refine ⟨trivial, ?_⟩
    refine (callsIn_wide.2 (sp32_any _)).mono ?_
    rintro e w7 ⟨rfl, rfl⟩
    gi_wp2_with fail
    have hne : w4.heap.size ≠ w.heap.size := by have := HZ3.out; have := HZ4.out; omega
    have hD7 : (w7.setCell ⟨w.heap.size, 0, none⟩ (Value.bool true)).heap[w4.heap.size]? = some (.deferred (some [])) := (heap_setCell_other _ _ _ _ hne).trans HD5.out
    refine ⟨by simp, .inl ⟨_, _, rfl, run_takeDeferred hD7, ?_⟩⟩
    have hrow : Row ((w7.setCell ⟨w.heap.size, 0, none⟩ (Value.bool true)).putObj w4.heap.size (.deferred none)) w.heap.size 4 #[.bool true] :=
      (World.putObj_heap_other (fun h => hne h.symm)).trans (HC5.out.put 0 _)
    have hbel : Below w.heap.size w ((w7.setCell ⟨w.heap.size, 0, none⟩ (Value.bool true)).putObj w4.heap.size (.deferred none)) :=
      (HB5.out.setCell (Nat.le_refl _) _).trans (below_putObj _ (by have := HZ3.out; have := HZ4.out; omega) _)
    exact ⟨_, results_bool_cell rfl rfl hrow, rfl, hbel⟩
end Go.Proofs.YtgeiholilcgooaaDoor
