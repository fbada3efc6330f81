/- Fingerprint: the law's wrapper around the iterator keeps the contract too (it keeps a counter of its own in a cell). -/
import Derived.Test.YtgeiholilcgooaaDoorF2
namespace Go.Proofs.YtgeiholilcgooaaDoor
set_option linter.unusedSimpArgs false
set_option linter.unusedVariables false
open Go.RowKit Go.Shelf Go.Lib
attribute [local go_sem] Oper.semAt_some

theorem round_in {m l2 : Nat} {P : Program} {l : Nat} {f : FuncId} {tmps : Array Value} {assign body : Code} {w : World} {R : Ending → World → Prop}
    (h : RoundIn Fence.wide m P l f tmps assign body w R) : RoundIn (Fence.wide.inRound l2) m P l f tmps assign body w R := h
set_option maxRecDepth 100000 in
set_option maxHeartbeats 2000000 in
theorem outer_gives (s : ByteArray) (Bu Bl : Nat) (w : World) (hl : Row w Bl 34 #[fv Bu]) (hu : Row w Bu 9 #[.string s]) (ht : Tab w) (hs : s.size ≤ 1000000000000) :
    Gives Tryd.prog 17 #[.pointer (some ⟨Bl, 0, none⟩)] (fun b : List UInt8 => #[Value.string (strB b)]) (fun k => k = 0 ∨ k = Bu ∨ k = Bl) (twinsOf s.data.toList) w := fun l X J Jx W hW hX hN hJ hJx hY h0 => by
  have hu1 := hu.below hW hu.lt
  have ht1 := ht.below hW ht.lt
  have hl1 := hl.below hW hl.lt
  have hcl : W.cell? ⟨Bl, 0, none⟩ = some (.func (.func 20) #[] #[.pointer (some ⟨Bu, 0, none⟩)]) := hl1.cell 0
  have hltl : Bl < W.heap.size := hl1.lt
  have HU := Lib.hid hu1
  have HT := Lib.hid ht1
  have HL := Lib.hid hl1
  have HY := Lib.hid hY
  have HJ := Lib.hid hJ
  have HN := Lib.hid hN
  have HX := Lib.hid hX
  have H0 := Lib.hid h0
  clear hu ht hu1 ht1 hl hl1 hY hJ hN hX h0
  refine callsIn_of_wp_marks Tryd.func17 rfl trivial ?_ rfl
  simp only [Tryd.ntmps17, List.size_toArray, List.length_cons, List.length_nil, Nat.reduceAdd, Nat.reduceSub, Array.replicate_succ, Array.replicate_zero, List.push_toArray, List.append_toArray, List.nil_append, List.cons_append]
  have hne : ∀ u : World, (binOp .eql 34 (.func (.func 20) #[] #[.pointer (some ⟨Bu, 0, none⟩)]) .nilFunc).run Tryd.prog u = .ok (.bool false) u := fun u => by kernel_rfl
  gi_wp2
  obtain ⟨E, hE⟩ : ∃ E, E = (W.alloc (.cells #[.func (.yield l) #[] #[]] 38)).alloc (.cells #[.int .i64 0] 3) := ⟨_, rfl⟩
  rw [← hE]
  have hEs : E.heap.size = W.heap.size + 2 := by rw [hE]; simp
  have hWE : Below W.heap.size W E := by rw [hE]; exact ((Below.refl _ W).alloc (Nat.le_refl _) _).alloc (by simp) _
  have hy0 : Row E W.heap.size 38 #[.func (.yield l) #[] #[]] := by rw [hE]; exact (Row.new W _ _).alloc _
  have hn0 : Row E (W.heap.size + 1) 3 #[.int .i64 0] := by rw [hE]; exact Row.made _ _ (by simp)
  clear hE
  have h16 : space s.size ≤ 16000 := by unfold space; split <;> omega
  refine wp_range (gf := 20) (lb := #[.pointer (some ⟨Bu, 0, none⟩)]) rfl (enters_of Tryd.func20 (by kernel_rfl) rfl)
    (inner_gives s Bu E (HU.out.below hWE HU.out.lt) (HT.out.below hWE HT.out.lt) hs) (Below.refl _ _) (fun _ => rfl)
    (fun k => X k ∨ k = W.heap.size + 1) (fun k h => ?_) (fun k h => ?_)
    (fun pre A => Row A W.heap.size 38 #[.func (.yield l) #[] #[]] ∧ Row A (W.heap.size + 1) 3 #[.int .i64 (pre.length : Int)] ∧ J pre A)
    (fun c pre A => c = .ret ∧ Jx pre A) ?_ ?_ ⟨hy0, hn0, HJ.out _ _ _ (Nat.le_refl _) H0.out hWE⟩
    (fun x => { tmps := #[.func (.yield l) #[] #[], .pointer (some ⟨Bl, 0, none⟩), .pointer (some ⟨W.heap.size, 0, none⟩), .pointer (some ⟨W.heap.size + 1, 0, none⟩), .string (strB x), .func (.func 20) #[] #[.pointer (some ⟨Bu, 0, none⟩)], .bool false, .func (.func 20) #[] #[.pointer (some ⟨Bu, 0, none⟩)], .string (strB x), undef, undef, undef, undef, undef, undef, undef, undef, undef, undef], defers := [] }) ?assign ?body ?done ?stop
  · rcases h with h | rfl
    · have := HX.out k h; omega
    · omega
  · refine ⟨?_, ?_⟩
    · rcases h with rfl | rfl
      · omega
      · have := HU.out.lt; omega
    · rintro (h2 | h2)
      · exact HN.out k (by rcases h with h | h; exact .inl h; exact .inr (.inl h)) h2
      · rcases h with rfl | rfl
        · omega
        · have := HU.out.lt; omega
  · rintro pre A A' hsz ⟨h1, h2, h3⟩ hb
    exact ⟨h1.below hb (by omega), h2.below hb (by omega), HJ.out _ _ _ (by omega) h3 (hb.mono (by omega))⟩
  · rintro c pre A A' hsz ⟨h1, h2⟩ hb
    exact ⟨h1, hJx _ _ _ (by omega) h2 (hb.mono (by omega))⟩
  case assign =>
    intro l2 x A K hK
    gi_wp2
    exact hK
  case body =>
    rintro l2 pre x A hpre hsA ⟨h1, h2, h3⟩
    have hlen : pre.length < 16000 := by
      have := hpre.length_le
      rw [twinsOf_length, len_data] at this
      simp at this
      omega
    have hcy : A.cell? ⟨W.heap.size, 0, none⟩ = some (.func (.yield l) #[] #[]) := h1.cell 0
    have hcn : A.cell? ⟨W.heap.size + 1, 0, none⟩ = some (.int .i64 (pre.length : Int)) := h2.cell 0
    have hfn := h2.frozen 0
    obtain ⟨fn, tmps, assign, body, hy, hR⟩ := HY.out pre x (A.setCell ⟨W.heap.size + 1, 0, none⟩ (.int .i64 ((pre.length : Int) + 1))) hpre (by rw [size_put]; omega)
      (HJ.out _ _ _ (by omega) h3 ((Below.refl _ A).setCell (by simp) _))
    have HR := Lib.hid hR
    have H1 := Lib.hid h1
    have H2 := Lib.hid h2
    have HP := Lib.hid hpre
    clear hR h1 h2 h3 hpre
    gi_wp2
    refine (round_in (HR.out _)).mono ?_
    rintro e W3 ⟨ho, hcase⟩
    have hsz3 : E.heap.size ≤ W3.heap.size := by have := ho.size; rw [size_put] at this; omega
    have HO := Lib.hid (show Only (fun k => X k ∨ k = W.heap.size + 1) A W3 from ((Only.refl _ A).setCell (p := ⟨W.heap.size + 1, 0, none⟩) (.inr rfl) _).trans (ho.mono (fun _ _ h => .inl h)))
    have HR1 := Lib.hid (ho.row (H1.out.far (by simp) _) (fun h => by have := HX.out _ h; omega))
    have HR2 := Lib.hid (show Row W3 (W.heap.size + 1) 3 #[.int .i64 ((pre ++ [x]).length : Int)] by
      have h := ho.row (H2.out.put 0 (.int .i64 ((pre.length : Int) + 1))) (fun h => by have := HX.out _ h; omega)
      rw [List.length_append, List.length_singleton, Int.natCast_add]
      exact h)
    clear ho hy
    rcases hcase with ⟨rfl, hJ3⟩ | ⟨rfl, hJx3⟩
    · have HJ3 := Lib.hid hJ3
      clear hJ3
      gi_wp2
      exact ⟨HO.out, HR1.out, HR2.out, HJ3.out⟩
    · have HJ3 := Lib.hid hJx3
      clear hJx3
      gi_wp2
      exact ⟨HO.out, rfl, HJ3.out⟩
  case done =>
    rintro A hsA ⟨h1, h2, h3⟩ hD
    have H3 := Lib.hid h3
    clear h3
    gi_wp2
    refine ⟨by simp, .inl ⟨_, _, rfl, run_takeDeferred hD, ?_⟩⟩
    exact ⟨_, results_none rfl _ _ _, ⟨_, rfl⟩, .inl (HJ.out _ _ _ (by omega) H3.out (below_putObj A (by omega) _))⟩
  case stop =>
    rintro c pre A hsA hpre ⟨rfl, h3⟩ hD
    have H3 := Lib.hid h3
    have HP := Lib.hid hpre
    clear h3 hpre
    gi_wp2
    refine ⟨by simp, .inl ⟨_, _, rfl, run_takeDeferred hD, ?_⟩⟩
    exact ⟨_, results_none rfl _ _ _, ⟨_, rfl⟩, .inr ⟨_, HP.out, hJx _ _ _ (by omega) H3.out (below_putObj A (by omega) _)⟩⟩
end Go.Proofs.YtgeiholilcgooaaDoor
