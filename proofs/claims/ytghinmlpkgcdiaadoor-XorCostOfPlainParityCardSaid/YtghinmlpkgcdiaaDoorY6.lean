/- Schedules: copies of rows of numbers and of operations. -/
import Derived.Test.YtghinmlpkgcdiaaDoorY5
import Derived.Maps.AppendAt
namespace Go.Proofs.YtghinmlpkgcdiaaDoor
set_option linter.unusedSimpArgs false
set_option linter.unusedVariables false
open Go.RowKit Go.Lib

theorem owns_form {w : World} {B : Nat} {e : TypeId} {size n : Nat} {v : Value} {xs : List Value} (h : w.ownsRow B e size v n xs) : ∃ a' c', v = .slice a' n c' := by
  rcases h.2 with ⟨e, e0⟩ | ⟨g, cap, cur, e, _⟩
  · exact ⟨none, 0, by rw [e, e0]⟩
  · exact ⟨_, _, e⟩
theorem nil_ops (q : Option Addr) (n k : Nat) (W : World) : (binOp BinOp.eql 28 (.slice q n k) (.slice none 0 0)).run Tryd.prog W = .ok (.bool q.isNone) W := by
  cases q with
  | none => kernel_rfl
  | some ad => kernel_rfl
theorem opsC_one (l : List (Int × Int)) : ∀ u ∈ opsC l, u.oneCell' = true := by
  intro u hu
  unfold opsC at hu
  obtain ⟨o, _, h⟩ := List.mem_flatMap.1 hu
  simp only [List.mem_cons, List.not_mem_nil, or_false] at h
  rcases h with rfl | rfl <;> rfl
/-- many operations are appended -/
theorem wpList_ops {ops : Array Oper} {rest : List Oper} {o : Oper} {act : Act} {w : World} {Q : Exit → Act → World → Prop} (hgd : o.guard = none) (s x : Operand)
    (ho : o.op = .call { callee := .builtin .append, args := #[s, x], argTypes := #[28, 28] })
    (B : Nat) (a : Option Addr) (n c : Nat) (l : List (Int × Int)) (hs : act.eval s = .slice a n c) (hown : OpsR w B a n c l)
    (ad : Addr) (m mc : Nat) (l2 : List (Int × Int)) (hx : act.eval x = .slice (some ad) m mc) (hl2 : l2.length = m) (hr : Rd w w.heap.size (some ad) (opsC l2))
    (hn : n + m ≤ 1000000) (hbase : B ≤ w.heap.size)
    (h : ∀ a' c' w', OpsR w' B a' (n + m) c' (l ++ l2) → w.grownBy w' (Value.slice a n c).ownBlock → wpList Tryd.prog ops Q rest (act.put o.dst (.slice a' (n + m) c')) w') : wpList Tryd.prog ops Q (o :: rest) act w := by
  refine wpList_plain hgd fun K hK => ?_
  obtain ⟨i, hi, hz0, hz1, hz2⟩ := info_parts (show (Tryd.prog.info? 66).map (fun i => (i.zero, i.size, i.bytes)) = some (some (.agg #[.int .i64 0, .int .i64 0]), 2, 16) by kernel_rfl)
  obtain ⟨v', w', hrun, h2, h3, h4, h5⟩ := run_append_own_at (P := Tryd.prog) w B 28 o.type 66 i _ 2 16 Tryd.underlying28 hi hz0 hz1 hz2 rfl (by decide) _ n (opsC l) hown ad m mc (opsC l2) (by rw [opsC_length, hl2])
    (by
      intro j u hu
      obtain ⟨b, off, e, _, hc⟩ := hr j u hu
      obtain rfl := Option.some.inj e
      have : (⟨b, off, none⟩ : Addr).add j = ⟨b, off + j, none⟩ := by unfold Addr.add; split <;> simp_all
      rw [this]; exact hc)
    (opsC_one l2) (by unfold maxLen; omega) (by omega) hbase
  have h6 : w'.ownsRow B 66 2 v' (n + m) (opsC (l ++ l2)) := by
    have : opsC (l ++ l2) = opsC l ++ opsC l2 := by unfold opsC; rw [List.flatMap_append]
    rw [this]; exact h2
  obtain ⟨a', c', rfl⟩ := owns_form h6
  unfold Oper.wp execOp
  simp only [ho, resolve, invoke, builtin, Sem.run_bind, Sem.run_pure, Result.andThen_ok, List.map_toArray, List.map_cons, List.map_nil, hs, hx, hrun]
  exact hK _ _ (h _ _ _ h6 h3)
theorem opsR_new (w : World) : OpsR (w.alloc (.cells #[] 66)) w.heap.size (some ⟨w.heap.size, 0, none⟩) 0 0 [] :=
  ⟨rfl, .inr ⟨w.heap.size, 0, #[], rfl, Nat.le_refl _, Row.new w _ _, Nat.le_refl _, by unfold maxLen; omega, rfl, rfl⟩⟩
theorem below_ops {w0 w w' : World} {B0 B : Nat} {a : Option Addr} {n c : Nat} {l : List (Int × Int)} (h : Below B0 w0 w) (hg : w.grownBy w' (Value.slice a n c).ownBlock) (ho : OpsR w B a n c l) (hB : B0 ≤ w.heap.size) (h0 : B0 ≤ B) : Below B0 w0 w' := by
  refine h.grown hg hB fun k hk => ?_
  have := (ho.lt (ho.block hk)).1
  omega
set_option maxRecDepth 100000 in
theorem clone_ops (q : Option Addr) (n k : Nat) (l : List (Int × Int)) (w : World) (hl : l.length = n) (hn : n ≤ 1000000) (hr : Rd w w.heap.size q (opsC l)) :
    Calls Tryd.prog 37 #[.slice q n k] w fun e w' => ∃ q' k', e = .returned (.slice q' n k') ∧ OpsR w' w.heap.size q' n k' l ∧ Below w.heap.size w w' := by
  cases q with
  | none =>
    have hx : l = [] := by
      cases l with
      | nil => rfl
      | cons x xs =>
        obtain ⟨b, off, e, _⟩ := hr 0 (.int .i64 x.1) rfl
        cases e
    subst hx
    obtain rfl : n = 0 := hl.symm
    have hnil : ∀ W, (binOp BinOp.eql 28 (.slice none 0 k) (.slice none 0 0)).run Tryd.prog W = .ok (.bool true) W := fun W => nil_ops none 0 k W
    go_enter Tryd.func37, Tryd.ntmps37
    go_wp2
    go_ret
    exact ⟨none, 0, rfl, OpsR.nil _ _, Below.refl _ _⟩
  | some ad =>
    have HR := Lib.hid hr
    have HL := Lib.hid hl
    clear hr hl
    have hnil : ∀ W, (binOp BinOp.eql 28 (.slice (some ad) n k) (.slice none 0 0)).run Tryd.prog W = .ok (.bool false) W := fun W => nil_ops (some ad) n k W
    go_enter Tryd.func37, Tryd.ntmps37
    go_wp2_with (refine wpList_ops rfl (.tmp 5) (.tmp 6) rfl w.heap.size (some ⟨w.heap.size, 0, none⟩) 0 0 [] rfl (opsR_new w) ad n k l rfl HL.out ((HR.out.alloc (Nat.le_refl _) _).more (by simp)) (by omega) (by simp) ?_; intro a' c' w' ho hgr; have HO := Lib.hid ho; have HB := Lib.hid (below_ops ((Below.refl w.heap.size w).alloc (Nat.le_refl _) _) hgr (opsR_new w) (by simp) (Nat.le_refl _)); clear ho hgr)
    go_ret
    rw [List.nil_append, Nat.zero_add] at HO
    exact ⟨a', c', rfl, HO.out, HB.out⟩
end Go.Proofs.YtghinmlpkgcdiaaDoor
