/-
  APPEND OF A WHOLE ROW of int64 numbers, as the walks meet it. No condition.
-/
import Derived.Test.YtilfekkgoooefaaInts
import Derived.Maps.AppendAt
namespace Go.Proofs.Ytilfekkgoooefaa
open Go.ChangeShapes Go.WideShapes Go.ChangeAt Go.RowKit
set_option linter.unusedVariables false

/-! ### append of a whole row -/
theorem run_append_of_nil_i (w : World) (base : Nat) (v : Value) (n : Nat) (xs : List Value) (hown : w.ownsRow base 3 1 v n xs) (c : Nat) : (Builtin.append_ #[31, 31] 31 #[v, .slice none 0 c]).run Try.prog w = .ok v w := by
  obtain ⟨i, hi, hz0, hz1, hz2⟩ := info_parts info_i64
  rcases hown.2 with ⟨rfl, rfl⟩ | ⟨g, cap, cur, rfl, _, _, hnc, _⟩
  · simp [Builtin.append_, run_underlying Try.underlying31, sizeOf, typeInfo, hi, Builtin.lenOf, Builtin.firstCells]
  · simp [Builtin.append_, run_underlying Try.underlying31, sizeOf, typeInfo, hi, Builtin.lenOf, Builtin.firstCells, hnc, storeCells]
theorem run_append_many (w : World) (base : Nat) (v : Value) (n : Nat) (xs : List Int) (hown : w.ownsRow base 3 1 v n (xs.map (Value.int .i64))) (A : Option Addr) (m c : Nat) (news : List Int) (hr : RI w A m news) (hn : Small (n + m)) (hbase : base ≤ w.heap.size) :
    ∃ v' w', (Builtin.append_ #[31, 31] 31 #[v, .slice A m c]).run Try.prog w = .ok v' w' ∧ w'.ownsRow base 3 1 v' (n + m) ((xs ++ news).map (Value.int .i64)) ∧ w.grownBy w' v.ownBlock := by
  obtain ⟨i, hi, hz0, hz1, hz2⟩ := info_parts info_i64
  have hs := hn.out
  rcases A with _ | ad
  · have hm : m = 0 := by
      rcases Nat.eq_zero_or_pos m with h0 | h0
      · exact h0
      · obtain ⟨b, off, e, _⟩ := hr.2 h0
        cases e
    subst hm
    have hnw : news = [] := List.eq_nil_of_length_eq_zero hr.1
    subst hnw
    exact ⟨v, w, run_append_of_nil_i w base v n _ hown c, by simpa using hown, World.grownBy.refl w _⟩
  · have hcells : ∀ j u, (news.map (Value.int .i64))[j]? = some u → w.cell? (ad.add j) = some u := by
      intro j u hu
      rcases Nat.eq_zero_or_pos m with h0 | h0
      · subst h0
        have hnw : news = [] := List.eq_nil_of_length_eq_zero hr.1
        subst hnw
        simp at hu
      · obtain ⟨b, off, e, _, hc⟩ := hr.2 h0
        injection e with e
        subst e
        have hj : j < m := by
          have := (List.getElem?_eq_some_iff.1 hu).1
          rw [List.length_map, hr.1] at this
          exact this
        rw [Go.WideShapes.add_plain, hc j hj, ← hu, List.getElem?_map, List.getElem?_eq_getElem (by rw [hr.1]; exact hj)]
        rw [List.getD_eq_getElem?_getD, List.getElem?_eq_getElem (by rw [hr.1]; exact hj)]
        rfl
    obtain ⟨v', w', hrun, h2, h3, _, h5⟩ := run_append_own_at (P := Try.prog) w base 31 31 3 i (.int .i64 0) 1 8 Try.underlying31 hi hz0 hz1 hz2 rfl Nat.one_pos v n _ hown ad m c (news.map (Value.int .i64)) (by rw [List.length_map, hr.1, Nat.mul_one]) hcells (ints_oneCell .i64 news) (by unfold maxLen; omega) (by omega) hbase
    exact ⟨v', w', hrun, by rw [List.map_append]; exact h2, h3⟩
theorem wpList_appmany {ops : Array Oper} {rest : List Oper} {o : Oper} {a : Act} {Q : Exit → Act → World → Prop} {wr w0 : World} (hgd : o.guard = none) (s y : Operand)
    (ho : o.op = .call { callee := .builtin .append, args := #[s, y], argTypes := #[31, 31] }) (hty : o.type = 31) (v : Value) (n : Nat) (xs : List Int) (hs : a.eval s = v)
    (hown : wr.ownsRow w0.heap.size 3 1 v n (xs.map (Value.int .i64))) (hb : Below w0.heap.size w0 wr) (A : Option Addr) (m c : Nat) (news : List Int) (hx : a.eval y = .slice A m c) (hr : RI wr A m news) (hn : Small (n + m))
    (h : ∀ A' c' w', w'.ownsRow w0.heap.size 3 1 (.slice A' (n + m) c') (n + m) ((xs ++ news).map (Value.int .i64)) → Below w0.heap.size w0 w' → wr.grownBy w' v.ownBlock →
      wpList Try.prog ops Q rest (a.put o.dst (.slice A' (n + m) c')) w') : wpList Try.prog ops Q (o :: rest) a wr := by
  obtain ⟨v', w', hrun, h2, h3⟩ := run_append_many wr w0.heap.size v n xs hown A m c news hr hn hb.size
  obtain ⟨A', c', rfl⟩ := owns_shape h2
  refine wpList_plain hgd fun K hK => ?_
  unfold Oper.wp execOp
  simp only [ho, hty, resolve, invoke, builtin, Sem.run_bind, Sem.run_pure, Result.andThen_ok, List.map_toArray, List.map_cons, List.map_nil, hs, hx, hrun]
  exact hK _ _ (h A' c' w' h2 (hb.grown h3 hb.size (fun g hg => (hown.lt g hg).1)) h3)
theorem step_appmany {ops : Array Oper} {o : Oper} {a : Act} {K : Act → World → Prop} {Q : Exit → Act → World → Prop} {E : Prop} {wr w0 : World} (hgd : o.guard = none) (s y : Operand)
    (ho : o.op = .call { callee := .builtin .append, args := #[s, y], argTypes := #[31, 31] }) (hty : o.type = 31) (v : Value) (n : Nat) (xs : List Int) (hs : a.eval s = v)
    (hown : wr.ownsRow w0.heap.size 3 1 v n (xs.map (Value.int .i64))) (hb : Below w0.heap.size w0 wr) (A : Option Addr) (m c : Nat) (news : List Int) (hx : a.eval y = .slice A m c) (hr : RI wr A m news) (hn : Small (n + m))
    (h : ∀ A' c' w', w'.ownsRow w0.heap.size 3 1 (.slice A' (n + m) c') (n + m) ((xs ++ news).map (Value.int .i64)) → Below w0.heap.size w0 w' → wr.grownBy w' v.ownBlock →
      K (a.put o.dst (.slice A' (n + m) c')) w') : if Region.wanted o (yielded ops a.tmps) = true then Oper.wp Try.prog o a wr K Q else E := by
  have hw : Region.wanted o (yielded ops a.tmps) = true := by simp [Region.wanted, hgd]
  rw [if_pos hw]
  obtain ⟨v', w', hrun, h2, h3⟩ := run_append_many wr w0.heap.size v n xs hown A m c news hr hn hb.size
  obtain ⟨A', c', rfl⟩ := owns_shape h2
  unfold Oper.wp execOp
  simp only [ho, hty, resolve, invoke, builtin, Sem.run_bind, Sem.run_pure, Result.andThen_ok, List.map_toArray, List.map_cons, List.map_nil, hs, hx, hrun]
  exact h A' c' w' h2 (hb.grown h3 hb.size (fun g hg => (hown.lt g hg).1)) h3
end Go.Proofs.Ytilfekkgoooefaa
