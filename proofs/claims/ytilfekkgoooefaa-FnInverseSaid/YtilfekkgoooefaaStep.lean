/-
  APPEND OF ONE NUMBER in a region that drew its order before. No condition.
-/
import Derived.Test.YtilfekkgoooefaaGrow
namespace Go.Proofs.Ytilfekkgoooefaa
open Go.ChangeShapes Go.WideShapes Go.ChangeAt Go.RowKit
set_option linter.unusedVariables false
theorem step_app_p {ops : Array Oper} {o : Oper} {a : Act} {K : Act → World → Prop} {Q : Exit → Act → World → Prop} {E : Prop} {wr : World} {B : Nat} {x : Int} (hgd : o.guard = none) (s y : Operand)
    (ho : o.op = .call { callee := .builtin .append, args := #[s, y], argTypes := #[31, 31] }) (v : Value) (n : Nat) (xs : List Int) (hs : a.eval s = v)
    (hown : wr.ownsRow B 3 1 v n (xs.map (Value.int .i64))) (hB : B ≤ wr.heap.size) (hx : a.eval y = .slice (some ⟨wr.heap.size, 0, none⟩) 1 1) (hn : Small n)
    (h : ∀ g cap w', w'.ownsRow B 3 1 (.slice (some ⟨g, 0, none⟩) (n + 1) cap) (n + 1) ((xs ++ [x]).map (Value.int .i64)) → wr.grownBy w' v.ownBlock → (v.ownBlock = some g ∨ wr.heap.size ≤ g) →
      K (a.put o.dst (.slice (some ⟨g, 0, none⟩) (n + 1) cap)) w') : if Region.wanted o (yielded ops a.tmps) = true then Oper.wp Try.prog o a (wr.alloc (.cells #[.int .i64 x] 3)) K Q else E := by
  obtain ⟨i0, hi, hz0, hz1, hz2⟩ := info_parts info_i64
  refine step_append_lies _ hgd s y 31 ho B 3 i0 (.int .i64 0) 1 8 Try.underlying31 hi hz0 hz1 hz2 rfl Nat.one_pos v n _ hs (hown.alloc _) ⟨wr.heap.size, 0, none⟩ 1 1 [.int .i64 x] hx rfl
    (World.news_of_block (cs := #[.int .i64 x]) (t := 3) (fr := (0, 0)) (heap_alloc_new wr _)) (ints_oneCell .i64 [x]) Nat.one_pos (by have := hn.out; unfold maxLen; omega) (by have := hn.out; omega) (by simp; omega) (wr.heap.size + 1) (by simp) ?_
  intro g cap w' h1 h2 h3 h4
  refine h g cap w' ?_ (grown_alloc h2) (h3.imp id (fun e => by omega))
  rw [List.map_append]; exact h1
/-- What is owned in W is owned in w'. -/
def Own (B : Nat) (W w' : World) : Prop := ∀ (v : Value) (n : Nat) (xs : List Value), W.ownsRow B 3 1 v n xs → w'.ownsRow B 3 1 v n xs
end Go.Proofs.Ytilfekkgoooefaa
