/-
  APPEND OF ONE NUMBER, as the walks meet it. No condition.
-/
import Derived.Test.YtoeajfhnbmpgeaaBase
namespace Go.Proofs.Ytoeajfhnbmpgeaa
open Go.ChangeShapes Go.WideShapes Go.ChangeAt Go.RowKit
set_option linter.unusedVariables false
/-- A length that an append bears. -/
def Small (n : Nat) : Prop := n ≤ 1000000000000
theorem Small.out {n : Nat} (h : Small n) : n ≤ 1000000000000 := h
theorem small_of {n : Nat} (h : n ≤ 1000000000000) : Small n := h
/-- 'append(v, x)', v a row of the call's own of u8 numbers, x laid in a block of its own just before: in a plain region. -/
theorem wpList_app_u8 {ops : Array Oper} {rest : List Oper} {o : Oper} {a : Act} {Q : Exit → Act → World → Prop} {wr w0 : World} {x : Int} (hgd : o.guard = none) (s y : Operand)
    (ho : o.op = .call { callee := .builtin .append, args := #[s, y], argTypes := #[28, 28] }) (v : Value) (n : Nat) (xs : List Int) (hs : a.eval s = v)
    (hown : wr.ownsRow w0.heap.size 5 1 v n (xs.map (Value.int .u8))) (hb : Below w0.heap.size w0 wr) (hx : a.eval y = .slice (some ⟨wr.heap.size, 0, none⟩) 1 1) (hn : Small n)
    (h : ∀ g cap w', w'.ownsRow w0.heap.size 5 1 (.slice (some ⟨g, 0, none⟩) (n + 1) cap) (n + 1) ((xs ++ [x]).map (Value.int .u8)) → Below w0.heap.size w0 w' → (wr.alloc (.cells #[.int .u8 x] 5)).grownBy w' v.ownBlock →
      wpList Try.prog ops Q rest (a.put o.dst (.slice (some ⟨g, 0, none⟩) (n + 1) cap)) w') : wpList Try.prog ops Q (o :: rest) a (wr.alloc (.cells #[.int .u8 x] 5)) := by
  obtain ⟨i0, hi, hz0, hz1, hz2⟩ := info_parts info_u8
  refine wpList_append_lies _ hgd s y 28 ho w0.heap.size 5 i0 (.int .u8 0) 1 1 Try.underlying28 hi hz0 hz1 hz2 rfl Nat.one_pos v n _ hs (hown.alloc _) ⟨wr.heap.size, 0, none⟩ 1 1 [.int .u8 x] hx rfl
    (World.news_of_block (cs := #[.int .u8 x]) (t := 5) (fr := (0, 0)) (heap_alloc_new wr _)) (ints_oneCell .u8 [x]) Nat.one_pos (by have := hn.out; unfold maxLen; omega) (by have := hn.out; omega) (by have := hb.size; simp; omega) (wr.heap.size + 1) (by simp) ?_
  intro g cap w' h1 h2 h3 h4
  refine h g cap w' ?_ ?_ h2
  · rw [List.map_append]; exact h1
  · exact (hb.alloc hb.size _).grown h2 (by have := hb.size; simp; omega) (fun g hg => (hown.lt g hg).1)
/-- .. in a region that draws its order. -/
theorem step_app_u8 {ops : Array Oper} {o : Oper} {a : Act} {K : Act → World → Prop} {Q : Exit → Act → World → Prop} {E : Prop} {wr w0 : World} {x : Int} (hgd : o.guard = none) (s y : Operand)
    (ho : o.op = .call { callee := .builtin .append, args := #[s, y], argTypes := #[28, 28] }) (v : Value) (n : Nat) (xs : List Int) (hs : a.eval s = v)
    (hown : wr.ownsRow w0.heap.size 5 1 v n (xs.map (Value.int .u8))) (hb : Below w0.heap.size w0 wr) (hx : a.eval y = .slice (some ⟨wr.heap.size, 0, none⟩) 1 1) (hn : Small n)
    (h : ∀ g cap w', w'.ownsRow w0.heap.size 5 1 (.slice (some ⟨g, 0, none⟩) (n + 1) cap) (n + 1) ((xs ++ [x]).map (Value.int .u8)) → Below w0.heap.size w0 w' → (wr.alloc (.cells #[.int .u8 x] 5)).drew.grownBy w' v.ownBlock →
      K (a.put o.dst (.slice (some ⟨g, 0, none⟩) (n + 1) cap)) w') : if Region.wanted o (yielded ops a.tmps) = true then Oper.wp Try.prog o a (wr.alloc (.cells #[.int .u8 x] 5)).drew K Q else E := by
  obtain ⟨i0, hi, hz0, hz1, hz2⟩ := info_parts info_u8
  refine step_append_lies _ hgd s y 28 ho w0.heap.size 5 i0 (.int .u8 0) 1 1 Try.underlying28 hi hz0 hz1 hz2 rfl Nat.one_pos v n _ hs ((hown.alloc _).drew) ⟨wr.heap.size, 0, none⟩ 1 1 [.int .u8 x] hx rfl
    (World.news_of_block (cs := #[.int .u8 x]) (t := 5) (fr := (0, 0)) (heap_alloc_new wr _)) (ints_oneCell .u8 [x]) Nat.one_pos (by have := hn.out; unfold maxLen; omega) (by have := hn.out; omega) (by have := hb.size; simp; omega) (wr.heap.size + 1) (by simp) ?_
  intro g cap w' h1 h2 h3 h4
  refine h g cap w' ?_ ?_ h2
  · rw [List.map_append]; exact h1
  · exact ((hb.alloc hb.size _).drew).grown h2 (by have := hb.size; simp; omega) (fun g hg => (hown.lt g hg).1)
end Go.Proofs.Ytoeajfhnbmpgeaa
