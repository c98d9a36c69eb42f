/-
  APPEND OF ONE NUMBER with what it leaves alone said of each block; rows that stay owned beside a row that grows. No condition.
-/
import Derived.Test.YtcoecgcjpeijmaaDoorInts
namespace Go.Proofs.YtcoecgcjpeijmaaDoor
open Go.ChangeShapes Go.WideShapes Go.ChangeAt Go.RowKit
set_option linter.unusedVariables false
/-- The value's own block is not among lo .. hi - 1. -/
def Apart (v : Value) (lo hi : Nat) : Prop := ∀ g, v.ownBlock = some g → g < lo ∨ hi ≤ g
theorem Apart.to {v : Value} {lo hi g n c : Nat} (h : Apart v lo hi) (hg : v.ownBlock = some g ∨ hi ≤ g) : Apart (.slice (some ⟨g, 0, none⟩) n c) lo hi := by
  intro k hk
  have hk : g = k := by simpa [Value.ownBlock] using hk
  subst hk
  rcases hg with hg | hg
  · exact h g hg
  · exact Or.inr hg
theorem grown_alloc {wr w' : World} {o : Obj} {row : Option Nat} (h : (wr.alloc o).grownBy w' row) : wr.grownBy w' row :=
  ⟨h.os, h.tape, h.output, by have := h.size; simp at this; omega, fun k hk hne => (h.block k (by simp; omega) hne).trans (Below.heap_alloc wr o k hk)⟩
theorem grown_drew {wr w' : World} {row : Option Nat} (h : wr.drew.grownBy w' row) : wr.grownBy w' row := ⟨h.os, h.tape, h.output, h.size, h.block⟩
theorem OB.grown {w w' : World} {lo hi n c : Nat} {A : Option Addr} {zs : List Int} {row : Option Nat} (h : OB w lo hi A n c zs) (hg : w.grownBy w' row) (hr : ∀ k, row = some k → k < lo ∨ hi ≤ k) : OB w' lo hi A n c zs := by
  refine ⟨⟨h.1.1, ?_⟩, h.2⟩
  rcases h.1.2 with hn | ⟨g, cap, cur, hv, hlo, hh, rest⟩
  · exact .inl hn
  · refine .inr ⟨g, cap, cur, hv, hlo, ?_, rest⟩
    have hgh : g < hi := h.2 g (by rw [hv]; rfl)
    rw [hg.block g (Array.getElem?_eq_some_iff.1 hh).1 (fun e => by have := hr g e.symm; omega)]
    exact hh
theorem wpList_app_g {ops : Array Oper} {rest : List Oper} {o : Oper} {a : Act} {Q : Exit → Act → World → Prop} {wr : World} {B : Nat} {x : Int} (hgd : o.guard = none) (s y : Operand)
    (ho : o.op = .call { callee := .builtin .append, args := #[s, y], argTypes := #[56, 56] }) (v : Value) (n : Nat) (xs : List Int) (hs : a.eval s = v)
    (hown : wr.ownsRow B 3 1 v n (xs.map (Value.int .i64))) (hB : B ≤ wr.heap.size) (hx : a.eval y = .slice (some ⟨wr.heap.size, 0, none⟩) 1 1) (hn : Small n)
    (h : ∀ g cap w', w'.ownsRow B 3 1 (.slice (some ⟨g, 0, none⟩) (n + 1) cap) (n + 1) ((xs ++ [x]).map (Value.int .i64)) → wr.grownBy w' v.ownBlock → (v.ownBlock = some g ∨ wr.heap.size ≤ g) →
      wpList Tryd.prog ops Q rest (a.put o.dst (.slice (some ⟨g, 0, none⟩) (n + 1) cap)) w') : wpList Tryd.prog ops Q (o :: rest) a (wr.alloc (.cells #[.int .i64 x] 3)) := by
  obtain ⟨i0, hi, hz0, hz1, hz2⟩ := info_parts info_i64
  refine wpList_append_lies _ hgd s y 56 ho B 3 i0 (.int .i64 0) 1 8 Tryd.underlying56 hi hz0 hz1 hz2 rfl Nat.one_pos v n _ hs (hown.alloc _) ⟨wr.heap.size, 0, none⟩ 1 1 [.int .i64 x] hx rfl
    (World.news_of_block (cs := #[.int .i64 x]) (t := 3) (fr := (0, 0)) (heap_alloc_new wr _)) (ints_oneCell .i64 [x]) Nat.one_pos (by have := hn.out; unfold maxLen; omega) (by have := hn.out; omega) (by simp; omega) (wr.heap.size + 1) (by simp) ?_
  intro g cap w' h1 h2 h3 h4
  refine h g cap w' ?_ (grown_alloc h2) (h3.imp id (fun e => by omega))
  rw [List.map_append]; exact h1
theorem step_app_g {ops : Array Oper} {o : Oper} {a : Act} {K : Act → World → Prop} {Q : Exit → Act → World → Prop} {E : Prop} {wr : World} {B : Nat} {x : Int} (hgd : o.guard = none) (s y : Operand)
    (ho : o.op = .call { callee := .builtin .append, args := #[s, y], argTypes := #[56, 56] }) (v : Value) (n : Nat) (xs : List Int) (hs : a.eval s = v)
    (hown : wr.ownsRow B 3 1 v n (xs.map (Value.int .i64))) (hB : B ≤ wr.heap.size) (hx : a.eval y = .slice (some ⟨wr.heap.size, 0, none⟩) 1 1) (hn : Small n)
    (h : ∀ g cap w', w'.ownsRow B 3 1 (.slice (some ⟨g, 0, none⟩) (n + 1) cap) (n + 1) ((xs ++ [x]).map (Value.int .i64)) → wr.grownBy w' v.ownBlock → (v.ownBlock = some g ∨ wr.heap.size ≤ g) →
      K (a.put o.dst (.slice (some ⟨g, 0, none⟩) (n + 1) cap)) w') : if Region.wanted o (yielded ops a.tmps) = true then Oper.wp Tryd.prog o a (wr.alloc (.cells #[.int .i64 x] 3)).drew K Q else E := by
  obtain ⟨i0, hi, hz0, hz1, hz2⟩ := info_parts info_i64
  refine step_append_lies _ hgd s y 56 ho B 3 i0 (.int .i64 0) 1 8 Tryd.underlying56 hi hz0 hz1 hz2 rfl Nat.one_pos v n _ hs ((hown.alloc _).drew) ⟨wr.heap.size, 0, none⟩ 1 1 [.int .i64 x] hx rfl
    (World.news_of_block (cs := #[.int .i64 x]) (t := 3) (fr := (0, 0)) (heap_alloc_new wr _)) (ints_oneCell .i64 [x]) Nat.one_pos (by have := hn.out; unfold maxLen; omega) (by have := hn.out; omega) (by simp; omega) (wr.heap.size + 1) (by simp) ?_
  intro g cap w' h1 h2 h3 h4
  refine h g cap w' ?_ (grown_alloc (grown_drew h2)) (h3.imp id (fun e => by omega))
  rw [List.map_append]; exact h1
end Go.Proofs.YtcoecgcjpeijmaaDoor
