/-
  ROWS OF int64 NUMBERS: how they read, who owns them, what a call leaves alone; the laws' own helpers toIntS, eqIntS, markIntS, heldIntS. No condition.
-/
import Derived.Test.YtcoecgcjpeijmaaDoorIn
import Derived.Test.YtcoecgcjpeijmaaDoorApp
namespace Go.Proofs.YtcoecgcjpeijmaaDoor
open Go.ChangeShapes Go.WideShapes Go.ChangeAt Go.RowKit
set_option linter.unusedVariables false

/-- The slice at A of n elements reads as the numbers zs. -/
def RI (w : World) (A : Option Addr) (n : Nat) (zs : List Int) : Prop :=
  zs.length = n ∧ (0 < n → ∃ b off, A = some ⟨b, off, none⟩ ∧ b < w.heap.size ∧ ∀ j, j < n → w.cell? ⟨b, off + j, none⟩ = some (.int .i64 (zs.getD j 0)))
/-- The slice value owns the numbers zs, in a block from lo on and below hi. -/
def OB (w : World) (lo hi : Nat) (A : Option Addr) (n c : Nat) (zs : List Int) : Prop :=
  w.ownsRow lo 3 1 (.slice A n c) n (zs.map (Value.int .i64)) ∧ ∀ k, (Value.slice A n c).ownBlock = some k → k < hi
/-- Only blocks from lo on and below hi have turned (and new ones have come). -/
structure Only (lo hi : Nat) (w w' : World) : Prop where
  os : w'.os = w.os
  tape : w'.tape = w.tape
  output : w'.output = w.output
  size : w.heap.size ≤ w'.heap.size
  block : ∀ k, k < w.heap.size → (k < lo ∨ hi ≤ k) → w'.heap[k]? = w.heap[k]?

section
variable {w w' : World} {lo hi n c : Nat} {A : Option Addr} {zs : List Int}
theorem RI.len (h : RI w A n zs) : zs.length = n := h.1
theorem RI.nil (w : World) (A : Option Addr) : RI w A 0 [] := ⟨rfl, fun h => absurd h (by omega)⟩
theorem RI.below (h : RI w A n zs) (hb : Below w.heap.size w w') : RI w' A n zs := ⟨h.1, fun hn => by
  obtain ⟨b, off, e, hlt, hc⟩ := h.2 hn
  exact ⟨b, off, e, Nat.lt_of_lt_of_le hlt hb.size, fun j hj => (hb.cell (p := ⟨b, off + j, none⟩) hlt).trans (hc j hj)⟩⟩
theorem RI.drewN (h : RI w A n zs) (m : Nat) : RI (w.drewN m) A n zs := h
theorem RI.at_ (h : RI w A n zs) {k : Nat} (hk : k < n) : ∃ b off, A = some ⟨b, off, none⟩ ∧ b < w.heap.size ∧ ∀ j, j < n → w.cell? ⟨b, off + j, none⟩ = some (.int .i64 (zs.getD j 0)) := h.2 (by omega)
theorem RI.ofIsRow {len cap : Nat} {z : List Int} (h : IsRow .i64 w A len cap z) : RI w A len (z.take len) := by
  rcases h with ⟨rfl, rfl, rfl, rfl⟩ | ⟨x, rfl, hl, hm, hz, hc, _⟩
  · exact ⟨rfl, fun h => absurd h (by omega)⟩
  · refine ⟨by rw [List.length_take]; omega, fun hn => ?_⟩
    obtain ⟨b, off, rfl, hcc⟩ := ints_at hc (by omega)
    refine ⟨b, off, rfl, World.block_lt_of_cell? w ⟨b, off + 0, none⟩ (hcc 0 (by omega)), fun j hj => ?_⟩
    rw [hcc j (by omega)]
    congr 2
    rw [List.getD_eq_getElem?_getD, List.getD_eq_getElem?_getD, List.getElem?_take, if_pos hj]
theorem OB.len (h : OB w lo hi A n c zs) : zs.length = n := by have := h.1.1; simpa using this
theorem OB.read (h : OB w lo hi A n c zs) : RI w A n zs := by
  refine ⟨h.len, fun hn => ?_⟩
  rcases h.1.2 with ⟨hv, h0⟩ | ⟨g, cap, cur, hv, hlo, hg, _⟩
  · omega
  · have h1 := h.1
    simp only [Value.slice.injEq] at hv
    obtain ⟨rfl, _, rfl⟩ := hv
    refine ⟨g, 0, rfl, (Array.getElem?_eq_some_iff.1 hg).1, fun j hj => ?_⟩
    rw [Nat.zero_add, h1.cellAt j (by omega), List.getElem?_map, List.getElem?_eq_getElem (by have := h.len; omega)]
    rw [List.getD_eq_getElem?_getD, List.getElem?_eq_getElem (by have := h.len; omega)]
    rfl
theorem OB.hi_le (h : OB w lo hi A n c zs) : ∀ k, (Value.slice A n c).ownBlock = some k → lo ≤ k ∧ k < hi ∧ k < w.heap.size := fun k hk => ⟨(h.1.lt k hk).1, h.2 k hk, (h.1.lt k hk).2⟩
theorem OB.below (h : OB w lo hi A n c zs) (hb : Below w.heap.size w w') : OB w' lo hi A n c zs := ⟨owns_below h.1 hb, h.2⟩
theorem OB.only {lo' hi' : Nat} (h : OB w lo hi A n c zs) (ho : Only lo' hi' w w') (hd : hi ≤ lo' ∨ hi' ≤ lo) : OB w' lo hi A n c zs := by
  refine ⟨⟨h.1.1, ?_⟩, h.2⟩
  rcases h.1.2 with hn | ⟨g, cap, cur, hv, hlo, hg, rest⟩
  · exact .inl hn
  · refine .inr ⟨g, cap, cur, hv, hlo, ?_, rest⟩
    have hgh : g < hi := h.2 g (by rw [hv]; rfl)
    rw [ho.block g (Array.getElem?_eq_some_iff.1 hg).1 (by omega)]
    exact hg
theorem OB.mono {lo' hi' : Nat} (h : OB w lo hi A n c zs) (h1 : lo' ≤ lo) (h2 : hi ≤ hi') : OB w lo' hi' A n c zs := ⟨owns_base h.1 h1, fun k hk => Nat.lt_of_lt_of_le (h.2 k hk) h2⟩
theorem OB.new {B : Nat} (h : w.ownsRow B 3 1 (.slice A n c) n (zs.map (Value.int .i64))) : OB w B w.heap.size A n c zs := ⟨h, fun k hk => (h.lt k hk).2⟩
theorem Only.of_below {B : Nat} (hb : Below w.heap.size w w') (h : lo ≤ hi) : Only lo hi w w' := ⟨hb.os, hb.tape, hb.output, hb.size, fun k hk _ => hb.block k hk⟩
theorem below_only {a : World} {B : Nat} (hb : Below B a w) (ho : Only lo hi w w') (hB : B ≤ lo) (hs : B ≤ w.heap.size) : Below B a w' :=
  ⟨ho.os.trans hb.os, ho.tape.trans hb.tape, ho.output.trans hb.output, Nat.le_trans hb.size ho.size, fun k hk => (ho.block k (by omega) (by omega)).trans (hb.block k hk)⟩
theorem RI.keepB {a : World} (h : RI a A n zs) (hb : Below a.heap.size a w) : RI w A n zs := h.below hb
end

/-- The numbers k, k + 1, .. -/
def marks (k : Int) (n : Nat) : List Int := (List.range n).map (fun j : Nat => k + (j : Int))
theorem marks_length (k : Int) (n : Nat) : (marks k n).length = n := by simp [marks]
theorem marks_getD (k : Int) (n j : Nat) (h : j < n) : (marks k n).getD j 0 = k + j := by
  rw [List.getD_eq_getElem?_getD, List.getElem?_eq_getElem (by rw [marks_length]; exact h)]
  simp [marks]

/-! ### toIntS -/
theorem set_copy (zs : List Int) (k : Nat) (h : k < zs.length) : (((zs.take k) ++ List.replicate (zs.length - k) 0).map (Value.int .i64)).set k (.int .i64 (zs.getD k 0)) = ((zs.take (k + 1)) ++ List.replicate (zs.length - (k + 1)) 0).map (Value.int .i64) := by
  rw [← List.map_set]
  congr 1
  apply List.ext_getElem
  · simp; omega
  · intro j h1 h2
    rw [List.getElem_set]
    by_cases e : k = j
    · subst e
      rw [if_pos rfl, List.getElem_append_left (by simp; omega), List.getElem_take, List.getD_eq_getElem?_getD, List.getElem?_eq_getElem h]
      rfl
    · rw [if_neg e]
      by_cases f : j < k
      · rw [List.getElem_append_left (by simp; omega), List.getElem_append_left (by simp; omega), List.getElem_take, List.getElem_take]
      · rw [List.getElem_append_right (by simp; omega), List.getElem_append_right (by simp; omega), List.getElem_replicate, List.getElem_replicate]

/-! ### eqIntS, where the two read alike -/

/-! ### markIntS -/
theorem Only.refl (lo hi : Nat) (w : World) : Only lo hi w w := ⟨rfl, rfl, rfl, Nat.le_refl _, fun _ _ _ => rfl⟩
theorem Only.setCell {w w' : World} {lo hi : Nat} (h : Only lo hi w w') {p : Addr} (h1 : lo ≤ p.block) (h2 : p.block < hi) (u : Value) : Only lo hi w (w'.setCell p u) :=
  ⟨h.os, h.tape, h.output, by simpa [World.setCell] using h.size, fun k hk hne => (Below.heap_setCell w' p u k (by omega)).trans (h.block k hk hne)⟩
theorem Only.trans {w w' w'' : World} {lo hi : Nat} (h : Only lo hi w w') (k : Only lo hi w' w'') : Only lo hi w w'' :=
  ⟨k.os.trans h.os, k.tape.trans h.tape, k.output.trans h.output, Nat.le_trans h.size k.size, fun j hj hne => (k.block j (Nat.lt_of_lt_of_le hj h.size) hne).trans (h.block j hj hne)⟩
theorem set_mark (zs : List Int) (k0 : Int) (j : Nat) (h : j < zs.length) : ((marks k0 j ++ zs.drop j).map (Value.int .i64)).set j (.int .i64 (k0 + (j : Int))) = (marks k0 (j + 1) ++ zs.drop (j + 1)).map (Value.int .i64) := by
  rw [← List.map_set]
  congr 1
  apply List.ext_getElem
  · simp [marks_length]; omega
  · intro i h1 h2
    rw [List.getElem_set]
    by_cases e : j = i
    · subst e
      rw [if_pos rfl, List.getElem_append_left (by rw [marks_length]; omega)]
      simp [marks]
    · rw [if_neg e]
      by_cases f : i < j
      · rw [List.getElem_append_left (by rw [marks_length]; omega), List.getElem_append_left (by rw [marks_length]; omega)]
        simp [marks]
      · rw [List.getElem_append_right (by rw [marks_length]; omega), List.getElem_append_right (by rw [marks_length]; omega), List.getElem_drop, List.getElem_drop]
        congr 1
        rw [marks_length, marks_length]
        omega
theorem OB.form {w : World} {lo hi n c : Nat} {A : Option Addr} {zs : List Int} (h : OB w lo hi A n c zs) (hn : 0 < n) : ∃ g, A = some ⟨g, 0, none⟩ ∧ lo ≤ g ∧ g < hi ∧ g < w.heap.size := by
  rcases h.1.2 with ⟨hv, h0⟩ | ⟨g, cap, cur, hv, hlo, hg, _⟩
  · omega
  · have h2 := h.2 g (by rw [hv]; rfl)
    simp only [Value.slice.injEq] at hv
    exact ⟨g, hv.1, hlo, h2, (Array.getElem?_eq_some_iff.1 hg).1⟩
/-! ### heldIntS -/
end Go.Proofs.YtcoecgcjpeijmaaDoor
