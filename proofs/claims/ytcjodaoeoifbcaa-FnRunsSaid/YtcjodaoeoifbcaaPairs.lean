/-
  ROWS OF PAIRS of int64 numbers: how they read, who owns them; the laws' own helpers toPairS, eqPairS, markPairS, heldPairS. No condition.
-/
import Derived.Test.YtcjodaoeoifbcaaInts
import Derived.Deep.SlicePairs
namespace Go.Proofs.Ytcjodaoeoifbcaa
open Go.ChangeShapes Go.WideShapes Go.ChangeAt Go.RowKit
set_option linter.unusedVariables false
theorem info_pair : (Try.prog.info? 54).map (fun i => (i.zero, i.size, i.bytes)) = some (some (.agg #[.int .i64 0, .int .i64 0]), 2, 16) := by kernel_rfl
theorem toList_madeCells_two (z : Value) (n : Nat) : (madeCells #[z, z] n).toList = List.replicate n z := by
  apply List.ext_getElem?
  intro j
  by_cases hj : j < n
  · rcases (show j % 2 = 0 ∨ j % 2 = 1 from by omega) with e | e <;> simp [madeCells, hj, e]
  · simp [madeCells, hj]
/-- The slice at A of n pairs reads as the numbers zs, two of them a pair. -/
def R2 (w : World) (A : Option Addr) (n : Nat) (zs : List Int) : Prop :=
  zs.length = n * 2 ∧ (0 < n → ∃ b off, A = some ⟨b, off, none⟩ ∧ b < w.heap.size ∧ ∀ j, j < n * 2 → w.cell? ⟨b, off + j, none⟩ = some (.int .i64 (zs.getD j 0)))
/-- The slice value owns the pairs, in a block from lo on and below hi. -/
def O2 (w : World) (lo hi : Nat) (A : Option Addr) (n c : Nat) (zs : List Int) : Prop :=
  w.ownsRow lo 54 2 (.slice A n c) n (zs.map (Value.int .i64)) ∧ ∀ k, (Value.slice A n c).ownBlock = some k → k < hi
section
variable {w w' : World} {lo hi n c : Nat} {A : Option Addr} {zs : List Int}
theorem R2.len (h : R2 w A n zs) : zs.length = n * 2 := h.1
theorem R2.nil (w : World) (A : Option Addr) : R2 w A 0 [] := ⟨rfl, fun h => absurd h (by omega)⟩
theorem R2.below (h : R2 w A n zs) (hb : Below w.heap.size w w') : R2 w' A n zs := ⟨h.1, fun hn => by
  obtain ⟨b, off, e, hlt, hc⟩ := h.2 hn
  exact ⟨b, off, e, Nat.lt_of_lt_of_le hlt hb.size, fun j hj => (hb.cell (p := ⟨b, off + j, none⟩) hlt).trans (hc j hj)⟩⟩
theorem R2.at_ (h : R2 w A n zs) {k : Nat} (hk : k < n) : ∃ b off, A = some ⟨b, off, none⟩ ∧ b < w.heap.size ∧ ∀ j, j < n * 2 → w.cell? ⟨b, off + j, none⟩ = some (.int .i64 (zs.getD j 0)) := h.2 (by omega)
theorem O2.len (h : O2 w lo hi A n c zs) : zs.length = n * 2 := by have := h.1.1; simpa using this
theorem O2.read (h : O2 w lo hi A n c zs) : R2 w A n zs := by
  refine ⟨h.len, fun hn => ?_⟩
  rcases h.1.2 with ⟨hv, h0⟩ | ⟨g, cap, cur, hv, hlo, hg, _⟩
  · have := h.1.1; rw [h0] at this; simp at this; omega
  · have h1 := h.1
    simp only [Value.slice.injEq] at hv
    obtain ⟨rfl, _, rfl⟩ := hv
    refine ⟨g, 0, rfl, (Array.getElem?_eq_some_iff.1 hg).1, fun j hj => ?_⟩
    rw [Nat.zero_add, h1.cellAt j hj, List.getElem?_map, List.getElem?_eq_getElem (by have := h.len; omega)]
    rw [List.getD_eq_getElem?_getD, List.getElem?_eq_getElem (by have := h.len; omega)]
    rfl
theorem O2.below (h : O2 w lo hi A n c zs) (hb : Below w.heap.size w w') : O2 w' lo hi A n c zs := ⟨owns_below h.1 hb, h.2⟩
theorem O2.hi_le (h : O2 w lo hi A n c zs) : ∀ k, (Value.slice A n c).ownBlock = some k → lo ≤ k ∧ k < hi ∧ k < w.heap.size := fun k hk => ⟨(h.1.lt k hk).1, h.2 k hk, (h.1.lt k hk).2⟩
theorem O2.only {lo' hi' : Nat} (h : O2 w lo hi A n c zs) (ho : Only lo' hi' w w') (hd : hi ≤ lo' ∨ hi' ≤ lo) : O2 w' lo hi A n c zs := by
  refine ⟨⟨h.1.1, ?_⟩, h.2⟩
  rcases h.1.2 with hn | ⟨g, cap, cur, hv, hlo, hg, rest⟩
  · exact .inl hn
  · refine .inr ⟨g, cap, cur, hv, hlo, ?_, rest⟩
    have hgh : g < hi := h.2 g (by rw [hv]; rfl)
    rw [ho.block g (Array.getElem?_eq_some_iff.1 hg).1 (by omega)]
    exact hg
theorem O2.mono {lo' hi' : Nat} (h : O2 w lo hi A n c zs) (h1 : lo' ≤ lo) (h2 : hi ≤ hi') : O2 w lo' hi' A n c zs := ⟨owns_base h.1 h1, fun k hk => Nat.lt_of_lt_of_le (h.2 k hk) h2⟩
theorem O2.new {B : Nat} (h : w.ownsRow B 54 2 (.slice A n c) n (zs.map (Value.int .i64))) : O2 w B w.heap.size A n c zs := ⟨h, fun k hk => (h.lt k hk).2⟩
theorem O2.form (h : O2 w lo hi A n c zs) (hn : 0 < n) : ∃ g, A = some ⟨g, 0, none⟩ ∧ lo ≤ g ∧ g < hi ∧ g < w.heap.size := by
  rcases h.1.2 with ⟨hv, h0⟩ | ⟨g, cap, cur, hv, hlo, hg, _⟩
  · have := h.1.1; rw [h0] at this; simp at this; omega
  · have h2 := h.2 g (by rw [hv]; rfl)
    simp only [Value.slice.injEq] at hv
    exact ⟨g, hv.1, hlo, h2, (Array.getElem?_eq_some_iff.1 hg).1⟩
theorem exists_list (P : Nat → Int → Prop) : ∀ n : Nat, (∀ j, j < n → ∃ x, P j x) → ∃ l : List Int, l.length = n ∧ ∀ j, j < n → P j (l.getD j 0)
  | 0, _ => ⟨[], rfl, fun j h => absurd h (by omega)⟩
  | n + 1, h => by
    obtain ⟨l, hl, hp⟩ := exists_list P n (fun j hj => h j (by omega))
    obtain ⟨x, hx⟩ := h n (by omega)
    refine ⟨l ++ [x], by simp [hl], fun j hj => ?_⟩
    by_cases e : j < n
    · rw [List.getD_eq_getElem?_getD, List.getElem?_append_left (by omega), ← List.getD_eq_getElem?_getD]; exact hp j e
    · obtain rfl : j = n := by omega
      rw [List.getD_eq_getElem?_getD, List.getElem?_append_right (by omega), hl, Nat.sub_self]; exact hx
theorem R2.of_cells {x : Addr} {n : Nat} (h : ∀ j, j < n * 2 → ∃ v, w.cell? (x.add j) = some (.int .i64 v)) : ∃ zs, R2 w (some x) n zs := by
  obtain ⟨l, hl, hp⟩ := exists_list (fun j v => w.cell? (x.add j) = some (.int .i64 v)) (n * 2) h
  refine ⟨l, hl, fun hn => ?_⟩
  obtain ⟨b, off, rfl, hcc⟩ := ints_at (k := .i64) (zs := l) (fun j hj => hp j (by omega)) (by omega)
  exact ⟨b, off, rfl, World.block_lt_of_cell? w ⟨b, off + 0, none⟩ (hcc 0 (by omega)), fun j hj => hcc j (by omega)⟩
end
theorem set_copy2 (zs : List Int) (k n : Nat) (hl : zs.length = n * 2) (h : k < n) :
    ((((zs.take (k * 2)) ++ List.replicate (zs.length - k * 2) 0).map (Value.int .i64)).set (k * 2) (.int .i64 (zs.getD (k * 2) 0))).set (k * 2 + 1) (.int .i64 (zs.getD (k * 2 + 1) 0)) = ((zs.take ((k + 1) * 2)) ++ List.replicate (zs.length - (k + 1) * 2) 0).map (Value.int .i64) := by
  rw [set_copy zs (k * 2) (by omega), set_copy zs (k * 2 + 1) (by omega), show (k + 1) * 2 = k * 2 + 1 + 1 from by omega]
theorem set_mark2 (zs : List Int) (k0 : Int) (j n : Nat) (hl : zs.length = n * 2) (h : j < n) :
    (((marks k0 (j * 2) ++ zs.drop (j * 2)).map (Value.int .i64)).set (j * 2) (.int .i64 (k0 + (j : Int) * 2))).set (j * 2 + 1) (.int .i64 (k0 + (j : Int) * 2 + 1)) = (marks k0 ((j + 1) * 2) ++ zs.drop ((j + 1) * 2)).map (Value.int .i64) := by
  have e1 := set_mark zs k0 (j * 2) (by omega)
  have e2 := set_mark zs k0 (j * 2 + 1) (by omega)
  rw [show k0 + ((j * 2 : Nat) : Int) = k0 + (j : Int) * 2 from by omega] at e1
  rw [show k0 + ((j * 2 + 1 : Nat) : Int) = k0 + (j : Int) * 2 + 1 from by omega] at e2
  rw [e1, e2, show (j + 1) * 2 = j * 2 + 1 + 1 from by omega]
theorem marks_two (k0 : Int) (n j : Nat) (h : j < n) : (marks k0 (n * 2)).getD (j * 2) 0 = k0 + (j : Int) * 2 ∧ (marks k0 (n * 2)).getD (j * 2 + 1) 0 = k0 + (j : Int) * 2 + 1 := by
  rw [marks_getD k0 (n * 2) (j * 2) (by omega), marks_getD k0 (n * 2) (j * 2 + 1) (by omega)]
  omega
theorem szPairS_c (A : Option Addr) (n c : Nat) (w : World) (hn : n ≤ 1048576) :
    Calls Try.prog 31 #[.slice A n c, .int .i64 1048576] w fun e w' => e = .returned (.int .i64 (1048576 - (n : Int))) ∧ w = w' := by
  go_enter Try.func31, Try.ntmps31
  go_wp2
  go_ret
  exact ⟨rfl, rfl⟩
theorem szPairS_big (A : Option Addr) (n c : Nat) (w : World) (hn : 1048576 < n) (hm : n ≤ maxLen) :
    Calls Try.prog 31 #[.slice A n c, .int .i64 1048576] w fun e w' => e = .returned (.int .i64 (-1)) ∧ w = w' := by
  unfold maxLen at hm
  have h1 : (1048576 : Int) < (n : Int) := by omega
  have h2 : (n : Int) ≤ 9223372036854775807 := by omega
  go_enter Try.func31, Try.ntmps31
  go_wp2
  go_ret
  exact ⟨rfl, rfl⟩
theorem toPair_c (a b : Int) (w : World) :
    Calls Try.prog 64 #[.agg #[.int .i64 a, .int .i64 b]] w fun e w' => e = .returned (.agg #[.int .i64 a, .int .i64 b]) ∧ Below w.heap.size w w' := by
  go_enter Try.func64, Try.ntmps64
  go_wp2
  exact bodyPost_ret (v := .agg #[.int .i64 a, .int .i64 b]) (by simp [results, Try.results64, go_sem]) rfl ⟨rfl, by go_grown⟩
theorem eqPair_yes (a b : Int) (w : World) :
    Calls Try.prog 65 #[.agg #[.int .i64 a, .int .i64 b], .agg #[.int .i64 a, .int .i64 b]] w fun e w' => e = .returned (.bool true) ∧ Below w.heap.size w w' := by
  go_enter Try.func65, Try.ntmps65
  go_wp2
  go_ret
  exact ⟨rfl, by go_grown⟩
set_option maxRecDepth 100000 in
theorem toPairS_c (A : Option Addr) (n c : Nat) (zs : List Int) (w : World) (h : R2 w A n zs) (hn : n ≤ 1048576) :
    Calls Try.prog 33 #[.slice A n c] w fun e w' => e = .returned (.slice (some ⟨w.heap.size, 0, none⟩) n n) ∧ O2 w' w.heap.size (w.heap.size + 1) (some ⟨w.heap.size, 0, none⟩) n n zs ∧ Below w.heap.size w w' := by
  obtain ⟨i0, hi, hz0, hz1, hz2⟩ := info_parts info_pair
  have hlen := h.len
  go_enter Try.func33, Try.ntmps33
  go_wp2_with (first
    | (at_make; refine wpList_make_full _ rfl _ _ 35 rfl w.heap.size 54 i0 (.agg #[.int .i64 0, .int .i64 0]) 2 Try.underlying35 hi hz0 hz1 .i64 .i64 _ _ n rfl rfl rfl rfl (by rw [hz2]; omega) (by unfold maxLen; omega) (Nat.le_refl _) ?_; intro w1 hown1 hgrow1)
    | go_in)
  have hb1 : Below w.heap.size w w1 := (Below.refl _ _).grown hgrow1 (Nat.le_refl _) (by simp)
  clear hgrow1
  have e0 : (madeCells (Value.agg #[.int .i64 0, .int .i64 0]).cells (n * 2)).toList = ((zs.take (0 * 2)) ++ List.replicate (zs.length - 0 * 2) 0).map (Value.int .i64) := by
    rw [show (Value.agg #[.int .i64 0, .int .i64 0]).cells = #[Value.int .i64 0, Value.int .i64 0] from rfl, toList_madeCells_two, hlen]
    simp
  rw [e0] at hown1
  clear e0
  go_loopw [4] (fun i wr => ∃ k : Nat, k ≤ n ∧ i = .int .i64 k ∧ wr.ownsRow w.heap.size 54 2 (.slice (some ⟨w.heap.size, 0, none⟩) n n) n (((zs.take (k * 2)) ++ List.replicate (zs.length - k * 2) 0).map (Value.int .i64)) ∧ Below w.heap.size w wr) (fun i _ => n - (intOf i).toNat)
  case atStart => exact ⟨0, Nat.zero_le _, rfl, hown1, hb1⟩
  case round =>
    clear hown1 hb1
    obtain ⟨k, hk, rfl, hown, hb⟩ := hrel
    by_cases hlt : k < n
    · obtain ⟨b, off, rfl, hbl, hc⟩ := h.at_ hlt
      have hsrc0 := (hb.cell (p := ⟨b, off + k * 2, none⟩) hbl).trans (hc (k * 2) (by omega))
      have hsrc1 : wr.cell? ⟨b, off + k * 2 + 1, none⟩ = some (.int .i64 (zs.getD (k * 2 + 1) 0)) := (hb.cell (p := ⟨b, off + (k * 2 + 1), none⟩) hbl).trans (hc (k * 2 + 1) (by omega))
      have hst := Lib.hid (set_copy2 zs k n hlen hlt)
      obtain ⟨x, hx⟩ : ∃ x, x = zs.getD (k * 2) 0 := ⟨_, rfl⟩
      obtain ⟨y, hy⟩ : ∃ y, y = zs.getD (k * 2 + 1) 0 := ⟨_, rfl⟩
      rw [← hx] at hsrc0 hst
      rw [← hy] at hsrc1 hst
      have H := Lib.hid h
      have HL := Lib.hid hlen
      clear hx hy hc h hlen
      go_wp2_with fail
      refine (toPair_c _ _ _).mono ?_
      rintro e w2 ⟨rfl, b2⟩
      have hown2 := owns_below hown b2
      have hb2 := hb.trans (b2.mono hb.size)
      obtain ⟨y0, hcell0⟩ : ∃ y, w2.cell? ⟨w.heap.size, k * 2, none⟩ = some y := ⟨_, (hown2.cellAt (k * 2) (by omega)).trans (List.getElem?_eq_getElem (by rw [hown2.1]; omega))⟩
      obtain ⟨y1, hcell1⟩ : ∃ y, w2.cell? ⟨w.heap.size, k * 2 + 1, none⟩ = some y := ⟨_, (hown2.cellAt (k * 2 + 1) (by omega)).trans (List.getElem?_eq_getElem (by rw [hown2.1]; omega))⟩
      have hfz0 := hown2.frozenAt (k * 2)
      have hfz1 := hown2.frozenAt (k * 2 + 1)
      clear hown hb hsrc0 hsrc1
      have R := ((hown2.stored (k * 2) (.int .i64 x)).1.stored (k * 2 + 1) (.int .i64 y)).1
      rw [hst.out] at R
      have R2 := (hb2.setCell (p := ⟨w.heap.size, k * 2, none⟩) (Nat.le_refl _) (.int .i64 x)).setCell (p := ⟨w.heap.size, k * 2 + 1, none⟩) (Nat.le_refl _) (.int .i64 y)
      have HR1 := Lib.hid R
      have HR2 := Lib.hid R2
      clear R R2 hown2 hb2 b2
      go_wp2
      go_roundw
      case rel => exact ⟨k + 1, by omega, by go_num, HR1.out, HR2.out⟩
      case measure => simp [intOf]; omega
    · have hke : k = n := by omega
      subst hke
      rw [List.take_of_length_le (by omega), show zs.length - k * 2 = 0 from by omega, List.replicate_zero, List.append_nil] at hown
      go_wp2
      go_ret
      exact ⟨rfl, ⟨hown, fun j hj => by simp [Value.ownBlock] at hj; omega⟩, hb⟩
set_option maxRecDepth 100000 in
theorem eqPairS_yes (A A' : Option Addr) (n c c' : Nat) (zs : List Int) (w : World) (h : R2 w A n zs) (h' : R2 w A' n zs) (hn : n ≤ 1000000000) :
    Calls Try.prog 35 #[.slice A n c, .slice A' n c'] w fun e w' => e = .returned (.bool true) ∧ Below w.heap.size w w' := by
  go_enter Try.func35, Try.ntmps35
  go_wp2
  go_loopw [5] (fun i wr => ∃ k : Nat, k ≤ n ∧ i = .int .i64 k ∧ Below w.heap.size w wr) (fun i _ => n - (intOf i).toNat)
  case atStart => exact ⟨0, Nat.zero_le _, rfl, Below.refl _ _⟩
  case round =>
    obtain ⟨k, hk, rfl, hb⟩ := hrel
    by_cases hlt : k < n
    · obtain ⟨b, off, rfl, hbl, hc⟩ := h.at_ hlt
      obtain ⟨b', off', rfl, hbl', hc'⟩ := h'.at_ hlt
      have g0 := hc (k * 2) (by omega)
      have g1 : w.cell? ⟨b, off + k * 2 + 1, none⟩ = some (.int .i64 (zs.getD (k * 2 + 1) 0)) := hc (k * 2 + 1) (by omega)
      have g2 := hc' (k * 2) (by omega)
      have g3 : w.cell? ⟨b', off' + k * 2 + 1, none⟩ = some (.int .i64 (zs.getD (k * 2 + 1) 0)) := hc' (k * 2 + 1) (by omega)
      obtain ⟨x, hx⟩ : ∃ x, x = zs.getD (k * 2) 0 := ⟨_, rfl⟩
      obtain ⟨y, hy⟩ : ∃ y, y = zs.getD (k * 2 + 1) 0 := ⟨_, rfl⟩
      rw [← hx] at g0 g2
      rw [← hy] at g1 g3
      have hS : Hid (∀ W, Below w.heap.size w W → (W.cell? ⟨b, off + k * 2, none⟩ = some (.int .i64 x) ∧ W.cell? ⟨b, off + k * 2 + 1, none⟩ = some (.int .i64 y) ∧ W.cell? ⟨b', off' + k * 2, none⟩ = some (.int .i64 x) ∧ W.cell? ⟨b', off' + k * 2 + 1, none⟩ = some (.int .i64 y))) := fun W hW =>
        ⟨(hW.cell (p := ⟨b, off + k * 2, none⟩) hbl).trans g0, (hW.cell (p := ⟨b, off + k * 2 + 1, none⟩) hbl).trans g1, (hW.cell (p := ⟨b', off' + k * 2, none⟩) hbl').trans g2, (hW.cell (p := ⟨b', off' + k * 2 + 1, none⟩) hbl').trans g3⟩
      have hlt0 : (0 : Int) ≤ (k : Int) := by omega
      have hlt1 : (k : Int) < (n : Int) := by omega
      have HH := Lib.hid h
      have HH' := Lib.hid h'
      clear hx hy hc hc' h h' g0 g1 g2 g3
      go_wp2
      go_region_held3 (fun W => W.cell? ⟨b, off + k * 2, none⟩ = some (.int .i64 x) ∧ W.cell? ⟨b, off + k * 2 + 1, none⟩ = some (.int .i64 y) ∧ W.cell? ⟨b', off' + k * 2, none⟩ = some (.int .i64 x) ∧ W.cell? ⟨b', off' + k * 2 + 1, none⟩ = some (.int .i64 y))
        (first | exact hS.out _ hb.drew | exact hS.out _ hb2)
        ((go_at_call 65; refine (eqPair_yes _ _ _).mono ?_; rintro e w2 ⟨rfl, b2⟩; have hb2 := hb.drew.trans (b2.mono hb.size)))
      all_goals
        go_wp2
        go_roundw
        case rel => exact ⟨k + 1, by omega, by go_num, hb2⟩
        case measure => simp [intOf]; omega
    · have hke : k = n := by omega
      subst hke
      go_wp2
      go_ret
      exact ⟨rfl, hb⟩
set_option maxRecDepth 100000 in
theorem markPairS_c (A : Option Addr) (n c lo hi : Nat) (k0 : Int) (zs : List Int) (w : World) (h : O2 w lo hi A n c zs) (hn : n ≤ 1000000000) (hk0 : 0 ≤ k0) (hk1 : k0 ≤ 1000000) :
    Calls Try.prog 36 #[.slice A n c, .int .i64 k0] w fun e w' => e = .returned (.int .i64 (k0 + (n : Int) * 2)) ∧ O2 w' lo hi A n c (marks k0 (n * 2)) ∧ Only lo hi w w' := by
  have hlen := h.len
  have hform := fun hn => h.form hn
  have hhi := h.2
  go_enter Try.func36, Try.ntmps36
  go_wp2
  go_loopw [1, 5] (fun q i wr => ∃ k : Nat, k ≤ n ∧ i = .int .i64 k ∧ q = .int .i64 (k0 + (k : Int) * 2) ∧ wr.ownsRow lo 54 2 (.slice A n c) n ((marks k0 (k * 2) ++ zs.drop (k * 2)).map (Value.int .i64)) ∧ Only lo hi w wr) (fun _ i _ => n - (intOf i).toNat)
  case atStart => exact ⟨0, Nat.zero_le _, rfl, by simp, h.1, Only.refl _ _ _⟩
  case round =>
    obtain ⟨k, hk, rfl, rfl, hown, ho⟩ := hrel
    by_cases hlt : k < n
    · obtain ⟨g, rfl, hg1, hg2, _⟩ := hform (by omega)
      obtain ⟨y0, hcell0⟩ : ∃ y, wr.cell? ⟨g, k * 2, none⟩ = some y := ⟨_, (hown.cellAt (k * 2) (by omega)).trans (List.getElem?_eq_getElem (by rw [hown.1]; omega))⟩
      obtain ⟨y1, hcell1⟩ : ∃ y, wr.cell? ⟨g, k * 2 + 1, none⟩ = some y := ⟨_, (hown.cellAt (k * 2 + 1) (by omega)).trans (List.getElem?_eq_getElem (by rw [hown.1]; omega))⟩
      have hfz0 := hown.frozenAt (k * 2)
      have hfz1 := hown.frozenAt (k * 2 + 1)
      have R := ((hown.stored (k * 2) (.int .i64 (k0 + (k : Int) * 2))).1.stored (k * 2 + 1) (.int .i64 (k0 + (k : Int) * 2 + 1))).1
      rw [set_mark2 zs k0 k n hlen hlt] at R
      have R2 := (ho.setCell (p := ⟨g, k * 2, none⟩) hg1 hg2 (.int .i64 (k0 + (k : Int) * 2))).setCell (p := ⟨g, k * 2 + 1, none⟩) hg1 hg2 (.int .i64 (k0 + (k : Int) * 2 + 1))
      have HR1 := Lib.hid R
      have HR2 := Lib.hid R2
      have HX := Lib.hid h
      clear R R2 hown h hform hhi hlen
      go_wp2
      go_roundw
      case rel => exact ⟨k + 1, by omega, by go_num, by go_num, HR1.out, HR2.out⟩
      case measure => simp [intOf]; omega
    · have hke : k = n := by omega
      subst hke
      rw [List.drop_of_length_le (by omega), List.append_nil] at hown
      go_wp2
      go_ret
      exact ⟨rfl, ⟨hown, hhi⟩, ho⟩
set_option maxRecDepth 100000 in
theorem heldPairS_c (A : Option Addr) (n c : Nat) (k0 : Int) (w : World) (h : R2 w A n (marks k0 (n * 2))) (hn : n ≤ 1000000000) (hk0 : 0 ≤ k0) (hk1 : k0 ≤ 1000000) :
    Calls Try.prog 41 #[.slice A n c, .int .i64 k0] w fun e w' => e = .returned (.int .i64 (k0 + (n : Int) * 2)) ∧ w = w' := by
  go_enter Try.func41, Try.ntmps41
  go_wp2
  go_loop [1, 5] (fun q i => ∃ k : Nat, k ≤ n ∧ i = .int .i64 k ∧ q = .int .i64 (k0 + (k : Int) * 2)) (fun _ i => n - (intOf i).toNat)
  case atStart => exact ⟨0, Nat.zero_le _, rfl, by simp⟩
  case round =>
    obtain ⟨k, hk, rfl, rfl⟩ := hrel
    by_cases hlt : k < n
    · obtain ⟨b, off, rfl, hbl, hc⟩ := h.at_ hlt
      have hm := marks_two k0 n k hlt
      have g0 := hc (k * 2) (by omega)
      have g1 : w.cell? ⟨b, off + k * 2 + 1, none⟩ = some (.int .i64 ((marks k0 (n * 2)).getD (k * 2 + 1) 0)) := hc (k * 2 + 1) (by omega)
      rw [hm.1] at g0
      rw [hm.2] at g1
      clear hc h hm
      go_wp2
      go_round
      case rel => exact ⟨k + 1, by omega, by go_num, by go_num⟩
      case measure => simp [intOf]; omega
    · have hke : k = n := by omega
      subst hke
      go_wp2
      go_ret
      exact ⟨rfl, rfl⟩
end Go.Proofs.Ytcjodaoeoifbcaa
