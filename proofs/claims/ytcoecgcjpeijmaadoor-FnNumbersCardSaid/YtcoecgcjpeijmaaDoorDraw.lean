/-
  THE DRAWS: a cursor over bytes, and numbers drawn from it. No condition.
-/
import Derived.Test.YtcoecgcjpeijmaaDoorInts
import Derived.Laws.Rows
namespace Go.Proofs.YtcoecgcjpeijmaaDoor
open Go.ChangeShapes Go.WideShapes Go.ChangeAt Go.RowKit
set_option linter.unusedVariables false
/-- The slice at A of n bytes reads as the numbers zs. -/
def RU (w : World) (A : Option Addr) (n : Nat) (zs : List Int) : Prop :=
  zs.length = n ∧ (∀ j, j < n → 0 ≤ zs.getD j 0 ∧ zs.getD j 0 < 256) ∧ (0 < n → ∃ b off, A = some ⟨b, off, none⟩ ∧ b < w.heap.size ∧ ∀ j, j < n → w.cell? ⟨b, off + j, none⟩ = some (.int .u8 (zs.getD j 0)))
theorem RU.below {w w' : World} {A : Option Addr} {n : Nat} {zs : List Int} (h : RU w A n zs) (hb : Below w.heap.size w w') : RU w' A n zs := ⟨h.1, h.2.1, fun hn => by
  obtain ⟨b, off, e, hlt, hc⟩ := h.2.2 hn
  exact ⟨b, off, e, Nat.lt_of_lt_of_le hlt hb.size, fun j hj => (hb.cell (p := ⟨b, off + j, none⟩) hlt).trans (hc j hj)⟩⟩
theorem wf_u8 {x : Int} (h : (Lit.int .u8 x).wf = true) : 0 ≤ x ∧ x < 256 := by
  simp [Lit.wf, IntKind.min, IntKind.max, IntKind.signed, IntKind.bits] at h
  omega
theorem RU.ofIsRow {w : World} {A : Option Addr} {len cap : Nat} {z : List Int} (h : IsRow .u8 w A len cap z) : RU w A len (z.take len) := by
  rcases h with ⟨rfl, rfl, rfl, rfl⟩ | ⟨x, rfl, hl, hm, hz, hc, hw⟩
  · exact ⟨rfl, fun j h => absurd h (by omega), fun h => absurd h (by omega)⟩
  · have e : ∀ j, j < len → (z.take len).getD j 0 = z.getD j 0 := fun j hj => by
      rw [List.getD_eq_getElem?_getD, List.getD_eq_getElem?_getD, List.getElem?_take, if_pos hj]
    refine ⟨by rw [List.length_take]; omega, fun j hj => ?_, fun hn => ?_⟩
    · rw [e j hj]
      exact wf_u8 (hw _ (by rw [List.getD_eq_getElem?_getD, List.getElem?_eq_getElem (by omega)]; exact List.getElem_mem (by omega)))
    · obtain ⟨b, off, rfl, hcc⟩ := ints_at hc (by omega)
      refine ⟨b, off, rfl, World.block_lt_of_cell? w ⟨b, off + 0, none⟩ (hcc 0 (by omega)), fun j hj => ?_⟩
      rw [hcc j (by omega), e j hj]
/-- A cursor: its block, the bytes that it goes over, the next one's place, the running number. -/
structure Cur (w : World) (g : Nat) (A : Option Addr) (n c : Nat) (zs : List Int) (i h : Int) : Prop where
  blk : w.heap[g]? = some (.cells #[.slice A n c, .int .i64 i, .int .i64 h] 53 (0, 0))
  i0 : 0 ≤ i
  len : zs.length = n
  small : n ≤ 1048576
  byte : ∀ j, j < n → 0 ≤ zs.getD j 0 ∧ zs.getD j 0 < 256
  row : 0 < n → ∃ b off, A = some ⟨b, off, none⟩ ∧ b < g ∧ ∀ j, j < n → w.cell? ⟨b, off + j, none⟩ = some (.int .u8 (zs.getD j 0))
section
variable {w w' : World} {g n c : Nat} {A : Option Addr} {zs : List Int} {i h : Int}
theorem Cur.lt (k : Cur w g A n c zs i h) : g < w.heap.size := by
  rcases Nat.lt_or_ge g w.heap.size with hlt | hge
  · exact hlt
  · have := k.blk; rw [Array.getElem?_eq_none hge] at this; cases this
theorem Cur.cell0 (k : Cur w g A n c zs i h) : w.cell? ⟨g, 0, none⟩ = some (.slice A n c) := cell_of_row w g 0 _ _ (0, 0) k.blk
theorem Cur.cell1 (k : Cur w g A n c zs i h) : w.cell? ⟨g, 1, none⟩ = some (.int .i64 i) := cell_of_row w g 1 _ _ (0, 0) k.blk
theorem Cur.cell2 (k : Cur w g A n c zs i h) : w.cell? ⟨g, 2, none⟩ = some (.int .i64 h) := cell_of_row w g 2 _ _ (0, 0) k.blk
theorem Cur.frz (k : Cur w g A n c zs i h) (j : Nat) : w.frozen? ⟨g, j, none⟩ = false := by have := k.blk; simp [World.frozen?, this]
theorem Cur.drewN (k : Cur w g A n c zs i h) (m : Nat) : Cur (w.drewN m) g A n c zs i h := ⟨k.blk, k.i0, k.len, k.small, k.byte, k.row⟩
theorem Cur.setH (k : Cur w g A n c zs i h) (h2 : Int) : Cur (w.setCell ⟨g, 2, none⟩ (.int .i64 h2)) g A n c zs i h2 :=
  ⟨by have := k.blk; simp [World.setCell, Array.getElem?_modify, this], k.i0, k.len, k.small, k.byte, fun hn => by
    obtain ⟨b, off, e, hlt, hc⟩ := k.row hn
    exact ⟨b, off, e, hlt, fun j hj => (World.cell?_setCell_other w ⟨g, 2, none⟩ ⟨b, off + j, none⟩ _ (fun e => by have := congrArg Addr.block e; simp at this; omega)).trans (hc j hj)⟩⟩
theorem Cur.setI (k : Cur w g A n c zs i h) (i2 : Int) (h0 : 0 ≤ i2) : Cur (w.setCell ⟨g, 1, none⟩ (.int .i64 i2)) g A n c zs i2 h :=
  ⟨by have := k.blk; simp [World.setCell, Array.getElem?_modify, this], h0, k.len, k.small, k.byte, fun hn => by
    obtain ⟨b, off, e, hlt, hc⟩ := k.row hn
    exact ⟨b, off, e, hlt, fun j hj => (World.cell?_setCell_other w ⟨g, 1, none⟩ ⟨b, off + j, none⟩ _ (fun e => by have := congrArg Addr.block e; simp at this; omega)).trans (hc j hj)⟩⟩
theorem Cur.below (k : Cur w g A n c zs i h) (hb : Below w.heap.size w w') : Cur w' g A n c zs i h :=
  ⟨(hb.block g k.lt).trans k.blk, k.i0, k.len, k.small, k.byte, fun hn => by
    obtain ⟨b, off, e, hlt, hc⟩ := k.row hn
    exact ⟨b, off, e, hlt, fun j hj => (hb.cell (p := ⟨b, off + j, none⟩) (Nat.lt_trans hlt k.lt)).trans (hc j hj)⟩⟩
theorem Cur.grown {row : Option Nat} (k : Cur w g A n c zs i h) (hb : w.grownBy w' row) (hr : ∀ r, row = some r → g < r) : Cur w' g A n c zs i h :=
  ⟨(hb.block g k.lt (fun e => by have := hr g e.symm; omega)).trans k.blk, k.i0, k.len, k.small, k.byte, fun hn => by
    obtain ⟨b, off, e, hlt, hc⟩ := k.row hn
    exact ⟨b, off, e, hlt, fun j hj => (World.cell?_of_block (hb.block b (Nat.lt_trans hlt k.lt) (fun e => by have := hr b e.symm; omega))).trans (hc j hj)⟩⟩
end
theorem and_255 (x : Int) : 0 ≤ bits .and .i64 x 255 ∧ bits .and .i64 x 255 ≤ 255 := by
  have h1 : (BitVec.ofInt 64 x &&& BitVec.ofInt 64 255).toNat ≤ 255 := by
    rw [BitVec.toNat_and]
    exact Nat.le_trans Nat.and_le_right (by decide)
  have h2 : bits .and .i64 x 255 = IntKind.i64.wrap ((BitVec.ofInt 64 x &&& BitVec.ofInt 64 255).toNat : Int) := rfl
  rw [h2, IntKind.wrap_i64]
  omega
theorem and_30 (x : Int) : 0 ≤ bits .and .i64 x 1073741823 ∧ bits .and .i64 x 1073741823 ≤ 1073741823 := by
  have h1 : (BitVec.ofInt 64 x &&& BitVec.ofInt 64 1073741823).toNat ≤ 1073741823 := by
    rw [BitVec.toNat_and]
    exact Nat.le_trans Nat.and_le_right (by decide)
  have h2 : bits .and .i64 x 1073741823 = IntKind.i64.wrap ((BitVec.ofInt 64 x &&& BitVec.ofInt 64 1073741823).toNat : Int) := rfl
  rw [h2, IntKind.wrap_i64]
  omega
/-- The first running number: a sum over the bytes. -/
def hTo (zs : List Int) : Nat → Int
  | 0 => 10101 + (zs.length : Int)
  | k + 1 => bits .and .i64 (hTo zs k * 131 + zs.getD k 0 + 7) 1073741823
theorem hTo_bd (zs : List Int) (h : zs.length ≤ 1048576) : ∀ k, 0 ≤ hTo zs k ∧ hTo zs k ≤ 1073741823
  | 0 => by unfold hTo; omega
  | k + 1 => and_30 _
def h0 (zs : List Int) : Int := hTo zs (min zs.length 4000)
set_option maxRecDepth 100000 in
theorem sNew (A : Option Addr) (n c : Nat) (zs : List Int) (w : World) (h : RU w A n zs) (hn : n ≤ 1048576) :
    Calls Tryd.prog 22 #[.slice A n c] w fun e w' => ∃ g, e = .returned (.pointer (some ⟨g, 0, none⟩)) ∧ w.heap.size ≤ g ∧ g < w'.heap.size ∧ Cur w' g A n c zs 0 (h0 zs) ∧ Below w.heap.size w w' := by
  have hlen := h.1
  have hhb := fun k => hTo_bd zs (by omega) k
  go_enter Tryd.func22, Tryd.ntmps22
  go_wp2
  go_loop [3, 4] (fun s i => ∃ k : Nat, k ≤ n ∧ k ≤ 4000 ∧ i = .int .i64 k ∧ s = .int .i64 (hTo zs k)) (fun _ i => n - (intOf i).toNat)
  case atStart => exact ⟨0, Nat.zero_le _, Nat.zero_le _, rfl, by unfold hTo; rw [hlen]⟩
  case round =>
    obtain ⟨k, hk, hk4, rfl, rfl⟩ := hrel
    by_cases hlt : k < n ∧ k < 4000
    · obtain ⟨h1, h2⟩ := hlt
      have h2i : (k : Int) < 4000 := by omega
      obtain ⟨b, off, rfl, hbl, hc⟩ := h.2.2 (by omega)
      have hc1 := hc k h1
      have hx := h.2.1 k h1
      have hT : Hid (hTo zs (k + 1) = bits .and .i64 (hTo zs k * 131 + zs.getD k 0 + 7) 1073741823) := rfl
      have hb := hhb k
      obtain ⟨x, hxx⟩ : ∃ x, x = zs.getD k 0 := ⟨_, rfl⟩
      obtain ⟨y, hyy⟩ : ∃ y, y = hTo zs k := ⟨_, rfl⟩
      rw [← hxx] at hc1 hx hT
      rw [← hyy] at hT hb ⊢
      have H := Lib.hid h
      have HL := Lib.hid hlen
      clear hxx hyy hhb h hlen hc
      go_wp2
      go_round
      case rel => exact ⟨k + 1, by omega, by omega, by go_num, by rw [hT.out]⟩
      case measure => simp [intOf]; omega
    · have hE : Hid (h0 zs = hTo zs k) := by show h0 zs = _; unfold h0; congr 1; omega
      have hbl := fun hn => h.2.2 hn
      have hby := h.2.1
      by_cases h1 : k < n
      · have h2 : ¬ (k : Int) < 4000 := by omega
        clear hlt hhb
        go_wp2
        go_ret
        refine ⟨w.heap.size, rfl, Nat.le_refl _, by simp, ⟨?_, by omega, hlen, hn, hby, ?_⟩, by go_grown⟩
        · rw [hE.out]; exact heap_alloc_new w _
        · intro hn0
          obtain ⟨b, off, e, hlt, hc⟩ := hbl hn0
          exact ⟨b, off, e, hlt, fun j hj => (World.cell?_alloc_lt w _ ⟨b, off + j, none⟩ hlt).trans (hc j hj)⟩
      · have h2 : (k : Int) = (n : Int) := by omega
        obtain rfl : k = n := by omega
        clear hlt hhb h2
        go_wp2
        go_ret
        refine ⟨w.heap.size, rfl, Nat.le_refl _, by simp, ⟨?_, by omega, hlen, hn, hby, ?_⟩, by go_grown⟩
        · rw [hE.out]; exact heap_alloc_new w _
        · intro hn0
          obtain ⟨b, off, e, hlt, hc⟩ := hbl hn0
          exact ⟨b, off, e, hlt, fun j hj => (World.cell?_alloc_lt w _ ⟨b, off + j, none⟩ hlt).trans (hc j hj)⟩
def hNext (h : Int) : Int := wrap64 (wrap64 (h * 6364136223846793005) + 1442695040888963407)
def xOf (h : Int) : Int := bits .and .i64 (bits .xor .i64 (h / 8589934592) (h / 35184372088832)) 255
/-- The byte drawn, and the next place. -/
def byteV (zs : List Int) (i h : Int) : Int := if i < (zs.length : Int) then bits .and .i64 (xOf (hNext h) + zs.getD i.toNat 0) 255 else xOf (hNext h)
def byteI (zs : List Int) (i : Int) : Int := if i < (zs.length : Int) then i + 1 else i
theorem byteV_bd (zs : List Int) (i h : Int) : 0 ≤ byteV zs i h ∧ byteV zs i h ≤ 255 := by
  unfold byteV xOf
  split <;> exact and_255 _
theorem Only.drewN {lo hi : Nat} {w w' : World} (h : Only lo hi w w') (m : Nat) : Only lo hi w (w'.drewN m) := ⟨h.os, h.tape, h.output, h.size, h.block⟩
set_option maxRecDepth 100000 in
theorem sByte_no (g n c : Nat) (A : Option Addr) (zs : List Int) (i h : Int) (w : World) (k : Cur w g A n c zs i h) (hi : ¬ i < (n : Int)) :
    Calls Tryd.prog 34 #[.pointer (some ⟨g, 0, none⟩)] w fun e w' => e = .returned (.int .i64 (xOf (hNext h))) ∧ Cur w' g A n c zs i (hNext h) ∧ Only g (g + 1) w w' := by
  have c0 := k.cell0
  have c1 := k.cell1
  have c2 := k.cell2
  have f2 := k.frz 2
  have f1 := k.frz 1
  have hi0 := k.i0
  have HK := Lib.hid (k.setH (hNext h))
  have HO := Lib.hid ((Only.refl g (g + 1) w).setCell (p := ⟨g, 2, none⟩) (Nat.le_refl _) (Nat.lt_succ_self _) (.int .i64 (hNext h)))
  clear k
  go_enter Tryd.func34, Tryd.ntmps34
  go_wp2
  go_quiet (fail)
  go_wp2
  go_quiet (fail)
  go_wp2
  go_ret
  exact ⟨rfl, (HK.out.drewN _).drewN _, (HO.out.drewN _).drewN _⟩
set_option maxRecDepth 100000 in
theorem sByte_yes (g n c : Nat) (A : Option Addr) (zs : List Int) (i : Nat) (h : Int) (w : World) (k : Cur w g A n c zs i h) (hi : i < n) :
    Calls Tryd.prog 34 #[.pointer (some ⟨g, 0, none⟩)] w fun e w' => e = .returned (.int .i64 (bits .and .i64 (xOf (hNext h) + zs.getD i 0) 255)) ∧ Cur w' g A n c zs ((i : Int) + 1) (hNext h) ∧ Only g (g + 1) w w' := by
  have c0 := k.cell0
  have c1 := k.cell1
  have c2 := k.cell2
  have f2 := k.frz 2
  have f1 := k.frz 1
  have hn := k.small
  have hby := k.byte i hi
  have hx := and_255 (bits .xor .i64 (wrap64 (wrap64 (h * 6364136223846793005) + 1442695040888963407) / 8589934592) (wrap64 (wrap64 (h * 6364136223846793005) + 1442695040888963407) / 35184372088832))
  have HK := Lib.hid (k.setH (hNext h))
  have HO := Lib.hid ((Only.refl g (g + 1) w).setCell (p := ⟨g, 2, none⟩) (Nat.le_refl _) (Nat.lt_succ_self _) (.int .i64 (hNext h)))
  obtain ⟨b, off, e, hbg, hc⟩ := k.row (by omega)
  have hc1 := hc i hi
  obtain ⟨x, hxx⟩ : ∃ x, x = zs.getD i 0 := ⟨_, rfl⟩
  rw [← hxx] at hc1 hby ⊢
  subst e
  have hii : (i : Int) < (n : Int) := by omega
  have hi0 : (0 : Int) ≤ (i : Int) := by omega
  have hne : b ≠ g := by omega
  clear k hc hxx hbg
  go_enter Tryd.func34, Tryd.ntmps34
  go_wp2
  go_quiet (fail)
  go_wp2
  go_quiet (fail)
  go_wp2
  go_quiet (fail)
  go_wp2
  go_ret
  exact ⟨rfl, (HK.out.drewN _).setI _ (by omega), (HO.out.drewN _).setCell (p := ⟨g, 1, none⟩) (Nat.le_refl _) (Nat.lt_succ_self _) _⟩
theorem sByte (g n c : Nat) (A : Option Addr) (zs : List Int) (i h : Int) (w : World) (k : Cur w g A n c zs i h) :
    Calls Tryd.prog 34 #[.pointer (some ⟨g, 0, none⟩)] w fun e w' => e = .returned (.int .i64 (byteV zs i h)) ∧ Cur w' g A n c zs (byteI zs i) (hNext h) ∧ Only g (g + 1) w w' := by
  unfold byteV byteI
  rw [k.len]
  by_cases hi : i < (n : Int)
  · rw [if_pos hi, if_pos hi]
    obtain ⟨j, rfl⟩ := Int.eq_ofNat_of_zero_le k.i0
    exact sByte_yes g n c A zs j h w k (by omega)
  · rw [if_neg hi, if_neg hi]; exact sByte_no g n c A zs i h w k hi
/-- A number below n drawn, and where the cursor stands behind it. -/
def belV (zs : List Int) (i h n : Int) : Int :=
  if n ≤ 0 then 0 else if n ≤ 256 then byteV zs i h % n
  else (byteV zs i h * 16777216 + byteV zs (byteI zs i) (hNext h) * 65536 + byteV zs (byteI zs (byteI zs i)) (hNext (hNext h)) * 256 + byteV zs (byteI zs (byteI zs (byteI zs i))) (hNext (hNext (hNext h)))) % n
def belI (zs : List Int) (i n : Int) : Int := if n ≤ 0 then i else if n ≤ 256 then byteI zs i else byteI zs (byteI zs (byteI zs (byteI zs i)))
def belH (h n : Int) : Int := if n ≤ 0 then h else if n ≤ 256 then hNext h else hNext (hNext (hNext (hNext h)))
theorem belV_bd (zs : List Int) (i h n : Int) (hn : 0 < n) : 0 ≤ belV zs i h n ∧ belV zs i h n < n := by
  unfold belV
  rw [if_neg (by omega)]
  split
  · exact ⟨Int.emod_nonneg _ (by omega), Int.emod_lt_of_pos _ hn⟩
  · exact ⟨Int.emod_nonneg _ (by omega), Int.emod_lt_of_pos _ hn⟩
theorem belV_zero (zs : List Int) (i h n : Int) (hn : n ≤ 0) : belV zs i h n = 0 := by unfold belV; rw [if_pos hn]
set_option maxRecDepth 100000 in
theorem sBelow (g n c : Nat) (A : Option Addr) (zs : List Int) (i h : Int) (m : Int) (w : World) (k : Cur w g A n c zs i h) :
    Calls Tryd.prog 32 #[.pointer (some ⟨g, 0, none⟩), .int .i64 m] w fun e w' => e = .returned (.int .i64 (belV zs i h m)) ∧ Cur w' g A n c zs (belI zs i m) (belH h m) ∧ Only g (g + 1) w w' := by
  by_cases h1 : m ≤ 0
  · have e1 := Lib.hid (belV_zero zs i h m h1)
    have e2 : Hid (belI zs i m = i) := by show belI zs i m = i; unfold belI; rw [if_pos h1]
    have e3 : Hid (belH h m = h) := by show belH h m = h; unfold belH; rw [if_pos h1]
    have HK := Lib.hid k
    clear k
    go_enter Tryd.func32, Tryd.ntmps32
    go_wp2
    go_ret
    exact ⟨ret_int (by rw [e1.out]), by rw [e2.out, e3.out]; exact HK.out, Only.refl _ _ _⟩
  · by_cases h2 : m ≤ 256
    · have e1 : Hid (belV zs i h m = byteV zs i h % m) := by show belV zs i h m = _; unfold belV; rw [if_neg h1, if_pos h2]
      have e2 : Hid (belI zs i m = byteI zs i) := by show belI zs i m = _; unfold belI; rw [if_neg h1, if_pos h2]
      have e3 : Hid (belH h m = hNext h) := by show belH h m = _; unfold belH; rw [if_neg h1, if_pos h2]
      have hb := byteV_bd zs i h
      go_enter Tryd.func32, Tryd.ntmps32
      go_wp2_with fail
      refine (sByte _ _ _ _ _ _ _ _ k).mono ?_
      rintro e w1 ⟨rfl, k1, o1⟩
      have HK := Lib.hid k1
      clear k k1
      go_wp2
      go_ret
      exact ⟨ret_int (by rw [e1.out]), by rw [e2.out, e3.out]; exact HK.out, o1⟩
    · have hb1 := byteV_bd zs i h
      have hb2 := byteV_bd zs (byteI zs i) (hNext h)
      have hb3 := byteV_bd zs (byteI zs (byteI zs i)) (hNext (hNext h))
      have hb4 := byteV_bd zs (byteI zs (byteI zs (byteI zs i))) (hNext (hNext (hNext h)))
      have e1 : Hid (belV zs i h m = (byteV zs i h * 16777216 + byteV zs (byteI zs i) (hNext h) * 65536 + byteV zs (byteI zs (byteI zs i)) (hNext (hNext h)) * 256 + byteV zs (byteI zs (byteI zs (byteI zs i))) (hNext (hNext (hNext h)))) % m) := by show belV zs i h m = _; unfold belV; rw [if_neg h1, if_neg h2]
      have e2 : Hid (belI zs i m = byteI zs (byteI zs (byteI zs (byteI zs i)))) := by show belI zs i m = _; unfold belI; rw [if_neg h1, if_neg h2]
      have e3 : Hid (belH h m = hNext (hNext (hNext (hNext h)))) := by show belH h m = _; unfold belH; rw [if_neg h1, if_neg h2]
      go_enter Tryd.func32, Tryd.ntmps32
      go_wp2_with fail
      refine (sByte _ _ _ _ _ _ _ _ k).mono ?_
      rintro e w1 ⟨rfl, k1, o1⟩
      clear k
      go_wp2_with fail
      refine (sByte _ _ _ _ _ _ _ _ k1).mono ?_
      rintro e w2 ⟨rfl, k2, o2⟩
      clear k1
      go_wp2_with fail
      refine (sByte _ _ _ _ _ _ _ _ k2).mono ?_
      rintro e w3 ⟨rfl, k3, o3⟩
      clear k2
      go_wp2_with fail
      refine (sByte _ _ _ _ _ _ _ _ k3).mono ?_
      rintro e w4 ⟨rfl, k4, o4⟩
      have HK := Lib.hid k4
      have HO := Lib.hid (((o1.trans o2).trans o3).trans o4)
      clear k3 k4 o1 o2 o3 o4
      go_wp2
      go_ret
      exact ⟨ret_int (by rw [e1.out]), by rw [e2.out, e3.out]; exact HK.out, HO.out⟩
end Go.Proofs.YtcoecgcjpeijmaaDoor
