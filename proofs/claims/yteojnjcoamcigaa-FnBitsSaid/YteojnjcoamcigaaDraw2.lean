/-
  DRAWS OF A NUMBER OUT OF A LIST, of a yes or no; what a draw leaves alone. No condition.
-/
import Derived.Test.YteojnjcoamcigaaDraw
import Derived.Test.YteojnjcoamcigaaGrow
namespace Go.Proofs.Yteojnjcoamcigaa
open Go.ChangeShapes Go.WideShapes Go.ChangeAt Go.RowKit
set_option linter.unusedVariables false
theorem Only.grown {w wr w' : World} {lo hi : Nat} {row : Option Nat} (h : Only lo hi w wr) (hg : wr.grownBy w' row) (hr : ∀ k, row = some k → w.heap.size ≤ k) : Only lo hi w w' :=
  ⟨hg.os.trans h.os, hg.tape.trans h.tape, hg.output.trans h.output, Nat.le_trans h.size hg.size, fun k hk hne => (hg.block k (Nat.lt_of_lt_of_le hk h.size) (fun e => by have := hr k e.symm; omega)).trans (h.block k hk hne)⟩
theorem Only.alloc {w wr : World} {lo hi : Nat} (h : Only lo hi w wr) (o : Obj) : Only lo hi w (wr.alloc o) :=
  ⟨h.os, h.tape, h.output, by have := h.size; simp; omega, fun k hk hne => (Below.heap_alloc wr o k (Nat.lt_of_lt_of_le hk h.size)).trans (h.block k hk hne)⟩
theorem Only.below {w wr w' : World} {lo hi : Nat} (h : Only lo hi w wr) (hb : Below wr.heap.size wr w') : Only lo hi w w' :=
  ⟨hb.os.trans h.os, hb.tape.trans h.tape, hb.output.trans h.output, Nat.le_trans h.size hb.size, fun k hk hne => (hb.block k (Nat.lt_of_lt_of_le hk h.size)).trans (h.block k hk hne)⟩
theorem owns_only {w w' : World} {B g : Nat} {e : TypeId} {size : Nat} {v : Value} {n : Nat} {xs : List Value} (h : w.ownsRow B e size v n xs) (ho : Only g (g + 1) w w') (hg : g < B) : w'.ownsRow B e size v n xs := by
  refine ⟨h.1, ?_⟩
  rcases h.2 with hn | ⟨b, cap, cur, hv, hb, hh, rest⟩
  · exact .inl hn
  · refine .inr ⟨b, cap, cur, hv, hb, ?_, rest⟩
    rw [ho.block b (Array.getElem?_eq_some_iff.1 hh).1 (by omega)]
    exact hh
/-- A cursor, whatever its state. -/
def CX (w : World) (g : Nat) : Prop := ∃ (A : Option Addr) (n c : Nat) (zs : List Int) (i h : Int), Cur w g A n c zs i h
theorem CX.lt {w : World} {g : Nat} (k : CX w g) : g < w.heap.size := by obtain ⟨A, n, c, zs, i, h, k⟩ := k; exact k.lt
theorem CX.below {w w' : World} {g : Nat} (k : CX w g) (hb : Below w.heap.size w w') : CX w' g := by obtain ⟨A, n, c, zs, i, h, k⟩ := k; exact ⟨A, n, c, zs, i, h, k.below hb⟩
theorem CX.grown {w w' : World} {g : Nat} {row : Option Nat} (k : CX w g) (hb : w.grownBy w' row) (hr : ∀ r, row = some r → g < r) : CX w' g := by obtain ⟨A, n, c, zs, i, h, k⟩ := k; exact ⟨A, n, c, zs, i, h, k.grown hb hr⟩
theorem CX.alloc {w : World} {g : Nat} (k : CX w g) (o : Obj) : CX (w.alloc o) g := k.below ((Below.refl _ _).alloc (Nat.le_refl _) _)
/-- What one draw may turn: the cursor's block. -/
theorem sOnce (g n c : Nat) (A : Option Addr) (zs : List Int) (i h : Int) (m : Int) (w : World) (k : Cur w g A n c zs i h) :
    Calls Try.prog 60 #[.pointer (some ⟨g, 0, none⟩), .int .i64 m] w fun e w' => e = .returned (.bool (belV zs i h m == 0)) ∧ Cur w' g A n c zs (belI zs i m) (belH h m) ∧ Only g (g + 1) w w' := by
  go_enter Try.func60, Try.ntmps60
  go_wp2_with fail
  refine (sBelow _ _ _ _ _ _ _ _ _ k).mono ?_
  rintro e w1 ⟨rfl, k1, o1⟩
  have HK := Lib.hid k1
  clear k k1
  go_wp2
  go_ret
  exact ⟨rfl, HK.out, o1⟩
theorem xOnce (g : Nat) (m : Int) (w : World) (k : CX w g) :
    Calls Try.prog 60 #[.pointer (some ⟨g, 0, none⟩), .int .i64 m] w fun e w' => ∃ b, e = .returned (.bool b) ∧ CX w' g ∧ Only g (g + 1) w w' := by
  obtain ⟨A, n, c, zs, i, h, k⟩ := k
  exact (sOnce g n c A zs i h m w k).mono fun e w' ⟨he, k', o⟩ => ⟨_, he, ⟨_, _, _, _, _, _, k'⟩, o⟩
theorem xBelow (g : Nat) (m : Int) (hm : 0 < m) (w : World) (k : CX w g) :
    Calls Try.prog 59 #[.pointer (some ⟨g, 0, none⟩), .int .i64 m] w fun e w' => ∃ x, (0 ≤ x ∧ x < m) ∧ e = .returned (.int .i64 x) ∧ CX w' g ∧ Only g (g + 1) w w' := by
  obtain ⟨A, n, c, zs, i, h, k⟩ := k
  exact (sBelow g n c A zs i h m w k).mono fun e w' ⟨he, k', o⟩ => ⟨_, belV_bd zs i h m hm, he, ⟨_, _, _, _, _, _, k'⟩, o⟩
theorem xBelow0 (g : Nat) (m : Int) (w : World) (k : CX w g) :
    Calls Try.prog 59 #[.pointer (some ⟨g, 0, none⟩), .int .i64 m] w fun e w' => ∃ x, (0 ≤ x ∧ (x < m ∨ x = 0)) ∧ e = .returned (.int .i64 x) ∧ CX w' g ∧ Only g (g + 1) w w' := by
  obtain ⟨A, n, c, zs, i, h, k⟩ := k
  refine (sBelow g n c A zs i h m w k).mono fun e w' ⟨he, k', o⟩ => ⟨_, ?_, he, ⟨_, _, _, _, _, _, k'⟩, o⟩
  by_cases hm : 0 < m
  · have := belV_bd zs i h m hm; omega
  · have := belV_zero zs i h m (by omega); omega
theorem xByte (g : Nat) (w : World) (k : CX w g) :
    Calls Try.prog 64 #[.pointer (some ⟨g, 0, none⟩)] w fun e w' => ∃ x, (0 ≤ x ∧ x ≤ 255) ∧ e = .returned (.int .i64 x) ∧ CX w' g ∧ Only g (g + 1) w w' := by
  obtain ⟨A, n, c, zs, i, h, k⟩ := k
  exact (sByte g n c A zs i h w k).mono fun e w' ⟨he, k', o⟩ => ⟨_, byteV_bd zs i h, he, ⟨_, _, _, _, _, _, k'⟩, o⟩
set_option maxRecDepth 100000 in
theorem sPickInt (g n c : Nat) (A : Option Addr) (zs : List Int) (i h : Int) (B : Option Addr) (m cc lo hi : Nat) (ws : List Int) (w : World) (k : Cur w g A n c zs i h) (ob : OB w lo hi B m cc ws) (hg : g < lo) (hm : 0 < m) :
    Calls Try.prog 61 #[.pointer (some ⟨g, 0, none⟩), .slice B m cc] w fun e w' => e = .returned (.int .i64 (ws.getD (belV zs i h m).toNat 0)) ∧ Cur w' g A n c zs (belI zs i m) (belH h m) ∧ Only g (g + 1) w w' := by
  have hb := belV_bd zs i h m (by omega)
  go_enter Try.func61, Try.ntmps61
  go_wp2_with fail
  refine (sBelow _ _ _ _ _ _ _ _ _ k).mono ?_
  rintro e w1 ⟨rfl, k1, o1⟩
  have HK := Lib.hid k1
  have ob1 := (ob.only o1 (Or.inr (by omega))).read
  clear k k1
  obtain ⟨x, hx⟩ : ∃ x : Nat, belV zs i h m = (x : Int) := Int.eq_ofNat_of_zero_le hb.1
  have HX : Hid (belV zs i h m = (x : Int)) := hx
  rw [hx] at hb ⊢
  clear hx
  have hx0 : (x : Int) < (m : Int) := hb.2
  obtain ⟨b, off, rfl, hbl, hc⟩ := ob1.at_ (show x < m by omega)
  have hc1 := hc x (by omega)
  obtain ⟨y, hy⟩ : ∃ y, y = ws.getD x 0 := ⟨_, rfl⟩
  rw [← hy] at hc1
  have HY : Hid (ws.getD x 0 = y) := hy.symm
  have HO := Lib.hid ob1
  have HO2 := Lib.hid ob
  clear hy hc ob1 ob hb
  go_wp2
  go_ret
  exact ⟨ret_int (by rw [HX.out, Int.toNat_natCast, HY.out]), HK.out, o1⟩
theorem xPickInt (g : Nat) (B : Option Addr) (m cc lo hi : Nat) (ws : List Int) (w : World) (k : CX w g) (ob : OB w lo hi B m cc ws) (hg : g < lo) (hm : 0 < m) :
    Calls Try.prog 61 #[.pointer (some ⟨g, 0, none⟩), .slice B m cc] w fun e w' => ∃ x, x ∈ ws ∧ e = .returned (.int .i64 x) ∧ CX w' g ∧ Only g (g + 1) w w' := by
  obtain ⟨A, n, c, zs, i, h, k⟩ := k
  refine (sPickInt g n c A zs i h B m cc lo hi ws w k ob hg hm).mono fun e w' ⟨he, k', o⟩ => ⟨_, ?_, he, ⟨_, _, _, _, _, _, k'⟩, o⟩
  have hb := belV_bd zs i h m (by omega)
  have hl := ob.len
  rw [List.getD_eq_getElem?_getD, List.getElem?_eq_getElem (by omega)]
  exact List.getElem_mem (by omega)
/-- A list that a literal lays. -/
theorem OB.lit (w : World) (ws : List Int) (n : Nat) (hn : ws.length = n) (hm : n ≤ maxLen) : OB (w.alloc (.cells (ws.map (Value.int .i64)).toArray 3)) w.heap.size (w.heap.size + 1) (some ⟨w.heap.size, 0, none⟩) n n ws :=
  ⟨World.ownsRow_lit w _ n (Nat.le_refl _) hm (by simpa using hn), fun k hk => by simp [Value.ownBlock] at hk; omega⟩
def lenV : Value → Nat
  | .slice _ n _ => n
  | _ => 0
end Go.Proofs.Yteojnjcoamcigaa
