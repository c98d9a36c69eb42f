/-
  DRAWS OF A NUMBER OUT OF A LIST, of a yes or no; what a draw leaves alone. No condition.
-/
import Derived.Test.YtcjodaoeoifbcaaDraw
import Derived.Test.YtcjodaoeoifbcaaGrow
namespace Go.Proofs.Ytcjodaoeoifbcaa
open Go.ChangeShapes Go.WideShapes Go.ChangeAt Go.RowKit
set_option linter.unusedVariables false
theorem Only.grown {w wr w' : World} {lo hi : Nat} {row : Option Nat} (h : Only lo hi w wr) (hg : wr.grownBy w' row) (hr : ∀ k, row = some k → w.heap.size ≤ k) : Only lo hi w w' :=
  ⟨hg.os.trans h.os, hg.tape.trans h.tape, hg.output.trans h.output, Nat.le_trans h.size hg.size, fun k hk hne => (hg.block k (Nat.lt_of_lt_of_le hk h.size) (fun e => by have := hr k e.symm; omega)).trans (h.block k hk hne)⟩
theorem Only.alloc {w wr : World} {lo hi : Nat} (h : Only lo hi w wr) (o : Obj) : Only lo hi w (wr.alloc o) :=
  ⟨h.os, h.tape, h.output, by have := h.size; simp; omega, fun k hk hne => (Below.heap_alloc wr o k (Nat.lt_of_lt_of_le hk h.size)).trans (h.block k hk hne)⟩
theorem Only.below {w wr w' : World} {lo hi : Nat} (h : Only lo hi w wr) (hb : Below wr.heap.size wr w') : Only lo hi w w' :=
  ⟨hb.os.trans h.os, hb.tape.trans h.tape, hb.output.trans h.output, Nat.le_trans h.size hb.size, fun k hk hne => (hb.block k (Nat.lt_of_lt_of_le hk h.size)).trans (h.block k hk hne)⟩
theorem owns_only {w w' : World} {B g : Nat} {e : TypeId} {size : Nat} {v : Value} {n : Nat} {xs : List Value} (h : w.ownsRow B e size v n xs) (ho : Only g (g + 1) w w') (hg : g < B) : w'.ownsRow B e size v n xs := by
  refine ⟨h.1, ?_⟩
  rcases h.2 with hn | ⟨b, cap, cur, hv, hb, hh, rest⟩
  · exact .inl hn
  · refine .inr ⟨b, cap, cur, hv, hb, ?_, rest⟩
    rw [ho.block b (Array.getElem?_eq_some_iff.1 hh).1 (by omega)]
    exact hh
/-- A cursor, whatever its state. -/
def CX (w : World) (g : Nat) : Prop := ∃ (A : Option Addr) (n c : Nat) (zs : List Int) (i h : Int), Cur w g A n c zs i h
theorem CX.lt {w : World} {g : Nat} (k : CX w g) : g < w.heap.size := by obtain ⟨A, n, c, zs, i, h, k⟩ := k; exact k.lt
theorem CX.below {w w' : World} {g : Nat} (k : CX w g) (hb : Below w.heap.size w w') : CX w' g := by obtain ⟨A, n, c, zs, i, h, k⟩ := k; exact ⟨A, n, c, zs, i, h, k.below hb⟩
theorem CX.grown {w w' : World} {g : Nat} {row : Option Nat} (k : CX w g) (hb : w.grownBy w' row) (hr : ∀ r, row = some r → g < r) : CX w' g := by obtain ⟨A, n, c, zs, i, h, k⟩ := k; exact ⟨A, n, c, zs, i, h, k.grown hb hr⟩
theorem CX.alloc {w : World} {g : Nat} (k : CX w g) (o : Obj) : CX (w.alloc o) g := k.below ((Below.refl _ _).alloc (Nat.le_refl _) _)
/-- What one draw may turn: the cursor's block. -/
theorem sOnce (g n c : Nat) (A : Option Addr) (zs : List Int) (i h : Int) (m : Int) (w : World) (k : Cur w g A n c zs i h) :
    Calls Try.prog 72 #[.pointer (some ⟨g, 0, none⟩), .int .i64 m] w fun e w' => e = .returned (.bool (belV zs i h m == 0)) ∧ Cur w' g A n c zs (belI zs i m) (belH h m) ∧ Only g (g + 1) w w' := by
  go_enter Try.func72, Try.ntmps72
  go_wp2_with fail
  refine (sBelow _ _ _ _ _ _ _ _ _ k).mono ?_
  rintro e w1 ⟨rfl, k1, o1⟩
  have HK := Lib.hid k1
  clear k k1
  go_wp2
  go_ret
  exact ⟨rfl, HK.out, o1⟩
theorem xOnce (g : Nat) (m : Int) (w : World) (k : CX w g) :
    Calls Try.prog 72 #[.pointer (some ⟨g, 0, none⟩), .int .i64 m] w fun e w' => ∃ b, e = .returned (.bool b) ∧ CX w' g ∧ Only g (g + 1) w w' := by
  obtain ⟨A, n, c, zs, i, h, k⟩ := k
  exact (sOnce g n c A zs i h m w k).mono fun e w' ⟨he, k', o⟩ => ⟨_, he, ⟨_, _, _, _, _, _, k'⟩, o⟩
theorem xBelow (g : Nat) (m : Int) (hm : 0 < m) (w : World) (k : CX w g) :
    Calls Try.prog 73 #[.pointer (some ⟨g, 0, none⟩), .int .i64 m] w fun e w' => ∃ x, (0 ≤ x ∧ x < m) ∧ e = .returned (.int .i64 x) ∧ CX w' g ∧ Only g (g + 1) w w' := by
  obtain ⟨A, n, c, zs, i, h, k⟩ := k
  exact (sBelow g n c A zs i h m w k).mono fun e w' ⟨he, k', o⟩ => ⟨_, belV_bd zs i h m hm, he, ⟨_, _, _, _, _, _, k'⟩, o⟩
theorem xBelow0 (g : Nat) (m : Int) (w : World) (k : CX w g) :
    Calls Try.prog 73 #[.pointer (some ⟨g, 0, none⟩), .int .i64 m] w fun e w' => ∃ x, (0 ≤ x ∧ (x < m ∨ x = 0)) ∧ e = .returned (.int .i64 x) ∧ CX w' g ∧ Only g (g + 1) w w' := by
  obtain ⟨A, n, c, zs, i, h, k⟩ := k
  refine (sBelow g n c A zs i h m w k).mono fun e w' ⟨he, k', o⟩ => ⟨_, ?_, he, ⟨_, _, _, _, _, _, k'⟩, o⟩
  by_cases hm : 0 < m
  · have := belV_bd zs i h m hm; omega
  · have := belV_zero zs i h m (by omega); omega
theorem xByte (g : Nat) (w : World) (k : CX w g) :
    Calls Try.prog 75 #[.pointer (some ⟨g, 0, none⟩)] w fun e w' => ∃ x, (0 ≤ x ∧ x ≤ 255) ∧ e = .returned (.int .i64 x) ∧ CX w' g ∧ Only g (g + 1) w w' := by
  obtain ⟨A, n, c, zs, i, h, k⟩ := k
  exact (sByte g n c A zs i h w k).mono fun e w' ⟨he, k', o⟩ => ⟨_, byteV_bd zs i h, he, ⟨_, _, _, _, _, _, k'⟩, o⟩
set_option maxRecDepth 100000 in
theorem sPickInt (g n c : Nat) (A : Option Addr) (zs : List Int) (i h : Int) (B : Option Addr) (m cc lo hi : Nat) (ws : List Int) (w : World) (k : Cur w g A n c zs i h) (ob : OB w lo hi B m cc ws) (hg : g < lo) (hm : 0 < m) :
    Calls Try.prog 68 #[.pointer (some ⟨g, 0, none⟩), .slice B m cc] w fun e w' => e = .returned (.int .i64 (ws.getD (belV zs i h m).toNat 0)) ∧ Cur w' g A n c zs (belI zs i m) (belH h m) ∧ Only g (g + 1) w w' := by
  have hb := belV_bd zs i h m (by omega)
  go_enter Try.func68, Try.ntmps68
  go_wp2_with fail
  refine (sBelow _ _ _ _ _ _ _ _ _ k).mono ?_
  rintro e w1 ⟨rfl, k1, o1⟩
  have HK := Lib.hid k1
  have ob1 := (ob.only o1 (Or.inr (by omega))).read
  clear k k1
  obtain ⟨x, hx⟩ : ∃ x : Nat, belV zs i h m = (x : Int) := Int.eq_ofNat_of_zero_le hb.1
  have HX : Hid (belV zs i h m = (x : Int)) := hx
  rw [hx] at hb ⊢
  clear hx
  have hx0 : (x : Int) < (m : Int) := hb.2
  obtain ⟨b, off, rfl, hbl, hc⟩ := ob1.at_ (show x < m by omega)
  have hc1 := hc x (by omega)
  obtain ⟨y, hy⟩ : ∃ y, y = ws.getD x 0 := ⟨_, rfl⟩
  rw [← hy] at hc1
  have HY : Hid (ws.getD x 0 = y) := hy.symm
  have HO := Lib.hid ob1
  have HO2 := Lib.hid ob
  clear hy hc ob1 ob hb
  go_wp2
  go_ret
  exact ⟨ret_int (by rw [HX.out, Int.toNat_natCast, HY.out]), HK.out, o1⟩
theorem xPickInt (g : Nat) (B : Option Addr) (m cc lo hi : Nat) (ws : List Int) (w : World) (k : CX w g) (ob : OB w lo hi B m cc ws) (hg : g < lo) (hm : 0 < m) :
    Calls Try.prog 68 #[.pointer (some ⟨g, 0, none⟩), .slice B m cc] w fun e w' => ∃ x, x ∈ ws ∧ e = .returned (.int .i64 x) ∧ CX w' g ∧ Only g (g + 1) w w' := by
  obtain ⟨A, n, c, zs, i, h, k⟩ := k
  refine (sPickInt g n c A zs i h B m cc lo hi ws w k ob hg hm).mono fun e w' ⟨he, k', o⟩ => ⟨_, ?_, he, ⟨_, _, _, _, _, _, k'⟩, o⟩
  have hb := belV_bd zs i h m (by omega)
  have hl := ob.len
  rw [List.getD_eq_getElem?_getD, List.getElem?_eq_getElem (by omega)]
  exact List.getElem_mem (by omega)
/-- A list that a literal lays. -/
theorem OB.lit (w : World) (ws : List Int) (n : Nat) (hn : ws.length = n) (hm : n ≤ maxLen) : OB (w.alloc (.cells (ws.map (Value.int .i64)).toArray 3)) w.heap.size (w.heap.size + 1) (some ⟨w.heap.size, 0, none⟩) n n ws :=
  ⟨World.ownsRow_lit w _ n (Nat.le_refl _) hm (by simpa using hn), fun k hk => by simp [Value.ownBlock] at hk; omega⟩
def lenV : Value → Nat
  | .slice _ n _ => n
  | _ => 0
/-- How long a drawn square may be. -/
def SqLen (n : Nat) : Prop := n = 16 ∨ n = 64 ∨ n = 0 ∨ n = 15 ∨ n = 63
def SqBd (most : Int) (zs : List Int) : Prop := ∀ x ∈ zs, -most ≤ x ∧ x ≤ most
theorem SqBd.snoc {most : Int} {zs : List Int} {x : Int} (h : SqBd most zs) (hx : -most ≤ x ∧ x ≤ most) : SqBd most (zs ++ [x]) := by
  intro y hy
  rcases List.mem_append.1 hy with hy | hy
  · exact h y hy
  · simp at hy; subst hy; exact hx
set_option maxRecDepth 100000 in
set_option maxHeartbeats 2000000 in
theorem xSquare (g : Nat) (most : Int) (hmo : 0 ≤ most ∧ most ≤ 1000000) (w : World) (k : CX w g) :
    Calls Try.prog 70 #[.pointer (some ⟨g, 0, none⟩), .int .i64 most] w fun e w' => ∃ A' n' c' zs, e = .returned (.slice A' n' c') ∧ OB w' w.heap.size w'.heap.size A' n' c' zs ∧ SqLen n' ∧ SqBd most zs ∧ CX w' g ∧ Only g (g + 1) w w' := by
  have hgw := k.lt
  have H3 := Lib.hid (fun W hW => xOnce g 3 W hW)
  have H14 := Lib.hid (fun W hW => xOnce g 14 W hW)
  have H2 := Lib.hid (fun W hW => xOnce g 2 W hW)
  have HB := Lib.hid (fun W hW => xBelow g (2 * most + 1) (by omega) W hW)
  go_enter Try.func70, Try.ntmps70
  go_wp2_with fail
  refine (H3.out _ k).mono ?_
  rintro e w1 ⟨b, rfl, k1, o1⟩
  clear k
  cases b
  · go_wp2_with fail
    refine (H14.out _ k1).mono ?_
    rintro e w2 ⟨b, rfl, k2, o2⟩
    have o12 := o1.trans o2
    clear k1 o1 o2
    cases b
    · go_wp2
      go_loopw [6] (fun v wr => ∃ (m : Nat) (L : List Int), m ≤ 16 ∧ (∃ a c, v = .slice a m c) ∧ wr.ownsRow w.heap.size 3 1 v m (L.map (Value.int .i64)) ∧ SqBd most L ∧ CX wr g ∧ Only g (g + 1) w wr) (fun v _ => 16 - lenV v)
      case atStart => exact ⟨0, [], Nat.zero_le _, ⟨_, _, rfl⟩, World.ownsRow_made _ #[] 0 o12.size (by decide) rfl, fun x hx => by simp at hx, k2.alloc _, o12.alloc _⟩
      case round =>
        clear k2 o12
        obtain ⟨m, L, hm, ⟨a, c, rfl⟩, hown, hbd, kx, ox⟩ := hrel
        by_cases hlt : m < 16
        · have hlti : (m : Int) < 16 := by omega
          have hl2 : Small m := small_of (by omega)
          go_wp2_with fail
          refine (H2.out _ kx).mono ?_
          rintro e w3 ⟨b, rfl, k3, o3⟩
          have hown3 := owns_only hown o3 hgw
          have ox3 := ox.trans o3
          have hB3 := ox3.size
          clear hown kx ox o3
          cases b
          · go_wp2_with (first
              | (at_builtin; refine wpList_app_g rfl (.tmp 29) (.tmp 31) rfl _ m L rfl hown3 hB3 rfl hl2 ?_; intro gg cap w4 hown4 hg4 hp4))
            go_roundw
            case rel => exact ⟨m + 1, L ++ [0], by omega, ⟨_, _, rfl⟩, hown4, hbd.snoc (by omega), k3.grown hg4 (fun r hr => Nat.lt_of_lt_of_le hgw (hown3.lt r hr).1), ox3.grown hg4 (fun r hr => (hown3.lt r hr).1)⟩
            case measure => simp [lenV]; omega
          · go_wp2_with fail
            refine (HB.out _ k3).mono ?_
            rintro e w4 ⟨x, hx, rfl, k4, o4⟩
            have hown4 := owns_only hown3 o4 hgw
            have ox4 := ox3.trans o4
            have hB4 := ox4.size
            clear hown3 k3 ox3 o4
            go_wp2_with (first
              | (at_builtin; refine wpList_app_g rfl (.tmp 29) (.tmp 31) rfl _ m L rfl hown4 hB4 rfl hl2 ?_; intro gg cap w5 hown5 hg5 hp5))
            go_roundw
            case rel => exact ⟨m + 1, L ++ [x - most], by omega, ⟨_, _, rfl⟩, hown5, hbd.snoc (by omega), k4.grown hg5 (fun r hr => Nat.lt_of_lt_of_le hgw (hown4.lt r hr).1), ox4.grown hg5 (fun r hr => (hown4.lt r hr).1)⟩
            case measure => simp [lenV]; omega
        · obtain rfl : m = 16 := by omega
          go_wp2
          go_ret
          exact ⟨_, _, _, L, rfl, OB.new hown, (by unfold SqLen; omega), hbd, kx, ox⟩
    · go_wp2_with fail
      refine (xPickInt g _ _ _ _ _ [0, 15, 63] _ (k2.alloc _) (OB.lit w2 [0, 15, 63] 3 rfl (by unfold maxLen; omega)) k2.lt (by omega)).mono ?_
      rintro e w6 ⟨x, hx, rfl, k6, o6⟩
      have o16 := (o12.alloc (.cells #[.int .i64 0, .int .i64 15, .int .i64 63] 3)).trans o6
      have hx2 : x = 0 ∨ x = 15 ∨ x = 63 := by simpa using hx
      obtain ⟨N, rfl⟩ := Int.eq_ofNat_of_zero_le (show 0 ≤ x by omega)
      have hSQ : Hid (SqLen N) := by show SqLen N; unfold SqLen; omega
      have hN63 : N ≤ 63 := by omega
      clear hx hx2 k2 o12 o6
      go_wp2
      go_loopw [6] (fun v wr => ∃ (m : Nat) (L : List Int), m ≤ N ∧ (∃ a c, v = .slice a m c) ∧ wr.ownsRow w.heap.size 3 1 v m (L.map (Value.int .i64)) ∧ SqBd most L ∧ CX wr g ∧ Only g (g + 1) w wr) (fun v _ => N - lenV v)
      case atStart => exact ⟨0, [], Nat.zero_le _, ⟨_, _, rfl⟩, World.ownsRow_made _ #[] 0 o16.size (by decide) rfl, fun x hx => by simp at hx, k6.alloc _, o16.alloc _⟩
      case round =>
        clear k6 o16
        obtain ⟨m, L, hm, ⟨a, c, rfl⟩, hown, hbd, kx, ox⟩ := hrel
        by_cases hlt : m < N
        · have hlti : (m : Int) < (N : Int) := by omega
          have hl2 : Small m := small_of (by omega)
          go_wp2_with fail
          refine (H2.out _ kx).mono ?_
          rintro e w3 ⟨b, rfl, k3, o3⟩
          have hown3 := owns_only hown o3 hgw
          have ox3 := ox.trans o3
          have hB3 := ox3.size
          clear hown kx ox o3
          cases b
          · go_wp2_with (first
              | (at_builtin; refine wpList_app_g rfl (.tmp 29) (.tmp 31) rfl _ m L rfl hown3 hB3 rfl hl2 ?_; intro gg cap w4 hown4 hg4 hp4))
            go_roundw
            case rel => exact ⟨m + 1, L ++ [0], by omega, ⟨_, _, rfl⟩, hown4, hbd.snoc (by omega), k3.grown hg4 (fun r hr => Nat.lt_of_lt_of_le hgw (hown3.lt r hr).1), ox3.grown hg4 (fun r hr => (hown3.lt r hr).1)⟩
            case measure => simp [lenV]; omega
          · go_wp2_with fail
            refine (HB.out _ k3).mono ?_
            rintro e w4 ⟨x, hx, rfl, k4, o4⟩
            have hown4 := owns_only hown3 o4 hgw
            have ox4 := ox3.trans o4
            have hB4 := ox4.size
            clear hown3 k3 ox3 o4
            go_wp2_with (first
              | (at_builtin; refine wpList_app_g rfl (.tmp 29) (.tmp 31) rfl _ m L rfl hown4 hB4 rfl hl2 ?_; intro gg cap w5 hown5 hg5 hp5))
            go_roundw
            case rel => exact ⟨m + 1, L ++ [x - most], by omega, ⟨_, _, rfl⟩, hown5, hbd.snoc (by omega), k4.grown hg5 (fun r hr => Nat.lt_of_lt_of_le hgw (hown4.lt r hr).1), ox4.grown hg5 (fun r hr => (hown4.lt r hr).1)⟩
            case measure => simp [lenV]; omega
        · obtain rfl : m = N := by omega
          go_wp2
          go_ret
          exact ⟨_, _, _, L, rfl, OB.new hown, hSQ.out, hbd, kx, ox⟩
  · go_wp2_with fail
    refine (H14.out _ k1).mono ?_
    rintro e w2 ⟨b, rfl, k2, o2⟩
    have o12 := o1.trans o2
    clear k1 o1 o2
    cases b
    · go_wp2
      go_loopw [6] (fun v wr => ∃ (m : Nat) (L : List Int), m ≤ 64 ∧ (∃ a c, v = .slice a m c) ∧ wr.ownsRow w.heap.size 3 1 v m (L.map (Value.int .i64)) ∧ SqBd most L ∧ CX wr g ∧ Only g (g + 1) w wr) (fun v _ => 64 - lenV v)
      case atStart => exact ⟨0, [], Nat.zero_le _, ⟨_, _, rfl⟩, World.ownsRow_made _ #[] 0 o12.size (by decide) rfl, fun x hx => by simp at hx, k2.alloc _, o12.alloc _⟩
      case round =>
        clear k2 o12
        obtain ⟨m, L, hm, ⟨a, c, rfl⟩, hown, hbd, kx, ox⟩ := hrel
        by_cases hlt : m < 64
        · have hlti : (m : Int) < 64 := by omega
          have hl2 : Small m := small_of (by omega)
          go_wp2_with fail
          refine (H2.out _ kx).mono ?_
          rintro e w3 ⟨b, rfl, k3, o3⟩
          have hown3 := owns_only hown o3 hgw
          have ox3 := ox.trans o3
          have hB3 := ox3.size
          clear hown kx ox o3
          cases b
          · go_wp2_with (first
              | (at_builtin; refine wpList_app_g rfl (.tmp 29) (.tmp 31) rfl _ m L rfl hown3 hB3 rfl hl2 ?_; intro gg cap w4 hown4 hg4 hp4))
            go_roundw
            case rel => exact ⟨m + 1, L ++ [0], by omega, ⟨_, _, rfl⟩, hown4, hbd.snoc (by omega), k3.grown hg4 (fun r hr => Nat.lt_of_lt_of_le hgw (hown3.lt r hr).1), ox3.grown hg4 (fun r hr => (hown3.lt r hr).1)⟩
            case measure => simp [lenV]; omega
          · go_wp2_with fail
            refine (HB.out _ k3).mono ?_
            rintro e w4 ⟨x, hx, rfl, k4, o4⟩
            have hown4 := owns_only hown3 o4 hgw
            have ox4 := ox3.trans o4
            have hB4 := ox4.size
            clear hown3 k3 ox3 o4
            go_wp2_with (first
              | (at_builtin; refine wpList_app_g rfl (.tmp 29) (.tmp 31) rfl _ m L rfl hown4 hB4 rfl hl2 ?_; intro gg cap w5 hown5 hg5 hp5))
            go_roundw
            case rel => exact ⟨m + 1, L ++ [x - most], by omega, ⟨_, _, rfl⟩, hown5, hbd.snoc (by omega), k4.grown hg5 (fun r hr => Nat.lt_of_lt_of_le hgw (hown4.lt r hr).1), ox4.grown hg5 (fun r hr => (hown4.lt r hr).1)⟩
            case measure => simp [lenV]; omega
        · obtain rfl : m = 64 := by omega
          go_wp2
          go_ret
          exact ⟨_, _, _, L, rfl, OB.new hown, (by unfold SqLen; omega), hbd, kx, ox⟩
    · go_wp2_with fail
      refine (xPickInt g _ _ _ _ _ [0, 15, 63] _ (k2.alloc _) (OB.lit w2 [0, 15, 63] 3 rfl (by unfold maxLen; omega)) k2.lt (by omega)).mono ?_
      rintro e w6 ⟨x, hx, rfl, k6, o6⟩
      have o16 := (o12.alloc (.cells #[.int .i64 0, .int .i64 15, .int .i64 63] 3)).trans o6
      have hx2 : x = 0 ∨ x = 15 ∨ x = 63 := by simpa using hx
      obtain ⟨N, rfl⟩ := Int.eq_ofNat_of_zero_le (show 0 ≤ x by omega)
      have hSQ : Hid (SqLen N) := by show SqLen N; unfold SqLen; omega
      have hN63 : N ≤ 63 := by omega
      clear hx hx2 k2 o12 o6
      go_wp2
      go_loopw [6] (fun v wr => ∃ (m : Nat) (L : List Int), m ≤ N ∧ (∃ a c, v = .slice a m c) ∧ wr.ownsRow w.heap.size 3 1 v m (L.map (Value.int .i64)) ∧ SqBd most L ∧ CX wr g ∧ Only g (g + 1) w wr) (fun v _ => N - lenV v)
      case atStart => exact ⟨0, [], Nat.zero_le _, ⟨_, _, rfl⟩, World.ownsRow_made _ #[] 0 o16.size (by decide) rfl, fun x hx => by simp at hx, k6.alloc _, o16.alloc _⟩
      case round =>
        clear k6 o16
        obtain ⟨m, L, hm, ⟨a, c, rfl⟩, hown, hbd, kx, ox⟩ := hrel
        by_cases hlt : m < N
        · have hlti : (m : Int) < (N : Int) := by omega
          have hl2 : Small m := small_of (by omega)
          go_wp2_with fail
          refine (H2.out _ kx).mono ?_
          rintro e w3 ⟨b, rfl, k3, o3⟩
          have hown3 := owns_only hown o3 hgw
          have ox3 := ox.trans o3
          have hB3 := ox3.size
          clear hown kx ox o3
          cases b
          · go_wp2_with (first
              | (at_builtin; refine wpList_app_g rfl (.tmp 29) (.tmp 31) rfl _ m L rfl hown3 hB3 rfl hl2 ?_; intro gg cap w4 hown4 hg4 hp4))
            go_roundw
            case rel => exact ⟨m + 1, L ++ [0], by omega, ⟨_, _, rfl⟩, hown4, hbd.snoc (by omega), k3.grown hg4 (fun r hr => Nat.lt_of_lt_of_le hgw (hown3.lt r hr).1), ox3.grown hg4 (fun r hr => (hown3.lt r hr).1)⟩
            case measure => simp [lenV]; omega
          · go_wp2_with fail
            refine (HB.out _ k3).mono ?_
            rintro e w4 ⟨x, hx, rfl, k4, o4⟩
            have hown4 := owns_only hown3 o4 hgw
            have ox4 := ox3.trans o4
            have hB4 := ox4.size
            clear hown3 k3 ox3 o4
            go_wp2_with (first
              | (at_builtin; refine wpList_app_g rfl (.tmp 29) (.tmp 31) rfl _ m L rfl hown4 hB4 rfl hl2 ?_; intro gg cap w5 hown5 hg5 hp5))
            go_roundw
            case rel => exact ⟨m + 1, L ++ [x - most], by omega, ⟨_, _, rfl⟩, hown5, hbd.snoc (by omega), k4.grown hg5 (fun r hr => Nat.lt_of_lt_of_le hgw (hown4.lt r hr).1), ox4.grown hg5 (fun r hr => (hown4.lt r hr).1)⟩
            case measure => simp [lenV]; omega
        · obtain rfl : m = N := by omega
          go_wp2
          go_ret
          exact ⟨_, _, _, L, rfl, OB.new hown, hSQ.out, hbd, kx, ox⟩
end Go.Proofs.Ytcjodaoeoifbcaa
