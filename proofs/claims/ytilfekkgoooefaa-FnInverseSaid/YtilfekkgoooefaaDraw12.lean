/-
  The draws of the transforms' laws. No condition.
-/
import Derived.Test.YtilfekkgoooefaaDrawScan
namespace Go.Proofs.Ytilfekkgoooefaa
open Go.ChangeShapes Go.WideShapes Go.ChangeAt Go.RowKit
set_option linter.unusedVariables false
theorem map_set_12 (l : List Int) (m : Nat) (x : Int) : (l.map (Value.int .i64)).set m (.int .i64 x) = (l.set m x).map (Value.int .i64) := by rw [← List.map_set]
theorem owns_cap {w : World} {B : Nat} {e : TypeId} {g n c : Nat} {xs : List Value} (h : w.ownsRow B e 1 (.slice (some ⟨g, 0, none⟩) n c) n xs) : n ≤ c ∧ c ≤ maxLen := by
  rcases h.2 with ⟨hv, _⟩ | ⟨g', cap, cur, hv, _, _, h1, h2, _⟩
  · simp at hv
  · simp only [Value.slice.injEq] at hv
    obtain ⟨_, _, rfl⟩ := hv
    exact ⟨h1, h2⟩
theorem RI.tail {w : World} {g n : Nat} {zs : List Int} (h : RI w (some ⟨g, 0, none⟩) (n + 1) zs) : RI w (some ⟨g, 1, none⟩) n (zs.drop 1) := by
  obtain ⟨b, off, e, hlt, hc⟩ := h.2 (by omega)
  have hl := h.len
  cases e
  refine ⟨by rw [List.length_drop, hl]; omega, fun hn => ⟨g, 1, rfl, hlt, fun j hj => ?_⟩⟩
  have h1 := hc (j + 1) (by omega)
  rw [List.getD_eq_getElem?_getD, List.getElem?_drop, Nat.add_comm 1 j, ← List.getD_eq_getElem?_getD]
  rw [← h1]
  congr 2
  omega
set_option maxRecDepth 100000 in
set_option maxHeartbeats 4000000 in
theorem xSq4 (g : Nat) (w : World) (k : CX w g) :
    Calls Try.prog 31 #[.pointer (some ⟨g, 0, none⟩), .int .i64 4] w fun e w' => ∃ A' n' c' zs, e = .returned (.slice A' n' c') ∧ RI w' A' n' zs ∧ (n' = 16 ∨ n' = 15) ∧ CX w' g ∧ Only g (g + 1) w w' := by
  have hgw := k.lt
  have H511 := Lib.hid (fun W hW => xBelow g 511 (by omega) W hW)
  have H20 := Lib.hid (fun W hW => xBelow g 20000 (by omega) W hW)
  have H14 := Lib.hid (fun W hW => xBelow g 14 (by omega) W hW)
  have HN := Lib.hid (fun W hW => xBelow g 16 (by omega) W hW)
  go_enter Try.func31, Try.ntmps31
  go_wp2
  go_loopw [5] (fun v wr => ∃ (m : Nat) (L : List Int), m ≤ 16 ∧ (∃ a c, v = .slice a m c) ∧ wr.ownsRow w.heap.size 3 1 v m (L.map (Value.int .i64)) ∧ CX wr g ∧ Only g (g + 1) w wr) (fun v _ => 16 - lenV v)
  case atStart => exact ⟨0, [], Nat.zero_le _, ⟨_, _, rfl⟩, World.ownsRow_made _ #[] 0 (Nat.le_refl _) (by decide) rfl, k.alloc _, (Only.refl _ _ _).alloc _⟩
  case round =>
    clear k
    obtain ⟨m, L, hm, ⟨a, c, rfl⟩, hown, kx, ox⟩ := hrel
    by_cases hlt : m < 16
    · have hlti : (m : Int) < 16 := by omega
      have hl2 : Small m := small_of (by omega)
      go_wp2_with fail
      refine (H511.out _ kx).mono ?_
      rintro e w3 ⟨x, hx, rfl, k3, o3⟩
      have hown3 := owns_only hown o3 hgw
      have ox3 := ox.trans o3
      clear hown kx ox o3
      go_wp2_with fail
      refine (H20.out _ k3).mono ?_
      rintro e w4 ⟨y, hy, rfl, k4, o4⟩
      have hown4 := owns_only hown3 o4 hgw
      have ox4 := ox3.trans o4
      clear hown3 k3 ox3 o4
      go_wp2_with fail
      refine (xPickInt g _ _ _ _ _ [0, 0, 1, -1, x - 255, y - 10000] _ (k4.alloc _) (OB.lit w4 [0, 0, 1, -1, x - 255, y - 10000] 6 rfl (by unfold maxLen; omega)) k4.lt (by omega)).mono ?_
      rintro e w5 ⟨z, hz, rfl, k5, o5⟩
      have ox5 := (ox4.alloc (.cells #[.int .i64 0, .int .i64 0, .int .i64 1, .int .i64 (-1), .int .i64 (x - 255), .int .i64 (y - 10000)] 3)).trans o5
      have hown5 := owns_only (hown4.alloc (.cells #[.int .i64 0, .int .i64 0, .int .i64 1, .int .i64 (-1), .int .i64 (x - 255), .int .i64 (y - 10000)] 3)) o5 hgw
      have hB5 := ox5.size
      clear k4 ox4 hown4 o5 hz hx hy
      go_wp2_with (first
        | (at_builtin; refine wpList_app_g rfl (.tmp 13) (.tmp 23) rfl _ m L rfl hown5 hB5 rfl hl2 ?_; intro gg cap w6 hown6 hg6 hp6))
      go_roundw
      case rel => exact ⟨m + 1, L ++ [z], by omega, ⟨_, _, rfl⟩, hown6, k5.grown hg6 (fun r hr => Nat.lt_of_lt_of_le hgw (hown5.lt r hr).1), ox5.grown hg6 (fun r hr => (hown5.lt r hr).1)⟩
      case measure => simp [lenV]; omega
    · obtain rfl : m = 16 := by omega
      obtain ⟨gl, rfl, hglw, _, _⟩ := (OB.new hown).form (by omega)
      have hgl : g < gl := by omega
      go_wp2_with fail
      refine (H14.out _ kx).mono ?_
      rintro e w3 ⟨x, hx, rfl, k3, o3⟩
      have own3 := owns_only hown o3 hgw
      have ox3 := ox.trans o3
      clear hown kx ox o3
      by_cases x0 : x = 0
      · subst x0
        have R3 := (OB.new own3).read
        have hcap := owns_cap own3
        clear own3 hx
        go_wp2
        go_ret
        exact ⟨_, _, _, _, rfl, R3.tail, Or.inr rfl, k3, ox3⟩
      · by_cases x1 : x = 1
        · subst x1
          clear hx x0
          go_wp2_with fail
          refine (HN.out _ k3).mono ?_
          rintro e w4 ⟨j, hj, rfl, k4, o4⟩
          have own4 := owns_only own3 o4 hgw
          have ox4 := ox3.trans o4
          clear own3 k3 ox3 o4
          obtain ⟨j, rfl⟩ := Int.eq_ofNat_of_zero_le hj.1
          have hj1 : j < 16 := by omega
          have hj2 : (j : Int) < 16 := hj.2
          have hj3 : (0 : Int) ≤ (j : Int) := hj.1
          clear hj
          go_wp2_with fail
          refine (xPickInt g _ _ _ _ _ [1000000000, 1000000001, -1000000001] _ (k4.alloc _) (OB.lit w4 [1000000000, 1000000001, -1000000001] 3 rfl (by unfold maxLen; omega)) k4.lt (by omega)).mono ?_
          rintro e w5 ⟨v, hv, rfl, k5, o5⟩
          have ox5 := (ox4.alloc (.cells #[.int .i64 1000000000, .int .i64 1000000001, .int .i64 (-1000000001)] 3)).trans o5
          have own5 := owns_only (own4.alloc (.cells #[.int .i64 1000000000, .int .i64 1000000001, .int .i64 (-1000000001)] 3)) o5 hgw
          clear k4 ox4 own4 o5 hv
          obtain ⟨y, hcell⟩ : ∃ y, w5.cell? ⟨gl, j, none⟩ = some y := ⟨_, (own5.cellAt j (by omega)).trans (List.getElem?_eq_getElem (by rw [own5.1]; omega))⟩
          have hfz := own5.frozenAt j
          have st := own5.stored j (.int .i64 v)
          have own6 := st.1
          rw [map_set_12] at own6
          have R6 := Lib.hid (OB.new own6).read
          have k6 := Lib.hid (k5.grown st.2 (fun r hr => by cases hr; exact hgl))
          have ox6 := Lib.hid (ox5.grown st.2 (fun r hr => by cases hr; exact hglw))
          clear st own5 k5 ox5 own6
          go_wp2
          go_ret
          exact ⟨_, _, _, _, rfl, R6.out, Or.inl rfl, k6.out, ox6.out⟩
        · have e0 : (x == 0) = false := by rw [beq_eq_false_iff_ne]; exact x0
          have e1 : (x == 1) = false := by rw [beq_eq_false_iff_ne]; exact x1
          have R3 := (OB.new own3).read
          clear own3 hx x0 x1
          go_wp2
          go_ret
          exact ⟨_, _, _, _, rfl, R3, Or.inl rfl, k3, ox3⟩
set_option maxRecDepth 100000 in
theorem xDrawForward4 (A : Option Addr) (n c : Nat) (zs : List Int) (w : World) (h : RU w A n zs) (hn : n ≤ 1048576) :
    Calls Try.prog 18 #[.slice A n c] w fun e w' => ∃ A' n' c' ws, e = .returned (.slice A' n' c') ∧ RI w' A' n' ws ∧ (n' = 16 ∨ n' = 15) ∧ Below w.heap.size w w' := by
  go_enter Try.func18, Try.ntmps18
  go_wp2_with fail
  refine (sNew A n c zs w h hn).mono ?_
  rintro e w1 ⟨g, rfl, hg, hgl, k, b1⟩
  have kx := cx_new (w := w) k
  clear k
  go_wp2_with fail
  refine (xSq4 g _ kx).mono ?_
  rintro e w2 ⟨A', n', c', ws, rfl, r, hs, k2, o2⟩
  have HS := Lib.hid hs
  clear hs
  go_wp2
  go_ret
  exact ⟨A', n', c', ws, rfl, r, HS.out, below_onl b1 hg o2⟩
set_option maxRecDepth 100000 in
set_option maxHeartbeats 4000000 in
theorem xSq8 (g : Nat) (w : World) (k : CX w g) :
    Calls Try.prog 31 #[.pointer (some ⟨g, 0, none⟩), .int .i64 8] w fun e w' => ∃ A' n' c' zs, e = .returned (.slice A' n' c') ∧ RI w' A' n' zs ∧ (n' = 64 ∨ n' = 63) ∧ CX w' g ∧ Only g (g + 1) w w' := by
  have hgw := k.lt
  have H511 := Lib.hid (fun W hW => xBelow g 511 (by omega) W hW)
  have H20 := Lib.hid (fun W hW => xBelow g 20000 (by omega) W hW)
  have H14 := Lib.hid (fun W hW => xBelow g 14 (by omega) W hW)
  have HN := Lib.hid (fun W hW => xBelow g 64 (by omega) W hW)
  go_enter Try.func31, Try.ntmps31
  go_wp2
  go_loopw [5] (fun v wr => ∃ (m : Nat) (L : List Int), m ≤ 64 ∧ (∃ a c, v = .slice a m c) ∧ wr.ownsRow w.heap.size 3 1 v m (L.map (Value.int .i64)) ∧ CX wr g ∧ Only g (g + 1) w wr) (fun v _ => 64 - lenV v)
  case atStart => exact ⟨0, [], Nat.zero_le _, ⟨_, _, rfl⟩, World.ownsRow_made _ #[] 0 (Nat.le_refl _) (by decide) rfl, k.alloc _, (Only.refl _ _ _).alloc _⟩
  case round =>
    clear k
    obtain ⟨m, L, hm, ⟨a, c, rfl⟩, hown, kx, ox⟩ := hrel
    by_cases hlt : m < 64
    · have hlti : (m : Int) < 64 := by omega
      have hl2 : Small m := small_of (by omega)
      go_wp2_with fail
      refine (H511.out _ kx).mono ?_
      rintro e w3 ⟨x, hx, rfl, k3, o3⟩
      have hown3 := owns_only hown o3 hgw
      have ox3 := ox.trans o3
      clear hown kx ox o3
      go_wp2_with fail
      refine (H20.out _ k3).mono ?_
      rintro e w4 ⟨y, hy, rfl, k4, o4⟩
      have hown4 := owns_only hown3 o4 hgw
      have ox4 := ox3.trans o4
      clear hown3 k3 ox3 o4
      go_wp2_with fail
      refine (xPickInt g _ _ _ _ _ [0, 0, 1, -1, x - 255, y - 10000] _ (k4.alloc _) (OB.lit w4 [0, 0, 1, -1, x - 255, y - 10000] 6 rfl (by unfold maxLen; omega)) k4.lt (by omega)).mono ?_
      rintro e w5 ⟨z, hz, rfl, k5, o5⟩
      have ox5 := (ox4.alloc (.cells #[.int .i64 0, .int .i64 0, .int .i64 1, .int .i64 (-1), .int .i64 (x - 255), .int .i64 (y - 10000)] 3)).trans o5
      have hown5 := owns_only (hown4.alloc (.cells #[.int .i64 0, .int .i64 0, .int .i64 1, .int .i64 (-1), .int .i64 (x - 255), .int .i64 (y - 10000)] 3)) o5 hgw
      have hB5 := ox5.size
      clear k4 ox4 hown4 o5 hz hx hy
      go_wp2_with (first
        | (at_builtin; refine wpList_app_g rfl (.tmp 13) (.tmp 23) rfl _ m L rfl hown5 hB5 rfl hl2 ?_; intro gg cap w6 hown6 hg6 hp6))
      go_roundw
      case rel => exact ⟨m + 1, L ++ [z], by omega, ⟨_, _, rfl⟩, hown6, k5.grown hg6 (fun r hr => Nat.lt_of_lt_of_le hgw (hown5.lt r hr).1), ox5.grown hg6 (fun r hr => (hown5.lt r hr).1)⟩
      case measure => simp [lenV]; omega
    · obtain rfl : m = 64 := by omega
      obtain ⟨gl, rfl, hglw, _, _⟩ := (OB.new hown).form (by omega)
      have hgl : g < gl := by omega
      go_wp2_with fail
      refine (H14.out _ kx).mono ?_
      rintro e w3 ⟨x, hx, rfl, k3, o3⟩
      have own3 := owns_only hown o3 hgw
      have ox3 := ox.trans o3
      clear hown kx ox o3
      by_cases x0 : x = 0
      · subst x0
        have R3 := (OB.new own3).read
        have hcap := owns_cap own3
        clear own3 hx
        go_wp2
        go_ret
        exact ⟨_, _, _, _, rfl, R3.tail, Or.inr rfl, k3, ox3⟩
      · by_cases x1 : x = 1
        · subst x1
          clear hx x0
          go_wp2_with fail
          refine (HN.out _ k3).mono ?_
          rintro e w4 ⟨j, hj, rfl, k4, o4⟩
          have own4 := owns_only own3 o4 hgw
          have ox4 := ox3.trans o4
          clear own3 k3 ox3 o4
          obtain ⟨j, rfl⟩ := Int.eq_ofNat_of_zero_le hj.1
          have hj1 : j < 64 := by omega
          have hj2 : (j : Int) < 64 := hj.2
          have hj3 : (0 : Int) ≤ (j : Int) := hj.1
          clear hj
          go_wp2_with fail
          refine (xPickInt g _ _ _ _ _ [1000000000, 1000000001, -1000000001] _ (k4.alloc _) (OB.lit w4 [1000000000, 1000000001, -1000000001] 3 rfl (by unfold maxLen; omega)) k4.lt (by omega)).mono ?_
          rintro e w5 ⟨v, hv, rfl, k5, o5⟩
          have ox5 := (ox4.alloc (.cells #[.int .i64 1000000000, .int .i64 1000000001, .int .i64 (-1000000001)] 3)).trans o5
          have own5 := owns_only (own4.alloc (.cells #[.int .i64 1000000000, .int .i64 1000000001, .int .i64 (-1000000001)] 3)) o5 hgw
          clear k4 ox4 own4 o5 hv
          obtain ⟨y, hcell⟩ : ∃ y, w5.cell? ⟨gl, j, none⟩ = some y := ⟨_, (own5.cellAt j (by omega)).trans (List.getElem?_eq_getElem (by rw [own5.1]; omega))⟩
          have hfz := own5.frozenAt j
          have st := own5.stored j (.int .i64 v)
          have own6 := st.1
          rw [map_set_12] at own6
          have R6 := Lib.hid (OB.new own6).read
          have k6 := Lib.hid (k5.grown st.2 (fun r hr => by cases hr; exact hgl))
          have ox6 := Lib.hid (ox5.grown st.2 (fun r hr => by cases hr; exact hglw))
          clear st own5 k5 ox5 own6
          go_wp2
          go_ret
          exact ⟨_, _, _, _, rfl, R6.out, Or.inl rfl, k6.out, ox6.out⟩
        · have e0 : (x == 0) = false := by rw [beq_eq_false_iff_ne]; exact x0
          have e1 : (x == 1) = false := by rw [beq_eq_false_iff_ne]; exact x1
          have R3 := (OB.new own3).read
          clear own3 hx x0 x1
          go_wp2
          go_ret
          exact ⟨_, _, _, _, rfl, R3, Or.inl rfl, k3, ox3⟩
set_option maxRecDepth 100000 in
theorem xDrawForward8 (A : Option Addr) (n c : Nat) (zs : List Int) (w : World) (h : RU w A n zs) (hn : n ≤ 1048576) :
    Calls Try.prog 24 #[.slice A n c] w fun e w' => ∃ A' n' c' ws, e = .returned (.slice A' n' c') ∧ RI w' A' n' ws ∧ (n' = 64 ∨ n' = 63) ∧ Below w.heap.size w w' := by
  go_enter Try.func24, Try.ntmps24
  go_wp2_with fail
  refine (sNew A n c zs w h hn).mono ?_
  rintro e w1 ⟨g, rfl, hg, hgl, k, b1⟩
  have kx := cx_new (w := w) k
  clear k
  go_wp2_with fail
  refine (xSq8 g _ kx).mono ?_
  rintro e w2 ⟨A', n', c', ws, rfl, r, hs, k2, o2⟩
  have HS := Lib.hid hs
  clear hs
  go_wp2
  go_ret
  exact ⟨A', n', c', ws, rfl, r, HS.out, below_onl b1 hg o2⟩
end Go.Proofs.Ytilfekkgoooefaa
