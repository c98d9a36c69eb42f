/-
  The draws of levels, of numbers to quantize, of steps. No condition.
-/
import Derived.Test.YtcjodaoeoifbcaaDrawScan
namespace Go.Proofs.Ytcjodaoeoifbcaa
open Go.ChangeShapes Go.WideShapes Go.ChangeAt Go.RowKit
set_option linter.unusedVariables false
theorem map_set_d (l : List Int) (m : Nat) (x : Int) : (l.map (Value.int .i64)).set m (.int .i64 x) = (l.set m x).map (Value.int .i64) := by rw [← List.map_set]
set_option maxRecDepth 100000 in
set_option maxHeartbeats 2000000 in
theorem xLevels (g : Nat) (w : World) (k : CX w g) :
    Calls Try.prog 71 #[.pointer (some ⟨g, 0, none⟩)] w fun e w' => ∃ A' n' c' zs, e = .returned (.slice A' n' c') ∧ OB w' w.heap.size w'.heap.size A' n' c' zs ∧ SqLen n' ∧ CX w' g ∧ Only g (g + 1) w w' := by
  have hgw := k.lt
  have H6 := Lib.hid (fun W hW => xOnce g 6 W hW)
  have H4 := Lib.hid (fun W hW => xOnce g 4 W hW)
  go_enter Try.func71, Try.ntmps71
  go_wp2_with fail
  refine (xSquare g 30 (by omega) _ k).mono ?_
  rintro e w1 ⟨A1, n1, c1, zs, rfl, o1, hs, hbd, k1, x1⟩
  have hs := Lib.hid hs
  have hn64 : n1 ≤ 64 := by have := hs.out; unfold SqLen at this; omega
  clear k hbd
  rcases Nat.eq_zero_or_pos n1 with h0 | h0
  · subst h0
    go_wp2_with fail
    refine (H4.out _ k1).mono ?_
    rintro e w8 ⟨b, rfl, k8, o8⟩
    have ox8 := x1.trans o8
    have own8 := owns_only o1.1 o8 hgw
    clear k1 x1 o8
    cases b
    · go_wp2
      go_ret
      exact ⟨_, _, c1, _, rfl, OB.new own8, hs.out, k8, ox8⟩
    · go_wp2
      refine wp_loop_rounds 1 ?_
      rw [rounds_succ]
      go_wp2
      go_ret
      exact ⟨_, _, c1, _, rfl, OB.new own8, hs.out, k8, ox8⟩
  · have h0i : (0 : Int) < (n1 : Int) := by omega
    have HB := Lib.hid (fun W hW => xBelow g (n1 : Int) h0i W hW)
    obtain ⟨gl, rfl, hglw, _, _⟩ := o1.form h0
    have own1 := o1.1
    have hgl : g < gl := by omega
    clear o1
    go_wp2_with fail
    refine (H6.out _ k1).mono ?_
    rintro e w2 ⟨b, rfl, k2, o2⟩
    have ox2 := x1.trans o2
    have own2 := owns_only own1 o2 hgw
    clear k1 x1 own1 o2
    cases b
    · go_wp2_with fail
      refine (H4.out _ k2).mono ?_
      rintro e w8 ⟨b, rfl, k8, o8⟩
      have ox8 := ox2.trans o8
      have own8 := owns_only own2 o8 hgw
      clear k2 ox2 own2 o8
      cases b
      · go_wp2
        go_ret
        exact ⟨_, n1, c1, _, rfl, OB.new own8, hs.out, k8, ox8⟩
      · go_wp2
        go_loopw [4] (fun i wr => ∃ (k : Nat) (L : List Int), i = .int .i64 (k : Int) ∧ wr.ownsRow w.heap.size 3 1 (.slice (some ⟨gl, 0, none⟩) n1 c1) n1 (L.map (Value.int .i64)) ∧ CX wr g ∧ Only g (g + 1) w wr) (fun i _ => n1 - (intOf i).toNat)
        case atStart => exact ⟨3, _, rfl, own8, k8, ox8⟩
        case round =>
          clear k8 ox8 own8
          obtain ⟨k, L, rfl, hown, kx, ox⟩ := hrel
          by_cases hlt : k < n1
          · have hlti : (k : Int) < (n1 : Int) := by omega
            obtain ⟨y, hcell⟩ : ∃ y, wr.cell? ⟨gl, k, none⟩ = some y := ⟨_, (hown.cellAt k (by omega)).trans (List.getElem?_eq_getElem (by rw [hown.1]; omega))⟩
            have hfz := hown.frozenAt k
            have st := hown.stored k (.int .i64 0)
            have Q1 := st.1
            rw [map_set_d] at Q1
            have HQ := Lib.hid Q1
            have HK := Lib.hid (kx.grown st.2 (fun r hr => by cases hr; exact hgl))
            have HX := Lib.hid (ox.grown st.2 (fun r hr => by cases hr; exact hglw))
            clear st Q1 hown kx ox
            go_wp2
            go_roundw
            case rel => exact ⟨k + 1, _, by go_num, HQ.out, HK.out, HX.out⟩
            case measure => simp [intOf]; omega
          · have hki : (n1 : Int) ≤ (k : Int) := by omega
            clear hlt
            go_wp2
            go_ret
            exact ⟨_, n1, c1, L, rfl, OB.new hown, hs.out, kx, ox⟩
    · go_wp2_with fail
      refine (HB.out _ k2).mono ?_
      rintro e w3 ⟨x, hx, rfl, k3, o3⟩
      have ox3 := ox2.trans o3
      have own3 := owns_only own2 o3 hgw
      clear k2 ox2 own2 o3
      obtain ⟨j, rfl⟩ := Int.eq_ofNat_of_zero_le hx.1
      have hj : j < n1 := by omega
      have hji : (j : Int) < (n1 : Int) := hx.2
      clear hx
      go_wp2_with fail
      refine (xPickInt g _ _ _ _ _ [16383, -16383, 16384, 5000] _ (k3.alloc _) (OB.lit w3 [16383, -16383, 16384, 5000] 4 rfl (by unfold maxLen; omega)) k3.lt (by omega)).mono ?_
      rintro e w4 ⟨v, hv, rfl, k4, o4⟩
      have ox4 := (ox3.alloc (.cells #[.int .i64 16383, .int .i64 (-16383), .int .i64 16384, .int .i64 5000] 3)).trans o4
      have own4 := owns_only (own3.alloc (.cells #[.int .i64 16383, .int .i64 (-16383), .int .i64 16384, .int .i64 5000] 3)) o4 hgw
      clear k3 ox3 own3 o4 hv
      obtain ⟨y, hcell⟩ : ∃ y, w4.cell? ⟨gl, j, none⟩ = some y := ⟨_, (own4.cellAt j (by omega)).trans (List.getElem?_eq_getElem (by rw [own4.1]; omega))⟩
      have hfz := own4.frozenAt j
      have st := own4.stored j (.int .i64 v)
      have own5 := st.1
      rw [map_set_d] at own5
      have k5 := k4.grown st.2 (fun r hr => by cases hr; exact hgl)
      have ox5 := ox4.grown st.2 (fun r hr => by cases hr; exact hglw)
      clear st own4 k4 ox4
      go_wp2_with fail
      refine (H4.out _ k5).mono ?_
      rintro e w8 ⟨b, rfl, k8, o8⟩
      have ox8 := ox5.trans o8
      have own8 := owns_only own5 o8 hgw
      clear k5 ox5 own5 o8
      cases b
      · go_wp2
        go_ret
        exact ⟨_, n1, c1, _, rfl, OB.new own8, hs.out, k8, ox8⟩
      · go_wp2
        go_loopw [4] (fun i wr => ∃ (k : Nat) (L : List Int), i = .int .i64 (k : Int) ∧ wr.ownsRow w.heap.size 3 1 (.slice (some ⟨gl, 0, none⟩) n1 c1) n1 (L.map (Value.int .i64)) ∧ CX wr g ∧ Only g (g + 1) w wr) (fun i _ => n1 - (intOf i).toNat)
        case atStart => exact ⟨3, _, rfl, own8, k8, ox8⟩
        case round =>
          clear k8 ox8 own8
          obtain ⟨k, L, rfl, hown, kx, ox⟩ := hrel
          by_cases hlt : k < n1
          · have hlti : (k : Int) < (n1 : Int) := by omega
            obtain ⟨y, hcell⟩ : ∃ y, wr.cell? ⟨gl, k, none⟩ = some y := ⟨_, (hown.cellAt k (by omega)).trans (List.getElem?_eq_getElem (by rw [hown.1]; omega))⟩
            have hfz := hown.frozenAt k
            have st := hown.stored k (.int .i64 0)
            have Q1 := st.1
            rw [map_set_d] at Q1
            have HQ := Lib.hid Q1
            have HK := Lib.hid (kx.grown st.2 (fun r hr => by cases hr; exact hgl))
            have HX := Lib.hid (ox.grown st.2 (fun r hr => by cases hr; exact hglw))
            clear st Q1 hown kx ox
            go_wp2
            go_roundw
            case rel => exact ⟨k + 1, _, by go_num, HQ.out, HK.out, HX.out⟩
            case measure => simp [intOf]; omega
          · have hki : (n1 : Int) ≤ (k : Int) := by omega
            clear hlt
            go_wp2
            go_ret
            exact ⟨_, n1, c1, L, rfl, OB.new hown, hs.out, kx, ox⟩
set_option maxRecDepth 100000 in
theorem xQ (g : Nat) (w : World) (k : CX w g) :
    Calls Try.prog 74 #[.pointer (some ⟨g, 0, none⟩)] w fun e w' => ∃ x : Int, e = .returned (.int .i64 x) ∧ (Lit.int .i64 x).wf = true ∧ CX w' g ∧ Only g (g + 1) w w' := by
  have hgw := k.lt
  go_enter Try.func74, Try.ntmps74
  go_wp2_with fail
  refine (xBelow g 52 (by omega) _ k).mono ?_
  rintro e w1 ⟨y, hy, rfl, k1, o1⟩
  go_wp2_with fail
  refine (xPickInt g _ _ _ _ _ [0, 5, 6, 12, 20, 30, 51, 52, -1, y] _ (k1.alloc _) (OB.lit w1 [0, 5, 6, 12, 20, 30, 51, 52, -1, y] 10 rfl (by unfold maxLen; omega)) k1.lt (by omega)).mono ?_
  rintro e w2 ⟨x, hx, rfl, k2, o2⟩
  have hx2 : -1 ≤ x ∧ x ≤ 60 := by simp at hx; omega
  have HX := Lib.hid (WalkArith.wf_i64 (n := x) (by omega))
  clear hx hx2
  go_wp2
  go_ret
  exact ⟨x, rfl, HX.out, k2, (o1.alloc _).trans o2⟩
set_option maxRecDepth 100000 in
theorem xDrawStepOf (A : Option Addr) (n c : Nat) (zs : List Int) (w : World) (h : RU w A n zs) (hn : n ≤ 1048576) :
    Calls Try.prog 50 #[.slice A n c] w fun e w' => ∃ x : Int, e = .returned (.int .i64 x) ∧ (-1 ≤ x ∧ x ≤ 52) ∧ Below w.heap.size w w' := by
  go_enter Try.func50, Try.ntmps50
  go_wp2_with fail
  refine (sNew A n c zs w h hn).mono ?_
  rintro e w1 ⟨g, rfl, hg, hgl, k, b1⟩
  have kx := cx_new (w := w) k
  clear k
  go_wp2_with fail
  refine (xBelow g 54 (by omega) _ kx).mono ?_
  rintro e w2 ⟨x, hx, rfl, k2, o2⟩
  go_wp2
  go_ret
  exact ⟨x - 1, rfl, by omega, below_onl b1 hg o2⟩
set_option maxRecDepth 100000 in
theorem xDrawScaled (A : Option Addr) (n c : Nat) (zs : List Int) (w : World) (h : RU w A n zs) (hn : n ≤ 1048576) :
    Calls Try.prog 54 #[.slice A n c] w fun e w' => ∃ A' n' c' ws x, e = .returned (.tuple #[.slice A' n' c', .int .i64 x]) ∧ OB w' w.heap.size w'.heap.size A' n' c' ws ∧ SqLen n' ∧ (Lit.int .i64 x).wf = true ∧ Below w.heap.size w w' := by
  go_enter Try.func54, Try.ntmps54
  go_wp2_with fail
  refine (sNew A n c zs w h hn).mono ?_
  rintro e w1 ⟨g, rfl, hg, hgl, k, b1⟩
  have kx := cx_new (w := w) k
  clear k
  go_wp2_with fail
  refine (xLevels g _ kx).mono ?_
  rintro e w2 ⟨A', n', c', ws, rfl, ob, hs, k2, o2⟩
  have HS := Lib.hid hs
  clear hs
  go_wp2_with fail
  refine (xQ g _ k2).mono ?_
  rintro e w3 ⟨x, rfl, hx, k3, o3⟩
  have ob3 := ob.only o3 (Or.inr (by omega))
  have HX := Lib.hid hx
  clear hx
  go_wp2
  go_ret2
  exact ⟨A', n', c', ws, x, rfl, ob3.mono b1.size o3.size, HS.out, HX.out, below_onl b1 hg (o2.trans o3)⟩
set_option maxRecDepth 100000 in
theorem xDrawPairsOf (A : Option Addr) (n c : Nat) (zs : List Int) (w : World) (h : RU w A n zs) (hn : n ≤ 1048576) :
    Calls Try.prog 48 #[.slice A n c] w fun e w' => ∃ A' n' c' ws, e = .returned (.slice A' n' c') ∧ OB w' w.heap.size w'.heap.size A' n' c' ws ∧ SqLen n' ∧ Below w.heap.size w w' := by
  go_enter Try.func48, Try.ntmps48
  go_wp2_with fail
  refine (sNew A n c zs w h hn).mono ?_
  rintro e w1 ⟨g, rfl, hg, hgl, k, b1⟩
  have kx := cx_new (w := w) k
  clear k
  go_wp2_with fail
  refine (xLevels g _ kx).mono ?_
  rintro e w2 ⟨A', n', c', ws, rfl, ob, hs, k2, o2⟩
  have HS := Lib.hid hs
  clear hs
  go_wp2
  go_ret
  exact ⟨A', n', c', ws, rfl, ob.mono b1.size (Nat.le_refl _), HS.out, below_onl b1 hg o2⟩
def QuBd (zs : List Int) : Prop := ∀ x ∈ zs, -1000001 ≤ x ∧ x ≤ 1000001
set_option maxRecDepth 100000 in
set_option maxHeartbeats 2000000 in
theorem xDrawQuantized (A : Option Addr) (n c : Nat) (zs : List Int) (w : World) (h : RU w A n zs) (hn : n ≤ 1048576) :
    Calls Try.prog 53 #[.slice A n c] w fun e w' => ∃ A' n' c' ws x, e = .returned (.tuple #[.slice A' n' c', .int .i64 x]) ∧ OB w' w.heap.size w'.heap.size A' n' c' ws ∧ SqLen n' ∧ QuBd ws ∧ (Lit.int .i64 x).wf = true ∧ Below w.heap.size w w' := by
  go_enter Try.func53, Try.ntmps53
  go_wp2_with fail
  refine (sNew A n c zs w h hn).mono ?_
  rintro e w1 ⟨g, rfl, hg, hgl, k, b1⟩
  have kx := cx_new (w := w) k
  clear k
  go_wp2_with fail
  refine (xSquare g 9000 (by omega) _ kx).mono ?_
  rintro e w2 ⟨A', n', c', ws, rfl, ob, hs, hbd, k2, o2⟩
  have HS := Lib.hid hs
  have HB : Hid (QuBd ws) := by show QuBd ws; intro x hx; have := hbd x hx; omega
  clear hs hbd kx
  rcases Nat.eq_zero_or_pos n' with h0 | h0
  · subst h0
    go_wp2_with fail
    refine (xQ g _ k2).mono ?_
    rintro e w3 ⟨x, rfl, hx, k3, o3⟩
    have ob3 := ob.only o3 (Or.inr (by omega))
    have HX := Lib.hid hx
    clear hx
    go_wp2
    go_ret2
    exact ⟨A', _, c', ws, x, rfl, ob3.mono b1.size o3.size, HS.out, HB.out, HX.out, below_onl b1 hg (o2.trans o3)⟩
  · have h0i : (0 : Int) < (n' : Int) := by omega
    obtain ⟨gl, rfl, hglw, _, _⟩ := ob.form h0
    have own2 := ob.1
    have hgl2 : g < gl := by omega
    clear ob
    go_wp2_with fail
    refine (xOnce g 6 _ k2).mono ?_
    rintro e w3 ⟨b, rfl, k3, o3⟩
    have ox3 := o2.trans o3
    have own3 := owns_only own2 o3 hgl
    clear k2 o2 own2 o3
    cases b
    · go_wp2_with fail
      refine (xQ g _ k3).mono ?_
      rintro e w4 ⟨x, rfl, hx, k4, o4⟩
      have own4 := owns_only own3 o4 hgl
      have HX := Lib.hid hx
      clear hx
      go_wp2
      go_ret2
      exact ⟨_, n', c', ws, x, rfl, (OB.new own4).mono b1.size (Nat.le_refl _), HS.out, HB.out, HX.out, below_onl b1 hg (ox3.trans o4)⟩
    · go_wp2_with fail
      refine (xPickInt g _ _ _ _ _ [1000001, -1000001, 999999, 16384, -16384] _ (k3.alloc _) (OB.lit w3 [1000001, -1000001, 999999, 16384, -16384] 5 rfl (by unfold maxLen; omega)) k3.lt (by omega)).mono ?_
      rintro e w4 ⟨v, hv, rfl, k4, o4⟩
      have hv2 : -1000001 ≤ v ∧ v ≤ 1000001 := by simp at hv; omega
      have ox4 := (ox3.alloc (.cells #[.int .i64 1000001, .int .i64 (-1000001), .int .i64 999999, .int .i64 16384, .int .i64 (-16384)] 3)).trans o4
      have own4 := owns_only (own3.alloc (.cells #[.int .i64 1000001, .int .i64 (-1000001), .int .i64 999999, .int .i64 16384, .int .i64 (-16384)] 3)) o4 hgl
      clear k3 ox3 own3 o4 hv
      obtain ⟨y, hcell⟩ : ∃ y, w4.cell? ⟨gl, 0, none⟩ = some y := ⟨_, (own4.cellAt 0 (by omega)).trans (List.getElem?_eq_getElem (by rw [own4.1]; omega))⟩
      have hfz := own4.frozenAt 0
      have st := own4.stored 0 (.int .i64 v)
      have own5 := st.1
      rw [map_set_d] at own5
      have k5 := k4.grown st.2 (fun r hr => by cases hr; exact hgl2)
      have ox5 := ox4.grown st.2 (fun r hr => by cases hr; exact hglw)
      have HB5 : Hid (QuBd (ws.set 0 v)) := by
        show QuBd _
        intro x hx
        rcases List.mem_or_eq_of_mem_set hx with hx | rfl
        · exact HB.out x hx
        · exact hv2
      clear st own4 k4 ox4 hv2
      go_wp2_with fail
      refine (xQ g _ k5).mono ?_
      rintro e w6 ⟨x, rfl, hx, k6, o6⟩
      have own6 := owns_only own5 o6 hgl
      have HX := Lib.hid hx
      clear hx
      go_wp2
      go_ret2
      exact ⟨_, n', c', _, x, rfl, (OB.new own6).mono b1.size (Nat.le_refl _), HS.out, HB5.out, HX.out, below_onl b1 hg (ox5.trans o6)⟩
end Go.Proofs.Ytcjodaoeoifbcaa
