/-
  Placed, the reference's and the program's: both return 'placed'. No condition but at most 2^20 numbers.
-/
import Derived.Test.YtcjodaoeoifbcaaScanned
namespace Go.Proofs.Ytcjodaoeoifbcaa
open Go.ChangeShapes Go.WideShapes Go.ChangeAt Go.RowKit
set_option linter.unusedVariables false
def placed (zs : List Int) : List Int := if 0 < side zs.length then plcTo zs (scanAt (side zs.length)) zs.length zs.length else []
theorem placed_len (zs : List Int) (h : zs.length ≤ 1000000000) : (placed zs).length ≤ 1000000000 := by
  unfold placed
  split
  · rw [plcTo_len]; exact h
  · simp
theorem plcTo_set (zs : List Int) (p : Nat → Nat) (m k : Nat) : ((plcTo zs p m k).map (Value.int .i64)).set (p k) (.int .i64 (zs.getD k 0)) = (plcTo zs p m (k + 1)).map (Value.int .i64) := by
  rw [← List.map_set]; rfl
set_option maxRecDepth 100000 in
theorem sPlaced_in (A : Option Addr) (n c : Nat) (zs : List Int) (w : World) (h : RI w A n zs) (s : Int) (hns : n = 16 ∧ s = 4 ∨ n = 64 ∧ s = 8) :
    Calls Try.prog 29 #[.slice A n c] w fun e w' => ∃ A' n' c', e = .returned (.slice A' n' c') ∧ OB w' w.heap.size w'.heap.size A' n' c' (plcTo zs (scanAt s) n n) ∧ Below w.heap.size w w' := by
  obtain ⟨i0, hi, hz0, hz1, hz2⟩ := info_parts info_i64
  obtain ⟨f1, f2, f3, f4⟩ := scan_facts n s hns
  have hS : Hid (∀ W, Calls Try.prog 56 #[.slice A n c] W fun e w' => e = .returned (.int .i64 s) ∧ W = w') := by rw [← f1]; exact sSide A n c
  have F2 := Lib.hid f2
  have F3 := Lib.hid f3
  have F4 := Lib.hid f4
  have hn0 : 0 < n := by omega
  have hn64 : n ≤ 64 := by omega
  clear f1 f2 f3 f4 hns
  go_enter Try.func29, Try.ntmps29
  go_wp2_with fail
  refine (hS.out _).mono ?_
  rintro e w' ⟨rfl, rfl⟩
  go_wp2_with fail
  refine (sScan s _).mono ?_
  rintro e w1 ⟨Ao, no, co, rfl, oo, bo⟩
  obtain rfl : no = n := oo.len.symm.trans F2.out
  have hr := h.below bo
  have oor := oo.read
  go_wp2_with (first
    | (at_make; refine wpList_make_full _ rfl _ _ 22 rfl w1.heap.size 3 i0 (.int .i64 0) 1 Try.underlying22 hi hz0 hz1 .i64 .i64 _ _ no rfl rfl rfl rfl (by rw [hz2]; omega) (by unfold maxLen; omega) (Nat.le_refl _) ?_; intro w2 hown1 hgrow1))
  have hb1 : Below w1.heap.size w1 w2 := (Below.refl _ _).grown hgrow1 (Nat.le_refl _) (by simp)
  clear hgrow1
  have e0 : (madeCells (Value.int .i64 0).cells (no * 1)).toList = (plcTo zs (scanAt s) no 0).map (Value.int .i64) := by
    rw [show (Value.int .i64 0).cells = #[Value.int .i64 0] from rfl, toList_madeCells_one, Nat.mul_one]
    simp [plcTo]
  rw [e0] at hown1
  clear e0 oo hS h
  go_loopw [5] (fun i wr => ∃ k : Nat, k ≤ no ∧ i = .int .i64 k ∧ wr.ownsRow w1.heap.size 3 1 (.slice (some ⟨w1.heap.size, 0, none⟩) no no) no ((plcTo zs (scanAt s) no k).map (Value.int .i64)) ∧ Below w1.heap.size w1 wr) (fun i _ => no - (intOf i).toNat)
  case atStart => exact ⟨0, Nat.zero_le _, rfl, hown1, hb1⟩
  case round =>
    clear hown1 hb1
    obtain ⟨k, hk, rfl, hown, hb⟩ := hrel
    by_cases hlt : k < no
    · obtain ⟨b, off, rfl, hbl, hc⟩ := hr.at_ hlt
      obtain ⟨b2, off2, rfl, hbl2, hc2⟩ := oor.at_ hlt
      have hj := F3.out.lt k hlt
      have hsrc := (hb.cell (p := ⟨b, off + k, none⟩) hbl).trans (hc _ hlt)
      have hsrc2 := (hb.cell (p := ⟨b2, off2 + k, none⟩) hbl2).trans (hc2 k hlt)
      rw [F4.out k hlt] at hsrc2
      obtain ⟨y, hcell⟩ : ∃ y, wr.cell? ⟨w1.heap.size, scanAt s k, none⟩ = some y := ⟨_, (hown.cellAt _ (by omega)).trans (List.getElem?_eq_getElem (by simp [plcTo_len]; omega))⟩
      have hfz := hown.frozenAt (scanAt s k)
      have R := (hown.stored (scanAt s k) (.int .i64 (zs.getD k 0))).1
      rw [plcTo_set] at R
      have R2 := hb.setCell (p := ⟨w1.heap.size, scanAt s k, none⟩) (Nat.le_refl _) (.int .i64 (zs.getD k 0))
      have HR1 : Hid _ := R
      have HR2 : Hid _ := R2
      obtain ⟨x, hx⟩ : ∃ x, x = zs.getD k 0 := ⟨_, rfl⟩
      rw [← hx] at hsrc HR1 HR2
      obtain ⟨j, hjj⟩ : ∃ j, j = scanAt s k := ⟨_, rfl⟩
      rw [← hjj] at hsrc2 hj hcell hfz HR1 HR2
      have hlti : (k : Int) < (no : Int) := by omega
      have hji : (j : Int) < (no : Int) := by omega
      have hki : (0 : Int) ≤ (k : Int) := by omega
      have hj0 : (0 : Int) ≤ (j : Int) := by omega
      have H := Lib.hid hr
      have H2 := Lib.hid oor
      clear R R2 hown hx hjj hc hc2 hr oor
      go_wp2
      go_region
      all_goals
        go_wp2
        go_roundw
        case rel => exact ⟨k + 1, by omega, by go_num, HR1.out, below_drewN HR2.out 1⟩
        case measure => simp [intOf]; omega
    · obtain rfl : k = no := by omega
      go_wp2
      go_ret
      exact ⟨_, _, _, rfl, (OB.new hown).mono bo.size (Nat.le_refl _), bo.trans (hb.mono bo.size)⟩
set_option maxRecDepth 100000 in
theorem sPlaced_out (A : Option Addr) (n c : Nat) (w : World) (hs : side n = 0) :
    Calls Try.prog 29 #[.slice A n c] w fun e w' => ∃ A' n' c', e = .returned (.slice A' n' c') ∧ OB w' w.heap.size w'.heap.size A' n' c' [] ∧ Below w.heap.size w w' := by
  obtain ⟨i0, hi, hz0, hz1, hz2⟩ := info_parts info_i64
  have hS : Hid (∀ W, Calls Try.prog 56 #[.slice A n c] W fun e w' => e = .returned (.int .i64 0) ∧ W = w') := by rw [← hs]; exact sSide A n c
  clear hs
  go_enter Try.func29, Try.ntmps29
  go_wp2_with fail
  refine (hS.out _).mono ?_
  rintro e w' ⟨rfl, rfl⟩
  go_wp2_with fail
  refine (sScan 0 _).mono ?_
  rintro e w1 ⟨Ao, no, co, rfl, oo, bo⟩
  obtain rfl : no = 0 := oo.len.symm.trans rfl
  have hmk : ∀ (W : World), (Instr.makeSlice 22 (.int .i64 0) (.int .i64 0)).run Try.prog W = .ok (.slice (some ⟨W.heap.size, 0, none⟩) 0 0) (W.alloc (.cells #[] 3)) := fun _ => by kernel_rfl
  go_wp2
  refine wp_loop_rounds 1 ?_
  rw [rounds_succ]
  go_wp2
  go_ret
  exact ⟨_, _, _, rfl, (OB.new (World.ownsRow_made w1 #[] 0 bo.size (by decide) rfl)), bo.alloc bo.size _⟩
theorem sPlaced (A : Option Addr) (n c : Nat) (zs : List Int) (w : World) (h : RI w A n zs) (hn : n ≤ 1048576) :
    Calls Try.prog 29 #[.slice A n c] w fun e w' => ∃ A' n' c', e = .returned (.slice A' n' c') ∧ OB w' w.heap.size w'.heap.size A' n' c' (placed zs) ∧ Below w.heap.size w w' := by
  unfold placed
  rw [h.len]
  rcases side_split n with hs | hs
  · rw [if_pos (by omega)]; exact sPlaced_in A n c zs w h (side n) hs
  · rw [if_neg (by omega)]; exact sPlaced_out A n c w hs
set_option maxRecDepth 100000 in
theorem iPlaced_in (A : Option Addr) (n c : Nat) (zs : List Int) (w : World) (h : RI w A n zs) (s : Int) (hns : n = 16 ∧ s = 4 ∨ n = 64 ∧ s = 8) :
    Calls Try.prog 30 #[.slice A n c] w fun e w' => ∃ A' n' c', e = .returned (.slice A' n' c') ∧ OB w' w.heap.size w'.heap.size A' n' c' (plcTo zs (scanAt s) n n) ∧ Below w.heap.size w w' := by
  obtain ⟨i0, hi, hz0, hz1, hz2⟩ := info_parts info_i64
  obtain ⟨f1, f2, f3, f4⟩ := scan_facts n s hns
  have hS : Hid (∀ W, Calls Try.prog 58 #[.int .i64 (n : Int)] W fun e w' => e = .returned (.int .i64 s) ∧ W = w') := by rw [← f1]; exact iSide n
  have F2 := Lib.hid f2
  have F3 := Lib.hid f3
  have F4 := Lib.hid f4
  have hn0 : 0 < n := by omega
  have hn64 : n ≤ 64 := by omega
  clear f1 f2 f3 f4 hns
  go_enter Try.func30, Try.ntmps30
  go_wp2_with fail
  refine (hS.out _).mono ?_
  rintro e w' ⟨rfl, rfl⟩
  go_wp2_with fail
  refine (iScan s _).mono ?_
  rintro e w1 ⟨Ao, no, co, rfl, oo, bo⟩
  obtain rfl : no = n := oo.len.symm.trans F2.out
  have hr := h.below bo
  have oor := oo.read
  go_wp2_with (first
    | (at_make; refine wpList_make_full _ rfl _ _ 22 rfl w1.heap.size 3 i0 (.int .i64 0) 1 Try.underlying22 hi hz0 hz1 .i64 .i64 _ _ no rfl rfl rfl rfl (by rw [hz2]; omega) (by unfold maxLen; omega) (Nat.le_refl _) ?_; intro w2 hown1 hgrow1))
  have hb1 : Below w1.heap.size w1 w2 := (Below.refl _ _).grown hgrow1 (Nat.le_refl _) (by simp)
  clear hgrow1
  have e0 : (madeCells (Value.int .i64 0).cells (no * 1)).toList = (plcTo zs (scanAt s) no 0).map (Value.int .i64) := by
    rw [show (Value.int .i64 0).cells = #[Value.int .i64 0] from rfl, toList_madeCells_one, Nat.mul_one]
    simp [plcTo]
  rw [e0] at hown1
  clear e0 oo hS h
  go_loopw [16] (fun i wr => ∃ k : Nat, k ≤ no ∧ i = .int .i64 k ∧ wr.ownsRow w1.heap.size 3 1 (.slice (some ⟨w1.heap.size, 0, none⟩) no no) no ((plcTo zs (scanAt s) no k).map (Value.int .i64)) ∧ Below w1.heap.size w1 wr) (fun i _ => no - (intOf i).toNat)
  case atStart => exact ⟨0, Nat.zero_le _, rfl, hown1, hb1⟩
  case round =>
    clear hown1 hb1
    obtain ⟨k, hk, rfl, hown, hb⟩ := hrel
    by_cases hlt : k < no
    · obtain ⟨b, off, rfl, hbl, hc⟩ := hr.at_ hlt
      obtain ⟨b2, off2, rfl, hbl2, hc2⟩ := oor.at_ hlt
      have hj := F3.out.lt k hlt
      have hsrc := (hb.cell (p := ⟨b, off + k, none⟩) hbl).trans (hc _ hlt)
      have hsrc2 := (hb.cell (p := ⟨b2, off2 + k, none⟩) hbl2).trans (hc2 k hlt)
      rw [F4.out k hlt] at hsrc2
      obtain ⟨y, hcell⟩ : ∃ y, wr.cell? ⟨w1.heap.size, scanAt s k, none⟩ = some y := ⟨_, (hown.cellAt _ (by omega)).trans (List.getElem?_eq_getElem (by simp [plcTo_len]; omega))⟩
      have hfz := hown.frozenAt (scanAt s k)
      have R := (hown.stored (scanAt s k) (.int .i64 (zs.getD k 0))).1
      rw [plcTo_set] at R
      have R2 := hb.setCell (p := ⟨w1.heap.size, scanAt s k, none⟩) (Nat.le_refl _) (.int .i64 (zs.getD k 0))
      have HR1 : Hid _ := R
      have HR2 : Hid _ := R2
      obtain ⟨x, hx⟩ : ∃ x, x = zs.getD k 0 := ⟨_, rfl⟩
      rw [← hx] at hsrc HR1 HR2
      obtain ⟨j, hjj⟩ : ∃ j, j = scanAt s k := ⟨_, rfl⟩
      rw [← hjj] at hsrc2 hj hcell hfz HR1 HR2
      have hlti : (k : Int) < (no : Int) := by omega
      have hji : (j : Int) < (no : Int) := by omega
      have hki : (0 : Int) ≤ (k : Int) := by omega
      have hj0 : (0 : Int) ≤ (j : Int) := by omega
      have H := Lib.hid hr
      have H2 := Lib.hid oor
      clear R R2 hown hx hjj hc hc2 hr oor
      go_wp2
      go_roundw
      case rel => exact ⟨k + 1, by omega, by go_num, HR1.out, HR2.out⟩
      case measure => simp [intOf]; omega
    · obtain rfl : k = no := by omega
      go_wp2
      go_ret
      exact ⟨_, _, _, rfl, (OB.new hown).mono bo.size (Nat.le_refl _), bo.trans (hb.mono bo.size)⟩
set_option maxRecDepth 100000 in
theorem iPlaced_out (A : Option Addr) (n c : Nat) (w : World) (hs : side n = 0) :
    Calls Try.prog 30 #[.slice A n c] w fun e w' => ∃ A' n' c', e = .returned (.slice A' n' c') ∧ OB w' w.heap.size w'.heap.size A' n' c' [] ∧ Below w.heap.size w w' := by
  obtain ⟨i0, hi, hz0, hz1, hz2⟩ := info_parts info_i64
  have hS : Hid (∀ W, Calls Try.prog 58 #[.int .i64 (n : Int)] W fun e w' => e = .returned (.int .i64 0) ∧ W = w') := by rw [← hs]; exact iSide n
  clear hs
  go_enter Try.func30, Try.ntmps30
  go_wp2_with fail
  refine (hS.out _).mono ?_
  rintro e w' ⟨rfl, rfl⟩
  go_wp2_with fail
  refine (iScan 0 _).mono ?_
  rintro e w1 ⟨Ao, no, co, rfl, oo, bo⟩
  obtain rfl : no = 0 := oo.len.symm.trans rfl
  have hmk : ∀ (W : World), (Instr.makeSlice 22 (.int .i64 0) (.int .i64 0)).run Try.prog W = .ok (.slice (some ⟨W.heap.size, 0, none⟩) 0 0) (W.alloc (.cells #[] 3)) := fun _ => by kernel_rfl
  go_wp2
  refine wp_loop_rounds 1 ?_
  rw [rounds_succ]
  go_wp2
  go_ret
  exact ⟨_, _, _, rfl, (OB.new (World.ownsRow_made w1 #[] 0 bo.size (by decide) rfl)), bo.alloc bo.size _⟩
theorem iPlaced (A : Option Addr) (n c : Nat) (zs : List Int) (w : World) (h : RI w A n zs) (hn : n ≤ 1048576) :
    Calls Try.prog 30 #[.slice A n c] w fun e w' => ∃ A' n' c', e = .returned (.slice A' n' c') ∧ OB w' w.heap.size w'.heap.size A' n' c' (placed zs) ∧ Below w.heap.size w w' := by
  unfold placed
  rw [h.len]
  rcases side_split n with hs | hs
  · rw [if_pos (by omega)]; exact iPlaced_in A n c zs w h (side n) hs
  · rw [if_neg (by omega)]; exact iPlaced_out A n c w hs
end Go.Proofs.Ytcjodaoeoifbcaa
