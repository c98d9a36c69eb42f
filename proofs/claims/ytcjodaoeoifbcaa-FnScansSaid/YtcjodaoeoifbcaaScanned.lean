/-
  Scanned, the reference's and the program's: both return 'scanned'. No condition but at most 2^20 numbers.
-/
import Derived.Test.YtcjodaoeoifbcaaScan
import Derived.Test.YtcjodaoeoifbcaaSide
import Derived.Test.YtcjodaoeoifbcaaGrow
namespace Go.Proofs.Ytcjodaoeoifbcaa
open Go.ChangeShapes Go.WideShapes Go.ChangeAt Go.RowKit
set_option linter.unusedVariables false
def scanned (zs : List Int) : List Int := if 0 < side zs.length then scnTo zs (scanAt (side zs.length)) zs.length else []
theorem scanned_len (zs : List Int) (h : zs.length ≤ 1000000000) : (scanned zs).length ≤ 1000000000 := by
  unfold scanned
  split
  · rw [scnTo_len]; exact h
  · simp
theorem scan_facts (n : Nat) (s : Int) (h : n = 16 ∧ s = 4 ∨ n = 64 ∧ s = 8) : side n = s ∧ (scan s).length = n ∧ Perm n (scanAt s) ∧ ∀ k, k < n → (scan s).getD k 0 = ((scanAt s k : Nat) : Int) := by
  rcases h with ⟨rfl, rfl⟩ | ⟨rfl, rfl⟩
  · exact ⟨rfl, scan4_len, perm4, fun k hk => (scanAt4 ⟨k, hk⟩).1⟩
  · exact ⟨rfl, scan8_len, perm8, fun k hk => (scanAt8 ⟨k, hk⟩).1⟩
theorem side_split (n : Nat) : (n = 16 ∧ side n = 4 ∨ n = 64 ∧ side n = 8) ∨ side n = 0 := by
  unfold side
  split
  · exact Or.inl (Or.inl ⟨by assumption, rfl⟩)
  · split
    · exact Or.inl (Or.inr ⟨by assumption, rfl⟩)
    · exact Or.inr rfl
set_option maxRecDepth 100000 in
theorem sScanned_in (A : Option Addr) (n c : Nat) (zs : List Int) (w : World) (h : RI w A n zs) (s : Int) (hns : n = 16 ∧ s = 4 ∨ n = 64 ∧ s = 8) :
    Calls Try.prog 27 #[.slice A n c] w fun e w' => ∃ A' n' c', e = .returned (.slice A' n' c') ∧ OB w' w.heap.size w'.heap.size A' n' c' (scnTo zs (scanAt s) n) ∧ Below w.heap.size w w' := by
  obtain ⟨f1, f2, f3, f4⟩ := scan_facts n s hns
  have hS : Hid (∀ W, Calls Try.prog 56 #[.slice A n c] W fun e w' => e = .returned (.int .i64 s) ∧ W = w') := by rw [← f1]; exact sSide A n c
  have F2 := Lib.hid f2
  have F3 := Lib.hid f3
  have F4 := Lib.hid f4
  have hn0 : 0 < n := by omega
  have hn64 : n ≤ 64 := by omega
  clear f1 f2 f3 f4 hns
  go_enter Try.func27, Try.ntmps27
  go_wp2_with (first
    | (go_at_call 56; refine (hS.out _).mono ?_; rintro e w' ⟨rfl, rfl⟩)
    | (go_at_call 19; refine (sScan s _).mono ?_; rintro e w1 ⟨Ao, no, co, rfl, oo, bo⟩))
  obtain rfl : no = n := oo.len.symm.trans F2.out
  have b1 : Below w.heap.size w w1 := ((Below.refl w.heap.size w).alloc (Nat.le_refl _) _).trans (bo.mono (by simp))
  have oo1 : OB w1 (w.heap.size + 1) w1.heap.size Ao no co (scan s) := by simpa using oo
  have hz1 : w.heap.size + 1 ≤ w1.heap.size := by have := bo.size; simpa using this
  have ow1 : w1.ownsRow w.heap.size 3 1 (.slice (some ⟨w.heap.size, 0, none⟩) 0 0) 0 (([] : List Int).map (Value.int .i64)) :=
    (OB.below (OB.new (World.ownsRow_made w #[] 0 (Nat.le_refl _) (by decide) rfl)) bo).1
  obtain ⟨hi, hhi⟩ : ∃ hi, hi = w1.heap.size := ⟨_, rfl⟩
  have hi1 : hi ≤ w1.heap.size := by omega
  rw [← hhi] at oo1
  have hlo : w.heap.size + 1 ≤ hi := by omega
  clear oo bo hhi hS
  go_loopw [3, 5] (fun v i wr => ∃ k : Nat, k ≤ no ∧ i = .int .i64 (k : Int) ∧ wr.ownsRow w.heap.size 3 1 v k ((scnTo zs (scanAt s) k).map (Value.int .i64)) ∧ Below w.heap.size w wr ∧ OB wr (w.heap.size + 1) hi Ao no co (scan s) ∧ Apart v (w.heap.size + 1) hi ∧ hi ≤ wr.heap.size) (fun _ i _ => (no - intOf i).toNat)
  case atStart => exact ⟨0, Nat.zero_le _, rfl, ow1, b1, oo1, fun g hg => by simp [Value.ownBlock] at hg; omega, hi1⟩
  case round =>
    clear ow1 b1 oo1 hi1 hz1
    obtain ⟨k, hk, rfl, hown, hb, oo, hap, hhi⟩ := hrel
    by_cases hlt : k < no
    · obtain ⟨b, off, rfl, hbl, hc⟩ := h.at_ hlt
      obtain ⟨b2, off2, rfl, hbl2, hc2⟩ := oo.read.at_ hlt
      have hj := F3.out.lt k hlt
      have hsrc := (hb.cell (p := ⟨b, off + scanAt s k, none⟩) hbl).trans (hc _ hj)
      have hsrc2 := hc2 k hlt
      rw [F4.out k hlt] at hsrc2
      have hT := Lib.hid (scnTo_succ zs (scanAt s) k)
      have hl2 : Small k := small_of (by omega)
      obtain ⟨x, hx⟩ : ∃ x, x = zs.getD (scanAt s k) 0 := ⟨_, rfl⟩
      rw [← hx] at hsrc hT
      obtain ⟨j, hjj⟩ : ∃ j, j = scanAt s k := ⟨_, rfl⟩
      rw [← hjj] at hsrc hsrc2 hj
      have hB := hb.size
      have H := Lib.hid h
      clear hx hjj hc hc2 h
      go_wp2_with (first
        | (at_builtin; refine wpList_app_g rfl (.tmp 16) (.tmp 24) rfl _ k _ rfl hown hB rfl hl2 ?_; intro g cap w2 hown1 hg1 hp1))
      go_roundw
      case rel => exact ⟨k + 1, by omega, by go_num, by rw [hT.out]; exact hown1, hb.grown hg1 hB (fun g hg => (hown.lt g hg).1), oo.grown hg1 hap, hap.to (hp1.imp id (fun e => by omega)), Nat.le_trans hhi hg1.size⟩
      case measure => simp [intOf]; omega
    · obtain rfl : k = no := by omega
      obtain ⟨a, c', hv⟩ := owns_shape hown
      subst hv
      go_wp2
      go_ret
      exact ⟨a, _, c', rfl, OB.new hown, hb⟩
set_option maxRecDepth 100000 in
theorem sScanned_out (A : Option Addr) (n c : Nat) (w : World) (hs : side n = 0) :
    Calls Try.prog 27 #[.slice A n c] w fun e w' => ∃ A' n' c', e = .returned (.slice A' n' c') ∧ OB w' w.heap.size w'.heap.size A' n' c' [] ∧ Below w.heap.size w w' := by
  have hS : Hid (∀ W, Calls Try.prog 56 #[.slice A n c] W fun e w' => e = .returned (.int .i64 0) ∧ W = w') := by rw [← hs]; exact sSide A n c
  clear hs
  go_enter Try.func27, Try.ntmps27
  go_wp2_with (first
    | (go_at_call 56; refine (hS.out _).mono ?_; rintro e w' ⟨rfl, rfl⟩)
    | (go_at_call 19; refine (sScan 0 _).mono ?_; rintro e w1 ⟨Ao, no, co, rfl, oo, bo⟩))
  obtain rfl : no = 0 := oo.len.symm.trans rfl
  have b1 : Below w.heap.size w w1 := ((Below.refl w.heap.size w).alloc (Nat.le_refl _) _).trans (bo.mono (by simp))
  have ow1 : w1.ownsRow w.heap.size 3 1 (.slice (some ⟨w.heap.size, 0, none⟩) 0 0) 0 (([] : List Int).map (Value.int .i64)) :=
    (OB.below (OB.new (World.ownsRow_made w #[] 0 (Nat.le_refl _) (by decide) rfl)) bo).1
  clear oo bo hS
  refine wp_loop_rounds 1 ?_
  rw [rounds_succ]
  go_wp2
  go_ret
  exact ⟨_, _, _, rfl, OB.new ow1, b1⟩
theorem sScanned (A : Option Addr) (n c : Nat) (zs : List Int) (w : World) (h : RI w A n zs) (hn : n ≤ 1048576) :
    Calls Try.prog 27 #[.slice A n c] w fun e w' => ∃ A' n' c', e = .returned (.slice A' n' c') ∧ OB w' w.heap.size w'.heap.size A' n' c' (scanned zs) ∧ Below w.heap.size w w' := by
  unfold scanned
  rw [h.len]
  rcases side_split n with hs | hs
  · rw [if_pos (by omega)]; exact sScanned_in A n c zs w h (side n) hs
  · rw [if_neg (by omega)]; exact sScanned_out A n c w hs
set_option maxRecDepth 100000 in
theorem iScanned_in (A : Option Addr) (n c : Nat) (zs : List Int) (w : World) (h : RI w A n zs) (s : Int) (hns : n = 16 ∧ s = 4 ∨ n = 64 ∧ s = 8) :
    Calls Try.prog 28 #[.slice A n c] w fun e w' => ∃ A' n' c', e = .returned (.slice A' n' c') ∧ OB w' w.heap.size w'.heap.size A' n' c' (scnTo zs (scanAt s) n) ∧ Below w.heap.size w w' := by
  obtain ⟨f1, f2, f3, f4⟩ := scan_facts n s hns
  have hS : Hid (∀ W, Calls Try.prog 58 #[.int .i64 (n : Int)] W fun e w' => e = .returned (.int .i64 s) ∧ W = w') := by rw [← f1]; exact iSide n
  have F2 := Lib.hid f2
  have F3 := Lib.hid f3
  have F4 := Lib.hid f4
  have hn0 : 0 < n := by omega
  have hn64 : n ≤ 64 := by omega
  clear f1 f2 f3 f4 hns
  go_enter Try.func28, Try.ntmps28
  go_wp2_with (first
    | (go_at_call 58; refine (hS.out _).mono ?_; rintro e w' ⟨rfl, rfl⟩)
    | (go_at_call 20; refine (iScan s _).mono ?_; rintro e w1 ⟨Ao, no, co, rfl, oo, bo⟩))
  obtain rfl : no = n := oo.len.symm.trans F2.out
  have b1 : Below w.heap.size w w1 := ((Below.refl w.heap.size w).alloc (Nat.le_refl _) _).trans (bo.mono (by simp))
  have oo1 : OB w1 (w.heap.size + 1) w1.heap.size Ao no co (scan s) := by simpa using oo
  have hz1 : w.heap.size + 1 ≤ w1.heap.size := by have := bo.size; simpa using this
  have ow1 : w1.ownsRow w.heap.size 3 1 (.slice (some ⟨w.heap.size, 0, none⟩) 0 0) 0 (([] : List Int).map (Value.int .i64)) :=
    (OB.below (OB.new (World.ownsRow_made w #[] 0 (Nat.le_refl _) (by decide) rfl)) bo).1
  obtain ⟨hi, hhi⟩ : ∃ hi, hi = w1.heap.size := ⟨_, rfl⟩
  have hi1 : hi ≤ w1.heap.size := by omega
  rw [← hhi] at oo1
  have hlo : w.heap.size + 1 ≤ hi := by omega
  clear oo bo hhi hS
  go_loopw [3, 12] (fun v i wr => ∃ k : Nat, k ≤ no ∧ i = .int .i64 (k : Int) ∧ wr.ownsRow w.heap.size 3 1 v k ((scnTo zs (scanAt s) k).map (Value.int .i64)) ∧ Below w.heap.size w wr ∧ OB wr (w.heap.size + 1) hi Ao no co (scan s) ∧ Apart v (w.heap.size + 1) hi ∧ hi ≤ wr.heap.size) (fun _ i _ => (no - intOf i).toNat)
  case atStart => exact ⟨0, Nat.zero_le _, rfl, ow1, b1, oo1, fun g hg => by simp [Value.ownBlock] at hg; omega, hi1⟩
  case round =>
    clear ow1 b1 oo1 hi1 hz1
    obtain ⟨k, hk, rfl, hown, hb, oo, hap, hhi⟩ := hrel
    by_cases hlt : k < no
    · obtain ⟨b, off, rfl, hbl, hc⟩ := h.at_ hlt
      obtain ⟨b2, off2, rfl, hbl2, hc2⟩ := oo.read.at_ hlt
      have hj := F3.out.lt k hlt
      have hsrc := (hb.cell (p := ⟨b, off + scanAt s k, none⟩) hbl).trans (hc _ hj)
      have hsrc2 := hc2 k hlt
      rw [F4.out k hlt] at hsrc2
      have hT := Lib.hid (scnTo_succ zs (scanAt s) k)
      have hl2 : Small k := small_of (by omega)
      obtain ⟨x, hx⟩ : ∃ x, x = zs.getD (scanAt s k) 0 := ⟨_, rfl⟩
      rw [← hx] at hsrc hT
      obtain ⟨j, hjj⟩ : ∃ j, j = scanAt s k := ⟨_, rfl⟩
      rw [← hjj] at hsrc hsrc2 hj
      have hB := hb.size
      have H := Lib.hid h
      clear hx hjj hc hc2 h
      go_wp2_with (first
        | (at_builtin; refine wpList_app_g rfl (.tmp 16) (.tmp 21) rfl _ k _ rfl hown hB rfl hl2 ?_; intro g cap w2 hown1 hg1 hp1))
      go_roundw
      case rel => exact ⟨k + 1, by omega, by go_num, by rw [hT.out]; exact hown1, hb.grown hg1 hB (fun g hg => (hown.lt g hg).1), oo.grown hg1 hap, hap.to (hp1.imp id (fun e => by omega)), Nat.le_trans hhi hg1.size⟩
      case measure => simp [intOf]; omega
    · obtain rfl : k = no := by omega
      obtain ⟨a, c', hv⟩ := owns_shape hown
      subst hv
      go_wp2
      go_ret
      exact ⟨a, _, c', rfl, OB.new hown, hb⟩
set_option maxRecDepth 100000 in
theorem iScanned_out (A : Option Addr) (n c : Nat) (w : World) (hs : side n = 0) :
    Calls Try.prog 28 #[.slice A n c] w fun e w' => ∃ A' n' c', e = .returned (.slice A' n' c') ∧ OB w' w.heap.size w'.heap.size A' n' c' [] ∧ Below w.heap.size w w' := by
  have hS : Hid (∀ W, Calls Try.prog 58 #[.int .i64 (n : Int)] W fun e w' => e = .returned (.int .i64 0) ∧ W = w') := by rw [← hs]; exact iSide n
  clear hs
  go_enter Try.func28, Try.ntmps28
  go_wp2_with (first
    | (go_at_call 58; refine (hS.out _).mono ?_; rintro e w' ⟨rfl, rfl⟩)
    | (go_at_call 20; refine (iScan 0 _).mono ?_; rintro e w1 ⟨Ao, no, co, rfl, oo, bo⟩))
  obtain rfl : no = 0 := oo.len.symm.trans rfl
  have b1 : Below w.heap.size w w1 := ((Below.refl w.heap.size w).alloc (Nat.le_refl _) _).trans (bo.mono (by simp))
  have ow1 : w1.ownsRow w.heap.size 3 1 (.slice (some ⟨w.heap.size, 0, none⟩) 0 0) 0 (([] : List Int).map (Value.int .i64)) :=
    (OB.below (OB.new (World.ownsRow_made w #[] 0 (Nat.le_refl _) (by decide) rfl)) bo).1
  clear oo bo hS
  refine wp_loop_rounds 1 ?_
  rw [rounds_succ]
  go_wp2
  go_ret
  exact ⟨_, _, _, rfl, OB.new ow1, b1⟩
theorem iScanned (A : Option Addr) (n c : Nat) (zs : List Int) (w : World) (h : RI w A n zs) (hn : n ≤ 1048576) :
    Calls Try.prog 28 #[.slice A n c] w fun e w' => ∃ A' n' c', e = .returned (.slice A' n' c') ∧ OB w' w.heap.size w'.heap.size A' n' c' (scanned zs) ∧ Below w.heap.size w w' := by
  unfold scanned
  rw [h.len]
  rcases side_split n with hs | hs
  · rw [if_pos (by omega)]; exact iScanned_in A n c zs w h (side n) hs
  · rw [if_neg (by omega)]; exact iScanned_out A n c w hs
end Go.Proofs.Ytcjodaoeoifbcaa
