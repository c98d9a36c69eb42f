/-
  FnScans: the scan visits each position once, and placing inverts scanning. No condition.
-/
import Derived.Test.YtcjodaoeoifbcaaPlaced
import Derived.Test.YtcjodaoeoifbcaaDrawScan
import Derived.Test.YtcjodaoeoifbcaaLawHelp
namespace Go.Proofs.Ytcjodaoeoifbcaa.fnScans
open Go.ChangeShapes Go.WideShapes Go.ChangeAt Go.RowKit
set_option linter.unusedVariables false
theorem scanAdj4 : ∀ k : Fin 15, -1 ≤ (scanAt 4 (k.val + 1) : Int) / 4 + (scanAt 4 (k.val + 1) : Int) % 4 - (scanAt 4 k.val : Int) / 4 - (scanAt 4 k.val : Int) % 4 ∧ (scanAt 4 (k.val + 1) : Int) / 4 + (scanAt 4 (k.val + 1) : Int) % 4 - (scanAt 4 k.val : Int) / 4 - (scanAt 4 k.val : Int) % 4 ≤ 1 ∧ scanAt 4 (k.val + 1) < 16 ∧ scanAt 4 k.val < 16 := by decide +kernel
theorem scanAdj8 : ∀ k : Fin 63, -1 ≤ (scanAt 8 (k.val + 1) : Int) / 8 + (scanAt 8 (k.val + 1) : Int) % 8 - (scanAt 8 k.val : Int) / 8 - (scanAt 8 k.val : Int) % 8 ∧ (scanAt 8 (k.val + 1) : Int) / 8 + (scanAt 8 (k.val + 1) : Int) % 8 - (scanAt 8 k.val : Int) / 8 - (scanAt 8 k.val : Int) % 8 ≤ 1 ∧ scanAt 8 (k.val + 1) < 64 ∧ scanAt 8 k.val < 64 := by decide +kernel
theorem scanHas4 (k : Nat) (h : k < 16) : ∃ j, j < 16 ∧ (scan 4).getD j 0 = (k : Int) := by
  obtain ⟨j, hj, e⟩ := perm4.on k h
  exact ⟨j, hj, by rw [(scanAt4 ⟨j, hj⟩).1]; simp only [e]⟩
theorem scanHas8 (k : Nat) (h : k < 64) : ∃ j, j < 64 ∧ (scan 8).getD j 0 = (k : Int) := by
  obtain ⟨j, hj, e⟩ := perm8.on k h
  exact ⟨j, hj, by rw [(scanAt8 ⟨j, hj⟩).1]; simp only [e]⟩
theorem scanned_le (l : List Int) : (scanned l).length ≤ 64 := by
  unfold scanned
  rcases side_split l.length with h | h
  · rw [if_pos (by omega), scnTo_len]; omega
  · rw [if_neg (by omega)]; simp
theorem placed_le (l : List Int) : (placed l).length ≤ 64 := by
  unfold placed
  rcases side_split l.length with h | h
  · rw [if_pos (by omega), plcTo_len]; omega
  · rw [if_neg (by omega)]; simp
theorem sides (l : List Int) (n : Nat) (hl : l.length = n) (hn : n = 16 ∨ n = 64) : 0 < side l.length ∧ Perm n (scanAt (side l.length)) := by
  rw [hl]
  rcases hn with rfl | rfl
  · exact ⟨by decide, perm4⟩
  · exact ⟨by decide, perm8⟩
theorem plc_back (l : List Int) (n : Nat) (hl : l.length = n) (hn : n = 16 ∨ n = 64) : placed (scanned l) = l := by
  obtain ⟨h1, h2⟩ := sides l n hl hn
  have e : (scanned l).length = l.length := by unfold scanned; rw [if_pos h1, scnTo_len]
  unfold placed
  rw [e, if_pos h1]
  unfold scanned
  rw [if_pos h1, hl]
  exact plc_scn l _ n (by rw [hl] at h2; exact h2) hl
theorem scn_back (l : List Int) (n : Nat) (hl : l.length = n) (hn : n = 16 ∨ n = 64) : scanned (placed l) = l := by
  obtain ⟨h1, h2⟩ := sides l n hl hn
  have e : (placed l).length = l.length := by unfold placed; rw [if_pos h1, plcTo_len]
  unfold scanned
  rw [e, if_pos h1]
  unfold placed
  rw [if_pos h1, hl]
  exact scn_plc l _ n (by rw [hl] at h2; exact h2) hl
theorem plc_none (l : List Int) (n : Nat) (hl : l.length = n) (h1 : ¬ n = 16) (h2 : ¬ n = 64) : placed (scanned l) = [] := by
  have e : scanned l = [] := by unfold scanned; rw [if_neg (by rw [hl]; rcases side_split n with h | h <;> omega)]
  rw [e]; rfl
set_option maxRecDepth 100000 in
set_option maxHeartbeats 8000000 in
theorem walkIn (a0 : Option Addr) (len0 cap0 : Nat) (z0 : List Int) (w : World) (w0 : IsRow .u8 w a0 len0 cap0 z0) (hl : len0 ≤ 1048576) :
    Calls Try.prog 12 #[.slice a0 len0 cap0] w fun e w' => e = .returned (.bool true) ∧ Below w.heap.size w w' := by
  have HRU := Lib.hid (RU.ofIsRow w0)
  clear w0
  go_enter Try.func12, Try.ntmps12
  go_wp2_with fail
  refine (big_no _ _ _ _ hl).mono ?_
  rintro e w' ⟨rfl, rfl⟩
  go_wp2_with fail
  refine (xDrawScanOrder _ _ _ _ _ HRU.out hl).mono ?_
  rintro e W1 ⟨x, hx, rfl, b01⟩
  rcases hx with rfl | rfl | hx
  · -- n = 4
    go_wp2_with fail
    refine (iScan 4 _).mono ?_
    rintro e W2 ⟨A2, n2, c2, rfl, o2, b2⟩
    have b02 := b01.trans (b2.mono b01.size)
    obtain rfl : n2 = 16 := o2.len.symm.trans scan4_len
    clear b01 b2
    go_wp2_with fail
    refine (iSizeOk_yes 4 (by omega) _).mono ?_
    rintro e w' ⟨rfl, rfl⟩
    go_wp2_with fail
    refine (sScan 4 _).mono ?_
    rintro e W3 ⟨A3, n3, c3, rfl, o3, b3⟩
    have o2 := o2.below b3
    have b03 := b02.trans (b3.mono b02.size)
    obtain rfl : n3 = 16 := o3.len.symm.trans scan4_len
    clear b02 b3
    go_wp2_with fail
    refine (sameInts_yes _ _ _ _ _ _ _ o2.read o3.read (by omega)).mono ?_
    rintro e W4 ⟨rfl, b4⟩
    have b04 := b03.trans (b4.mono b03.size)
    have o2 := (o2.below b4).read
    clear o3 b03 b4
    go_wp2
    go_loopw [5] (fun i wr => ∃ k : Nat, k ≤ 16 ∧ i = .int .i64 (k : Int) ∧ Below W4.heap.size W4 wr) (fun i _ => 16 - (intOf i).toNat)
    case atStart => exact ⟨0, Nat.zero_le _, rfl, Below.refl _ _⟩
    case round =>
      obtain ⟨k, hk, rfl, hb⟩ := hrel
      by_cases hlt : k < 16
      · have hlti : (k : Int) < 16 := by omega
        have hk0i : (0 : Int) ≤ (k : Int) := by omega
        have or := o2.below hb
        obtain ⟨j, hj, hje⟩ := scanHas4 k hlt
        have hH := Lib.hid (fun W (hW : RI W A2 16 (scan 4)) => (has_yes A2 16 c2 (scan 4) (k : Int) j W hW hj hje (by omega)).mono (fun _ _ h => (⟨h.1, h.2.symm⟩ : _ ∧ _ = W)))
        clear hje
        rcases Nat.eq_zero_or_pos k with h0 | h0
        · subst h0
          have HO := Lib.hid o2
          have HB := Lib.hid hb
          clear o2 hb
          go_wp2
          refine wp_region_quiet_lit (by kernel_rfl) (by kernel_rfl) ?_
          simp only [List.append_eq, List.cons_append, List.nil_append]
          repeat (go_big_quiet_step ((go_at_call 46; exact Calls.quiet_of_same (hH.out _ (or.drewN _)))))
          refine wpQuiet_nil ?_
          intro _ hw'
          obtain ⟨nq, hw''⟩ := hw'
          subst hw''
          go_wp2
          go_roundw
          case rel => exact ⟨1, by omega, by go_num, below_drewN HB.out _⟩
          case measure => simp [intOf]
        · obtain ⟨k, rfl⟩ : ∃ q, k = q + 1 := ⟨k - 1, by omega⟩
          obtain ⟨b, off, e2, hbl, hc⟩ := or.at_ hlt
          have hc1 := hc (k + 1) hlt
          have hc0 := hc k (by omega)
          rw [(scanAt4 ⟨k + 1, hlt⟩).1] at hc1
          rw [(scanAt4 ⟨k, by omega⟩).1] at hc0
          have hadj := scanAdj4 ⟨k, by omega⟩
          obtain ⟨x, hx⟩ : ∃ x, x = scanAt 4 (k + 1) := ⟨_, rfl⟩
          obtain ⟨y, hy⟩ : ∃ y, y = scanAt 4 k := ⟨_, rfl⟩
          simp only at hadj hc1 hc0
          rw [← hx, ← hy] at hadj
          rw [← hx] at hc1
          rw [← hy] at hc0
          have hkk : (k : Int) + 1 - 1 = (k : Int) := by omega
          have hk00 : (0 : Int) ≤ (k : Int) := by omega
          have hxx : (0 : Int) ≤ (x : Int) := by omega
          have hyy : (0 : Int) ≤ (y : Int) := by omega
          subst e2
          have HO := Lib.hid o2
          have HB := Lib.hid hb
          clear o2 hb hx hy hc
          rcases Int.lt_or_le ((x : Int) / 4 + (x : Int) % 4 - (y : Int) / 4 - (y : Int) % 4) ((y : Int) / 4 + (y : Int) % 4 - (x : Int) / 4 - (x : Int) % 4) with hd | hd
          all_goals
            go_wp2
            refine wp_region_quiet_lit (by kernel_rfl) (by kernel_rfl) ?_
            simp only [List.append_eq, List.cons_append, List.nil_append]
            repeat (go_big_quiet_step ((go_at_call 46; exact Calls.quiet_of_same (hH.out _ (or.drewN _)))))
            refine wpQuiet_nil ?_
            intro _ hw'
            obtain ⟨nq, hw''⟩ := hw'
            subst hw''
            go_wp2
            go_roundw
            case rel => exact ⟨k + 1 + 1, by omega, by go_num, below_drewN HB.out _⟩
            case measure => simp [intOf]; omega
      · obtain rfl : k = 16 := by omega
        have b04' := b04.trans (hb.mono b04.size)
        clear o2 hb b04
        have hru := HRU.out.below b04'
        go_wp2_with fail
        refine (xDrawScanned _ _ _ _ _ hru hl).mono ?_
        rintro e W5 ⟨A5, n5, c5, l5, rfl, o5, hs5, b5⟩
        have b05 := b04'.trans (b5.mono b04'.size)
        have hl5 := o5.len
        have hn5 : n5 ≤ 64 := by unfold SqLen at hs5; omega
        clear hru b04' b5
        go_wp2_with fail
        refine (iScanned _ _ _ l5 _ o5.read (by omega)).mono ?_
        rintro e W6 ⟨A6, n6, c6, rfl, o6, b6⟩
        have o5 := o5.below b6
        have b06 := b05.trans (b6.mono b05.size)
        have hn6 : n6 ≤ 64 := by have e1 := o6.len; have e2 := scanned_le l5; omega
        clear b05 b6
        go_wp2_with fail
        refine (iPlaced _ _ _ (scanned l5) _ o6.read (by omega)).mono ?_
        rintro e W7 ⟨A7, n7, c7, rfl, o7, b7⟩
        have o5 := o5.below b7
        have b07 := b06.trans (b7.mono b06.size)
        clear b06 b7
        rcases hs5 with rfl | rfl | hs5
        · rw [plc_back l5 16 hl5 (by decide)] at o7
          obtain rfl : n7 = 16 := by have e7 := o7.len; omega
          clear o6
          go_wp2_with fail
          refine (sameInts_yes _ _ _ _ _ l5 _ o7.read o5.read (by omega)).mono ?_
          rintro e W8 ⟨rfl, b8⟩
          have o5 := o5.below b8
          have b08 := b07.trans (b8.mono b07.size)
          clear o7 b07 b8
          go_wp2_with fail
          refine (iPlaced _ _ _ l5 _ o5.read (by omega)).mono ?_
          rintro e W9 ⟨A9, n9, c9, rfl, o9, b9⟩
          have o5 := o5.below b9
          have b09 := b08.trans (b9.mono b08.size)
          have hn9 : n9 ≤ 64 := by have e1 := o9.len; have e2 := placed_le l5; omega
          clear b08 b9
          go_wp2_with fail
          refine (iScanned _ _ _ (placed l5) _ o9.read (by omega)).mono ?_
          rintro e W10 ⟨A10, n10, c10, rfl, o10, b10⟩
          have o5 := o5.below b10
          have b010 := b09.trans (b10.mono b09.size)
          rw [scn_back l5 16 hl5 (by decide)] at o10
          obtain rfl : n10 = 16 := by have e7 := o10.len; omega
          clear b09 b10 o9
          go_wp2_with fail
          refine (sameInts_yes _ _ _ _ _ l5 _ o10.read o5.read (by omega)).mono ?_
          rintro e W11 ⟨rfl, b11⟩
          have b011 := b010.trans (b11.mono b010.size)
          clear o5 o10 b010 b11
          go_wp2
          go_ret
          exact ⟨rfl, b011⟩
        · rw [plc_back l5 64 hl5 (by decide)] at o7
          obtain rfl : n7 = 64 := by have e7 := o7.len; omega
          clear o6
          go_wp2_with fail
          refine (sameInts_yes _ _ _ _ _ l5 _ o7.read o5.read (by omega)).mono ?_
          rintro e W8 ⟨rfl, b8⟩
          have o5 := o5.below b8
          have b08 := b07.trans (b8.mono b07.size)
          clear o7 b07 b8
          go_wp2_with fail
          refine (iPlaced _ _ _ l5 _ o5.read (by omega)).mono ?_
          rintro e W9 ⟨A9, n9, c9, rfl, o9, b9⟩
          have o5 := o5.below b9
          have b09 := b08.trans (b9.mono b08.size)
          have hn9 : n9 ≤ 64 := by have e1 := o9.len; have e2 := placed_le l5; omega
          clear b08 b9
          go_wp2_with fail
          refine (iScanned _ _ _ (placed l5) _ o9.read (by omega)).mono ?_
          rintro e W10 ⟨A10, n10, c10, rfl, o10, b10⟩
          have o5 := o5.below b10
          have b010 := b09.trans (b10.mono b09.size)
          rw [scn_back l5 64 hl5 (by decide)] at o10
          obtain rfl : n10 = 64 := by have e7 := o10.len; omega
          clear b09 b10 o9
          go_wp2_with fail
          refine (sameInts_yes _ _ _ _ _ l5 _ o10.read o5.read (by omega)).mono ?_
          rintro e W11 ⟨rfl, b11⟩
          have b011 := b010.trans (b11.mono b010.size)
          clear o5 o10 b010 b11
          go_wp2
          go_ret
          exact ⟨rfl, b011⟩
        · have e16 : ((n5 : Int) != 16) = true := by simp; omega
          have e64 : ((n5 : Int) != 64) = true := by simp; omega
          rw [plc_none l5 n5 hl5 (by omega) (by omega)] at o7
          obtain rfl : n7 = 0 := by have e7 := o7.len; simpa using e7.symm
          clear o5 o6 o7 hs5
          go_wp2
          go_ret
          exact ⟨rfl, b07⟩
  · -- n = 8
    go_wp2_with fail
    refine (iScan 8 _).mono ?_
    rintro e W2 ⟨A2, n2, c2, rfl, o2, b2⟩
    have b02 := b01.trans (b2.mono b01.size)
    obtain rfl : n2 = 64 := o2.len.symm.trans scan8_len
    clear b01 b2
    go_wp2_with fail
    refine (iSizeOk_yes 8 (by omega) _).mono ?_
    rintro e w' ⟨rfl, rfl⟩
    go_wp2_with fail
    refine (sScan 8 _).mono ?_
    rintro e W3 ⟨A3, n3, c3, rfl, o3, b3⟩
    have o2 := o2.below b3
    have b03 := b02.trans (b3.mono b02.size)
    obtain rfl : n3 = 64 := o3.len.symm.trans scan8_len
    clear b02 b3
    go_wp2_with fail
    refine (sameInts_yes _ _ _ _ _ _ _ o2.read o3.read (by omega)).mono ?_
    rintro e W4 ⟨rfl, b4⟩
    have b04 := b03.trans (b4.mono b03.size)
    have o2 := (o2.below b4).read
    clear o3 b03 b4
    go_wp2
    go_loopw [5] (fun i wr => ∃ k : Nat, k ≤ 64 ∧ i = .int .i64 (k : Int) ∧ Below W4.heap.size W4 wr) (fun i _ => 64 - (intOf i).toNat)
    case atStart => exact ⟨0, Nat.zero_le _, rfl, Below.refl _ _⟩
    case round =>
      obtain ⟨k, hk, rfl, hb⟩ := hrel
      by_cases hlt : k < 64
      · have hlti : (k : Int) < 64 := by omega
        have hk0i : (0 : Int) ≤ (k : Int) := by omega
        have or := o2.below hb
        obtain ⟨j, hj, hje⟩ := scanHas8 k hlt
        have hH := Lib.hid (fun W (hW : RI W A2 64 (scan 8)) => (has_yes A2 64 c2 (scan 8) (k : Int) j W hW hj hje (by omega)).mono (fun _ _ h => (⟨h.1, h.2.symm⟩ : _ ∧ _ = W)))
        clear hje
        rcases Nat.eq_zero_or_pos k with h0 | h0
        · subst h0
          have HO := Lib.hid o2
          have HB := Lib.hid hb
          clear o2 hb
          go_wp2
          refine wp_region_quiet_lit (by kernel_rfl) (by kernel_rfl) ?_
          simp only [List.append_eq, List.cons_append, List.nil_append]
          repeat (go_big_quiet_step ((go_at_call 46; exact Calls.quiet_of_same (hH.out _ (or.drewN _)))))
          refine wpQuiet_nil ?_
          intro _ hw'
          obtain ⟨nq, hw''⟩ := hw'
          subst hw''
          go_wp2
          go_roundw
          case rel => exact ⟨1, by omega, by go_num, below_drewN HB.out _⟩
          case measure => simp [intOf]
        · obtain ⟨k, rfl⟩ : ∃ q, k = q + 1 := ⟨k - 1, by omega⟩
          obtain ⟨b, off, e2, hbl, hc⟩ := or.at_ hlt
          have hc1 := hc (k + 1) hlt
          have hc0 := hc k (by omega)
          rw [(scanAt8 ⟨k + 1, hlt⟩).1] at hc1
          rw [(scanAt8 ⟨k, by omega⟩).1] at hc0
          have hadj := scanAdj8 ⟨k, by omega⟩
          obtain ⟨x, hx⟩ : ∃ x, x = scanAt 8 (k + 1) := ⟨_, rfl⟩
          obtain ⟨y, hy⟩ : ∃ y, y = scanAt 8 k := ⟨_, rfl⟩
          simp only at hadj hc1 hc0
          rw [← hx, ← hy] at hadj
          rw [← hx] at hc1
          rw [← hy] at hc0
          have hkk : (k : Int) + 1 - 1 = (k : Int) := by omega
          have hk00 : (0 : Int) ≤ (k : Int) := by omega
          have hxx : (0 : Int) ≤ (x : Int) := by omega
          have hyy : (0 : Int) ≤ (y : Int) := by omega
          subst e2
          have HO := Lib.hid o2
          have HB := Lib.hid hb
          clear o2 hb hx hy hc
          rcases Int.lt_or_le ((x : Int) / 8 + (x : Int) % 8 - (y : Int) / 8 - (y : Int) % 8) ((y : Int) / 8 + (y : Int) % 8 - (x : Int) / 8 - (x : Int) % 8) with hd | hd
          all_goals
            go_wp2
            refine wp_region_quiet_lit (by kernel_rfl) (by kernel_rfl) ?_
            simp only [List.append_eq, List.cons_append, List.nil_append]
            repeat (go_big_quiet_step ((go_at_call 46; exact Calls.quiet_of_same (hH.out _ (or.drewN _)))))
            refine wpQuiet_nil ?_
            intro _ hw'
            obtain ⟨nq, hw''⟩ := hw'
            subst hw''
            go_wp2
            go_roundw
            case rel => exact ⟨k + 1 + 1, by omega, by go_num, below_drewN HB.out _⟩
            case measure => simp [intOf]; omega
      · obtain rfl : k = 64 := by omega
        have b04' := b04.trans (hb.mono b04.size)
        clear o2 hb b04
        have hru := HRU.out.below b04'
        go_wp2_with fail
        refine (xDrawScanned _ _ _ _ _ hru hl).mono ?_
        rintro e W5 ⟨A5, n5, c5, l5, rfl, o5, hs5, b5⟩
        have b05 := b04'.trans (b5.mono b04'.size)
        have hl5 := o5.len
        have hn5 : n5 ≤ 64 := by unfold SqLen at hs5; omega
        clear hru b04' b5
        go_wp2_with fail
        refine (iScanned _ _ _ l5 _ o5.read (by omega)).mono ?_
        rintro e W6 ⟨A6, n6, c6, rfl, o6, b6⟩
        have o5 := o5.below b6
        have b06 := b05.trans (b6.mono b05.size)
        have hn6 : n6 ≤ 64 := by have e1 := o6.len; have e2 := scanned_le l5; omega
        clear b05 b6
        go_wp2_with fail
        refine (iPlaced _ _ _ (scanned l5) _ o6.read (by omega)).mono ?_
        rintro e W7 ⟨A7, n7, c7, rfl, o7, b7⟩
        have o5 := o5.below b7
        have b07 := b06.trans (b7.mono b06.size)
        clear b06 b7
        rcases hs5 with rfl | rfl | hs5
        · rw [plc_back l5 16 hl5 (by decide)] at o7
          obtain rfl : n7 = 16 := by have e7 := o7.len; omega
          clear o6
          go_wp2_with fail
          refine (sameInts_yes _ _ _ _ _ l5 _ o7.read o5.read (by omega)).mono ?_
          rintro e W8 ⟨rfl, b8⟩
          have o5 := o5.below b8
          have b08 := b07.trans (b8.mono b07.size)
          clear o7 b07 b8
          go_wp2_with fail
          refine (iPlaced _ _ _ l5 _ o5.read (by omega)).mono ?_
          rintro e W9 ⟨A9, n9, c9, rfl, o9, b9⟩
          have o5 := o5.below b9
          have b09 := b08.trans (b9.mono b08.size)
          have hn9 : n9 ≤ 64 := by have e1 := o9.len; have e2 := placed_le l5; omega
          clear b08 b9
          go_wp2_with fail
          refine (iScanned _ _ _ (placed l5) _ o9.read (by omega)).mono ?_
          rintro e W10 ⟨A10, n10, c10, rfl, o10, b10⟩
          have o5 := o5.below b10
          have b010 := b09.trans (b10.mono b09.size)
          rw [scn_back l5 16 hl5 (by decide)] at o10
          obtain rfl : n10 = 16 := by have e7 := o10.len; omega
          clear b09 b10 o9
          go_wp2_with fail
          refine (sameInts_yes _ _ _ _ _ l5 _ o10.read o5.read (by omega)).mono ?_
          rintro e W11 ⟨rfl, b11⟩
          have b011 := b010.trans (b11.mono b010.size)
          clear o5 o10 b010 b11
          go_wp2
          go_ret
          exact ⟨rfl, b011⟩
        · rw [plc_back l5 64 hl5 (by decide)] at o7
          obtain rfl : n7 = 64 := by have e7 := o7.len; omega
          clear o6
          go_wp2_with fail
          refine (sameInts_yes _ _ _ _ _ l5 _ o7.read o5.read (by omega)).mono ?_
          rintro e W8 ⟨rfl, b8⟩
          have o5 := o5.below b8
          have b08 := b07.trans (b8.mono b07.size)
          clear o7 b07 b8
          go_wp2_with fail
          refine (iPlaced _ _ _ l5 _ o5.read (by omega)).mono ?_
          rintro e W9 ⟨A9, n9, c9, rfl, o9, b9⟩
          have o5 := o5.below b9
          have b09 := b08.trans (b9.mono b08.size)
          have hn9 : n9 ≤ 64 := by have e1 := o9.len; have e2 := placed_le l5; omega
          clear b08 b9
          go_wp2_with fail
          refine (iScanned _ _ _ (placed l5) _ o9.read (by omega)).mono ?_
          rintro e W10 ⟨A10, n10, c10, rfl, o10, b10⟩
          have o5 := o5.below b10
          have b010 := b09.trans (b10.mono b09.size)
          rw [scn_back l5 64 hl5 (by decide)] at o10
          obtain rfl : n10 = 64 := by have e7 := o10.len; omega
          clear b09 b10 o9
          go_wp2_with fail
          refine (sameInts_yes _ _ _ _ _ l5 _ o10.read o5.read (by omega)).mono ?_
          rintro e W11 ⟨rfl, b11⟩
          have b011 := b010.trans (b11.mono b010.size)
          clear o5 o10 b010 b11
          go_wp2
          go_ret
          exact ⟨rfl, b011⟩
        · have e16 : ((n5 : Int) != 16) = true := by simp; omega
          have e64 : ((n5 : Int) != 64) = true := by simp; omega
          rw [plc_none l5 n5 hl5 (by omega) (by omega)] at o7
          obtain rfl : n7 = 0 := by have e7 := o7.len; simpa using e7.symm
          clear o5 o6 o7 hs5
          go_wp2
          go_ret
          exact ⟨rfl, b07⟩
  · have e4 : (x == 4) = false := by simp; omega
    have e8 : (x == 8) = false := by simp; omega
    have h4 : ¬ x = 4 := by omega
    have h8 : ¬ x = 8 := by omega
    have hsc := Lib.hid (scan_out x h4 h8)
    have hNo := Lib.hid (fun W => iSizeOk_no x h4 h8 W)
    clear h4 h8 hx
    go_wp2_with fail
    refine (iScan x _).mono ?_
    rintro e W2 ⟨A2, n2, c2, rfl, o2, b2⟩
    have b02 := b01.trans (b2.mono b01.size)
    rw [hsc.out] at o2
    obtain rfl : n2 = 0 := o2.len.symm
    clear b01 b2
    go_wp2_with fail
    refine (hNo.out _).mono ?_
    rintro e w' ⟨rfl, rfl⟩
    go_wp2_with fail
    refine (sScan x _).mono ?_
    rintro e W3 ⟨A3, n3, c3, rfl, o3, b3⟩
    have o2 := o2.below b3
    have b03 := b02.trans (b3.mono b02.size)
    rw [hsc.out] at o3
    obtain rfl : n3 = 0 := o3.len.symm
    clear b02 b3
    go_wp2_with fail
    refine (sameInts_yes _ _ _ _ _ _ _ o2.read o3.read (by omega)).mono ?_
    rintro e W4 ⟨rfl, b4⟩
    have b04' := b03.trans (b4.mono b03.size)
    clear o2 o3 b03 b4
    go_wp2
    refine wp_loop_rounds 1 ?_
    rw [rounds_succ]
    have hru := HRU.out.below b04'
    go_wp2_with fail
    refine (xDrawScanned _ _ _ _ _ hru hl).mono ?_
    rintro e W5 ⟨A5, n5, c5, l5, rfl, o5, hs5, b5⟩
    have b05 := b04'.trans (b5.mono b04'.size)
    have hl5 := o5.len
    have hn5 : n5 ≤ 64 := by unfold SqLen at hs5; omega
    clear hru b04' b5
    go_wp2_with fail
    refine (iScanned _ _ _ l5 _ o5.read (by omega)).mono ?_
    rintro e W6 ⟨A6, n6, c6, rfl, o6, b6⟩
    have o5 := o5.below b6
    have b06 := b05.trans (b6.mono b05.size)
    have hn6 : n6 ≤ 64 := by have e1 := o6.len; have e2 := scanned_le l5; omega
    clear b05 b6
    go_wp2_with fail
    refine (iPlaced _ _ _ (scanned l5) _ o6.read (by omega)).mono ?_
    rintro e W7 ⟨A7, n7, c7, rfl, o7, b7⟩
    have o5 := o5.below b7
    have b07 := b06.trans (b7.mono b06.size)
    clear b06 b7
    rcases hs5 with rfl | rfl | hs5
    · rw [plc_back l5 16 hl5 (by decide)] at o7
      obtain rfl : n7 = 16 := by have e7 := o7.len; omega
      clear o6
      go_wp2_with fail
      refine (sameInts_yes _ _ _ _ _ l5 _ o7.read o5.read (by omega)).mono ?_
      rintro e W8 ⟨rfl, b8⟩
      have o5 := o5.below b8
      have b08 := b07.trans (b8.mono b07.size)
      clear o7 b07 b8
      go_wp2_with fail
      refine (iPlaced _ _ _ l5 _ o5.read (by omega)).mono ?_
      rintro e W9 ⟨A9, n9, c9, rfl, o9, b9⟩
      have o5 := o5.below b9
      have b09 := b08.trans (b9.mono b08.size)
      have hn9 : n9 ≤ 64 := by have e1 := o9.len; have e2 := placed_le l5; omega
      clear b08 b9
      go_wp2_with fail
      refine (iScanned _ _ _ (placed l5) _ o9.read (by omega)).mono ?_
      rintro e W10 ⟨A10, n10, c10, rfl, o10, b10⟩
      have o5 := o5.below b10
      have b010 := b09.trans (b10.mono b09.size)
      rw [scn_back l5 16 hl5 (by decide)] at o10
      obtain rfl : n10 = 16 := by have e7 := o10.len; omega
      clear b09 b10 o9
      go_wp2_with fail
      refine (sameInts_yes _ _ _ _ _ l5 _ o10.read o5.read (by omega)).mono ?_
      rintro e W11 ⟨rfl, b11⟩
      have b011 := b010.trans (b11.mono b010.size)
      clear o5 o10 b010 b11
      go_wp2
      go_ret
      exact ⟨rfl, b011⟩
    · rw [plc_back l5 64 hl5 (by decide)] at o7
      obtain rfl : n7 = 64 := by have e7 := o7.len; omega
      clear o6
      go_wp2_with fail
      refine (sameInts_yes _ _ _ _ _ l5 _ o7.read o5.read (by omega)).mono ?_
      rintro e W8 ⟨rfl, b8⟩
      have o5 := o5.below b8
      have b08 := b07.trans (b8.mono b07.size)
      clear o7 b07 b8
      go_wp2_with fail
      refine (iPlaced _ _ _ l5 _ o5.read (by omega)).mono ?_
      rintro e W9 ⟨A9, n9, c9, rfl, o9, b9⟩
      have o5 := o5.below b9
      have b09 := b08.trans (b9.mono b08.size)
      have hn9 : n9 ≤ 64 := by have e1 := o9.len; have e2 := placed_le l5; omega
      clear b08 b9
      go_wp2_with fail
      refine (iScanned _ _ _ (placed l5) _ o9.read (by omega)).mono ?_
      rintro e W10 ⟨A10, n10, c10, rfl, o10, b10⟩
      have o5 := o5.below b10
      have b010 := b09.trans (b10.mono b09.size)
      rw [scn_back l5 64 hl5 (by decide)] at o10
      obtain rfl : n10 = 64 := by have e7 := o10.len; omega
      clear b09 b10 o9
      go_wp2_with fail
      refine (sameInts_yes _ _ _ _ _ l5 _ o10.read o5.read (by omega)).mono ?_
      rintro e W11 ⟨rfl, b11⟩
      have b011 := b010.trans (b11.mono b010.size)
      clear o5 o10 b010 b11
      go_wp2
      go_ret
      exact ⟨rfl, b011⟩
    · have e16 : ((n5 : Int) != 16) = true := by simp; omega
      have e64 : ((n5 : Int) != 64) = true := by simp; omega
      rw [plc_none l5 n5 hl5 (by omega) (by omega)] at o7
      obtain rfl : n7 = 0 := by have e7 := o7.len; simpa using e7.symm
      clear o5 o6 o7 hs5
      go_wp2
      go_ret
      exact ⟨rfl, b07⟩
theorem walk (a0 : Option Addr) (len0 cap0 : Nat) (z0 : List Int) (w : World) (w0 : IsRow .u8 w a0 len0 cap0 z0) :
    Calls Try.prog 12 #[.slice a0 len0 cap0] w fun e w' => e = .returned (.bool true) ∧ Below w.heap.size w w' := by
  by_cases hl : len0 ≤ 1048576
  · exact walkIn a0 len0 cap0 z0 w w0 hl
  · go_enter Try.func12, Try.ntmps12
    go_wp2_with fail
    refine (big_yes _ _ _ _ hl).mono ?_
    rintro e w' ⟨rfl, rfl⟩
    go_wp2
    go_ret
    exact ⟨rfl, Below.refl _ _⟩

set_option maxRecDepth 100000 in
theorem lifted (os : Os) (started : os.Started) (H : Type) (enc : TypeId × Value → H) :
    ReturnsInHanded {} Try.checked os 12 .any (Rows.fnScansSpec.pre6 enc Try.prog Try.f12 Rows.fnScansRow.domain false) (Rows.fnScansSpec.post enc Try.prog Try.f12 false true false false) := by
  refine returnsInHanded_of_change (C := Try.checked) own started (by kernel_rfl) Try.func12
    (ChangeSpec.witness6 (enc := enc) (C := Try.checked) false ⟨#[], #[.slice none 0 0], []⟩ 8 (by kernel_rfl) (by kernel_rfl) (by kernel_rfl) (by kernel_rfl)) ?_
  intro W base args ds gs before hval0 hW hcnd _
  have hval : ∀ (j : Nat) t v, Try.f12.params[j]? = some t → args[j]? = some v → Value.okWide Try.prog W .any base t v := hval0
  have hW' := hW
  obtain ⟨p, q, hA0, hV, rfl, hfz, hnd⟩ := hW
  have hA : DataW.TrodAll enc Try.prog W 0 (fun _ => true) true Try.f12.params.toList args.toList ds p := hA0
  rw [Try.params12] at hA hval
  obtain ⟨v0, vs0, d0, ds0, p0, q0, hargs, rfl, rfl, h0, r0⟩ := trodAll_cons hA
  obtain ⟨rfl, rfl, rfl⟩ := trodAll_nil r0
  obtain rfl : args = #[v0] := by cases args; simp_all
  obtain ⟨rfl, rfl⟩ := trodVars_none hV
  obtain ⟨a0, len0, cap0, rfl⟩ := okWide_slice Try.underlying41 (hval 0 41 v0 rfl rfl)
  have k0 := h0
  have lt0 : ∀ x ∈ p0, x.block < W.heap.size := by obtain ⟨m, hm⟩ := k0; exact DataW.trod_lt m _ _ _ hm
  obtain ⟨z0, w0⟩ : ∃ zs, IsRow .u8 W a0 len0 cap0 zs := by
    obtain ⟨fuel, hf⟩ := h0
    rcases open_ints Try.underlying41 Try.underlying5 (by kernel_rfl) hf with ⟨hcs, _⟩ | ⟨x, l, c, zs, hcs, _, hl, hm, hz, _, hcell, hwz⟩
    · simp [Value.cells] at hcs
      obtain ⟨rfl, rfl, rfl⟩ := hcs
      exact ⟨[], .inl ⟨rfl, rfl, rfl, rfl⟩⟩
    · simp [Value.cells] at hcs
      obtain ⟨rfl, rfl, rfl⟩ := hcs
      exact ⟨zs, .inr ⟨_, rfl, hl, hm, by simpa using hz, hcell, hwz⟩⟩
  clear hA0 hval0
  refine (walk a0 len0 cap0 z0 W w0).mono fun e W' ⟨he, bel⟩ => ?_
  subst he
  simp only [List.append_nil] at hW'
  exact ⟨_, rfl, _, _, _, [], _, [], hW', trodAll_mk1 (shut_bool Try.underlying4 _), (trodAll_cons_mk (Below.trod laidOut (by kernel_rfl) (of_decide_eq_true (by kernel_rfl)) k0 bel lt0) trodAll_mk0), rfl, bel.frame _, fun h => by cases h⟩

theorem proved : Rows.FnScansSaid :=
  OpenClaim.holds_of_wide 12 Try.f12 rfl rfl rfl rfl rfl rfl rfl ⟨rfl, rfl, rfl, rfl, rfl⟩ rfl rfl rfl rfl rfl (by kernel_rfl) Try.func12 (by kernel_rfl)
    (of_decide_eq_true (by kernel_rfl)) (by unfold Func.isWrapper; first | (rw [if_pos (by decide +kernel)]; kernel_rfl) | (rw [if_neg (by decide +kernel)]; exact ⟨rfl, rfl⟩))
    (fun os started H enc _ => lifted os started H enc)

end Go.Proofs.Ytcjodaoeoifbcaa.fnScans
