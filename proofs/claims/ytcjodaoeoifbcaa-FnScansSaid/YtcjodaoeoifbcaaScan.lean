/-
  ScanOrder, the reference's and the program's: both return 'scan n'. No condition.
-/
import Derived.Test.YtcjodaoeoifbcaaInts
import Derived.Test.YtcjodaoeoifbcaaScanLaw
namespace Go.Proofs.Ytcjodaoeoifbcaa
open Go.ChangeShapes Go.WideShapes Go.ChangeAt Go.RowKit
set_option linter.unusedVariables false
theorem sSizeOk_yes (n : Int) (h : n = 4 ∨ n = 8) (w : World) : Calls Try.prog 59 #[.int .i64 n] w fun e w' => e = .returned (.bool true) ∧ w = w' := by
  rcases h with rfl | rfl
  all_goals
    go_enter Try.func59, Try.ntmps59
    go_wp2
    go_ret
    exact ⟨rfl, rfl⟩
theorem sSizeOk_no (n : Int) (h4 : ¬ n = 4) (h8 : ¬ n = 8) (w : World) : Calls Try.prog 59 #[.int .i64 n] w fun e w' => e = .returned (.bool false) ∧ w = w' := by
  have e4 : (n == 4) = false := by simpa using h4
  have e8 : (n == 8) = false := by simpa using h8
  clear h4 h8
  go_enter Try.func59, Try.ntmps59
  go_wp2
  go_ret
  exact ⟨rfl, rfl⟩
theorem iSizeOk_yes (n : Int) (h : n = 4 ∨ n = 8) (w : World) : Calls Try.prog 44 #[.int .i64 n] w fun e w' => e = .returned (.bool true) ∧ w = w' := by
  rcases h with rfl | rfl
  all_goals
    go_enter Try.func44, Try.ntmps44
    go_wp2
    go_ret
    exact ⟨rfl, rfl⟩
theorem iSizeOk_no (n : Int) (h4 : ¬ n = 4) (h8 : ¬ n = 8) (w : World) : Calls Try.prog 44 #[.int .i64 n] w fun e w' => e = .returned (.bool false) ∧ w = w' := by
  have e4 : (n == 4) = false := by simpa using h4
  have e8 : (n == 8) = false := by simpa using h8
  clear h4 h8
  go_enter Try.func44, Try.ntmps44
  go_wp2
  go_ret
  exact ⟨rfl, rfl⟩
set_option maxRecDepth 100000 in
theorem sScan_in (n : Nat) (hn : n = 4 ∨ n = 8) (w : World) :
    Calls Try.prog 19 #[.int .i64 (n : Int)] w fun e w' => ∃ A' n' c', e = .returned (.slice A' n' c') ∧ OB w' w.heap.size w'.heap.size A' n' c' (scan (n : Int)) ∧ Below w.heap.size w w' := by
  have hE := Lib.hid (scan_of n hn)
  have hY := Lib.hid (sSizeOk_yes (n : Int) (by omega))
  have hn4 : 4 ≤ n := by omega
  have hn8 : n ≤ 8 := by omega
  clear hn
  go_enter Try.func19, Try.ntmps19
  go_wp2
  go_loopw [3, 4] (fun v i wr => ∃ d m : Nat, (d : Int) ≤ 2 * (n : Int) - 1 ∧ m ≤ 16 * d ∧ i = .int .i64 (d : Int) ∧ wr.ownsRow w.heap.size 3 1 v m ((scanTo n d).map (Value.int .i64)) ∧ Below w.heap.size w wr) (fun _ i _ => (2 * (n : Int) - 1 - intOf i).toNat)
  case atStart => exact ⟨0, 0, by omega, by omega, rfl, World.ownsRow_made _ #[] 0 (Nat.le_refl _) (by decide) rfl, (Below.refl _ _).alloc (Nat.le_refl _) _⟩
  case round =>
    obtain ⟨d, m, hd, hm, rfl, hown, hb⟩ := hrel
    by_cases hlt : (d : Int) < 2 * (n : Int) - 1
    · have hS := Lib.hid (scanTo_succ n d)
      have h0 : (scanTo n d) = scanTo n d ++ diag n d 0 := by simp [diag]
      rw [h0] at hown
      clear h0
      go_wp2_with (first
        | (go_at_call 59; refine (hY.out _).mono ?_; rintro e w' ⟨rfl, rfl⟩))
      go_loopw [3, 5] (fun v i wr => ∃ k m : Nat, k ≤ d + 1 ∧ m ≤ 16 * d + k ∧ i = .int .i64 (k : Int) ∧ wr.ownsRow w.heap.size 3 1 v m ((scanTo n d ++ diag n d k).map (Value.int .i64)) ∧ Below w.heap.size w wr) (fun _ i _ => ((d : Int) + 1 - intOf i).toNat)
      case atStart => exact ⟨0, m, by omega, by omega, rfl, hown, hb⟩
      case round =>
        clear hown hb hm
        obtain ⟨k, m, hk, hm, rfl, hown, hb⟩ := hrel
        by_cases hkd : k ≤ d
        · have hkd' : (k : Int) ≤ (d : Int) := by omega
          have hl2 : Small m := small_of (by omega)
          have hs := diag_succ n d k
          by_cases hp : (d : Int) % 2 = 0
          · have hh := spot_hit n d k ((d : Int) - k) k (by rw [if_pos (by omega)]) (by omega)
            have hmiss := spot_miss n d k ((d : Int) - k) k (by rw [if_pos (by omega)]) (by omega)
            by_cases h1 : (d : Int) - k < n
            · by_cases h2 : (k : Int) < n
              · have hT := Lib.hid (hh h1 h2)
                have hs := Lib.hid hs
                have hbd := mul_bd8 (k : Int) (n : Int) (by omega) (by omega) (by omega) (by omega)
                clear hh hmiss
                go_wp2_with (first
                  | (at_builtin; refine wpList_app_i64 rfl (.tmp 50) (.tmp 56) rfl _ m _ rfl hown hb rfl hl2 ?_; intro g cap w1 hown1 hb1 _))
                go_roundw
                case rel => exact ⟨k + 1, m + 1, by omega, by omega, by go_num, by rw [hs.out, hT.out, ← List.append_assoc]; exact hown1, hb1⟩
                case measure => simp [intOf]; omega
              · rw [hmiss (by omega), List.append_nil] at hs
                have hs := Lib.hid hs
                clear hh hmiss
                go_wp2
                go_roundw
                case rel => exact ⟨k + 1, m, by omega, by omega, by go_num, by rw [hs.out]; exact hown, hb⟩
                case measure => simp [intOf]; omega
            · rw [hmiss (by omega), List.append_nil] at hs
              have hs := Lib.hid hs
              clear hh hmiss
              go_wp2
              go_roundw
              case rel => exact ⟨k + 1, m, by omega, by omega, by go_num, by rw [hs.out]; exact hown, hb⟩
              case measure => simp [intOf]; omega
          · have hh := spot_hit n d k k ((d : Int) - k) (by rw [if_neg (by omega)]) rfl
            have hmiss := spot_miss n d k k ((d : Int) - k) (by rw [if_neg (by omega)]) rfl
            have hp1 : (d : Int) % 2 = 1 := by omega
            have hpf : ((d : Int) % 2 == 0) = false := by rw [hp1]; rfl
            clear hp hp1
            by_cases h1 : (k : Int) < n
            · by_cases h2 : (d : Int) - k < n
              · have hT := Lib.hid (hh h1 h2)
                have hs := Lib.hid hs
                have hbd := mul_bd8 ((d : Int) - k) (n : Int) (by omega) (by omega) (by omega) (by omega)
                clear hh hmiss
                go_wp2_with (first
                  | (at_builtin; refine wpList_app_i64 rfl (.tmp 50) (.tmp 56) rfl _ m _ rfl hown hb rfl hl2 ?_; intro g cap w1 hown1 hb1 _))
                go_roundw
                case rel => exact ⟨k + 1, m + 1, by omega, by omega, by go_num, by rw [hs.out, hT.out, ← List.append_assoc]; exact hown1, hb1⟩
                case measure => simp [intOf]; omega
              · rw [hmiss (by omega), List.append_nil] at hs
                have hs := Lib.hid hs
                clear hh hmiss
                go_wp2
                go_roundw
                case rel => exact ⟨k + 1, m, by omega, by omega, by go_num, by rw [hs.out]; exact hown, hb⟩
                case measure => simp [intOf]; omega
            · rw [hmiss (by omega), List.append_nil] at hs
              have hs := Lib.hid hs
              clear hh hmiss
              go_wp2
              go_roundw
              case rel => exact ⟨k + 1, m, by omega, by omega, by go_num, by rw [hs.out]; exact hown, hb⟩
              case measure => simp [intOf]; omega
        · obtain rfl : k = d + 1 := by omega
          have hkd' : (d : Int) < ((d + 1 : Nat) : Int) := by omega
          go_wp2
          go_roundw
          case rel => exact ⟨d + 1, m, by omega, by omega, by go_num, by rw [hS.out]; exact hown, hb⟩
          case measure => simp [intOf]; omega
    · have hde : d = 2 * n - 1 := by omega
      obtain ⟨a, c', hv⟩ := owns_shape hown
      subst hv
      rw [hde, ← hE.out] at hown
      clear hde
      go_wp2
      go_ret
      exact ⟨a, m, c', rfl, OB.new hown, hb⟩
theorem sScan_out (n : Int) (h4 : ¬ n = 4) (h8 : ¬ n = 8) (w : World) :
    Calls Try.prog 19 #[.int .i64 n] w fun e w' => ∃ A' n' c', e = .returned (.slice A' n' c') ∧ OB w' w.heap.size w'.heap.size A' n' c' (scan n) ∧ Below w.heap.size w w' := by
  rw [scan_out n h4 h8]
  have hN := Lib.hid (sSizeOk_no n h4 h8)
  clear h4 h8
  go_enter Try.func19, Try.ntmps19
  go_wp2
  go_loopw [3, 4] (fun v i wr => v = .slice (some ⟨w.heap.size, 0, none⟩) 0 0 ∧ i = .int .i64 0 ∧ wr = w.alloc (.cells #[] 3)) (fun _ i _ => 0)
  case atStart => exact ⟨rfl, rfl, rfl⟩
  case round =>
    obtain ⟨rfl, rfl, rfl⟩ := hrel
    go_wp2_with (first
      | (go_at_call 59; refine (hN.out _).mono ?_; rintro e w' ⟨rfl, rfl⟩))
    all_goals
      go_ret
      exact ⟨_, _, _, rfl, OB.new (World.ownsRow_made w #[] 0 (Nat.le_refl _) (by decide) rfl), by go_grown⟩
theorem sScan (n : Int) (w : World) :
    Calls Try.prog 19 #[.int .i64 n] w fun e w' => ∃ A' n' c', e = .returned (.slice A' n' c') ∧ OB w' w.heap.size w'.heap.size A' n' c' (scan n) ∧ Below w.heap.size w w' := by
  by_cases h4 : n = 4
  · subst h4; exact sScan_in 4 (Or.inl rfl) w
  · by_cases h8 : n = 8
    · subst h8; exact sScan_in 8 (Or.inr rfl) w
    · exact sScan_out n h4 h8 w
set_option maxRecDepth 100000 in
theorem iScan_in (n : Nat) (hn : n = 4 ∨ n = 8) (w : World) :
    Calls Try.prog 20 #[.int .i64 (n : Int)] w fun e w' => ∃ A' n' c', e = .returned (.slice A' n' c') ∧ OB w' w.heap.size w'.heap.size A' n' c' (scan (n : Int)) ∧ Below w.heap.size w w' := by
  have hE := Lib.hid (scan_of n hn)
  have hY := Lib.hid (iSizeOk_yes (n : Int) (by omega))
  have hn4 : 4 ≤ n := by omega
  have hn8 : n ≤ 8 := by omega
  clear hn
  go_enter Try.func20, Try.ntmps20
  go_wp2_with (first
    | (go_at_call 44; refine (hY.out _).mono ?_; rintro e w' ⟨rfl, rfl⟩))
  go_loopw [3, 15] (fun v i wr => ∃ d m : Nat, (d : Int) ≤ 2 * (n : Int) - 1 ∧ m ≤ 16 * d ∧ i = .int .i64 (d : Int) ∧ wr.ownsRow w.heap.size 3 1 v m ((scanTo n d).map (Value.int .i64)) ∧ Below w.heap.size w wr) (fun _ i _ => (2 * (n : Int) - 1 - intOf i).toNat)
  case atStart => exact ⟨0, 0, by omega, by omega, rfl, World.ownsRow_made _ #[] 0 (Nat.le_refl _) (by decide) rfl, (Below.refl _ _).alloc (Nat.le_refl _) _⟩
  case round =>
    obtain ⟨d, m, hd, hm, rfl, hown, hb⟩ := hrel
    by_cases hlt : (d : Int) < 2 * (n : Int) - 1
    · have hS := Lib.hid (scanTo_succ n d)
      have h0 : (scanTo n d) = scanTo n d ++ diag n d 0 := by simp [diag]
      rw [h0] at hown
      clear h0
      go_wp2
      go_loopw [3, 20] (fun v i wr => ∃ k m : Nat, k ≤ d + 1 ∧ m ≤ 16 * d + k ∧ i = .int .i64 (k : Int) ∧ wr.ownsRow w.heap.size 3 1 v m ((scanTo n d ++ diag n d k).map (Value.int .i64)) ∧ Below w.heap.size w wr) (fun _ i _ => ((d : Int) + 1 - intOf i).toNat)
      case atStart => exact ⟨0, m, by omega, by omega, rfl, hown, hb⟩
      case round =>
        clear hown hb hm
        obtain ⟨k, m, hk, hm, rfl, hown, hb⟩ := hrel
        by_cases hkd : k ≤ d
        · have hkd' : (k : Int) ≤ (d : Int) := by omega
          have hl2 : Small m := small_of (by omega)
          have hs := diag_succ n d k
          by_cases hp : (d : Int) % 2 = 0
          · have hh := spot_hit n d k ((d : Int) - k) k (by rw [if_pos (by omega)]) (by omega)
            have hmiss := spot_miss n d k ((d : Int) - k) k (by rw [if_pos (by omega)]) (by omega)
            by_cases h1 : (d : Int) - k < n
            · by_cases h2 : (k : Int) < n
              · have hT := Lib.hid (spot_hit n d k ((d : Int) - k) ((d : Int) - ((d : Int) - k)) (by rw [if_pos (by omega)]) rfl h1 (by omega))
                have hs := Lib.hid hs
                have hbd := mul_bd8 ((d : Int) - ((d : Int) - k)) (n : Int) (by omega) (by omega) (by omega) (by omega)
                clear hh hmiss
                go_wp2_with (first
                  | (at_builtin; refine wpList_app_i64 rfl (.tmp 41) (.tmp 47) rfl _ m _ rfl hown hb rfl hl2 ?_; intro g cap w1 hown1 hb1 _))
                go_roundw
                case rel => exact ⟨k + 1, m + 1, by omega, by omega, by go_num, by rw [hs.out, hT.out, ← List.append_assoc]; exact hown1, hb1⟩
                case measure => simp [intOf]; omega
              · rw [hmiss (by omega), List.append_nil] at hs
                have hs := Lib.hid hs
                clear hh hmiss
                go_wp2
                go_roundw
                case rel => exact ⟨k + 1, m, by omega, by omega, by go_num, by rw [hs.out]; exact hown, hb⟩
                case measure => simp [intOf]; omega
            · rw [hmiss (by omega), List.append_nil] at hs
              have hs := Lib.hid hs
              clear hh hmiss
              go_wp2
              go_roundw
              case rel => exact ⟨k + 1, m, by omega, by omega, by go_num, by rw [hs.out]; exact hown, hb⟩
              case measure => simp [intOf]; omega
          · have hh := spot_hit n d k k ((d : Int) - k) (by rw [if_neg (by omega)]) rfl
            have hmiss := spot_miss n d k k ((d : Int) - k) (by rw [if_neg (by omega)]) rfl
            have hp1 : (d : Int) % 2 = 1 := by omega
            have hpf : ((d : Int) % 2 == 0) = false := by rw [hp1]; rfl
            clear hp hp1
            by_cases h1 : (k : Int) < n
            · by_cases h2 : (d : Int) - k < n
              · have hT := Lib.hid (hh h1 h2)
                have hs := Lib.hid hs
                have hbd := mul_bd8 ((d : Int) - k) (n : Int) (by omega) (by omega) (by omega) (by omega)
                clear hh hmiss
                go_wp2_with (first
                  | (at_builtin; refine wpList_app_i64 rfl (.tmp 41) (.tmp 47) rfl _ m _ rfl hown hb rfl hl2 ?_; intro g cap w1 hown1 hb1 _))
                go_roundw
                case rel => exact ⟨k + 1, m + 1, by omega, by omega, by go_num, by rw [hs.out, hT.out, ← List.append_assoc]; exact hown1, hb1⟩
                case measure => simp [intOf]; omega
              · rw [hmiss (by omega), List.append_nil] at hs
                have hs := Lib.hid hs
                clear hh hmiss
                go_wp2
                go_roundw
                case rel => exact ⟨k + 1, m, by omega, by omega, by go_num, by rw [hs.out]; exact hown, hb⟩
                case measure => simp [intOf]; omega
            · rw [hmiss (by omega), List.append_nil] at hs
              have hs := Lib.hid hs
              clear hh hmiss
              go_wp2
              go_roundw
              case rel => exact ⟨k + 1, m, by omega, by omega, by go_num, by rw [hs.out]; exact hown, hb⟩
              case measure => simp [intOf]; omega
        · obtain rfl : k = d + 1 := by omega
          have hkd' : (d : Int) < ((d + 1 : Nat) : Int) := by omega
          go_wp2
          go_roundw
          case rel => exact ⟨d + 1, m, by omega, by omega, by go_num, by rw [hS.out]; exact hown, hb⟩
          case measure => simp [intOf]; omega
    · have hde : d = 2 * n - 1 := by omega
      obtain ⟨a, c', hv⟩ := owns_shape hown
      subst hv
      rw [hde, ← hE.out] at hown
      clear hde
      go_wp2
      go_ret
      exact ⟨a, m, c', rfl, OB.new hown, hb⟩
theorem iScan_out (n : Int) (h4 : ¬ n = 4) (h8 : ¬ n = 8) (w : World) :
    Calls Try.prog 20 #[.int .i64 n] w fun e w' => ∃ A' n' c', e = .returned (.slice A' n' c') ∧ OB w' w.heap.size w'.heap.size A' n' c' (scan n) ∧ Below w.heap.size w w' := by
  rw [scan_out n h4 h8]
  have hN := Lib.hid (iSizeOk_no n h4 h8)
  clear h4 h8
  go_enter Try.func20, Try.ntmps20
  go_wp2_with (first
    | (go_at_call 44; refine (hN.out _).mono ?_; rintro e w' ⟨rfl, rfl⟩))
  go_ret
  exact ⟨_, _, _, rfl, ⟨World.ownsRow_nil _ _ _ _, fun k hk => by simp [Value.ownBlock] at hk⟩, Below.refl _ _⟩
theorem iScan (n : Int) (w : World) :
    Calls Try.prog 20 #[.int .i64 n] w fun e w' => ∃ A' n' c', e = .returned (.slice A' n' c') ∧ OB w' w.heap.size w'.heap.size A' n' c' (scan n) ∧ Below w.heap.size w w' := by
  by_cases h4 : n = 4
  · subst h4; exact iScan_in 4 (Or.inl rfl) w
  · by_cases h8 : n = 8
    · subst h8; exact iScan_in 8 (Or.inr rfl) w
    · exact iScan_out n h4 h8 w
theorem sScanOrder (n : Int) (w : World) (_ : (Lit.int .i64 n).wf = true) : Calls Try.prog 19 #[.int .i64 n] w fun e w' => ∃ A' n' c', e = .returned (.slice A' n' c') ∧ OB w' w.heap.size w'.heap.size A' n' c' (scan n) ∧ Below w.heap.size w w' := sScan n w
theorem iScanOrder (n : Int) (w : World) (_ : (Lit.int .i64 n).wf = true) : Calls Try.prog 20 #[.int .i64 n] w fun e w' => ∃ A' n' c', e = .returned (.slice A' n' c') ∧ OB w' w.heap.size w'.heap.size A' n' c' (scan n) ∧ Below w.heap.size w w' := iScan n w
end Go.Proofs.Ytcjodaoeoifbcaa
