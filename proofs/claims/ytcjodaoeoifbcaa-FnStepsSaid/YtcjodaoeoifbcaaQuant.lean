/-
  Quantized, the reference's and the program's: both return 'quantized'. No condition but at most 2^20 numbers.
-/
import Derived.Test.YtcjodaoeoifbcaaSide
import Derived.Test.YtcjodaoeoifbcaaGrow
import Derived.Test.YtcjodaoeoifbcaaStepOf
import Derived.Test.YtcjodaoeoifbcaaQuantLaw
namespace Go.Proofs.Ytcjodaoeoifbcaa
open Go.ChangeShapes Go.WideShapes Go.ChangeAt Go.RowKit
set_option linter.unusedVariables false
theorem map_take_snocQ (f : Int → Int) (zs : List Int) (k : Nat) (h : k < zs.length) : (zs.take (k + 1)).map f = (zs.take k).map f ++ [f (zs.getD k 0)] := by rw [take_snoc_l zs k h, List.map_append]; rfl
theorem side_splitQ (n : Nat) : (n = 16 ∧ side n = 4 ∨ n = 64 ∧ side n = 8) ∨ side n = 0 := by
  unfold side
  split
  · exact Or.inl (Or.inl ⟨by assumption, rfl⟩)
  · split
    · exact Or.inl (Or.inr ⟨by assumption, rfl⟩)
    · exact Or.inr rfl
theorem clamp_ways (x : Int) : (x ≤ -1000000 ∧ Hid (clampM x = -1000000)) ∨ ((-1000000 < x ∧ x < 1000000) ∧ Hid (clampM x = x)) ∨ (1000000 ≤ x ∧ Hid (clampM x = 1000000)) := by
  rcases (show x ≤ -1000000 ∨ (-1000000 < x ∧ x < 1000000) ∨ 1000000 ≤ x from by omega) with h | h | h
  · exact Or.inl ⟨h, Lib.hid (by unfold clampM; omega)⟩
  · exact Or.inr (Or.inl ⟨h, Lib.hid (by unfold clampM; omega)⟩)
  · exact Or.inr (Or.inr ⟨h, Lib.hid (by unfold clampM; omega)⟩)
theorem lim_ways {y u : Int} (h : y = max (-16383) (min u 16383)) : (u ≤ -16383 ∧ y = -16383) ∨ ((-16383 < u ∧ u < 16383) ∧ y = u) ∨ (16383 ≤ u ∧ y = 16383) := by omega
theorem sNear (v st : Int) (w : World) (hv : -1000000 ≤ v ∧ v ≤ 1000000) (hs : 1 ≤ st) (hs1 : st ≤ 1000) :
    Calls Try.prog 63 #[.int .i64 v, .int .i64 st] w fun e w' => e = .returned (.int .i64 (near v st)) ∧ w = w' := by
  by_cases h : v < 0
  · have e : nearP (-v) st = (-v * 2 + st) / (2 * st) := by unfold nearP; rw [Int.mul_comm 2 (-v)]
    have hb := nearP_bd (-v) st (by omega) (by omega) hs hs1
    have hE : Hid (near v st = -((-v * 2 + st) / (2 * st))) := by show near v st = _; unfold near; rw [if_pos h, e]
    rw [e] at hb
    clear e
    go_enter Try.func63, Try.ntmps63
    go_wp2
    go_ret
    exact ⟨ret_int (by rw [hE.out]), rfl⟩
  · have e : nearP v st = (v * 2 + st) / (2 * st) := by unfold nearP; rw [Int.mul_comm 2 v]
    have hb := nearP_bd v st (by omega) (by omega) hs hs1
    have hE : Hid (near v st = (v * 2 + st) / (2 * st)) := by show near v st = _; unfold near; rw [if_neg h, e]
    rw [e] at hb
    clear e
    go_enter Try.func63, Try.ntmps63
    go_wp2
    go_ret
    exact ⟨ret_int (by rw [hE.out]), rfl⟩
set_option maxRecDepth 100000 in
theorem sQuantized_in (A : Option Addr) (n c : Nat) (zs : List Int) (q : Int) (w : World) (h : RI w A n zs) (hns : n = 16 ∧ side n = 4 ∨ n = 64 ∧ side n = 8) (hq : 0 < stepOf q) :
    Calls Try.prog 25 #[.slice A n c, .int .i64 q] w fun e w' => ∃ A' n' c', e = .returned (.slice A' n' c') ∧ OB w' w.heap.size w'.heap.size A' n' c' (zs.map (quant (stepOf q))) ∧ Below w.heap.size w w' := by
  have hs0 : 0 < side n := by omega
  have hS : Hid (∀ W, Calls Try.prog 56 #[.slice A n c] W fun e w' => e = .returned (.int .i64 (side n)) ∧ W = w') := sSide A n c
  have hlen := h.len
  obtain ⟨st, hst⟩ : ∃ st, st = stepOf q := ⟨_, rfl⟩
  have hstb := stepOf_range q
  have hQ : Hid (∀ W, Calls Try.prog 52 #[.int .i64 q] W fun e w' => e = .returned (.int .i64 st) ∧ Below W.heap.size W w') := by rw [hst]; exact sStepOf q
  rw [← hst] at hstb hq ⊢
  obtain ⟨sd, hsd⟩ : ∃ sd, sd = side n := ⟨_, rfl⟩
  rw [← hsd] at hs0 hS
  clear hst hsd
  have hn64 : n ≤ 64 := by omega
  clear hns
  go_enter Try.func25, Try.ntmps25
  go_wp2
  go_loopw [5, 6] (fun v i wr => ∃ k : Nat, k ≤ n ∧ i = .int .i64 (k : Int) ∧ wr.ownsRow w.heap.size 3 1 v k (((zs.take k).map (quant st)).map (Value.int .i64)) ∧ Below w.heap.size w wr) (fun _ i _ => (n - intOf i).toNat)
  case atStart => exact ⟨0, Nat.zero_le _, rfl, World.ownsRow_made _ #[] 0 (Nat.le_refl _) (by decide) rfl, (Below.refl _ _).alloc (Nat.le_refl _) _⟩
  case round =>
    obtain ⟨k, hk, rfl, hown, hb⟩ := hrel
    by_cases hlt : k < n
    · have hlti : (k : Int) < (n : Int) := by omega
      obtain ⟨b, off, rfl, hbl, hc⟩ := h.at_ hlt
      have hT := Lib.hid (map_take_snocQ (quant st) zs k (by omega))
      have hc1 := hc k hlt
      obtain ⟨x, hx⟩ : ∃ x, x = zs.getD k 0 := ⟨_, rfl⟩
      rw [← hx] at hc1 hT
      have hl2 : Small k := small_of (by omega)
      obtain ⟨L, hL⟩ : ∃ L, L = (zs.take k).map (quant st) := ⟨_, rfl⟩
      rw [← hL] at hown hT
      have H := Lib.hid h
      have HL := Lib.hid hlen
      clear hx hc h hL hlen
      rcases (show (x ≤ -1000000 ∧ Hid (clampM x = -1000000)) ∨ ((-1000000 < x ∧ x < 1000000) ∧ Hid (clampM x = x)) ∨ (1000000 ≤ x ∧ Hid (clampM x = 1000000)) from clamp_ways x) with ⟨hx, HC⟩ | ⟨hx, HC⟩ | ⟨hx, HC⟩
      all_goals
        go_wp2_with fail
        refine (hS.out _).mono ?_
        rintro e w' ⟨rfl, rfl⟩
        go_wp2_with fail
        refine (hQ.out _).mono ?_
        rintro e w1 ⟨rfl, b1⟩
        have hb1 := hb.trans (b1.mono hb.size)
        have hown1 := owns_below hown b1
        have hsrc := (hb1.cell (p := ⟨b, off + k, none⟩) hbl).trans hc1
        clear hb hown b1
        go_wp2_with fail
        refine (hQ.out _).mono ?_
        rintro e w2 ⟨rfl, b2⟩
        have hb2 := hb1.trans (b2.mono hb1.size)
        have hown2 := owns_below hown1 b2
        have hB2 := hb2.size
        clear hown1 b2 hsrc
        go_wp2_with fail
        refine (sNear _ st _ (by omega) (by omega) (by omega)).mono ?_
        rintro e w' ⟨rfl, rfl⟩
        obtain ⟨y, hy⟩ : ∃ y, y = max (-16383) (min (near (clampM x) st) 16383) := ⟨_, rfl⟩
        have HY : Hid (quant st x = y) := by rw [hy]; exact rfl
        rw [HC.out] at hy
        rcases (show (near _ st ≤ -16383 ∧ y = -16383) ∨ ((-16383 < near _ st ∧ near _ st < 16383) ∧ y = near _ st) ∨ (16383 ≤ near _ st ∧ y = 16383) from lim_ways hy) with ⟨hz, hy2⟩ | ⟨hz, hy2⟩ | ⟨hz, hy2⟩
        all_goals
          subst hy2
          clear hy
          go_wp2_with (first
            | (at_builtin; refine wpList_app_g rfl (.tmp 31) (.tmp 38) rfl _ k L rfl hown2 hB2 rfl hl2 ?_; intro g cap w3 hown3 hg3 hp3))
          go_roundw
          case rel => exact ⟨k + 1, by omega, by go_num, by rw [hT.out, HY.out]; exact hown3, hb2.grown hg3 hB2 (fun g hg => (hown2.lt g hg).1)⟩
          case measure => simp [intOf]; omega
    · obtain rfl : k = n := by omega
      obtain ⟨a, c', hv⟩ := owns_shape hown
      subst hv
      rw [List.take_of_length_le (by omega)] at hown
      go_wp2
      go_ret
      exact ⟨a, _, c', rfl, OB.new hown, hb⟩
theorem stepOf_zero (q : Int) (h : ¬ 0 < stepOf q) : stepOf q = 0 := by have := stepOf_range q; omega
set_option maxRecDepth 100000 in
theorem sQuantized_out (A : Option Addr) (n c : Nat) (q : Int) (w : World) (h : side n = 0 ∨ stepOf q = 0) :
    Calls Try.prog 25 #[.slice A n c, .int .i64 q] w fun e w' => ∃ A' n' c', e = .returned (.slice A' n' c') ∧ OB w' w.heap.size w'.heap.size A' n' c' [] ∧ Below w.heap.size w w' := by
  have hS : Hid (∀ W, Calls Try.prog 56 #[.slice A n c] W fun e w' => e = .returned (.int .i64 (side n)) ∧ W = w') := sSide A n c
  have hQ : Hid (∀ W, Calls Try.prog 52 #[.int .i64 q] W fun e w' => e = .returned (.int .i64 (stepOf q)) ∧ Below W.heap.size W w') := sStepOf q
  obtain ⟨sd, hsd⟩ : ∃ sd, sd = side n := ⟨_, rfl⟩
  obtain ⟨st, hst⟩ : ∃ st, st = stepOf q := ⟨_, rfl⟩
  rw [← hsd] at hS h
  rw [← hst] at hQ h
  clear hsd hst
  have ow : OB (w.alloc (.cells #[] 3)) w.heap.size (w.alloc (.cells #[] 3)).heap.size (some ⟨w.heap.size, 0, none⟩) 0 0 [] := OB.new (World.ownsRow_made w #[] 0 (Nat.le_refl _) (by decide) rfl)
  have b0 : Below w.heap.size w (w.alloc (.cells #[] 3)) := (Below.refl _ _).alloc (Nat.le_refl _) _
  rcases (show n = 0 ∨ 0 < n from by omega) with hn | hn
  · subst hn
    clear h hS hQ
    go_enter Try.func25, Try.ntmps25
    go_wp2
    refine wp_loop_rounds 1 ?_
    rw [rounds_succ]
    go_wp2
    go_ret
    exact ⟨_, _, _, rfl, ow, b0⟩
  · have hni : (0 : Int) < (n : Int) := by omega
    by_cases hs : 0 < sd
    · have h0 : st = 0 := by omega
      subst h0
      go_enter Try.func25, Try.ntmps25
      go_wp2
      refine wp_loop_rounds 1 ?_
      rw [rounds_succ]
      go_wp2_with (first
        | (go_at_call 56; refine (hS.out _).mono ?_; rintro e w' ⟨rfl, rfl⟩)
        | (go_at_call 52; refine (hQ.out _).mono ?_; rintro e w1 ⟨rfl, b1⟩))
      go_ret
      exact ⟨_, _, _, rfl, OB.mono (OB.below ow b1) (Nat.le_refl _) b1.size, b0.trans (b1.mono b0.size)⟩
    · clear h
      go_enter Try.func25, Try.ntmps25
      go_wp2
      refine wp_loop_rounds 1 ?_
      rw [rounds_succ]
      go_wp2_with (first
        | (go_at_call 56; refine (hS.out _).mono ?_; rintro e w' ⟨rfl, rfl⟩)
        | (go_at_call 52; refine (hQ.out _).mono ?_; rintro e w1 ⟨rfl, b1⟩))
      go_ret
      exact ⟨_, _, _, rfl, ow, b0⟩
theorem sQuantized (A : Option Addr) (n c : Nat) (zs : List Int) (q : Int) (w : World) (h : RI w A n zs) (hn : n ≤ 1048576) (_ : (Lit.int .i64 q).wf = true) :
    Calls Try.prog 25 #[.slice A n c, .int .i64 q] w fun e w' => ∃ A' n' c', e = .returned (.slice A' n' c') ∧ OB w' w.heap.size w'.heap.size A' n' c' (quantized zs (stepOf q) (side zs.length)) ∧ Below w.heap.size w w' := by
  unfold quantized
  rw [h.len]
  rcases side_splitQ n with hs | hs
  · by_cases hq : 0 < stepOf q
    · rw [if_pos ⟨by omega, hq⟩]; exact sQuantized_in A n c zs q w h hs hq
    · rw [if_neg (fun h => hq h.2)]; exact sQuantized_out A n c q w (Or.inr (stepOf_zero q hq))
  · rw [if_neg (fun h => by omega)]; exact sQuantized_out A n c q w (Or.inl hs)
set_option maxRecDepth 100000 in
theorem iQuantized_in (A : Option Addr) (n c : Nat) (zs : List Int) (q : Int) (w : World) (h : RI w A n zs) (hns : n = 16 ∧ side n = 4 ∨ n = 64 ∧ side n = 8) (hq : 0 < stepOf q) :
    Calls Try.prog 26 #[.slice A n c, .int .i64 q] w fun e w' => ∃ A' n' c', e = .returned (.slice A' n' c') ∧ OB w' w.heap.size w'.heap.size A' n' c' (zs.map (quant (stepOf q))) ∧ Below w.heap.size w w' := by
  have hs0 : 0 < side n := by omega
  have hS : Hid (∀ W, Calls Try.prog 58 #[.int .i64 (n : Int)] W fun e w' => e = .returned (.int .i64 (side n)) ∧ W = w') := iSide n
  have hlen := h.len
  obtain ⟨st, hst⟩ : ∃ st, st = stepOf q := ⟨_, rfl⟩
  have hstb := stepOf_range q
  have hQ : Hid (∀ W, Calls Try.prog 51 #[.int .i64 q] W fun e w' => e = .returned (.int .i64 st) ∧ Below W.heap.size W w') := by rw [hst]; exact iStepOf q
  rw [← hst] at hstb hq ⊢
  obtain ⟨sd, hsd⟩ : ∃ sd, sd = side n := ⟨_, rfl⟩
  rw [← hsd] at hs0 hS
  clear hst hsd
  have hn64 : n ≤ 64 := by omega
  have e1 : (sd == 0) = false := by simp; omega
  have e2 : (st == 0) = false := by simp; omega
  clear hns
  go_enter Try.func26, Try.ntmps26
  go_wp2_with fail
  refine (hQ.out _).mono ?_
  rintro e w1 ⟨rfl, b1⟩
  go_wp2_with fail
  refine (hS.out _).mono ?_
  rintro e w' ⟨rfl, rfl⟩
  go_wp2
  go_loopw [6, 23] (fun v i wr => ∃ k : Nat, k ≤ n ∧ i = .int .i64 (k : Int) ∧ wr.ownsRow w.heap.size 3 1 v k (((zs.take k).map (quant st)).map (Value.int .i64)) ∧ Below w.heap.size w wr) (fun _ i _ => (n - intOf i).toNat)
  case atStart => exact ⟨0, Nat.zero_le _, rfl, World.ownsRow_made _ #[] 0 b1.size (by decide) rfl, b1.alloc b1.size _⟩
  case round =>
    clear b1
    obtain ⟨k, hk, rfl, hown, hb⟩ := hrel
    by_cases hlt : k < n
    · have hlti : (k : Int) < (n : Int) := by omega
      obtain ⟨b, off, rfl, hbl, hc⟩ := h.at_ hlt
      have hT := Lib.hid (map_take_snocQ (quant st) zs k (by omega))
      have hsrc := (hb.cell (p := ⟨b, off + k, none⟩) hbl).trans (hc k hlt)
      obtain ⟨x, hx⟩ : ∃ x, x = zs.getD k 0 := ⟨_, rfl⟩
      rw [← hx] at hsrc hT
      have hl2 : Small k := small_of (by omega)
      obtain ⟨L, hL⟩ : ∃ L, L = (zs.take k).map (quant st) := ⟨_, rfl⟩
      rw [← hL] at hown hT
      have H := Lib.hid h
      have HL := Lib.hid hlen
      have hB2 := hb.size
      obtain ⟨u, hu⟩ : ∃ u, u = clampM x := ⟨_, rfl⟩
      have hub : -1000000 ≤ u ∧ u ≤ 1000000 := by rw [hu]; unfold clampM; omega
      have hlim1 : Hid (∀ W, Calls Try.prog 62 #[.int .i64 x, .int .i64 (-1000000), .int .i64 1000000] W fun e w' => e = .returned (.int .i64 u) ∧ W = w') := by rw [hu]; exact fun W => iLimited x _ _ W
      have HU : Hid (quant st x = max (-16383) (min (near u st) 16383)) := by rw [hu]; exact rfl
      clear hx hc h hL hlen hu
      by_cases hneg : u < 0
      · have e : nearP (-u) st = (2 * -u + st) / (2 * st) := rfl
        have hbd := nearP_bd (-u) st (by omega) (by omega) (by omega) (by omega)
        have hE : Hid (near u st = -((2 * -u + st) / (2 * st))) := by show near u st = _; unfold near; rw [if_pos hneg, e]
        rw [e] at hbd
        clear e
        go_wp2_with fail
        refine (hlim1.out _).mono ?_
        rintro e w' ⟨rfl, rfl⟩
        go_wp2_with (first
          | (go_at_call 62; refine (iLimited _ _ _ _).mono ?_; rintro e w' ⟨rfl, rfl⟩)
          | (at_builtin; refine wpList_app_g rfl (.tmp 43) (.tmp 46) rfl _ k L rfl hown hB2 rfl hl2 ?_; intro g cap w3 hown3 hg3 hp3))
        go_roundw
        case rel => exact ⟨k + 1, by omega, by go_num, by rw [hT.out, HU.out, hE.out]; exact hown3, hb.grown hg3 hB2 (fun g hg => (hown.lt g hg).1)⟩
        case measure => simp [intOf]; omega
      · have e : nearP u st = (2 * u + st) / (2 * st) := rfl
        have hbd := nearP_bd u st (by omega) (by omega) (by omega) (by omega)
        have hE : Hid (near u st = ((2 * u + st) / (2 * st))) := by show near u st = _; unfold near; rw [if_neg hneg, e]
        rw [e] at hbd
        clear e
        go_wp2_with fail
        refine (hlim1.out _).mono ?_
        rintro e w' ⟨rfl, rfl⟩
        go_wp2_with (first
          | (go_at_call 62; refine (iLimited _ _ _ _).mono ?_; rintro e w' ⟨rfl, rfl⟩)
          | (at_builtin; refine wpList_app_g rfl (.tmp 43) (.tmp 46) rfl _ k L rfl hown hB2 rfl hl2 ?_; intro g cap w3 hown3 hg3 hp3))
        go_roundw
        case rel => exact ⟨k + 1, by omega, by go_num, by rw [hT.out, HU.out, hE.out]; exact hown3, hb.grown hg3 hB2 (fun g hg => (hown.lt g hg).1)⟩
        case measure => simp [intOf]; omega
    · obtain rfl : k = n := by omega
      obtain ⟨a, c', hv⟩ := owns_shape hown
      subst hv
      rw [List.take_of_length_le (by omega)] at hown
      go_wp2
      go_ret
      exact ⟨a, _, c', rfl, OB.new hown, hb⟩
set_option maxRecDepth 100000 in
theorem iQuantized_out (A : Option Addr) (n c : Nat) (q : Int) (w : World) (h : side n = 0 ∨ stepOf q = 0) :
    Calls Try.prog 26 #[.slice A n c, .int .i64 q] w fun e w' => ∃ A' n' c', e = .returned (.slice A' n' c') ∧ OB w' w.heap.size w'.heap.size A' n' c' [] ∧ Below w.heap.size w w' := by
  have hS : Hid (∀ W, Calls Try.prog 58 #[.int .i64 (n : Int)] W fun e w' => e = .returned (.int .i64 (side n)) ∧ W = w') := iSide n
  have hQ : Hid (∀ W, Calls Try.prog 51 #[.int .i64 q] W fun e w' => e = .returned (.int .i64 (stepOf q)) ∧ Below W.heap.size W w') := iStepOf q
  obtain ⟨sd, hsd⟩ : ∃ sd, sd = side n := ⟨_, rfl⟩
  obtain ⟨st, hst⟩ : ∃ st, st = stepOf q := ⟨_, rfl⟩
  rw [← hsd] at hS h
  rw [← hst] at hQ h
  clear hsd hst
  by_cases hs : sd = 0
  · subst hs
    clear h
    go_enter Try.func26, Try.ntmps26
    go_wp2_with (first
      | (go_at_call 58; refine (hS.out _).mono ?_; rintro e w' ⟨rfl, rfl⟩)
      | (go_at_call 51; refine (hQ.out _).mono ?_; rintro e w1 ⟨rfl, b1⟩))
    go_ret
    exact ⟨_, _, _, rfl, ⟨World.ownsRow_nil _ _ _ _, fun k hk => by simp [Value.ownBlock] at hk⟩, b1⟩
  · have h0 : st = 0 := by omega
    subst h0
    have e1 : (sd == 0) = false := by simp; omega
    clear h hs
    go_enter Try.func26, Try.ntmps26
    go_wp2_with (first
      | (go_at_call 58; refine (hS.out _).mono ?_; rintro e w' ⟨rfl, rfl⟩)
      | (go_at_call 51; refine (hQ.out _).mono ?_; rintro e w1 ⟨rfl, b1⟩))
    go_ret
    exact ⟨_, _, _, rfl, ⟨World.ownsRow_nil _ _ _ _, fun k hk => by simp [Value.ownBlock] at hk⟩, b1⟩
theorem iQuantized (A : Option Addr) (n c : Nat) (zs : List Int) (q : Int) (w : World) (h : RI w A n zs) (hn : n ≤ 1048576) (_ : (Lit.int .i64 q).wf = true) :
    Calls Try.prog 26 #[.slice A n c, .int .i64 q] w fun e w' => ∃ A' n' c', e = .returned (.slice A' n' c') ∧ OB w' w.heap.size w'.heap.size A' n' c' (quantized zs (stepOf q) (side zs.length)) ∧ Below w.heap.size w w' := by
  unfold quantized
  rw [h.len]
  rcases side_splitQ n with hs | hs
  · by_cases hq : 0 < stepOf q
    · rw [if_pos ⟨by omega, hq⟩]; exact iQuantized_in A n c zs q w h hs hq
    · rw [if_neg (fun h => hq h.2)]; exact iQuantized_out A n c q w (Or.inr (stepOf_zero q hq))
  · rw [if_neg (fun h => by omega)]; exact iQuantized_out A n c q w (Or.inl hs)
end Go.Proofs.Ytcjodaoeoifbcaa
