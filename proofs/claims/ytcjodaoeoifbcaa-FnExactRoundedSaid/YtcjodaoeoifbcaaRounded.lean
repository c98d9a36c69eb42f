/-
  Rounded, the reference's and the program's: both return 'rounded'. No condition but at most 2^20 numbers.
-/
import Derived.Test.YtcjodaoeoifbcaaSide
import Derived.Test.YtcjodaoeoifbcaaAppMany
namespace Go.Proofs.Ytcjodaoeoifbcaa
open Go.ChangeShapes Go.WideShapes Go.ChangeAt Go.RowKit
set_option linter.unusedVariables false
theorem sFloor (a b : Int) (w : World) (hb : b = 64 ∨ b = 1600) (ha : -4000000000000 ≤ a ∧ a ≤ 4000000000000) :
    Calls Try.prog 60 #[.int .i64 a, .int .i64 b] w fun e w' => e = .returned (.int .i64 (a / b)) ∧ w = w' := by
  rcases hb with rfl | rfl
  all_goals
    by_cases h : a < 0
    · go_enter Try.func60, Try.ntmps60
      go_wp2
      go_ret
      exact ⟨ret_int (by omega), rfl⟩
    · go_enter Try.func60, Try.ntmps60
      go_wp2
      go_ret
      exact ⟨ret_int (by omega), rfl⟩
theorem tdiv_neg_ (a b : Int) (h : a < 0) : a.tdiv b = -((-a) / b) ∧ a.tmod b = -((-a) % b) := by
  have e : a = -(-a) := by omega
  constructor
  · rw [e, Int.neg_tdiv, Int.neg_neg, Int.tdiv_eq_ediv_of_nonneg (by omega)]
  · rw [e, Int.neg_tmod, Int.neg_neg, Int.tmod_eq_emod_of_nonneg (by omega)]
theorem tdiv_pos_ (a b : Int) (h : 0 ≤ a) : a.tdiv b = a / b ∧ a.tmod b = a % b :=
  ⟨Int.tdiv_eq_ediv_of_nonneg (by omega), Int.tmod_eq_emod_of_nonneg (by omega)⟩
theorem iFloor (a b : Int) (w : World) (hb : b = 64 ∨ b = 1600) (ha : -4000000000000 ≤ a ∧ a ≤ 4000000000000) :
    Calls Try.prog 61 #[.int .i64 a, .int .i64 b] w fun e w' => e = .returned (.int .i64 (a / b)) ∧ w = w' := by
  rcases hb with rfl | rfl
  all_goals
    by_cases h : a < 0
    · go_enter Try.func61, Try.ntmps61
      go_wp2
      all_goals
        go_ret
        refine ⟨ret_int ?_, rfl⟩
        have t1 := tdiv_neg_ a 64 h
        have t2 := tdiv_neg_ a 1600 h
        simp only [t1.1, t1.2, t2.1, t2.2] at *
        try rw [IntWalk.wrap64_in _ (by omega)]
        try omega
    · go_enter Try.func61, Try.ntmps61
      go_wp2
      all_goals
        go_ret
        refine ⟨ret_int ?_, rfl⟩
        have t1 := tdiv_pos_ a 64 (by omega)
        have t2 := tdiv_pos_ a 1600 (by omega)
        simp only [t1.1, t1.2, t2.1, t2.2] at *
        try rw [IntWalk.wrap64_in _ (by omega)]
        try omega
/-- The divisor by the number of cells. -/
def rndD (n : Nat) : Int := if n = 16 then 1600 else 64
def rnd (d x : Int) : Int := (max (-1000000000000) (min x 1000000000000) + d / 2) / d
def rounded (zs : List Int) : List Int := if 0 < side zs.length then zs.map (rnd (rndD zs.length)) else []
theorem rounded_len (zs : List Int) (h : zs.length ≤ 1000000000) : (rounded zs).length ≤ 1000000000 := by
  unfold rounded
  split
  · rw [List.length_map]; exact h
  · simp
theorem map_take_snoc (f : Int → Int) (zs : List Int) (k : Nat) (h : k < zs.length) : (zs.take (k + 1)).map f = (zs.take k).map f ++ [f (zs.getD k 0)] := by rw [take_snoc_l zs k h, List.map_append]; rfl
theorem side_cases (n : Nat) (h : 0 < side n) : n = 16 ∨ n = 64 := by
  unfold side at h
  split at h
  · exact Or.inl (by assumption)
  · split at h
    · exact Or.inr (by assumption)
    · omega
theorem lim_if (x : Int) : (if -1000000000000 < (if x < 1000000000000 then x else 1000000000000) then (if x < 1000000000000 then x else 1000000000000) else -1000000000000) = max (-1000000000000) (min x 1000000000000) := by omega
theorem OB.nilR (w : World) (lo hi : Nat) : OB w lo hi none 0 0 [] := ⟨World.ownsRow_nil _ _ _ _, fun k hk => by simp [Value.ownBlock] at hk⟩
theorem side_zero (n : Nat) (h : ¬ 0 < side n) : side n = 0 := by
  unfold side at h ⊢
  split
  · rw [if_pos (by assumption)] at h; omega
  · rw [if_neg (by assumption)] at h
    split
    · rw [if_pos (by assumption)] at h; omega
    · rfl
theorem OB.madeR {w : World} (c : Nat) : OB (w.alloc (.cells #[] 3)) w.heap.size (w.alloc (.cells #[] 3)).heap.size (some ⟨w.heap.size, 0, none⟩) 0 0 [] :=
  OB.new (World.ownsRow_made w #[] 0 (Nat.le_refl _) (by decide) rfl)
set_option maxRecDepth 100000 in
theorem sRounded_in (A : Option Addr) (n c : Nat) (zs : List Int) (w : World) (h : RI w A n zs) (hn : n = 16 ∨ n = 64) :
    Calls Try.prog 23 #[.slice A n c] w fun e w' => ∃ A' n' c', e = .returned (.slice A' n' c') ∧ OB w' w.heap.size w'.heap.size A' n' c' (zs.map (rnd (rndD n))) ∧ Below w.heap.size w w' := by
  have hlen := h.len
  have hs0 : 0 < side n := by rcases hn with rfl | rfl <;> decide
  rcases hn with rfl | rfl
  all_goals
    go_enter Try.func23, Try.ntmps23
    go_wp2
    go_loopw [3, 4] (fun v i wr => ∃ k : Nat, k ≤ zs.length ∧ i = .int .i64 (k : Int) ∧ wr.ownsRow w.heap.size 3 1 v k (((zs.take k).map (rnd (rndD zs.length))).map (Value.int .i64)) ∧ Below w.heap.size w wr) (fun _ i _ => (zs.length - intOf i).toNat)
    case atStart => exact ⟨0, Nat.zero_le _, by simp, World.ownsRow_made _ #[] 0 (Nat.le_refl _) (by decide) rfl, (Below.refl _ _).alloc (Nat.le_refl _) _⟩
    case round =>
      obtain ⟨k, hk, rfl, hown, hb⟩ := hrel
      rw [hlen] at hk
      by_cases hlt : k < zs.length
      · obtain ⟨b, off, rfl, hbl, hc⟩ := h.at_ (show k < _ from by rw [← hlen]; exact hlt)
        have hT := Lib.hid (map_take_snoc (rnd (rndD zs.length)) zs k hlt)
        have hsrc := (hb.cell (p := ⟨b, off + k, none⟩) hbl).trans (hc k (by rw [← hlen]; exact hlt))
        have hl2 : Small k := small_of (by omega)
        have hlk : (zs.take k).map (rnd (rndD zs.length)) = (zs.take k).map (rnd (rndD zs.length)) := rfl
        rw [hlen] at hlt
        obtain ⟨x, hx⟩ : ∃ x, x = zs.getD k 0 := ⟨_, rfl⟩
        rw [← hx] at hsrc hT
        obtain ⟨L, hL⟩ : ∃ L, L = (zs.take k).map (rnd (rndD zs.length)) := ⟨_, rfl⟩
        rw [← hL] at hown hT
        have hq := Lib.hid (lim_if x)
        clear hx hc h hL
        go_wp2_with (first
          | (go_at_call 56; refine (sSide _ _ _ _).mono ?_; rintro e w' ⟨rfl, rfl⟩)
          | (go_at_call 60; refine (sFloor _ _ _ (by decide) (by omega)).mono ?_; rintro e w' ⟨rfl, rfl⟩)
          | (at_builtin; refine wpList_app_i64 rfl (.tmp 27) (.tmp 31) rfl _ k L rfl hown hb rfl hl2 ?_; intro g cap w1 hown1 hb1 _)
          | (at_builtin; refine wpList_app_i64 rfl (.tmp 33) (.tmp 37) rfl _ k L rfl hown hb rfl hl2 ?_; intro g cap w1 hown1 hb1 _))
        go_roundw
        case rel => exact ⟨k + 1, by omega, by go_num, by rw [hT.out]; unfold rnd; rw [← hq.out, hlen]; exact hown1, hb1⟩
        case measure => simp [intOf]; omega
      · have hke : k = zs.length := by omega
        subst hke
        obtain ⟨a, c', hv⟩ := owns_shape hown
        subst hv
        rw [List.take_length] at hown
        rw [hlen] at hown hlt ⊢
        go_wp2
        go_ret
        exact ⟨a, _, c', rfl, OB.new hown, hb⟩
set_option maxRecDepth 100000 in
theorem sRounded_out (A : Option Addr) (n c : Nat) (w : World) (hn : n ≤ 1048576) (h : side n = 0) :
    Calls Try.prog 23 #[.slice A n c] w fun e w' => ∃ A' n' c', e = .returned (.slice A' n' c') ∧ OB w' w.heap.size w'.heap.size A' n' c' [] ∧ Below w.heap.size w w' := by
  go_enter Try.func23, Try.ntmps23
  go_wp2
  go_loopw [3, 4] (fun v i wr => v = .slice (some ⟨w.heap.size, 0, none⟩) 0 0 ∧ i = .int .i64 0 ∧ wr = w.alloc (.cells #[] 3)) (fun _ i _ => 0)
  case atStart => exact ⟨rfl, rfl, rfl⟩
  case round =>
    obtain ⟨rfl, rfl, rfl⟩ := hrel
    by_cases hn0 : n = 0
    · subst hn0
      go_wp2
      go_ret
      exact ⟨_, _, _, rfl, OB.madeR 0, by go_grown⟩
    · have hn1 : (0 : Int) < (n : Int) := by omega
      go_wp2_with (first
        | (go_at_call 56; refine (sSide _ _ _ _).mono ?_; rw [h]; rintro e w' ⟨rfl, rfl⟩))
      go_ret
      exact ⟨_, _, _, rfl, OB.madeR 0, by go_grown⟩
theorem sRounded (A : Option Addr) (n c : Nat) (zs : List Int) (w : World) (h : RI w A n zs) (hn : n ≤ 1048576) :
    Calls Try.prog 23 #[.slice A n c] w fun e w' => ∃ A' n' c', e = .returned (.slice A' n' c') ∧ OB w' w.heap.size w'.heap.size A' n' c' (rounded zs) ∧ Below w.heap.size w w' := by
  have hlen := h.len
  unfold rounded
  rw [hlen]
  by_cases hs : 0 < side n
  · rw [if_pos hs]; exact sRounded_in A n c zs w h (side_cases n hs)
  · rw [if_neg hs]; exact sRounded_out A n c w hn (side_zero n hs)
set_option maxRecDepth 100000 in
theorem iRounded_in (A : Option Addr) (n c : Nat) (zs : List Int) (w : World) (h : RI w A n zs) (hn : n = 16 ∨ n = 64) :
    Calls Try.prog 24 #[.slice A n c] w fun e w' => ∃ A' n' c', e = .returned (.slice A' n' c') ∧ OB w' w.heap.size w'.heap.size A' n' c' (zs.map (rnd (rndD n))) ∧ Below w.heap.size w w' := by
  have hlen := h.len
  rcases hn with rfl | rfl
  all_goals
    go_enter Try.func24, Try.ntmps24
    go_wp2_with (first
      | (go_at_call 58; refine (iSide _ _).mono ?_; (first | rw [show side 16 = 4 from rfl] | rw [show side 64 = 8 from rfl]); rintro e w' ⟨rfl, rfl⟩))
    go_loopw [4, 17] (fun v i wr => ∃ k : Nat, k ≤ zs.length ∧ i = .int .i64 (k : Int) ∧ wr.ownsRow w.heap.size 3 1 v k (((zs.take k).map (rnd (rndD zs.length))).map (Value.int .i64)) ∧ Below w.heap.size w wr) (fun _ i _ => (zs.length - intOf i).toNat)
    case atStart => exact ⟨0, Nat.zero_le _, by simp, World.ownsRow_made _ #[] 0 (Nat.le_refl _) (by decide) rfl, (Below.refl _ _).alloc (Nat.le_refl _) _⟩
    case round =>
      obtain ⟨k, hk, rfl, hown, hb⟩ := hrel
      rw [hlen] at hk
      by_cases hlt : k < zs.length
      · obtain ⟨b, off, rfl, hbl, hc⟩ := h.at_ (show k < _ from by rw [← hlen]; exact hlt)
        have hT := Lib.hid (map_take_snoc (rnd (rndD zs.length)) zs k hlt)
        have hsrc := (hb.cell (p := ⟨b, off + k, none⟩) hbl).trans (hc k (by rw [← hlen]; exact hlt))
        have hl2 : Small k := small_of (by omega)
        rw [hlen] at hlt
        obtain ⟨x, hx⟩ : ∃ x, x = zs.getD k 0 := ⟨_, rfl⟩
        rw [← hx] at hsrc hT
        obtain ⟨L, hL⟩ : ∃ L, L = (zs.take k).map (rnd (rndD zs.length)) := ⟨_, rfl⟩
        rw [← hL] at hown hT
        obtain ⟨y, hy⟩ : ∃ y, y = max (-1000000000000) (min x 1000000000000) := ⟨_, rfl⟩
        have hy1 : -1000000000000 ≤ y ∧ y ≤ 1000000000000 := by omega
        have hT2 : Hid (((zs.take (k + 1)).map (rnd (rndD zs.length))) = L ++ [(y + rndD zs.length / 2) / rndD zs.length]) := by rw [hy]; exact hT
        have hlim : Hid (∀ W, Calls Try.prog 62 #[.int .i64 x, .int .i64 (-1000000000000), .int .i64 1000000000000] W fun e w' => e = .returned (.int .i64 y) ∧ W = w') := by rw [hy]; exact fun W => iLimited x _ _ W
        clear hx hc h hL hT hy
        go_wp2_with (first
          | (go_at_call 62; refine (hlim.out _).mono ?_; rintro e w' ⟨rfl, rfl⟩)
          | (go_at_call 61; refine (iFloor _ _ _ (by decide) (by omega)).mono ?_; rintro e w' ⟨rfl, rfl⟩)
          | (at_builtin; refine wpList_app_i64 rfl (.tmp 21) (.tmp 29) rfl _ k L rfl hown hb rfl hl2 ?_; intro g cap w1 hown1 hb1 _))
        go_roundw
        case rel => exact ⟨k + 1, by omega, by go_num, by rw [hT2.out, hlen]; exact hown1, hb1⟩
        case measure => simp [intOf]; omega
      · have hke : k = zs.length := by omega
        subst hke
        obtain ⟨a, c', hv⟩ := owns_shape hown
        subst hv
        rw [List.take_length] at hown
        rw [hlen] at hown hlt ⊢
        go_wp2
        go_ret
        exact ⟨a, _, c', rfl, OB.new hown, hb⟩
set_option maxRecDepth 100000 in
theorem iRounded_out (A : Option Addr) (n c : Nat) (w : World) (hn : n ≤ 1048576) (h : side n = 0) :
    Calls Try.prog 24 #[.slice A n c] w fun e w' => ∃ A' n' c', e = .returned (.slice A' n' c') ∧ OB w' w.heap.size w'.heap.size A' n' c' [] ∧ Below w.heap.size w w' := by
  go_enter Try.func24, Try.ntmps24
  go_wp2_with (first
    | (go_at_call 58; refine (iSide _ _).mono ?_; rw [h]; rintro e w' ⟨rfl, rfl⟩))
  go_ret
  exact ⟨_, _, _, rfl, OB.nilR _ _ _, Below.refl _ _⟩
theorem iRounded (A : Option Addr) (n c : Nat) (zs : List Int) (w : World) (h : RI w A n zs) (hn : n ≤ 1048576) :
    Calls Try.prog 24 #[.slice A n c] w fun e w' => ∃ A' n' c', e = .returned (.slice A' n' c') ∧ OB w' w.heap.size w'.heap.size A' n' c' (rounded zs) ∧ Below w.heap.size w w' := by
  have hlen := h.len
  unfold rounded
  rw [hlen]
  by_cases hs : 0 < side n
  · rw [if_pos hs]; exact iRounded_in A n c zs w h (side_cases n hs)
  · rw [if_neg hs]; exact iRounded_out A n c w hn (side_zero n hs)
end Go.Proofs.Ytcjodaoeoifbcaa
