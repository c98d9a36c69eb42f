/-
  Scaled, the reference's and the program's: both return 'scaled'. No condition but at most 2^20 numbers.
-/
import Derived.Test.YtcjodaoeoifbcaaSide
import Derived.Test.YtcjodaoeoifbcaaStep
import Derived.Test.YtcjodaoeoifbcaaStepOf
import Derived.Test.YtcjodaoeoifbcaaNormAt
namespace Go.Proofs.Ytcjodaoeoifbcaa
open Go.ChangeShapes Go.WideShapes Go.ChangeAt Go.RowKit
set_option linter.unusedVariables false
def scl (st sd : Int) (zs : List Int) (k : Nat) : Int := zs.getD k 0 * st * normAt sd k
def sclTo (st sd : Int) (zs : List Int) (k : Nat) : List Int := (List.range k).map (scl st sd zs)
theorem sclTo_succ (st sd : Int) (zs : List Int) (k : Nat) : sclTo st sd zs (k + 1) = sclTo st sd zs k ++ [scl st sd zs k] := by
  unfold sclTo; rw [List.range_succ, List.map_append]; rfl
theorem sclTo_len (st sd : Int) (zs : List Int) (k : Nat) : (sclTo st sd zs k).length = k := by simp [sclTo]
def scaled (zs : List Int) (st sd : Int) : List Int := if levelsOk zs = true ∧ 0 < st then sclTo st sd zs zs.length else []
theorem scaled_len (zs : List Int) (st sd : Int) (h : zs.length ≤ 1000000000) : (scaled zs st sd).length ≤ 1000000000 := by
  unfold scaled
  split
  · rw [sclTo_len]; exact h
  · simp
theorem normAt_bd (n i : Int) : 0 ≤ normAt n i ∧ normAt n i ≤ 100 := by
  unfold normAt norm4
  split
  · omega
  · split
    · split
      · omega
      · split <;> omega
    · omega
theorem levelsOk_at {zs : List Int} (h : levelsOk zs = true) (k : Nat) (hk : k < zs.length) : -16383 ≤ zs.getD k 0 ∧ zs.getD k 0 ≤ 16383 := by
  unfold levelsOk at h
  simp only [Bool.and_eq_true] at h
  have h1 := List.all_eq_true.1 h.1 (zs.getD k 0) (by rw [List.getD_eq_getElem?_getD, List.getElem?_eq_getElem hk]; exact List.getElem_mem hk)
  simpa [okLev] using h1
theorem levelsOk_side {zs : List Int} (h : levelsOk zs = true) : zs.length = 16 ∧ side zs.length = 4 ∨ zs.length = 64 ∧ side zs.length = 8 := by
  unfold levelsOk at h
  simp only [Bool.and_eq_true, decide_eq_true_eq] at h
  have h2 := h.2
  unfold side at h2 ⊢
  split
  · exact Or.inl ⟨by assumption, rfl⟩
  · rw [if_neg (by assumption)] at h2
    split
    · exact Or.inr ⟨by assumption, rfl⟩
    · rw [if_neg (by assumption)] at h2; omega
theorem mul_bd1 (a b : Int) (h : -16383 ≤ a ∧ a ≤ 16383) (k : 0 ≤ b ∧ b ≤ 352) : -5766816 ≤ a * b ∧ a * b ≤ 5766816 := by
  have h1 : a * b ≤ 16383 * b := Int.mul_le_mul_of_nonneg_right h.2 k.1
  have h2 : -16383 * b ≤ a * b := Int.mul_le_mul_of_nonneg_right h.1 k.1
  omega
theorem mul_bd2 (a b : Int) (h : -5766816 ≤ a ∧ a ≤ 5766816) (k : 0 ≤ b ∧ b ≤ 100) : -576681600 ≤ a * b ∧ a * b ≤ 576681600 := by
  have h1 : a * b ≤ 5766816 * b := Int.mul_le_mul_of_nonneg_right h.2 k.1
  have h2 : -5766816 * b ≤ a * b := Int.mul_le_mul_of_nonneg_right h.1 k.1
  omega
set_option maxRecDepth 100000 in
theorem sScaled_in (A : Option Addr) (n c : Nat) (zs : List Int) (q : Int) (w : World) (h : RI w A n zs) (hok : levelsOk zs = true) (hq : 0 < stepOf q) :
    Calls Try.prog 37 #[.slice A n c, .int .i64 q] w fun e w' => ∃ A' n' c', e = .returned (.slice A' n' c') ∧ OB w' w.heap.size w'.heap.size A' n' c' (sclTo (stepOf q) (side n) zs n) ∧ Below w.heap.size w w' := by
  have hlen := h.len
  have hsd := levelsOk_side hok
  rw [hlen] at hsd
  have hS : Hid (∀ W, Calls Try.prog 56 #[.slice A n c] W fun e w' => e = .returned (.int .i64 (side n)) ∧ W = w') := sSide A n c
  have hL : Hid (∀ W, RI W A n zs → Calls Try.prog 15 #[.slice A n c] W fun e w' => e = .returned (.bool true) ∧ Below W.heap.size W w') := by
    intro W hW; have := sLevelsOk A n c zs W hW (by omega); rw [hok] at this; exact this
  have hat := Lib.hid (fun k hk => levelsOk_at hok k hk)
  have hn64 : n ≤ 64 := by omega
  obtain ⟨st, hst⟩ : ∃ st, st = stepOf q := ⟨_, rfl⟩
  have hstb := stepOf_range q
  have hQ : Hid (∀ W, Calls Try.prog 52 #[.int .i64 q] W fun e w' => e = .returned (.int .i64 st) ∧ Below W.heap.size W w') := by rw [hst]; exact sStepOf q
  rw [← hst] at hstb hq ⊢
  obtain ⟨sd, hsdd⟩ : ∃ sd, sd = side n := ⟨_, rfl⟩
  rw [← hsdd] at hS hsd ⊢
  clear hst hsdd hsd hok
  go_enter Try.func37, Try.ntmps37
  go_wp2
  go_loopw [5, 6] (fun v i wr => ∃ k : Nat, k ≤ n ∧ i = .int .i64 (k : Int) ∧ wr.ownsRow w.heap.size 3 1 v k ((sclTo st sd zs k).map (Value.int .i64)) ∧ Below w.heap.size w wr) (fun _ i _ => (n - intOf i).toNat)
  case atStart => exact ⟨0, Nat.zero_le _, rfl, World.ownsRow_made _ #[] 0 (Nat.le_refl _) (by decide) rfl, (Below.refl _ _).alloc (Nat.le_refl _) _⟩
  case round =>
    obtain ⟨k, hk, rfl, hown, hb⟩ := hrel
    by_cases hlt : k < n
    · have hlti : (k : Int) < (n : Int) := by omega
      have hk0 : (0 : Int) ≤ (k : Int) := by omega
      have hxb := hat.out k (by omega)
      have hT := Lib.hid (sclTo_succ st sd zs k)
      have hX : Hid (scl st sd zs k = zs.getD k 0 * st * normAt sd k) := rfl
      obtain ⟨b, off, e, hbl, hc⟩ := h.at_ hlt
      have hc1 := hc k hlt
      obtain ⟨x, hx⟩ : ∃ x, x = zs.getD k 0 := ⟨_, rfl⟩
      obtain ⟨nm, hnm⟩ : ∃ nm, nm = normAt sd k := ⟨_, rfl⟩
      have hnb := normAt_bd sd k
      have hN : Hid (∀ W, (W.cell? ⟨b, off + k, none⟩ = some (.int .i64 x) ∧ Below w.heap.size w W) → Calls Try.prog 66 #[.int .i64 sd, .int .i64 (k : Int)] W fun e w' => e = .returned (.int .i64 nm) ∧ (w'.cell? ⟨b, off + k, none⟩ = some (.int .i64 x) ∧ Below w.heap.size w w') ∧ Own w.heap.size W w') := by
        rw [hnm]
        intro W hW
        refine (sNormAt sd k W).mono ?_
        rintro e w' ⟨rfl, b'⟩
        have b2 := hW.2.trans (b'.mono hW.2.size)
        exact ⟨rfl, ⟨by rw [hx]; exact (b2.cell (p := ⟨b, off + k, none⟩) hbl).trans hc1, b2⟩, fun v n xs ho => owns_below ho b'⟩
      have hQ2 : Hid (∀ W, (W.cell? ⟨b, off + k, none⟩ = some (.int .i64 x) ∧ Below w.heap.size w W) → Calls Try.prog 52 #[.int .i64 q] W fun e w' => e = .returned (.int .i64 st) ∧ (w'.cell? ⟨b, off + k, none⟩ = some (.int .i64 x) ∧ Below w.heap.size w w') ∧ Own w.heap.size W w') := by
        intro W hW
        refine (hQ.out W).mono ?_
        rintro e w' ⟨rfl, b'⟩
        have b2 := hW.2.trans (b'.mono hW.2.size)
        exact ⟨rfl, ⟨by rw [hx]; exact (b2.cell (p := ⟨b, off + k, none⟩) hbl).trans hc1, b2⟩, fun v n xs ho => owns_below ho b'⟩
      rw [← hx] at hc1 hX hxb
      rw [← hnm] at hX hnb
      have hm1 := mul_bd1 x st hxb hstb
      have hm2 := mul_bd2 (x * st) nm hm1 hnb
      have hw1 : IntKind.i64.wrap (x * st) = x * st := IntWalk.i64_in _ (by omega)
      have hw2 : IntKind.i64.wrap (x * st * nm) = x * st * nm := IntWalk.i64_in _ (by omega)
      have hl2 : Small k := small_of (by omega)
      obtain ⟨L, hL'⟩ : ∃ L, L = sclTo st sd zs k := ⟨_, rfl⟩
      rw [← hL'] at hown hT
      have hr1 : RI wr A n zs := h.below hb
      subst e
      have H := Lib.hid h
      have HL := Lib.hid hlen
      clear hx hc h hL' hlen hnm
      go_wp2_with fail
      refine (hL.out _ hr1).mono ?_
      rintro e w1 ⟨rfl, b1⟩
      have hb1 := hb.trans (b1.mono hb.size)
      have hown1 := owns_below hown b1
      clear hb hown b1
      go_wp2_with fail
      refine (hQ.out _).mono ?_
      rintro e w2 ⟨rfl, b2⟩
      have hb2 := hb1.trans (b2.mono hb1.size)
      have hown2 := owns_below hown1 b2
      have hsrc := (hb2.cell (p := ⟨b, off + k, none⟩) hbl).trans hc1
      clear hown1 b2 hb1 hr1
      go_wp2
      go_region_held3 (fun W => W.cell? ⟨b, off + k, none⟩ = some (.int .i64 x) ∧ Below w.heap.size w W)
        (first | assumption | exact ⟨hsrc, hb2.drew⟩ | exact hS4 | exact ⟨(World.cell?_alloc_lt _ _ _ (Nat.lt_of_lt_of_le hbl hS4.2.size)).trans hS4.1, hS4.2.alloc hS4.2.size _⟩ | exact ⟨(World.cell?_alloc_lt _ _ _ (Nat.lt_of_lt_of_le hbl hS3.2.size)).trans hS3.1, hS3.2.alloc hS3.2.size _⟩ | exact ⟨(hb5.cell (p := ⟨b, off + k, none⟩) hbl).trans hc1, hb5⟩)
        (first
          | (go_at_call 56; refine (hS.out _).mono ?_; rintro e w' ⟨rfl, rfl⟩)
          | (go_at_call 52; refine (hQ2.out _ (by assumption)).mono ?_; rintro e w3 ⟨rfl, hS3, ho3⟩)
          | (go_at_call 66; refine (hN.out _ (by assumption)).mono ?_; rintro e w4 ⟨rfl, hS4, ho4⟩)
          | (refine step_app_p (wr := w4) rfl (.tmp 23) (.tmp 36) rfl _ k L rfl (ho4 _ _ _ (ho3 _ _ _ hown2)) hS4.2.size rfl hl2 ?_; intro g cap w5 hown5 hg5 hp5; have hb5 := hS4.2.grown hg5 hS4.2.size (fun g hg => (hown2.lt g hg).1)))
      all_goals
        go_wp2
        go_roundw
        case rel => exact ⟨k + 1, by omega, by go_num, by rw [hT.out, hX.out]; exact hown5, hb5⟩
        case measure => simp [intOf]; omega
    · obtain rfl : k = n := by omega
      obtain ⟨a, c', hv⟩ := owns_shape hown
      subst hv
      go_wp2
      go_ret
      exact ⟨a, _, c', rfl, OB.new hown, hb⟩
set_option maxRecDepth 100000 in
theorem sScaled_out (A : Option Addr) (n c : Nat) (zs : List Int) (q : Int) (w : World) (h : RI w A n zs) (hn : n ≤ 1048576) (hx : levelsOk zs = false ∨ levelsOk zs = true ∧ stepOf q = 0) :
    Calls Try.prog 37 #[.slice A n c, .int .i64 q] w fun e w' => ∃ A' n' c', e = .returned (.slice A' n' c') ∧ OB w' w.heap.size w'.heap.size A' n' c' [] ∧ Below w.heap.size w w' := by
  have hL : Hid (∀ W, RI W A n zs → Calls Try.prog 15 #[.slice A n c] W fun e w' => e = .returned (.bool (levelsOk zs)) ∧ Below W.heap.size W w') := fun W hW => sLevelsOk A n c zs W hW hn
  have hQ : Hid (∀ W, Calls Try.prog 52 #[.int .i64 q] W fun e w' => e = .returned (.int .i64 (stepOf q)) ∧ Below W.heap.size W w') := sStepOf q
  have ow : OB (w.alloc (.cells #[] 3)) w.heap.size (w.alloc (.cells #[] 3)).heap.size (some ⟨w.heap.size, 0, none⟩) 0 0 [] := OB.new (World.ownsRow_made w #[] 0 (Nat.le_refl _) (by decide) rfl)
  have b0 : Below w.heap.size w (w.alloc (.cells #[] 3)) := (Below.refl _ _).alloc (Nat.le_refl _) _
  have hr1 := h.below b0
  rcases (show n = 0 ∨ 0 < n from by omega) with h0 | h0
  · subst h0
    clear hL hQ hx h hr1
    go_enter Try.func37, Try.ntmps37
    go_wp2
    refine wp_loop_rounds 1 ?_
    rw [rounds_succ]
    go_wp2
    go_ret
    exact ⟨_, _, _, rfl, ow, b0⟩
  · have hni : (0 : Int) < (n : Int) := by omega
    rcases hx with hx | ⟨hx, hy⟩
    · rw [hx] at hL
      clear hx h
      go_enter Try.func37, Try.ntmps37
      go_wp2
      refine wp_loop_rounds 1 ?_
      rw [rounds_succ]
      go_wp2_with (first
        | (go_at_call 15; refine (hL.out _ hr1).mono ?_; rintro e w1 ⟨rfl, b1⟩))
      go_ret
      exact ⟨_, _, _, rfl, OB.mono (OB.below ow b1) (Nat.le_refl _) b1.size, b0.trans (b1.mono b0.size)⟩
    · rw [hx] at hL
      rw [hy] at hQ
      clear hx hy h
      go_enter Try.func37, Try.ntmps37
      go_wp2
      refine wp_loop_rounds 1 ?_
      rw [rounds_succ]
      go_wp2_with (first
        | (go_at_call 15; refine (hL.out _ hr1).mono ?_; rintro e w1 ⟨rfl, b1⟩)
        | (go_at_call 52; refine (hQ.out _).mono ?_; rintro e w2 ⟨rfl, b2⟩))
      go_ret
      have b3 := b1.trans (b2.mono b1.size)
      exact ⟨_, _, _, rfl, OB.mono (OB.below ow b3) (Nat.le_refl _) b3.size, b0.trans (b3.mono b0.size)⟩
theorem sScaled (A : Option Addr) (n c : Nat) (zs : List Int) (q : Int) (w : World) (h : RI w A n zs) (hn : n ≤ 1048576) (_ : (Lit.int .i64 q).wf = true) :
    Calls Try.prog 37 #[.slice A n c, .int .i64 q] w fun e w' => ∃ A' n' c', e = .returned (.slice A' n' c') ∧ OB w' w.heap.size w'.heap.size A' n' c' (scaled zs (stepOf q) (side zs.length)) ∧ Below w.heap.size w w' := by
  unfold scaled
  rw [h.len]
  by_cases hok : levelsOk zs = true
  · by_cases hq : 0 < stepOf q
    · rw [if_pos ⟨hok, hq⟩]; exact sScaled_in A n c zs q w h hok hq
    · rw [if_neg (fun h => hq h.2)]; exact sScaled_out A n c zs q w h hn (Or.inr ⟨hok, by have := stepOf_range q; omega⟩)
  · rw [if_neg (fun h => hok h.1)]; exact sScaled_out A n c zs q w h hn (Or.inl (by simpa using hok))
set_option maxRecDepth 100000 in
theorem iScaled_in (A : Option Addr) (n c : Nat) (zs : List Int) (q : Int) (w : World) (h : RI w A n zs) (hok : levelsOk zs = true) (hq : 0 < stepOf q) :
    Calls Try.prog 38 #[.slice A n c, .int .i64 q] w fun e w' => ∃ A' n' c', e = .returned (.slice A' n' c') ∧ OB w' w.heap.size w'.heap.size A' n' c' (sclTo (stepOf q) (side n) zs n) ∧ Below w.heap.size w w' := by
  have hlen := h.len
  have hsd := levelsOk_side hok
  rw [hlen] at hsd
  have hS : Hid (∀ W, Calls Try.prog 58 #[.int .i64 (n : Int)] W fun e w' => e = .returned (.int .i64 (side n)) ∧ W = w') := iSide n
  have hL : Hid (∀ W, RI W A n zs → Calls Try.prog 17 #[.slice A n c] W fun e w' => e = .returned (.bool true) ∧ Below W.heap.size W w') := by
    intro W hW; have := iLevelsOk A n c zs W hW (by omega); rw [hok] at this; exact this
  have hat := Lib.hid (fun k hk => levelsOk_at hok k hk)
  have hn64 : n ≤ 64 := by omega
  obtain ⟨st, hst⟩ : ∃ st, st = stepOf q := ⟨_, rfl⟩
  have hstb := stepOf_range q
  have hQ : Hid (∀ W, Calls Try.prog 51 #[.int .i64 q] W fun e w' => e = .returned (.int .i64 st) ∧ Below W.heap.size W w') := by rw [hst]; exact iStepOf q
  rw [← hst] at hstb hq ⊢
  obtain ⟨sd, hsdd⟩ : ∃ sd, sd = side n := ⟨_, rfl⟩
  rw [← hsdd] at hS hsd ⊢
  have e2 : (st == 0) = false := by simp; omega
  clear hst hsdd hsd hok
  go_enter Try.func38, Try.ntmps38
  go_wp2_with fail
  refine (hL.out _ h).mono ?_
  rintro e w1 ⟨rfl, b1⟩
  go_wp2_with fail
  refine (hQ.out _).mono ?_
  rintro e w2 ⟨rfl, b2⟩
  have b12 := b1.trans (b2.mono b1.size)
  go_wp2
  go_loopw [5, 19] (fun v i wr => ∃ k : Nat, k ≤ n ∧ i = .int .i64 (k : Int) ∧ wr.ownsRow w.heap.size 3 1 v k ((sclTo st sd zs k).map (Value.int .i64)) ∧ Below w.heap.size w wr) (fun _ i _ => (n - intOf i).toNat)
  case atStart => exact ⟨0, Nat.zero_le _, rfl, World.ownsRow_made _ #[] 0 b12.size (by decide) rfl, b12.alloc b12.size _⟩
  case round =>
    clear b1 b2 b12
    obtain ⟨k, hk, rfl, hown, hb⟩ := hrel
    by_cases hlt : k < n
    · have hlti : (k : Int) < (n : Int) := by omega
      have hk0 : (0 : Int) ≤ (k : Int) := by omega
      have hxb := hat.out k (by omega)
      have hT := Lib.hid (sclTo_succ st sd zs k)
      have hX : Hid (scl st sd zs k = zs.getD k 0 * st * normAt sd k) := rfl
      obtain ⟨b, off, e, hbl, hc⟩ := h.at_ hlt
      have hc1 := hc k hlt
      obtain ⟨x, hx⟩ : ∃ x, x = zs.getD k 0 := ⟨_, rfl⟩
      obtain ⟨nm, hnm⟩ : ∃ nm, nm = normAt sd k := ⟨_, rfl⟩
      have hnb := normAt_bd sd k
      have hN : Hid (∀ W, Calls Try.prog 67 #[.int .i64 sd, .int .i64 (k : Int)] W fun e w' => e = .returned (.int .i64 nm) ∧ Below W.heap.size W w') := by rw [hnm]; exact iNormAt sd k
      rw [← hx] at hc1 hX hxb
      rw [← hnm] at hX hnb
      have hm1 := mul_bd1 x st hxb hstb
      have hm2 := mul_bd2 (x * st) nm hm1 hnb
      have hl2 : Small k := small_of (by omega)
      obtain ⟨L, hL'⟩ : ∃ L, L = sclTo st sd zs k := ⟨_, rfl⟩
      rw [← hL'] at hown hT
      subst e
      have hsrc := (hb.cell (p := ⟨b, off + k, none⟩) hbl).trans hc1
      have H := Lib.hid h
      have HL := Lib.hid hlen
      clear hx hc h hL' hlen hnm
      go_wp2_with fail
      refine (hQ.out _).mono ?_
      rintro e w1 ⟨rfl, b1⟩
      have hb1 := hb.trans (b1.mono hb.size)
      have hown1 := owns_below hown b1
      clear hb hown b1 hsrc
      go_wp2_with fail
      refine (hS.out _).mono ?_
      rintro e w' ⟨rfl, rfl⟩
      go_wp2_with fail
      refine (hN.out _).mono ?_
      rintro e w2 ⟨rfl, b2⟩
      have hb2 := hb1.trans (b2.mono hb1.size)
      have hown2 := owns_below hown1 b2
      have hB2 := hb2.size
      clear hown1 b2 hb1
      go_wp2_with (first
        | (at_builtin; refine wpList_app_g rfl (.tmp 24) (.tmp 35) rfl _ k L rfl hown2 hB2 rfl hl2 ?_; intro g cap w3 hown3 hg3 hp3))
      go_roundw
      case rel => exact ⟨k + 1, by omega, by go_num, by rw [hT.out, hX.out]; exact hown3, hb2.grown hg3 hB2 (fun g hg => (hown2.lt g hg).1)⟩
      case measure => simp [intOf]; omega
    · obtain rfl : k = n := by omega
      obtain ⟨a, c', hv⟩ := owns_shape hown
      subst hv
      go_wp2
      go_ret
      exact ⟨a, _, c', rfl, OB.new hown, hb⟩
set_option maxRecDepth 100000 in
theorem iScaled_out (A : Option Addr) (n c : Nat) (zs : List Int) (q : Int) (w : World) (h : RI w A n zs) (hn : n ≤ 1048576) (hx : levelsOk zs = false ∨ levelsOk zs = true ∧ stepOf q = 0) :
    Calls Try.prog 38 #[.slice A n c, .int .i64 q] w fun e w' => ∃ A' n' c', e = .returned (.slice A' n' c') ∧ OB w' w.heap.size w'.heap.size A' n' c' [] ∧ Below w.heap.size w w' := by
  have hL : Hid (∀ W, RI W A n zs → Calls Try.prog 17 #[.slice A n c] W fun e w' => e = .returned (.bool (levelsOk zs)) ∧ Below W.heap.size W w') := fun W hW => iLevelsOk A n c zs W hW hn
  have hQ : Hid (∀ W, Calls Try.prog 51 #[.int .i64 q] W fun e w' => e = .returned (.int .i64 (stepOf q)) ∧ Below W.heap.size W w') := iStepOf q
  rcases hx with hx | ⟨hx, hy⟩
  · rw [hx] at hL
    clear hx
    go_enter Try.func38, Try.ntmps38
    go_wp2_with (first
      | (go_at_call 17; refine (hL.out _ h).mono ?_; rintro e w1 ⟨rfl, b1⟩))
    go_ret
    exact ⟨_, _, _, rfl, ⟨World.ownsRow_nil _ _ _ _, fun k hk => by simp [Value.ownBlock] at hk⟩, b1⟩
  · rw [hx] at hL
    rw [hy] at hQ
    clear hx hy
    go_enter Try.func38, Try.ntmps38
    go_wp2_with (first
      | (go_at_call 17; refine (hL.out _ h).mono ?_; rintro e w1 ⟨rfl, b1⟩)
      | (go_at_call 51; refine (hQ.out _).mono ?_; rintro e w2 ⟨rfl, b2⟩))
    go_ret
    exact ⟨_, _, _, rfl, ⟨World.ownsRow_nil _ _ _ _, fun k hk => by simp [Value.ownBlock] at hk⟩, b1.trans (b2.mono b1.size)⟩
theorem iScaled (A : Option Addr) (n c : Nat) (zs : List Int) (q : Int) (w : World) (h : RI w A n zs) (hn : n ≤ 1048576) (_ : (Lit.int .i64 q).wf = true) :
    Calls Try.prog 38 #[.slice A n c, .int .i64 q] w fun e w' => ∃ A' n' c', e = .returned (.slice A' n' c') ∧ OB w' w.heap.size w'.heap.size A' n' c' (scaled zs (stepOf q) (side zs.length)) ∧ Below w.heap.size w w' := by
  unfold scaled
  rw [h.len]
  by_cases hok : levelsOk zs = true
  · by_cases hq : 0 < stepOf q
    · rw [if_pos ⟨hok, hq⟩]; exact iScaled_in A n c zs q w h hok hq
    · rw [if_neg (fun h => hq h.2)]; exact iScaled_out A n c zs q w h hn (Or.inr ⟨hok, by have := stepOf_range q; omega⟩)
  · rw [if_neg (fun h => hok h.1)]; exact iScaled_out A n c zs q w h hn (Or.inl (by simpa using hok))
end Go.Proofs.Ytcjodaoeoifbcaa
