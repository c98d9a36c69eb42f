/-
  FnInverse: the inverse transform of the forward transform restores the block up to its norms. No condition.
-/
import Derived.Test.YtilfekkgoooefaaTurn
import Derived.Test.YtilfekkgoooefaaInvLaw
import Derived.Test.YtilfekkgoooefaaStep
import Derived.Test.YtilfekkgoooefaaDraw12
import Derived.Test.YtilfekkgoooefaaLawHelp
namespace Go.Proofs.Ytilfekkgoooefaa.fnInverse
open Go.ChangeShapes Go.WideShapes Go.ChangeAt Go.RowKit
set_option linter.unusedVariables false
def tn (x : Int) : Bool := decide (x < 100000) && decide (-100000 < x)
def tinyB (zs : List Int) (k : Nat) : Bool := (zs.take k).all tn
theorem tinyB_zero (zs : List Int) : tinyB zs 0 = true := by simp [tinyB]
theorem tinyB_succ (zs : List Int) (k : Nat) (h : k < zs.length) : tinyB zs (k + 1) = (tinyB zs k && tn (zs.getD k 0)) := by
  unfold tinyB; rw [take_snoc_l zs k h, List.all_append]; simp
theorem tinyB_yes (zs : List Int) (n : Nat) (hl : zs.length = n) (h : tinyB zs n = true) : Tiny zs n := by
  intro j hj
  unfold tinyB at h
  rw [List.take_of_length_le (by omega), List.all_eq_true] at h
  have := h (zs.getD j 0) (by rw [List.getD_eq_getElem?_getD, List.getElem?_eq_getElem (by omega)]; exact List.getElem_mem (by omega))
  simp only [tn, Bool.and_eq_true, decide_eq_true_eq] at this
  omega
theorem tn_yes {x : Int} (h1 : x < 100000) (h2 : -100000 < x) : tn x = true := by simp [tn, h1, h2]
theorem tn_no1 {x : Int} (h1 : ¬ x < 100000) : tn x = false := by simp [tn, h1]
theorem tn_no2 {x : Int} (h2 : ¬ -100000 < x) : tn x = false := by simp [tn, h2]
theorem fits_len {zs : List Int} {n : Nat} (h : fitsB zs n = true) : zs.length = n * n := by
  unfold fitsB at h
  simp only [Bool.and_eq_true, decide_eq_true_eq] at h
  exact h.2
set_option maxRecDepth 100000 in
set_option maxHeartbeats 16000000 in
theorem walkIn (a0 : Option Addr) (len0 cap0 : Nat) (z0 : List Int) (w : World) (w0 : IsRow .u8 w a0 len0 cap0 z0) (hl : len0 ≤ 1048576) :
    Calls Try.prog 8 #[.slice a0 len0 cap0] w fun e w' => e = .returned (.bool true) ∧ Below w.heap.size w w' := by
  have HRU := Lib.hid (RU.ofIsRow w0)
  clear w0
  go_enter Try.func8, Try.ntmps8
  go_wp2_with fail
  refine (big_no _ _ _ _ hl).mono ?_
  rintro e w' ⟨rfl, rfl⟩
  go_wp2_with fail
  refine (xDrawForward4 _ _ _ _ _ HRU.out hl).mono ?_
  rintro e W1 ⟨A1, n1, c1, ls, rfl, r1, hn1, b1⟩
  cases hfit : fitsB ls 4
  · have hT : Hid (trans 4 mA ls = []) := by show trans 4 mA ls = []; unfold trans; rw [hfit]; rfl
    clear hfit
    have hn16 : n1 ≤ 1048576 := by omega
    go_wp2_with fail
    refine (iForward4 _ _ _ ls _ r1 hn16).mono ?_
    rintro e W2 ⟨A2, n2, c2, rfl, o2, b2⟩
    obtain rfl : n2 = 0 := by have := o2.len; rw [hT.out] at this; exact this.symm
    have r1 := r1.below b2
    have b02 := b1.trans (b2.mono b1.size)
    clear o2 b1 b2
    go_wp2_with fail
    refine (sForward4 _ _ _ ls _ r1 hn16).mono ?_
    rintro e W3 ⟨A3, n3, c3, rfl, o3, b3⟩
    obtain rfl : n3 = 0 := by have := o3.len; rw [hT.out] at this; exact this.symm
    have b03 := b02.trans (b3.mono b02.size)
    clear o3 b02 b3 r1 hn1
    go_wp2
    go_ret
    exact ⟨rfl, b03⟩
  · have hT : trans 4 mA ls = mulL 4 mA ls := by unfold trans; rw [hfit]; rfl
    have hls := fits_len hfit
    obtain rfl : n1 = 16 := by have := r1.len; omega
    have HI := Lib.hid (fun h => inv4 ls hls (tinyB_yes ls 16 hls h))
    clear hfit hn1
    go_wp2_with fail
    refine (iForward4 _ _ _ ls _ r1 (by omega)).mono ?_
    rintro e W2 ⟨A2, n2, c2, rfl, o2, b2⟩
    rw [hT] at o2
    obtain rfl : n2 = 16 := by have := o2.len; rw [mulL_len] at this; exact this.symm
    have hFb := Lib.hid (fun j hj => mul_big ls j hj hT)
    clear hT
    obtain ⟨F, hF⟩ : ∃ F, F = mulL 4 mA ls := ⟨_, rfl⟩
    rw [← hF] at o2 HI hFb
    clear hF
    have r1 := r1.below b2
    have b02 := b1.trans (b2.mono b1.size)
    clear b1 b2 hls
    -- is the block small?
    go_wp2
    go_loop [5, 6] (fun s i => ∃ k : Nat, k ≤ 16 ∧ i = .int .i64 (k : Int) ∧ s = .bool (tinyB ls k)) (fun _ i => 16 - (intOf i).toNat)
    case atStart => exact ⟨0, by omega, rfl, rfl⟩
    case round =>
      obtain ⟨k, hk, rfl, rfl⟩ := hrel
      by_cases hlt : k < 16
      · have hlti : (k : Int) < 16 := by omega
        have hk0 : (0 : Int) ≤ (k : Int) := by omega
        obtain ⟨b, off, e, hbl, hc⟩ := r1.at_ hlt
        have hc1 := hc k hlt
        have hS := Lib.hid (tinyB_succ ls k (by have := r1.len; omega))
        obtain ⟨x, hx⟩ : ∃ x, x = ls.getD k 0 := ⟨_, rfl⟩
        rw [← hx] at hc1 hS
        subst e
        have RR := Lib.hid r1
        clear hx hc r1
        cases hti : tinyB ls k
        · rw [hti] at hS
          clear hti hc1
          go_wp2
          go_round
          case rel => exact ⟨k + 1, by omega, by go_num, by rw [hS.out]; first | done | rfl⟩
          case measure => simp [intOf]; omega
        · rw [hti] at hS
          clear hti
          by_cases g1 : x < 100000
          · by_cases g2 : -100000 < x
            · have HE := Lib.hid (hS.out.trans (show (true && tn x) = true by rw [tn_yes g1 g2]; first | done | rfl))
              go_wp2
              go_round
              case rel => exact ⟨k + 1, by omega, by go_num, by rw [HE.out]⟩
              case measure => simp [intOf]; omega
            · have HE := Lib.hid (hS.out.trans (show (true && tn x) = false by rw [tn_no2 g2]; first | done | rfl))
              have g3 : decide (-100000 < x) = false := by simpa using g2
              clear g2
              go_wp2
              go_round
              case rel => exact ⟨k + 1, by omega, by go_num, by rw [HE.out]⟩
              case measure => simp [intOf]; omega
          · have HE := Lib.hid (hS.out.trans (show (true && tn x) = false by rw [tn_no1 g1]; first | done | rfl))
            have g3 : decide (x < 100000) = false := by simpa using g1
            clear g1
            go_wp2
            go_round
            case rel => exact ⟨k + 1, by omega, by go_num, by rw [HE.out]⟩
            case measure => simp [intOf]; omega
      · obtain rfl : k = 16 := by omega
        obtain ⟨sm, hsm⟩ : ∃ sm, sm = tinyB ls 16 := ⟨_, rfl⟩
        rw [← hsm] at HI ⊢
        clear hsm
        -- each number by its norm
        have hbase := b02.size
        go_wp2
        go_loopw [7, 8] (fun v i wr => ∃ k : Nat, k ≤ 16 ∧ i = .int .i64 (k : Int) ∧ wr.ownsRow W2.heap.size 3 1 v k ((nrm4 F k).map (Value.int .i64)) ∧ Below W2.heap.size W2 wr) (fun _ i _ => 16 - (intOf i).toNat)
        case atStart => exact ⟨0, Nat.zero_le _, rfl, World.ownsRow_made _ #[] 0 (Nat.le_refl _) (by decide) rfl, (Below.refl _ _).alloc (Nat.le_refl _) _⟩
        case round =>
          obtain ⟨k, hk, rfl, hown, hb⟩ := hrel
          by_cases hlt : k < 16
          · have hlti : (k : Int) < 16 := by omega
            have hk0 : (0 : Int) ≤ (k : Int) := by omega
            have hxb := hFb.out k hlt
            have hT := Lib.hid (nrm4_succ F k)
            obtain ⟨b, off, e, hbl, hc⟩ := o2.read.at_ hlt
            have hc1 := hc k hlt
            have hnb := norm_cases k hlt
            obtain ⟨x, hx⟩ : ∃ x, x = F.getD k 0 := ⟨_, rfl⟩
            obtain ⟨nm, hnm⟩ : ∃ nm, nm = normAt 4 (k : Int) := ⟨_, rfl⟩
            rw [← hx] at hc1 hT hxb
            have hN : Hid (∀ W, (W.cell? ⟨b, off + k, none⟩ = some (.int .i64 x) ∧ Below W2.heap.size W2 W) → Calls Try.prog 21 #[.int .i64 4, .int .i64 (k : Int)] W fun e w' => e = .returned (.int .i64 nm) ∧ (w'.cell? ⟨b, off + k, none⟩ = some (.int .i64 x) ∧ Below W2.heap.size W2 w') ∧ Own W2.heap.size W w') := by
              rw [hnm]
              intro W hW
              refine (sNormAt 4 k W).mono ?_
              rintro e w' ⟨rfl, b'⟩
              have b2 := hW.2.trans (b'.mono hW.2.size)
              exact ⟨rfl, ⟨(b2.cell (p := ⟨b, off + k, none⟩) hbl).trans hc1, b2⟩, fun v n xs ho => owns_below ho b'⟩
            rw [← hnm] at hT hnb
            have hmb : -(100 * 256000000000) ≤ x * nm ∧ x * nm ≤ 100 * 256000000000 := mul_norm x nm 256000000000 hxb hnb
            have hw1 : IntKind.i64.wrap (x * nm) = x * nm := IntWalk.i64_in _ (by omega)
            have hl2 : Small k := small_of (by omega)
            obtain ⟨L, hL'⟩ : ∃ L, L = nrm4 F k := ⟨_, rfl⟩
            rw [← hL'] at hown hT
            have hsrc := (hb.cell (p := ⟨b, off + k, none⟩) hbl).trans hc1
            subst e
            have O2 := Lib.hid o2
            have R1 := Lib.hid r1
            have B02 := Lib.hid b02
            clear hx hc hL' hnm o2 r1 b02 hxb hnb hmb
            go_wp2
            go_region_held3 (fun W => W.cell? ⟨b, off + k, none⟩ = some (.int .i64 x) ∧ Below W2.heap.size W2 W)
              (first | assumption | exact ⟨hsrc, hb.drew⟩ | exact hS4 | exact ⟨(World.cell?_alloc_lt _ _ _ (Nat.lt_of_lt_of_le hbl hS4.2.size)).trans hS4.1, hS4.2.alloc hS4.2.size _⟩ | exact ⟨(hb5.cell (p := ⟨b, off + k, none⟩) hbl).trans hc1, hb5⟩)
              (first
                | (go_at_call 21; refine (hN.out _ (by assumption)).mono ?_; rintro e w4 ⟨rfl, hS4, ho4⟩)
                | (refine step_app_p (wr := w4) rfl (.tmp 52) (.tmp 60) rfl _ k L rfl (ho4 _ _ _ hown) hS4.2.size rfl hl2 ?_; intro g cap w5 hown5 hg5 hp5; have hb5 := hS4.2.grown hg5 hS4.2.size (fun g hg => (hown.lt g hg).1)))
            all_goals
              go_wp2
              go_roundw
              case rel => exact ⟨k + 1, by omega, by go_num, by rw [hT.out]; exact hown5, hb5⟩
              case measure => simp [intOf]; omega
          · obtain rfl : k = 16 := by omega
            obtain ⟨a, c', hv⟩ := owns_shape hown
            subst hv
            have b03 := b02.trans (hb.mono b02.size)
            have r1 := r1.below hb
            have oX := OB.new hown
            clear hown hb o2 b02
            obtain ⟨X, hX⟩ : ∃ X, X = nrm4 F 16 := ⟨_, rfl⟩
            rw [← hX] at oX HI
            clear hX
            go_wp2_with fail
            refine (iInverse4 _ _ _ X _ oX.read (by omega)).mono ?_
            rintro e W4 ⟨A4, n4, c4, rfl, o4, b4⟩
            have r1 := r1.below b4
            have b04 := b03.trans (b4.mono b03.size)
            have hn4 : n4 ≤ 1048576 := by have := o4.len; have := trans_len4 X; omega
            clear oX b03 b4
            go_wp2_with fail
            refine (iRounded _ _ _ _ _ o4.read hn4).mono ?_
            rintro e W5 ⟨A5, n5, c5, rfl, o5, b5⟩
            have r1 := r1.below b5
            have b05 := b04.trans (b5.mono b04.size)
            have HY : Hid (sm = true → rounded (trans 4 mAT X) = ls) := by
              show sm = true → rounded (trans 4 mAT X) = ls
              intro h
              obtain ⟨f1, f2⟩ := HI.out h
              unfold trans
              rw [f1, if_pos rfl]
              exact f2
            obtain ⟨Y, hY⟩ : ∃ Y, Y = rounded (trans 4 mAT X) := ⟨_, rfl⟩
            rw [← hY] at o5 HY
            have r5 := o5.read
            have hn5 : n5 ≤ 1048576 := by have := o5.len; rw [hY] at this; have := rounded_len4 X; omega
            clear o4 o5 b04 b5 HI hY hn4
            go_wp2_with fail
            refine (xDrawForward8 _ _ _ _ _ (HRU.out.below b05) hl).mono ?_
            rintro e W6 ⟨A6, n6, c6, ms, rfl, r6, hn6, b6⟩
            have r1 := r1.below b6
            have r5 := r5.below b6
            have b06 := b05.trans (b6.mono b05.size)
            have hn6b : n6 ≤ 1048576 := by omega
            clear b05 b6
            go_wp2_with fail
            refine (iForward8 _ _ _ ms _ r6 hn6b).mono ?_
            rintro e W7 ⟨A7, n7, c7, rfl, o7, b7⟩
            have r1 := r1.below b7
            have r5 := r5.below b7
            have r6 := r6.below b7
            have b07 := b06.trans (b7.mono b06.size)
            have hc7 : n7 = 64 ∧ fitsB ms 8 = true ∧ trans 8 mH ms = mulL 8 mH ms ∨ n7 = 0 := by
              have := o7.len
              unfold trans at this ⊢
              cases hfit : fitsB ms 8
              · rw [hfit] at this; exact Or.inr this.symm
              · rw [hfit, if_pos rfl, mulL_len] at this; exact Or.inl ⟨this.symm, rfl, by rw [if_pos rfl]⟩
            have r7 := o7.read
            clear o7 b06 b7
            rcases hc7 with ⟨rfl, hfit, hT⟩ | rfl
            · have hms := fits_len hfit
              obtain rfl : n6 = 64 := by have := r6.len; omega
              have HJ := Lib.hid (fun h => inv8 ms hms (tinyB_yes ms 64 hms h))
              rw [hT] at r7
              obtain ⟨G, hG⟩ : ∃ G, G = mulL 8 mH ms := ⟨_, rfl⟩
              rw [← hG] at r7 HJ
              clear hG hT hms hfit hn6 hn6b
              go_wp2
              go_loop [12, 13] (fun s i => ∃ k : Nat, k ≤ 64 ∧ i = .int .i64 (k : Int) ∧ s = .bool (tinyB ms k)) (fun _ i => 64 - (intOf i).toNat)
              case atStart => exact ⟨0, by omega, rfl, rfl⟩
              case round =>
                obtain ⟨k, hk, rfl, rfl⟩ := hrel
                by_cases hlt : k < 64
                · have hlti : (k : Int) < 64 := by omega
                  have hk0 : (0 : Int) ≤ (k : Int) := by omega
                  obtain ⟨b, off, e, hbl, hc⟩ := r6.at_ hlt
                  have hc1 := hc k hlt
                  have hS := Lib.hid (tinyB_succ ms k (by have := r6.len; omega))
                  obtain ⟨x, hx⟩ : ∃ x, x = ms.getD k 0 := ⟨_, rfl⟩
                  rw [← hx] at hc1 hS
                  subst e
                  have RR := Lib.hid r6
                  clear hx hc r6
                  cases hti : tinyB ms k
                  · rw [hti] at hS
                    clear hti hc1
                    go_wp2
                    go_round
                    case rel => exact ⟨k + 1, by omega, by go_num, by rw [hS.out]; first | done | rfl⟩
                    case measure => simp [intOf]; omega
                  · rw [hti] at hS
                    clear hti
                    by_cases g1 : x < 100000
                    · by_cases g2 : -100000 < x
                      · have HE := Lib.hid (hS.out.trans (show (true && tn x) = true by rw [tn_yes g1 g2]; first | done | rfl))
                        go_wp2
                        go_round
                        case rel => exact ⟨k + 1, by omega, by go_num, by rw [HE.out]⟩
                        case measure => simp [intOf]; omega
                      · have HE := Lib.hid (hS.out.trans (show (true && tn x) = false by rw [tn_no2 g2]; first | done | rfl))
                        have g3 : decide (-100000 < x) = false := by simpa using g2
                        clear g2
                        go_wp2
                        go_round
                        case rel => exact ⟨k + 1, by omega, by go_num, by rw [HE.out]⟩
                        case measure => simp [intOf]; omega
                    · have HE := Lib.hid (hS.out.trans (show (true && tn x) = false by rw [tn_no1 g1]; first | done | rfl))
                      have g3 : decide (x < 100000) = false := by simpa using g1
                      clear g1
                      go_wp2
                      go_round
                      case rel => exact ⟨k + 1, by omega, by go_num, by rw [HE.out]⟩
                      case measure => simp [intOf]; omega
                · obtain rfl : k = 64 := by omega
                  obtain ⟨ti, hti⟩ : ∃ ti, ti = tinyB ms 64 := ⟨_, rfl⟩
                  rw [← hti] at HJ ⊢
                  clear hti
                  go_wp2_with fail
                  refine (iInverse8 _ _ _ G _ r7 (by omega)).mono ?_
                  rintro e W8 ⟨A8, n8, c8, rfl, o8, b8⟩
                  have r1 := r1.below b8
                  have r5 := r5.below b8
                  have r6 := r6.below b8
                  have b08 := b07.trans (b8.mono b07.size)
                  have hn8 : n8 ≤ 1048576 := by have := o8.len; have := trans_len8 G; omega
                  clear b07 b8 r7
                  go_wp2_with fail
                  refine (iRounded _ _ _ _ _ o8.read hn8).mono ?_
                  rintro e W9 ⟨A9, n9, c9, rfl, o9, b9⟩
                  have r1 := r1.below b9
                  have r5 := r5.below b9
                  have r6 := r6.below b9
                  have b09 := b08.trans (b9.mono b08.size)
                  have HZ : Hid (ti = true → rounded (trans 8 mH G) = ms) := by
                    show ti = true → rounded (trans 8 mH G) = ms
                    intro h
                    obtain ⟨f1, f2⟩ := HJ.out h
                    unfold trans
                    rw [f1, if_pos rfl]
                    exact f2
                  obtain ⟨Z, hZ⟩ : ∃ Z, Z = rounded (trans 8 mH G) := ⟨_, rfl⟩
                  rw [← hZ] at o9 HZ
                  have r9 := o9.read
                  clear o8 o9 b08 b9 hZ HJ hn8
                  cases sm
                  · cases ti
                    · go_wp2
                      go_ret
                      exact ⟨rfl, b09⟩
                    · have hz := HZ.out rfl
                      rw [hz] at r9
                      clear hz
                      have e1 := r9.len.symm.trans r6.len
                      subst e1
                      go_wp2_with fail
                      refine (sameInts_yes _ _ _ _ _ _ _ r9 r6 (by omega)).mono ?_
                      rintro e W10 ⟨rfl, b10⟩
                      go_wp2
                      go_ret
                      exact ⟨rfl, b09.trans (b10.mono b09.size)⟩
                  · have hy := HY.out rfl
                    rw [hy] at r5
                    clear hy
                    have e0 := r5.len.symm.trans r1.len
                    subst e0
                    go_wp2_with fail
                    refine (sameInts_yes _ _ _ _ _ _ _ r5 r1 (by omega)).mono ?_
                    rintro e W10 ⟨rfl, b10⟩
                    have b010 := b09.trans (b10.mono b09.size)
                    have r6 := r6.below b10
                    have r9 := r9.below b10
                    cases ti
                    · go_wp2
                      go_ret
                      exact ⟨rfl, b010⟩
                    · have hz := HZ.out rfl
                      rw [hz] at r9
                      clear hz
                      have e1 := r9.len.symm.trans r6.len
                      subst e1
                      go_wp2_with fail
                      refine (sameInts_yes _ _ _ _ _ _ _ r9 r6 (by omega)).mono ?_
                      rintro e W11 ⟨rfl, b11⟩
                      go_wp2
                      go_ret
                      exact ⟨rfl, b010.trans (b11.mono b010.size)⟩
            · have hcm : n6 ≤ 64 := by omega
              clear hn6 hn6b
              go_wp2
              go_loop [12, 13] (fun s i => ∃ k : Nat, k ≤ n6 ∧ i = .int .i64 (k : Int) ∧ s = .bool false) (fun _ i => n6 - (intOf i).toNat)
              case atStart => exact ⟨0, by omega, rfl, rfl⟩
              case round =>
                obtain ⟨k, hk, rfl, rfl⟩ := hrel
                by_cases hlt : k < n6
                · have hlti : (k : Int) < (n6 : Int) := by omega
                  go_wp2
                  go_round
                  case rel => exact ⟨k + 1, by omega, by go_num, rfl⟩
                  case measure => simp [intOf]; omega
                · obtain rfl : k = n6 := by omega
                  obtain ⟨G, hG⟩ : ∃ G, G = trans 8 mH ms := ⟨_, rfl⟩
                  rw [← hG] at r7
                  clear hG
                  go_wp2_with fail
                  refine (iInverse8 _ _ _ G _ r7 (by omega)).mono ?_
                  rintro e W8 ⟨A8, n8, c8, rfl, o8, b8⟩
                  have r1 := r1.below b8
                  have r5 := r5.below b8
                  have b08 := b07.trans (b8.mono b07.size)
                  have hn8 : n8 ≤ 1048576 := by have := o8.len; have := trans_len8 G; omega
                  clear b07 b8 r7 r6
                  go_wp2_with fail
                  refine (iRounded _ _ _ _ _ o8.read hn8).mono ?_
                  rintro e W9 ⟨A9, n9, c9, rfl, o9, b9⟩
                  have r1 := r1.below b9
                  have r5 := r5.below b9
                  have b09 := b08.trans (b9.mono b08.size)
                  clear o8 o9 b08 b9 hn8
                  cases sm
                  · go_wp2
                    go_ret
                    exact ⟨rfl, b09⟩
                  · have hy := HY.out rfl
                    rw [hy] at r5
                    clear hy
                    have e0 := r5.len.symm.trans r1.len
                    subst e0
                    go_wp2_with fail
                    refine (sameInts_yes _ _ _ _ _ _ _ r5 r1 (by omega)).mono ?_
                    rintro e W10 ⟨rfl, b10⟩
                    have b010 := b09.trans (b10.mono b09.size)
                    go_wp2
                    go_ret
                    exact ⟨rfl, b010⟩
theorem walk (a0 : Option Addr) (len0 cap0 : Nat) (z0 : List Int) (w : World) (w0 : IsRow .u8 w a0 len0 cap0 z0) :
    Calls Try.prog 8 #[.slice a0 len0 cap0] w fun e w' => e = .returned (.bool true) ∧ Below w.heap.size w w' := by
  by_cases hl : len0 ≤ 1048576
  · exact walkIn a0 len0 cap0 z0 w w0 hl
  · go_enter Try.func8, Try.ntmps8
    go_wp2_with fail
    refine (big_yes _ _ _ _ hl).mono ?_
    rintro e w' ⟨rfl, rfl⟩
    go_wp2
    go_ret
    exact ⟨rfl, Below.refl _ _⟩

set_option maxRecDepth 100000 in
theorem lifted (os : Os) (started : os.Started) (H : Type) (enc : TypeId × Value → H) :
    ReturnsInHanded {} Try.checked os 8 .any (Rows.fnInverseSpec.pre6 enc Try.prog Try.f8 Rows.fnInverseRow.domain false) (Rows.fnInverseSpec.post enc Try.prog Try.f8 false true false false) := by
  refine returnsInHanded_of_change (C := Try.checked) own started (by kernel_rfl) Try.func8
    (ChangeSpec.witness6 (enc := enc) (C := Try.checked) false ⟨#[], #[.slice none 0 0], []⟩ 8 (by kernel_rfl) (by kernel_rfl) (by kernel_rfl) (by kernel_rfl)) ?_
  intro W base args ds gs before hval0 hW hcnd _
  have hval : ∀ (j : Nat) t v, Try.f8.params[j]? = some t → args[j]? = some v → Value.okWide Try.prog W .any base t v := hval0
  have hW' := hW
  obtain ⟨p, q, hA0, hV, rfl, hfz, hnd⟩ := hW
  have hA : DataW.TrodAll enc Try.prog W 0 (fun _ => true) true Try.f8.params.toList args.toList ds p := hA0
  rw [Try.params8] at hA hval
  obtain ⟨v0, vs0, d0, ds0, p0, q0, hargs, rfl, rfl, h0, r0⟩ := trodAll_cons hA
  obtain ⟨rfl, rfl, rfl⟩ := trodAll_nil r0
  obtain rfl : args = #[v0] := by cases args; simp_all
  obtain ⟨rfl, rfl⟩ := trodVars_none hV
  obtain ⟨a0, len0, cap0, rfl⟩ := okWide_slice Try.underlying29 (hval 0 29 v0 rfl rfl)
  have k0 := h0
  have lt0 : ∀ x ∈ p0, x.block < W.heap.size := by obtain ⟨m, hm⟩ := k0; exact DataW.trod_lt m _ _ _ hm
  obtain ⟨z0, w0⟩ : ∃ zs, IsRow .u8 W a0 len0 cap0 zs := by
    obtain ⟨fuel, hf⟩ := h0
    rcases open_ints Try.underlying29 Try.underlying5 (by kernel_rfl) hf with ⟨hcs, _⟩ | ⟨x, l, c, zs, hcs, _, hl, hm, hz, _, hcell, hwz⟩
    · simp [Value.cells] at hcs
      obtain ⟨rfl, rfl, rfl⟩ := hcs
      exact ⟨[], .inl ⟨rfl, rfl, rfl, rfl⟩⟩
    · simp [Value.cells] at hcs
      obtain ⟨rfl, rfl, rfl⟩ := hcs
      exact ⟨zs, .inr ⟨_, rfl, hl, hm, by simpa using hz, hcell, hwz⟩⟩
  clear hA0 hval0
  refine (walk a0 len0 cap0 z0 W w0).mono fun e W' ⟨he, bel⟩ => ?_
  subst he
  simp only [List.append_nil] at hW'
  exact ⟨_, rfl, _, _, _, [], _, [], hW', trodAll_mk1 (shut_bool Try.underlying4 _), (trodAll_cons_mk (Below.trod laidOut (by kernel_rfl) (of_decide_eq_true (by kernel_rfl)) k0 bel lt0) trodAll_mk0), rfl, bel.frame _, fun h => by cases h⟩

theorem proved : Rows.FnInverseSaid :=
  OpenClaim.holds_of_wide 8 Try.f8 rfl rfl rfl rfl rfl rfl rfl ⟨rfl, rfl, rfl, rfl, rfl⟩ rfl rfl rfl rfl rfl (by kernel_rfl) Try.func8 (by kernel_rfl)
    (of_decide_eq_true (by kernel_rfl)) (by unfold Func.isWrapper; first | (rw [if_pos (by decide +kernel)]; kernel_rfl) | (rw [if_neg (by decide +kernel)]; exact ⟨rfl, rfl⟩))
    (fun os started H enc _ => lifted os started H enc)

end Go.Proofs.Ytilfekkgoooefaa.fnInverse
