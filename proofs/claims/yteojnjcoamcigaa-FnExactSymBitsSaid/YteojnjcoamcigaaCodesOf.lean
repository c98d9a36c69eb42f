/-
  CodesOf, the reference's and the program's: both return 'codesOf' of the lengths. No condition but at most 2^20 of them.
-/
import Derived.Test.YteojnjcoamcigaaCodeOk
import Derived.Test.YteojnjcoamcigaaBitsIn
namespace Go.Proofs.Yteojnjcoamcigaa
open Go.ChangeShapes Go.WideShapes Go.ChangeAt Go.RowKit
set_option linter.unusedVariables false
/-- One symbol: if its length is d it gets the next code. -/
def inStep (zs : List Int) (d : Int) (st : Int × List Int) (m : Nat) : Int × List Int := if zs.getD m 0 = d then (st.1 + 1, st.2.set m st.1) else st
def inner (zs : List Int) (d : Int) (k : Nat) (st : Int × List Int) : Int × List Int := (List.range k).foldl (inStep zs d) st
theorem inner_zero (zs : List Int) (d : Int) (st : Int × List Int) : inner zs d 0 st = st := rfl
theorem inner_succ (zs : List Int) (d : Int) (k : Nat) (st : Int × List Int) : inner zs d (k + 1) st = inStep zs d (inner zs d k st) k := by
  unfold inner; rw [List.range_succ, List.foldl_append]; rfl
theorem inner_bd (zs : List Int) (d : Int) (st : Int × List Int) : ∀ k : Nat, st.1 ≤ (inner zs d k st).1 ∧ (inner zs d k st).1 ≤ st.1 + (k : Int)
  | 0 => by rw [inner_zero]; omega
  | k + 1 => by
    have := inner_bd zs d st k
    rw [inner_succ]
    unfold inStep
    split
    · show st.1 ≤ (inner zs d k st).1 + 1 ∧ (inner zs d k st).1 + 1 ≤ st.1 + ((k + 1 : Nat) : Int)
      omega
    · omega
theorem inner_len (zs : List Int) (d : Int) (st : Int × List Int) : ∀ k : Nat, (inner zs d k st).2.length = st.2.length
  | 0 => by rw [inner_zero]
  | k + 1 => by
    rw [inner_succ]
    unfold inStep
    split
    · rw [List.length_set]; exact inner_len zs d st k
    · exact inner_len zs d st k
/-- The first j lengths. -/
def outer (zs : List Int) : Nat → Int × List Int
  | 0 => (0, List.replicate 6 (-1))
  | j + 1 => inner zs ((j : Int) + 1) 6 ((outer zs j).1 * 2, (outer zs j).2)
theorem outer_bd (zs : List Int) : ∀ j : Nat, j ≤ 7 → 0 ≤ (outer zs j).1 ∧ (outer zs j).1 ≤ 2000
  | 0, _ => by simp [outer]
  | j + 1, h => by
    have H : ∀ j : Nat, 0 ≤ (outer zs j).1 ∧ (outer zs j).1 ≤ 8 * 2 ^ j - 8 := by
      intro j
      induction j with
      | zero => simp [outer]
      | succ j ih =>
        have := inner_bd zs ((j : Int) + 1) ((outer zs j).1 * 2, (outer zs j).2) 6
        simp only at this
        rw [outer, Int.pow_succ]
        omega
    have h1 := H (j + 1)
    have h2 : (2 : Nat) ^ (j + 1) ≤ 2 ^ 7 := Nat.pow_le_pow_right (by decide) h
    have h3 : ((2 ^ (j + 1) : Nat) : Int) = 2 ^ (j + 1) := by rw [Int.natCast_pow]; rfl
    omega
theorem outer_len (zs : List Int) : ∀ j : Nat, (outer zs j).2.length = 6
  | 0 => by simp [outer]
  | j + 1 => by rw [outer, inner_len]; exact outer_len zs j
def codesOf (zs : List Int) : List Int := if codeOk zs = true then (outer zs 7).2 else []
theorem codesOf_len (zs : List Int) : (codesOf zs).length ≤ 1000000000 := by
  unfold codesOf
  split
  · rw [outer_len]; omega
  · simp
theorem codeOk_len {zs : List Int} (h : codeOk zs = true) : zs.length = 6 := by
  unfold codeOk at h
  simp only [Bool.and_eq_true, decide_eq_true_eq] at h
  exact h.2.1
theorem map_set_i (l : List Int) (m : Nat) (x : Int) : (l.map (Value.int .i64)).set m (.int .i64 x) = (l.set m x).map (Value.int .i64) := by rw [← List.map_set]

/-- The next code, and the codes, behind j lengths and k symbols of the next one. -/
def stC (zs : List Int) (j k : Nat) : Int := (inner zs ((j : Int) + 1) k ((outer zs j).1 * 2, (outer zs j).2)).1
def stL (zs : List Int) (j k : Nat) : List Int := (inner zs ((j : Int) + 1) k ((outer zs j).1 * 2, (outer zs j).2)).2
theorem stC_hit (zs : List Int) (j k : Nat) (h : zs.getD k 0 = (j : Int) + 1) : stC zs j (k + 1) = stC zs j k + 1 ∧ stL zs j (k + 1) = (stL zs j k).set k (stC zs j k) := by
  unfold stC stL; rw [inner_succ]; unfold inStep; rw [if_pos h]; exact ⟨rfl, rfl⟩
theorem stC_miss (zs : List Int) (j k : Nat) (h : ¬ zs.getD k 0 = (j : Int) + 1) : stC zs j (k + 1) = stC zs j k ∧ stL zs j (k + 1) = stL zs j k := by
  unfold stC stL; rw [inner_succ]; unfold inStep; rw [if_neg h]; exact ⟨rfl, rfl⟩
theorem stC_bd (zs : List Int) (j k : Nat) (hj : j ≤ 7) (hk : k ≤ 6) : 0 ≤ stC zs j k ∧ stC zs j k ≤ 5000 := by
  have h1 := outer_bd zs j hj
  have h2 := inner_bd zs ((j : Int) + 1) ((outer zs j).1 * 2, (outer zs j).2) k
  unfold stC
  simp only at h2
  omega
theorem stL_len (zs : List Int) (j k : Nat) : (stL zs j k).length = 6 := by unfold stL; rw [inner_len]; exact outer_len zs j

set_option maxRecDepth 100000 in
theorem iCodesOf_yes (A : Option Addr) (n c : Nat) (zs : List Int) (w : World) (h : RI w A n zs) (hok : codeOk zs = true) :
    Calls Try.prog 38 #[.slice A n c] w fun e w' => ∃ g, e = .returned (.slice (some ⟨g, 0, none⟩) 6 6) ∧ OB w' w.heap.size w'.heap.size (some ⟨g, 0, none⟩) 6 6 (codesOf zs) ∧ Below w.heap.size w w' := by
  have hlen := h.len
  have h6 := codeOk_len hok
  obtain rfl : n = 6 := by omega
  have hC : Hid (∀ W, RI W A 6 zs → Calls Try.prog 17 #[.slice A 6 c] W fun e w' => e = .returned (.bool true) ∧ Below W.heap.size W w') := by
    intro W hW; have := iCodeOk A 6 c zs W hW (by omega); rw [hok] at this; exact this
  have hE : Hid (codesOf zs = (outer zs 7).2) := by show codesOf zs = _; unfold codesOf; rw [if_pos hok]
  clear hok h6 hlen
  go_enter Try.func38, Try.ntmps38
  go_wp2_with (first
    | (go_at_call 17; refine (hC.out _ h).mono ?_; rintro e w1 ⟨rfl, b1⟩))
  have hst : (w1.alloc (.cells #[.int .i64 (-1), .int .i64 (-1), .int .i64 (-1), .int .i64 (-1), .int .i64 (-1), .int .i64 (-1)] 3)).ownsRow w.heap.size 3 1 (.slice (some ⟨w1.heap.size, 0, none⟩) 6 6) 6 ((outer zs 0).2.map (Value.int .i64)) :=
    World.ownsRow_lit w1 _ 6 b1.size (by decide) rfl
  have hbs : Below w.heap.size w (w1.alloc (.cells #[.int .i64 (-1), .int .i64 (-1), .int .i64 (-1), .int .i64 (-1), .int .i64 (-1), .int .i64 (-1)] 3)) := b1.alloc b1.size _
  obtain ⟨g, hg⟩ : ∃ g, g = w1.heap.size := ⟨_, rfl⟩
  have hgb : w.heap.size ≤ g := by have := b1.size; omega
  rw [← hg] at hst ⊢
  clear hg hC
  go_loopw [4, 5] (fun a d wr => ∃ j : Nat, j ≤ 7 ∧ d = .int .i64 ((j : Int) + 1) ∧ a = .int .i64 (outer zs j).1 ∧ wr.ownsRow w.heap.size 3 1 (.slice (some ⟨g, 0, none⟩) 6 6) 6 ((outer zs j).2.map (Value.int .i64)) ∧ Below w.heap.size w wr) (fun _ d _ => (9 - intOf d).toNat)
  case atStart => exact ⟨0, by omega, rfl, rfl, hst, hbs⟩
  case round =>
    clear hst hbs
    obtain ⟨j, hj, rfl, rfl, hown, hb⟩ := hrel
    have hob := outer_bd zs j hj
    by_cases hj7 : j < 7
    · have hj7' : (j : Int) + 1 ≤ 7 := by omega
      obtain ⟨wo, rfl⟩ : ∃ wo : World, wo = wr := ⟨_, rfl⟩
      have h0C : Hid ((outer zs j).1 * 2 = stC zs j 0) := by show _ = _; unfold stC; rw [inner_zero]
      have h0L : (outer zs j).2 = stL zs j 0 := by unfold stL; rw [inner_zero]
      have h6C : Hid (stC zs j 6 = (outer zs (j + 1)).1) := rfl
      have h6L : Hid (stL zs j 6 = (outer zs (j + 1)).2) := rfl
      rw [h0L] at hown
      clear h0L
      go_wp2
      go_loopw [4, 20] (fun a m wr => ∃ k : Nat, k ≤ 6 ∧ m = .int .i64 k ∧ a = .int .i64 (stC zs j k) ∧ wr.ownsRow w.heap.size 3 1 (.slice (some ⟨g, 0, none⟩) 6 6) 6 ((stL zs j k).map (Value.int .i64)) ∧ Below w.heap.size w wr) (fun _ m _ => 6 - (intOf m).toNat)
      case atStart => exact ⟨0, by omega, rfl, by rw [h0C.out], hown, hb⟩
      case round =>
        clear hown hb hob
        obtain ⟨k, hk, rfl, rfl, hown, hb⟩ := hrel
        have hcb := stC_bd zs j k hj hk
        by_cases hk6 : k < 6
        · have hk6' : (k : Int) < 6 := by omega
          obtain ⟨b, off, rfl, hbl, hc⟩ := h.at_ hk6
          have hsrc : wr.cell? ⟨b, off + k, none⟩ = some (.int .i64 (zs.getD k 0)) := (hb.cell (p := ⟨b, off + k, none⟩) hbl).trans (hc k hk6)
          by_cases hit : zs.getD k 0 = (j : Int) + 1
          · have hs := stC_hit zs j k hit
            rw [hit] at hsrc
            obtain ⟨y, hcell⟩ : ∃ y, wr.cell? ⟨g, k, none⟩ = some y := ⟨_, (hown.cellAt k (by omega)).trans (List.getElem?_eq_getElem (by simp [stL_len]; omega))⟩
            have hfz := hown.frozenAt k
            have R := (hown.stored k (.int .i64 (stC zs j k))).1
            rw [map_set_i, ← hs.2] at R
            have R2 := hb.setCell (p := ⟨g, k, none⟩) hgb (.int .i64 (stC zs j k))
            have HR1 : Hid _ := R
            have HR2 : Hid _ := R2
            have HS := Lib.hid hs.1
            clear R R2 hs hown hb hc h hit
            go_wp2
            go_roundw
            case rel => exact ⟨k + 1, by omega, by go_num, by rw [HS.out], HR1.out, HR2.out⟩
            case measure => simp [intOf]; omega
          · have hs := stC_miss zs j k hit
            have hne : (zs.getD k 0 == (j : Int) + 1) = false := by rw [beq_eq_false_iff_ne]; exact hit
            obtain ⟨x, hx⟩ : ∃ x, x = zs.getD k 0 := ⟨_, rfl⟩
            rw [← hx] at hsrc hne
            rw [← hs.2] at hown
            have HS := Lib.hid hs.1
            clear hs hc h hit hx
            go_wp2
            go_roundw
            case rel => exact ⟨k + 1, by omega, by go_num, by rw [HS.out], hown, hb⟩
            case measure => simp [intOf]; omega
        · have hk6' : k = 6 := by omega
          subst hk6'
          go_wp2
          go_roundw
          case rel => exact ⟨j + 1, by omega, by go_num, by rw [← h6C.out], by rw [← h6L.out]; exact hown, hb⟩
          case measure => simp [intOf]; omega
    · have hj8 : j = 7 := by omega
      subst hj8
      rw [← hE.out] at hown
      go_wp2
      go_ret
      exact ⟨g, rfl, OB.new hown, hb⟩
theorem iCodesOf_no (A : Option Addr) (n c : Nat) (zs : List Int) (w : World) (h : RI w A n zs) (hn : n ≤ 1048576) (hok : codeOk zs = false) :
    Calls Try.prog 38 #[.slice A n c] w fun e w' => e = .returned (.slice none 0 0) ∧ Below w.heap.size w w' := by
  have hC : Hid (∀ W, RI W A n zs → Calls Try.prog 17 #[.slice A n c] W fun e w' => e = .returned (.bool false) ∧ Below W.heap.size W w') := by
    intro W hW; have := iCodeOk A n c zs W hW hn; rw [hok] at this; exact this
  go_enter Try.func38, Try.ntmps38
  go_wp2_with (first
    | (go_at_call 17; refine (hC.out _ h).mono ?_; rintro e w1 ⟨rfl, b1⟩))
  go_ret
  exact ⟨rfl, b1⟩
theorem iCodesOf (A : Option Addr) (n c : Nat) (zs : List Int) (w : World) (h : RI w A n zs) (hn : n ≤ 1048576) :
    Calls Try.prog 38 #[.slice A n c] w fun e w' => ∃ A' n' c', e = .returned (.slice A' n' c') ∧ OB w' w.heap.size w'.heap.size A' n' c' (codesOf zs) ∧ Below w.heap.size w w' := by
  cases hok : codeOk zs with
  | true =>
    refine (iCodesOf_yes A n c zs w h hok).mono ?_
    rintro e w' ⟨g, rfl, o, b⟩
    exact ⟨_, _, _, rfl, o, b⟩
  | false =>
    refine (iCodesOf_no A n c zs w h hn hok).mono ?_
    rintro e w' ⟨rfl, b⟩
    exact ⟨_, _, _, rfl, by unfold codesOf; rw [hok, if_neg (by simp)]; exact OB.nil_ _ _ _, b⟩
set_option maxRecDepth 100000 in
theorem sCodesOf_yes (A : Option Addr) (n c : Nat) (zs : List Int) (w : World) (h : RI w A n zs) (hok : codeOk zs = true) :
    Calls Try.prog 37 #[.slice A n c] w fun e w' => ∃ A' n' c', e = .returned (.slice A' n' c') ∧ OB w' w.heap.size w'.heap.size A' n' c' (codesOf zs) ∧ Below w.heap.size w w' := by
  have hlen := h.len
  have h6 := codeOk_len hok
  obtain rfl : n = 6 := by omega
  have hC : Hid (∀ W, RI W A 6 zs → Calls Try.prog 15 #[.slice A 6 c] W fun e w' => e = .returned (.bool true) ∧ Below W.heap.size W w') := by
    intro W hW; have := sCodeOk A 6 c zs W hW (by omega); rw [hok] at this; exact this
  have hE : Hid (codesOf zs = (outer zs 7).2) := by show codesOf zs = _; unfold codesOf; rw [if_pos hok]
  have hA : RI (w.alloc (.cells #[] 3)) A 6 zs := h.below ((Below.refl _ _).alloc (Nat.le_refl _) _)
  clear hok h6 hlen
  go_enter Try.func37, Try.ntmps37
  go_wp2_with (first
    | (go_at_call 15; refine (hC.out _ hA).mono ?_; rintro e w1 ⟨rfl, b1⟩))
  have hb0 : Below w.heap.size w (w.alloc (.cells #[] 3)) := (Below.refl _ _).alloc (Nat.le_refl _) _
  have hb1 : Below w.heap.size w w1 := hb0.trans (b1.mono hb0.size)
  have ho1 : w1.ownsRow w.heap.size 3 1 (.slice (some ⟨w.heap.size, 0, none⟩) 0 0) 0 ((List.replicate 0 (-1 : Int)).map (Value.int .i64)) := owns_below (World.ownsRow_made _ #[] 0 (Nat.le_refl _) (by decide) rfl) b1
  clear hC hA b1 hb0
  go_loopw [3, 4] (fun v i wr => ∃ k : Nat, k ≤ 6 ∧ i = .int .i64 (k : Int) ∧ wr.ownsRow w.heap.size 3 1 v k ((List.replicate k (-1 : Int)).map (Value.int .i64)) ∧ Below w.heap.size w wr) (fun _ i _ => (6 - intOf i).toNat)
  case atStart => exact ⟨0, Nat.zero_le _, by simp, ho1, hb1⟩
  case round =>
    obtain ⟨k, hk, rfl, hown, hb⟩ := hrel
    by_cases hk6 : k < 6
    · have hk6' : (k : Int) < 6 := by omega
      have e2 : Hid (List.replicate (k + 1) (-1 : Int) = List.replicate k (-1) ++ [-1]) := List.replicate_succ'
      have hl2 : Small k := small_of (by omega)
      go_wp2_with (first
        | (at_builtin; refine wpList_app_i64 rfl (.tmp 19) (.tmp 20) rfl _ k (List.replicate k (-1)) rfl hown hb rfl hl2 ?_; intro g cap w1 hown1 hb1 _))
      go_roundw
      case rel => exact ⟨k + 1, by omega, by go_num, by rw [e2.out]; exact hown1, hb1⟩
      case measure => simp [intOf]; omega
    · have hk6' : k = 6 := by omega
      subst hk6'
      obtain ⟨A', cg, hv⟩ := owns_shape hown
      subst hv
      obtain ⟨g, rfl, hgb, _, _⟩ := (OB.new hown).form (by omega)
      have hst : wr.ownsRow w.heap.size 3 1 (.slice (some ⟨g, 0, none⟩) 6 cg) 6 ((outer zs 0).2.map (Value.int .i64)) := hown
      have hbs := hb
      clear hown hb
      obtain ⟨wq, rfl⟩ : ∃ wq : World, wq = wr := ⟨_, rfl⟩
      clear hk
      go_wp2
      go_loopw [5, 6] (fun a d wr => ∃ j : Nat, j ≤ 7 ∧ d = .int .i64 ((j : Int) + 1) ∧ a = .int .i64 (outer zs j).1 ∧ wr.ownsRow w.heap.size 3 1 (.slice (some ⟨g, 0, none⟩) 6 cg) 6 ((outer zs j).2.map (Value.int .i64)) ∧ Below w.heap.size w wr) (fun _ d _ => (9 - intOf d).toNat)
      case atStart => exact ⟨0, by omega, rfl, rfl, hst, hbs⟩
      case round =>
        clear hst hbs
        obtain ⟨j, hj, rfl, rfl, hown, hb⟩ := hrel
        have hob := outer_bd zs j hj
        by_cases hj7 : j < 7
        · have hj7' : (j : Int) + 1 ≤ 7 := by omega
          obtain ⟨wo, rfl⟩ : ∃ wo : World, wo = wr := ⟨_, rfl⟩
          have h0C : Hid ((outer zs j).1 * 2 = stC zs j 0) := by show _ = _; unfold stC; rw [inner_zero]
          have h0L : (outer zs j).2 = stL zs j 0 := by unfold stL; rw [inner_zero]
          have h6C : Hid (stC zs j 6 = (outer zs (j + 1)).1) := rfl
          have h6L : Hid (stL zs j 6 = (outer zs (j + 1)).2) := rfl
          rw [h0L] at hown
          clear h0L
          go_wp2
          go_loopw [5, 7] (fun a m wr => ∃ k : Nat, k ≤ 6 ∧ m = .int .i64 k ∧ a = .int .i64 (stC zs j k) ∧ wr.ownsRow w.heap.size 3 1 (.slice (some ⟨g, 0, none⟩) 6 cg) 6 ((stL zs j k).map (Value.int .i64)) ∧ Below w.heap.size w wr) (fun _ m _ => 6 - (intOf m).toNat)
          case atStart => exact ⟨0, by omega, rfl, by rw [h0C.out], hown, hb⟩
          case round =>
            clear hown hb hob
            obtain ⟨k, hk, rfl, rfl, hown, hb⟩ := hrel
            have hcb := stC_bd zs j k hj hk
            by_cases hk6 : k < 6
            · have hk6' : (k : Int) < 6 := by omega
              obtain ⟨b, off, rfl, hbl, hc⟩ := h.at_ hk6
              have hsrc : wr.cell? ⟨b, off + k, none⟩ = some (.int .i64 (zs.getD k 0)) := (hb.cell (p := ⟨b, off + k, none⟩) hbl).trans (hc k hk6)
              by_cases hit : zs.getD k 0 = (j : Int) + 1
              · have hs := stC_hit zs j k hit
                rw [hit] at hsrc
                obtain ⟨y, hcell⟩ : ∃ y, wr.cell? ⟨g, k, none⟩ = some y := ⟨_, (hown.cellAt k (by omega)).trans (List.getElem?_eq_getElem (by simp [stL_len]; omega))⟩
                have hfz := hown.frozenAt k
                have R := (hown.stored k (.int .i64 (stC zs j k))).1
                rw [map_set_i, ← hs.2] at R
                have R2 := hb.setCell (p := ⟨g, k, none⟩) hgb (.int .i64 (stC zs j k))
                have HR1 : Hid _ := R
                have HR2 : Hid _ := R2
                have HS := Lib.hid hs.1
                clear R R2 hs hown hb hc h hit
                go_wp2
                go_roundw
                case rel => exact ⟨k + 1, by omega, by go_num, by rw [HS.out], HR1.out, HR2.out⟩
                case measure => simp [intOf]; omega
              · have hs := stC_miss zs j k hit
                have hne : (zs.getD k 0 == (j : Int) + 1) = false := by rw [beq_eq_false_iff_ne]; exact hit
                obtain ⟨x, hx⟩ : ∃ x, x = zs.getD k 0 := ⟨_, rfl⟩
                rw [← hx] at hsrc hne
                rw [← hs.2] at hown
                have HS := Lib.hid hs.1
                clear hs hc h hit hx
                go_wp2
                go_roundw
                case rel => exact ⟨k + 1, by omega, by go_num, by rw [HS.out], hown, hb⟩
                case measure => simp [intOf]; omega
            · have hk6' : k = 6 := by omega
              subst hk6'
              go_wp2
              go_roundw
              case rel => exact ⟨j + 1, by omega, by go_num, by rw [← h6C.out], by rw [← h6L.out]; exact hown, hb⟩
              case measure => simp [intOf]; omega
        · have hj8 : j = 7 := by omega
          subst hj8
          rw [← hE.out] at hown
          go_wp2
          go_ret
          exact ⟨_, _, _, rfl, OB.new hown, hb⟩
theorem sCodesOf_no (A : Option Addr) (n c : Nat) (zs : List Int) (w : World) (h : RI w A n zs) (hn : n ≤ 1048576) (hok : codeOk zs = false) :
    Calls Try.prog 37 #[.slice A n c] w fun e w' => ∃ A' n' c', e = .returned (.slice A' n' c') ∧ OB w' w.heap.size w'.heap.size A' n' c' [] ∧ Below w.heap.size w w' := by
  have hC : Hid (∀ W, RI W A n zs → Calls Try.prog 15 #[.slice A n c] W fun e w' => e = .returned (.bool false) ∧ Below W.heap.size W w') := by
    intro W hW; have := sCodeOk A n c zs W hW hn; rw [hok] at this; exact this
  have hb0 : Below w.heap.size w (w.alloc (.cells #[] 3)) := (Below.refl _ _).alloc (Nat.le_refl _) _
  have hA : RI (w.alloc (.cells #[] 3)) A n zs := h.below ((Below.refl _ _).alloc (Nat.le_refl _) _)
  go_enter Try.func37, Try.ntmps37
  go_wp2_with (first
    | (go_at_call 15; refine (hC.out _ hA).mono ?_; rintro e w1 ⟨rfl, b1⟩))
  go_ret
  exact ⟨_, _, _, rfl, (OB.made 0).below b1 |>.mono (Nat.le_refl _) b1.size, hb0.trans (b1.mono hb0.size)⟩
theorem sCodesOf (A : Option Addr) (n c : Nat) (zs : List Int) (w : World) (h : RI w A n zs) (hn : n ≤ 1048576) :
    Calls Try.prog 37 #[.slice A n c] w fun e w' => ∃ A' n' c', e = .returned (.slice A' n' c') ∧ OB w' w.heap.size w'.heap.size A' n' c' (codesOf zs) ∧ Below w.heap.size w w' := by
  cases hok : codeOk zs with
  | true => exact sCodesOf_yes A n c zs w h hok
  | false =>
    have : codesOf zs = [] := by unfold codesOf; rw [hok, if_neg (by simp)]
    rw [this]; exact sCodesOf_no A n c zs w h hn hok
end Go.Proofs.Yteojnjcoamcigaa
