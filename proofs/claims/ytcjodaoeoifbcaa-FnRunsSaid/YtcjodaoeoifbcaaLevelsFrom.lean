/-
  LevelsFrom, the reference's and the program's: both return what 'lvRes' tells. No condition but at most 2^20 pairs.
-/
import Derived.Test.YtcjodaoeoifbcaaPairs
import Derived.Test.YtcjodaoeoifbcaaPairLaw
namespace Go.Proofs.Ytcjodaoeoifbcaa
open Go.ChangeShapes Go.WideShapes Go.ChangeAt Go.RowKit
set_option linter.unusedVariables false
def un (zs : List Int) (m : Nat) : List (Int × Int) := (List.range m).map (fun j => (zs.getD (j * 2) 0, zs.getD (j * 2 + 1) 0))
theorem un_len (zs : List Int) (m : Nat) : (un zs m).length = m := by simp [un]
theorem un_drop (zs : List Int) (m k : Nat) (h : k < m) : (un zs m).drop k = (zs.getD (k * 2) 0, zs.getD (k * 2 + 1) 0) :: (un zs m).drop (k + 1) := by
  rw [List.drop_eq_getElem_cons (by rw [un_len]; exact h)]
  simp [un]
def lvRes (zs : List Int) (m : Nat) (n : Int) : Option (List Int) := if n = 16 ∨ n = 64 then lvRun n.toNat (un zs m) (List.replicate n.toNat 0) 0 else none
def lvEr (r : Option (List Int)) : Int := match r with | none => 5 | some _ => 0
def lvL (r : Option (List Int)) : List Int := match r with | none => [] | some l => l
theorem lvRun_len (N : Nat) : ∀ (ps : List (Int × Int)) (out : List Int) (a : Nat) (l : List Int), lvRun N ps out a = some l → l.length = out.length
  | [], out, a, l, h => by simp only [lvRun, Option.some.injEq] at h; rw [h]
  | p :: ps, out, a, l, h => by
    simp only [lvRun] at h
    by_cases hok : lvOk N a p = true
    · rw [if_pos hok] at h; have := lvRun_len N ps _ _ l h; rw [List.length_set] at this; exact this
    · rw [if_neg hok] at h; cases h
theorem lvL_len (zs : List Int) (m : Nat) (n : Int) : (lvL (lvRes zs m n)).length ≤ 1000000000 := by
  unfold lvRes
  split
  · unfold lvL
    split
    · simp
    · rename_i l e
      rw [lvRun_len _ _ _ _ _ e, List.length_replicate]; omega
  · simp [lvL]
/-- What is left to read is what there was to read: behind k pairs. -/
def LvAt (zs : List Int) (m N : Nat) (R : Option (List Int)) (k : Nat) (out : List Int) (a : Nat) : Prop := a ≤ N ∧ out.length = N ∧ lvRun N ((un zs m).drop k) out a = R
theorem LvAt.yes {zs : List Int} {m N : Nat} {R : Option (List Int)} {k : Nat} {out : List Int} {a xn : Nat} {y : Int} (h : LvAt zs m N R k out a) (hk : k < m) (hx : zs.getD (k * 2) 0 = (xn : Int)) (hy : zs.getD (k * 2 + 1) 0 = y)
    (h2 : (xn : Int) < (N : Int) - a) (h3 : ¬ y = 0) (h4 : -16383 ≤ y ∧ y ≤ 16383) : LvAt zs m N R (k + 1) (out.set (a + xn) y) (a + xn + 1) := by
  obtain ⟨g1, g2, g3⟩ := h
  refine ⟨by omega, by rw [List.length_set]; exact g2, ?_⟩
  rw [un_drop zs m k hk, hx, hy] at g3
  simp only [lvRun] at g3
  rw [if_pos (by simp [lvOk, okLev, h2, h3, h4.1, h4.2])] at g3
  exact g3
theorem LvAt.no {zs : List Int} {m N : Nat} {R : Option (List Int)} {k : Nat} {out : List Int} {a : Nat} {x y : Int} (h : LvAt zs m N R k out a) (hk : k < m) (hx : zs.getD (k * 2) 0 = x) (hy : zs.getD (k * 2 + 1) 0 = y)
    (hn : x < 0 ∨ (N : Int) - a ≤ x ∨ y = 0 ∨ y < -16383 ∨ 16383 < y) : R = none := by
  obtain ⟨g1, g2, g3⟩ := h
  rw [un_drop zs m k hk, hx, hy] at g3
  simp only [lvRun] at g3
  rw [if_neg (by simp [lvOk, okLev]; omega)] at g3
  exact g3.symm
theorem LvAt.done {zs : List Int} {m N : Nat} {R : Option (List Int)} {out : List Int} {a : Nat} (h : LvAt zs m N R m out a) : R = some out := by
  have g := h.2.2
  rw [List.drop_of_length_le (by rw [un_len]; omega)] at g
  exact g.symm
theorem map_set_v (l : List Int) (m : Nat) (x : Int) : (l.map (Value.int .i64)).set m (.int .i64 x) = (l.set m x).map (Value.int .i64) := by rw [← List.map_set]
set_option maxRecDepth 100000 in
set_option maxHeartbeats 2000000 in
theorem sLevelsFrom_in (A : Option Addr) (m c N : Nat) (zs : List Int) (w : World) (h : R2 w A m zs) (hm : m ≤ 1048576) (hN : N = 16 ∨ N = 64) :
    Calls Try.prog 32 #[.slice A m c, .int .i64 (N : Int)] w fun e w' => ∃ A' n' c', e = .returned (.tuple #[.slice A' n' c', .int .i64 (lvEr (lvRun N (un zs m) (List.replicate N 0) 0))]) ∧ OB w' w.heap.size w'.heap.size A' n' c' (lvL (lvRun N (un zs m) (List.replicate N 0) 0)) ∧ Below w.heap.size w w' := by
  obtain ⟨i0, hi, hz0, hz1, hz2⟩ := info_parts info_i64
  obtain ⟨R, hR⟩ : ∃ R, R = lvRun N (un zs m) (List.replicate N 0) 0 := ⟨_, rfl⟩
  have hR0 : Hid (LvAt zs m N R 0 (List.replicate N 0) 0) := by show LvAt zs m N R 0 _ 0; exact ⟨by omega, by simp, hR.symm⟩
  rw [← hR]
  clear hR
  have hn64 : N ≤ 64 := by omega
  have hn16 : 16 ≤ N := by omega
  rcases hN with hN | hN
  · have e1 : ((N : Int) != 16) = false := by rw [hN]; rfl
    clear hN
    go_enter Try.func32, Try.ntmps32
    go_wp2_with (first
      | (at_make; refine wpList_make_full _ rfl _ _ 22 rfl w.heap.size 3 i0 (.int .i64 0) 1 Try.underlying22 hi hz0 hz1 .i64 .i64 _ _ N rfl rfl rfl rfl (by rw [hz2]; omega) (by unfold maxLen; omega) (Nat.le_refl _) ?_; intro w1 hown1 hgrow1))
    have hb1 : Below w.heap.size w w1 := (Below.refl _ _).grown hgrow1 (Nat.le_refl _) (by simp)
    clear hgrow1
    have e0 : (madeCells (Value.int .i64 0).cells (N * 1)).toList = (List.replicate N (0 : Int)).map (Value.int .i64) := by
      rw [show (Value.int .i64 0).cells = #[Value.int .i64 0] from rfl, toList_madeCells_one, Nat.mul_one]
      simp
    rw [e0] at hown1
    clear e0
    go_loopw [7, 8] (fun t i wr => ∃ (k a : Nat) (out : List Int), k ≤ m ∧ i = .int .i64 k ∧ t = .int .i64 (a : Int) ∧ LvAt zs m N R k out a ∧ wr.ownsRow w.heap.size 3 1 (.slice (some ⟨w.heap.size, 0, none⟩) N N) N (out.map (Value.int .i64)) ∧ Below w.heap.size w wr) (fun _ i _ => m - (intOf i).toNat)
    case atStart => exact ⟨0, 0, List.replicate N 0, Nat.zero_le _, rfl, rfl, hR0.out, hown1, hb1⟩
    case round =>
      clear hown1 hb1 hR0
      obtain ⟨k, a, out, hk, rfl, rfl, hA, hown, hb⟩ := hrel
      by_cases hlt : k < m
      · have hlti : (k : Int) < (m : Int) := by omega
        obtain ⟨b, off, rfl, hbl, hc⟩ := h.at_ hlt
        have hsrc0 := (hb.cell (p := ⟨b, off + k * 2, none⟩) hbl).trans (hc (k * 2) (by omega))
        have hsrc1 : wr.cell? ⟨b, off + k * 2 + 1, none⟩ = some (.int .i64 (zs.getD (k * 2 + 1) 0)) := (hb.cell (p := ⟨b, off + (k * 2 + 1), none⟩) hbl).trans (hc (k * 2 + 1) (by omega))
        obtain ⟨x, hx⟩ : ∃ x, zs.getD (k * 2) 0 = x := ⟨_, rfl⟩
        obtain ⟨y, hy⟩ : ∃ y, zs.getD (k * 2 + 1) 0 = y := ⟨_, rfl⟩
        rw [hx] at hsrc0
        rw [hy] at hsrc1
        have haN : (a : Int) ≤ (N : Int) := by have := hA.1; omega
        have hol := hA.2.1
        have hno := fun q => hA.no hlt hx hy q
        have hyes := fun (xn : Nat) (q : x = (xn : Int)) => hA.yes hlt (hx.trans q) hy
        have H := Lib.hid h
        have HA := Lib.hid hA
        clear hx hy hc h hA
        by_cases c1 : x < 0
        · have hE := Lib.hid (hno (Or.inl c1))
          clear hno hyes hol
          go_wp2
          go_ret2
          exact ⟨_, _, _, by rw [hE.out]; rfl, by rw [hE.out]; exact (OB.new (World.ownsRow_made wr #[] 0 hb.size (by decide) rfl)), hb.alloc hb.size _⟩
        · by_cases c2 : (N : Int) - a ≤ x
          · have hE := Lib.hid (hno (Or.inr (Or.inl c2)))
            clear hno hyes hol
            go_wp2
            go_ret2
            exact ⟨_, _, _, by rw [hE.out]; rfl, by rw [hE.out]; exact (OB.new (World.ownsRow_made wr #[] 0 hb.size (by decide) rfl)), hb.alloc hb.size _⟩
          · by_cases c3 : y = 0
            · have hE := Lib.hid (hno (Or.inr (Or.inr (Or.inl c3))))
              subst c3
              clear hno hyes hol
              go_wp2
              go_ret2
              exact ⟨_, _, _, by rw [hE.out]; rfl, by rw [hE.out]; exact (OB.new (World.ownsRow_made wr #[] 0 hb.size (by decide) rfl)), hb.alloc hb.size _⟩
            · have c3' : (y == 0) = false := by rw [beq_eq_false_iff_ne]; exact c3
              by_cases c4 : y < -16383 ∨ 16383 < y
              · have hE := Lib.hid (hno (Or.inr (Or.inr (Or.inr c4))))
                clear hno hyes hol c3
                go_wp2_with (first
                  | (go_at_call 55; refine (sIn_no _ _ _ _ c4).mono ?_; rintro e w' ⟨rfl, rfl⟩))
                go_ret2
                exact ⟨_, _, _, by rw [hE.out]; rfl, by rw [hE.out]; exact (OB.new (World.ownsRow_made wr #[] 0 hb.size (by decide) rfl)), hb.alloc hb.size _⟩
              · obtain ⟨xn, rfl⟩ := Int.eq_ofNat_of_zero_le (show 0 ≤ x by omega)
                have c5 : -16383 ≤ y ∧ y ≤ 16383 := by omega
                have hY := Lib.hid (hyes xn rfl (by omega) c3 c5)
                obtain ⟨y0, hcell⟩ : ∃ y, wr.cell? ⟨w.heap.size, a + xn, none⟩ = some y := ⟨_, (hown.cellAt _ (by omega)).trans (List.getElem?_eq_getElem (by simp; omega))⟩
                have hfz := hown.frozenAt (a + xn)
                have Q1 := (hown.stored (a + xn) (.int .i64 y)).1
                rw [map_set_v] at Q1
                have Q2 := hb.setCell (p := ⟨w.heap.size, a + xn, none⟩) (Nat.le_refl _) (.int .i64 y)
                have HR1 := Lib.hid Q1
                have HR2 := Lib.hid Q2
                have c6 : (xn : Int) < (N : Int) - a := by omega
                clear Q1 Q2 hno hyes hol c3 c4 c2 c1 hown hb
                go_wp2_with (first
                  | (go_at_call 55; refine (sIn_yes _ _ _ _ c5).mono ?_; rintro e w' ⟨rfl, rfl⟩))
                go_roundw
                case rel => exact ⟨k + 1, a + xn + 1, _, by omega, by go_num, by go_num, hY.out, HR1.out, HR2.out⟩
                case measure => simp [intOf]; omega
      · obtain rfl : k = m := by omega
        have hE := Lib.hid hA.done
        clear hA
        go_wp2
        go_ret2
        exact ⟨_, _, _, by rw [hE.out]; rfl, by rw [hE.out]; exact OB.new hown, hb⟩
  · have e1 : ((N : Int) != 16) = true := by rw [hN]; rfl
    have e2 : ((N : Int) != 64) = false := by rw [hN]; rfl
    clear hN
    go_enter Try.func32, Try.ntmps32
    go_wp2_with (first
      | (at_make; refine wpList_make_full _ rfl _ _ 22 rfl w.heap.size 3 i0 (.int .i64 0) 1 Try.underlying22 hi hz0 hz1 .i64 .i64 _ _ N rfl rfl rfl rfl (by rw [hz2]; omega) (by unfold maxLen; omega) (Nat.le_refl _) ?_; intro w1 hown1 hgrow1))
    have hb1 : Below w.heap.size w w1 := (Below.refl _ _).grown hgrow1 (Nat.le_refl _) (by simp)
    clear hgrow1
    have e0 : (madeCells (Value.int .i64 0).cells (N * 1)).toList = (List.replicate N (0 : Int)).map (Value.int .i64) := by
      rw [show (Value.int .i64 0).cells = #[Value.int .i64 0] from rfl, toList_madeCells_one, Nat.mul_one]
      simp
    rw [e0] at hown1
    clear e0
    go_loopw [7, 8] (fun t i wr => ∃ (k a : Nat) (out : List Int), k ≤ m ∧ i = .int .i64 k ∧ t = .int .i64 (a : Int) ∧ LvAt zs m N R k out a ∧ wr.ownsRow w.heap.size 3 1 (.slice (some ⟨w.heap.size, 0, none⟩) N N) N (out.map (Value.int .i64)) ∧ Below w.heap.size w wr) (fun _ i _ => m - (intOf i).toNat)
    case atStart => exact ⟨0, 0, List.replicate N 0, Nat.zero_le _, rfl, rfl, hR0.out, hown1, hb1⟩
    case round =>
      clear hown1 hb1 hR0
      obtain ⟨k, a, out, hk, rfl, rfl, hA, hown, hb⟩ := hrel
      by_cases hlt : k < m
      · have hlti : (k : Int) < (m : Int) := by omega
        obtain ⟨b, off, rfl, hbl, hc⟩ := h.at_ hlt
        have hsrc0 := (hb.cell (p := ⟨b, off + k * 2, none⟩) hbl).trans (hc (k * 2) (by omega))
        have hsrc1 : wr.cell? ⟨b, off + k * 2 + 1, none⟩ = some (.int .i64 (zs.getD (k * 2 + 1) 0)) := (hb.cell (p := ⟨b, off + (k * 2 + 1), none⟩) hbl).trans (hc (k * 2 + 1) (by omega))
        obtain ⟨x, hx⟩ : ∃ x, zs.getD (k * 2) 0 = x := ⟨_, rfl⟩
        obtain ⟨y, hy⟩ : ∃ y, zs.getD (k * 2 + 1) 0 = y := ⟨_, rfl⟩
        rw [hx] at hsrc0
        rw [hy] at hsrc1
        have haN : (a : Int) ≤ (N : Int) := by have := hA.1; omega
        have hol := hA.2.1
        have hno := fun q => hA.no hlt hx hy q
        have hyes := fun (xn : Nat) (q : x = (xn : Int)) => hA.yes hlt (hx.trans q) hy
        have H := Lib.hid h
        have HA := Lib.hid hA
        clear hx hy hc h hA
        by_cases c1 : x < 0
        · have hE := Lib.hid (hno (Or.inl c1))
          clear hno hyes hol
          go_wp2
          go_ret2
          exact ⟨_, _, _, by rw [hE.out]; rfl, by rw [hE.out]; exact (OB.new (World.ownsRow_made wr #[] 0 hb.size (by decide) rfl)), hb.alloc hb.size _⟩
        · by_cases c2 : (N : Int) - a ≤ x
          · have hE := Lib.hid (hno (Or.inr (Or.inl c2)))
            clear hno hyes hol
            go_wp2
            go_ret2
            exact ⟨_, _, _, by rw [hE.out]; rfl, by rw [hE.out]; exact (OB.new (World.ownsRow_made wr #[] 0 hb.size (by decide) rfl)), hb.alloc hb.size _⟩
          · by_cases c3 : y = 0
            · have hE := Lib.hid (hno (Or.inr (Or.inr (Or.inl c3))))
              subst c3
              clear hno hyes hol
              go_wp2
              go_ret2
              exact ⟨_, _, _, by rw [hE.out]; rfl, by rw [hE.out]; exact (OB.new (World.ownsRow_made wr #[] 0 hb.size (by decide) rfl)), hb.alloc hb.size _⟩
            · have c3' : (y == 0) = false := by rw [beq_eq_false_iff_ne]; exact c3
              by_cases c4 : y < -16383 ∨ 16383 < y
              · have hE := Lib.hid (hno (Or.inr (Or.inr (Or.inr c4))))
                clear hno hyes hol c3
                go_wp2_with (first
                  | (go_at_call 55; refine (sIn_no _ _ _ _ c4).mono ?_; rintro e w' ⟨rfl, rfl⟩))
                go_ret2
                exact ⟨_, _, _, by rw [hE.out]; rfl, by rw [hE.out]; exact (OB.new (World.ownsRow_made wr #[] 0 hb.size (by decide) rfl)), hb.alloc hb.size _⟩
              · obtain ⟨xn, rfl⟩ := Int.eq_ofNat_of_zero_le (show 0 ≤ x by omega)
                have c5 : -16383 ≤ y ∧ y ≤ 16383 := by omega
                have hY := Lib.hid (hyes xn rfl (by omega) c3 c5)
                obtain ⟨y0, hcell⟩ : ∃ y, wr.cell? ⟨w.heap.size, a + xn, none⟩ = some y := ⟨_, (hown.cellAt _ (by omega)).trans (List.getElem?_eq_getElem (by simp; omega))⟩
                have hfz := hown.frozenAt (a + xn)
                have Q1 := (hown.stored (a + xn) (.int .i64 y)).1
                rw [map_set_v] at Q1
                have Q2 := hb.setCell (p := ⟨w.heap.size, a + xn, none⟩) (Nat.le_refl _) (.int .i64 y)
                have HR1 := Lib.hid Q1
                have HR2 := Lib.hid Q2
                have c6 : (xn : Int) < (N : Int) - a := by omega
                clear Q1 Q2 hno hyes hol c3 c4 c2 c1 hown hb
                go_wp2_with (first
                  | (go_at_call 55; refine (sIn_yes _ _ _ _ c5).mono ?_; rintro e w' ⟨rfl, rfl⟩))
                go_roundw
                case rel => exact ⟨k + 1, a + xn + 1, _, by omega, by go_num, by go_num, hY.out, HR1.out, HR2.out⟩
                case measure => simp [intOf]; omega
      · obtain rfl : k = m := by omega
        have hE := Lib.hid hA.done
        clear hA
        go_wp2
        go_ret2
        exact ⟨_, _, _, by rw [hE.out]; rfl, by rw [hE.out]; exact OB.new hown, hb⟩
theorem sLevelsFrom_out (A : Option Addr) (m c : Nat) (n : Int) (w : World) (h16 : ¬ n = 16) (h64 : ¬ n = 64) :
    Calls Try.prog 32 #[.slice A m c, .int .i64 n] w fun e w' => ∃ A' n' c', e = .returned (.tuple #[.slice A' n' c', .int .i64 5]) ∧ OB w' w.heap.size w'.heap.size A' n' c' [] ∧ Below w.heap.size w w' := by
  have e1 : (n != 16) = true := by simpa using h16
  have e2 : (n != 64) = true := by simpa using h64
  clear h16 h64
  go_enter Try.func32, Try.ntmps32
  go_wp2
  go_ret2
  exact ⟨_, _, _, rfl, OB.new (World.ownsRow_made w #[] 0 (Nat.le_refl _) (by decide) rfl), by go_grown⟩
theorem sLevelsFrom (A : Option Addr) (m c : Nat) (zs : List Int) (n : Int) (w : World) (h : R2 w A m zs) (hm : m ≤ 1048576) :
    Calls Try.prog 32 #[.slice A m c, .int .i64 n] w fun e w' => ∃ A' n' c', e = .returned (.tuple #[.slice A' n' c', .int .i64 (lvEr (lvRes zs m n))]) ∧ OB w' w.heap.size w'.heap.size A' n' c' (lvL (lvRes zs m n)) ∧ Below w.heap.size w w' := by
  unfold lvRes
  by_cases hn : n = 16 ∨ n = 64
  · rw [if_pos hn]
    obtain ⟨N, rfl⟩ := Int.eq_ofNat_of_zero_le (show 0 ≤ n by omega)
    exact sLevelsFrom_in A m c N zs w h hm (by omega)
  · rw [if_neg hn]; exact sLevelsFrom_out A m c n w (fun e => hn (Or.inl e)) (fun e => hn (Or.inr e))
theorem iSide_bad (n : Int) (h16 : ¬ n = 16) (h64 : ¬ n = 64) (w : World) :
    Calls Try.prog 58 #[.int .i64 n] w fun e w' => e = .returned (.int .i64 0) ∧ w = w' := by
  have e1 : (n == 16) = false := by simpa using h16
  have e2 : (n == 64) = false := by simpa using h64
  clear h16 h64
  go_enter Try.func58, Try.ntmps58
  go_wp2
  go_ret
  exact ⟨rfl, rfl⟩
set_option maxRecDepth 100000 in
set_option maxHeartbeats 2000000 in
theorem iLevelsFrom_in (A : Option Addr) (m c N : Nat) (zs : List Int) (w : World) (h : R2 w A m zs) (hm : m ≤ 1048576) (hN : N = 16 ∨ N = 64) :
    Calls Try.prog 34 #[.slice A m c, .int .i64 (N : Int)] w fun e w' => ∃ A' n' c', e = .returned (.tuple #[.slice A' n' c', .int .i64 (lvEr (lvRun N (un zs m) (List.replicate N 0) 0))]) ∧ OB w' w.heap.size w'.heap.size A' n' c' (lvL (lvRun N (un zs m) (List.replicate N 0) 0)) ∧ Below w.heap.size w w' := by
  obtain ⟨i0, hi, hz0, hz1, hz2⟩ := info_parts info_i64
  obtain ⟨R, hR⟩ : ∃ R, R = lvRun N (un zs m) (List.replicate N 0) 0 := ⟨_, rfl⟩
  have hR0 : Hid (LvAt zs m N R 0 (List.replicate N 0) 0) := by show LvAt zs m N R 0 _ 0; exact ⟨by omega, by simp, hR.symm⟩
  rw [← hR]
  clear hR
  have hn64 : N ≤ 64 := by omega
  have hn16 : 16 ≤ N := by omega
  obtain ⟨sd, hsd⟩ : ∃ sd, sd = side N := ⟨_, rfl⟩
  have hsd0 : 0 < sd := by rw [hsd]; unfold side; rcases hN with h | h <;> rw [h] <;> decide
  have hS : Hid (∀ W, Calls Try.prog 58 #[.int .i64 (N : Int)] W fun e w' => e = .returned (.int .i64 sd) ∧ W = w') := by rw [hsd]; exact iSide N
  have e1 : (sd == 0) = false := by simp; omega
  clear hN hsd
  go_enter Try.func34, Try.ntmps34
  go_wp2_with (first
    | (go_at_call 58; refine (hS.out _).mono ?_; rintro e w' ⟨rfl, rfl⟩)
    | (at_make; refine wpList_make_full _ rfl _ _ 22 rfl w.heap.size 3 i0 (.int .i64 0) 1 Try.underlying22 hi hz0 hz1 .i64 .i64 _ _ N rfl rfl rfl rfl (by rw [hz2]; omega) (by unfold maxLen; omega) (Nat.le_refl _) ?_; intro w1 hown1 hgrow1))
  have hb1 : Below w.heap.size w w1 := (Below.refl _ _).grown hgrow1 (Nat.le_refl _) (by simp)
  clear hgrow1
  have e0 : (madeCells (Value.int .i64 0).cells (N * 1)).toList = (List.replicate N (0 : Int)).map (Value.int .i64) := by
    rw [show (Value.int .i64 0).cells = #[Value.int .i64 0] from rfl, toList_madeCells_one, Nat.mul_one]
    simp
  rw [e0] at hown1
  clear e0
  go_loopw [7, 17] (fun t i wr => ∃ (k a : Nat) (out : List Int), k ≤ m ∧ i = .int .i64 k ∧ t = .int .i64 (a : Int) ∧ LvAt zs m N R k out a ∧ wr.ownsRow w.heap.size 3 1 (.slice (some ⟨w.heap.size, 0, none⟩) N N) N (out.map (Value.int .i64)) ∧ Below w.heap.size w wr) (fun _ i _ => m - (intOf i).toNat)
  case atStart => exact ⟨0, 0, List.replicate N 0, Nat.zero_le _, rfl, rfl, hR0.out, hown1, hb1⟩
  case round =>
    clear hown1 hb1 hR0
    obtain ⟨k, a, out, hk, rfl, rfl, hA, hown, hb⟩ := hrel
    by_cases hlt : k < m
    · have hlti : (k : Int) < (m : Int) := by omega
      obtain ⟨b, off, rfl, hbl, hc⟩ := h.at_ hlt
      have hsrc0 := (hb.cell (p := ⟨b, off + k * 2, none⟩) hbl).trans (hc (k * 2) (by omega))
      have hsrc1 : wr.cell? ⟨b, off + k * 2 + 1, none⟩ = some (.int .i64 (zs.getD (k * 2 + 1) 0)) := (hb.cell (p := ⟨b, off + (k * 2 + 1), none⟩) hbl).trans (hc (k * 2 + 1) (by omega))
      obtain ⟨x, hx⟩ : ∃ x, zs.getD (k * 2) 0 = x := ⟨_, rfl⟩
      obtain ⟨y, hy⟩ : ∃ y, zs.getD (k * 2 + 1) 0 = y := ⟨_, rfl⟩
      rw [hx] at hsrc0
      rw [hy] at hsrc1
      have haN : (a : Int) ≤ (N : Int) := by have := hA.1; omega
      have hol := hA.2.1
      have hno := fun q => hA.no hlt hx hy q
      have hyes := fun (xn : Nat) (q : x = (xn : Int)) => hA.yes hlt (hx.trans q) hy
      have hbz : w.heap.size < wr.heap.size := (hown.lt w.heap.size rfl).2
      have hba := hb.alloc hb.size (.cells #[.int .i64 x, .int .i64 y] 54)
      have H := Lib.hid h
      have HA := Lib.hid hA
      clear hx hy hc h hA
      by_cases c1 : x < 0
      · have hE := Lib.hid (hno (Or.inl c1))
        clear hno hyes hol
        go_wp2
        go_ret2
        exact ⟨_, _, _, by rw [hE.out]; rfl, by rw [hE.out]; exact ⟨World.ownsRow_nil _ _ _ _, fun k hk => by simp [Value.ownBlock] at hk⟩, hba⟩
      · by_cases c2 : (N : Int) - a ≤ x
        · have hE := Lib.hid (hno (Or.inr (Or.inl c2)))
          clear hno hyes hol
          go_wp2
          go_ret2
          exact ⟨_, _, _, by rw [hE.out]; rfl, by rw [hE.out]; exact ⟨World.ownsRow_nil _ _ _ _, fun k hk => by simp [Value.ownBlock] at hk⟩, hba⟩
        · by_cases c3 : y = 0
          · have hE := Lib.hid (hno (Or.inr (Or.inr (Or.inl c3))))
            subst c3
            clear hno hyes hol
            go_wp2
            go_ret2
            exact ⟨_, _, _, by rw [hE.out]; rfl, by rw [hE.out]; exact ⟨World.ownsRow_nil _ _ _ _, fun k hk => by simp [Value.ownBlock] at hk⟩, hba⟩
          · have c3' : (y == 0) = false := by rw [beq_eq_false_iff_ne]; exact c3
            by_cases c4 : y < -16383 ∨ 16383 < y
            · have hE := Lib.hid (hno (Or.inr (Or.inr (Or.inr c4))))
              clear hno hyes hol c3
              go_wp2_with (first
                | (go_at_call 57; refine (iIn_no _ _ _ _ c4).mono ?_; rintro e w' ⟨rfl, rfl⟩))
              go_ret2
              exact ⟨_, _, _, by rw [hE.out]; rfl, by rw [hE.out]; exact ⟨World.ownsRow_nil _ _ _ _, fun k hk => by simp [Value.ownBlock] at hk⟩, hba⟩
            · obtain ⟨xn, rfl⟩ := Int.eq_ofNat_of_zero_le (show 0 ≤ x by omega)
              have c5 : -16383 ≤ y ∧ y ≤ 16383 := by omega
              have hY := Lib.hid (hyes xn rfl (by omega) c3 c5)
              have howna := hown.alloc (.cells #[.int .i64 (xn : Int), .int .i64 y] 54)
              obtain ⟨y0, hcell⟩ : ∃ y, wr.cell? ⟨w.heap.size, a + xn, none⟩ = some y := ⟨_, (hown.cellAt _ (by omega)).trans (List.getElem?_eq_getElem (by simp; omega))⟩
              have hfz := hown.frozenAt (a + xn)
              have hcella := (World.cell?_alloc_lt wr (.cells #[.int .i64 (xn : Int), .int .i64 y] 54) ⟨w.heap.size, a + xn, none⟩ hbz).trans hcell
              have hfza := howna.frozenAt (a + xn)
              have Q1 := (hown.stored (a + xn) (.int .i64 y)).1
              rw [map_set_v] at Q1
              have Q2 := hb.setCell (p := ⟨w.heap.size, a + xn, none⟩) (Nat.le_refl _) (.int .i64 y)
              have HR1 := Lib.hid (Q1.alloc (.cells #[.int .i64 (xn : Int), .int .i64 y] 54))
              have HR2 := Lib.hid (Q2.alloc Q2.size (.cells #[.int .i64 (xn : Int), .int .i64 y] 54))
              have c6 : (xn : Int) < (N : Int) - a := by omega
              clear Q1 Q2 hno hyes hol c3 c4 c2 c1 hown hb howna hba
              go_wp2_with (first
                | (go_at_call 57; refine (iIn_yes _ _ _ _ c5).mono ?_; rintro e w' ⟨rfl, rfl⟩))
              go_roundw
              case rel => exact ⟨k + 1, a + xn + 1, _, by omega, by go_num, by go_num, hY.out, HR1.out, HR2.out⟩
              case measure => simp [intOf]; omega
    · obtain rfl : k = m := by omega
      have hE := Lib.hid hA.done
      clear hA
      go_wp2
      go_ret2
      exact ⟨_, _, _, by rw [hE.out]; rfl, by rw [hE.out]; exact OB.new hown, hb⟩
theorem iLevelsFrom_out (A : Option Addr) (m c : Nat) (n : Int) (w : World) (h16 : ¬ n = 16) (h64 : ¬ n = 64) :
    Calls Try.prog 34 #[.slice A m c, .int .i64 n] w fun e w' => ∃ A' n' c', e = .returned (.tuple #[.slice A' n' c', .int .i64 5]) ∧ OB w' w.heap.size w'.heap.size A' n' c' [] ∧ Below w.heap.size w w' := by
  have hS := Lib.hid (iSide_bad n h16 h64)
  clear h16 h64
  go_enter Try.func34, Try.ntmps34
  go_wp2_with (first
    | (go_at_call 58; refine (hS.out _).mono ?_; rintro e w' ⟨rfl, rfl⟩))
  go_ret2
  exact ⟨_, _, _, rfl, ⟨World.ownsRow_nil _ _ _ _, fun k hk => by simp [Value.ownBlock] at hk⟩, Below.refl _ _⟩
theorem iLevelsFrom (A : Option Addr) (m c : Nat) (zs : List Int) (n : Int) (w : World) (h : R2 w A m zs) (hm : m ≤ 1048576) :
    Calls Try.prog 34 #[.slice A m c, .int .i64 n] w fun e w' => ∃ A' n' c', e = .returned (.tuple #[.slice A' n' c', .int .i64 (lvEr (lvRes zs m n))]) ∧ OB w' w.heap.size w'.heap.size A' n' c' (lvL (lvRes zs m n)) ∧ Below w.heap.size w w' := by
  unfold lvRes
  by_cases hn : n = 16 ∨ n = 64
  · rw [if_pos hn]
    obtain ⟨N, rfl⟩ := Int.eq_ofNat_of_zero_le (show 0 ≤ n by omega)
    exact iLevelsFrom_in A m c N zs w h hm (by omega)
  · rw [if_neg hn]; exact iLevelsFrom_out A m c n w (fun e => hn (Or.inl e)) (fun e => hn (Or.inr e))
end Go.Proofs.Ytcjodaoeoifbcaa
