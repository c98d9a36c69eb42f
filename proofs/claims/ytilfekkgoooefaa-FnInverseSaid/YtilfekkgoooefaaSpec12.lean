/-
  The reference's matrices and its product. No condition but the numbers' bounds.
-/
import Derived.Test.YtilfekkgoooefaaProd
namespace Go.Proofs.Ytilfekkgoooefaa
open Go.ChangeShapes Go.WideShapes Go.ChangeAt Go.RowKit
set_option linter.unusedVariables false
def rowL (n : Nat) (M : Nat → Nat → Int) (r : Nat) : List Int := (List.range n).map (M r)
theorem rowL_len (n : Nat) (M : Nat → Nat → Int) (r : Nat) : (rowL n M r).length = n := by simp [rowL]
theorem rowL_at (n : Nat) (M : Nat → Nat → Int) (r i : Nat) (h : i < n) : (rowL n M r).getD i 0 = M r i := by
  rw [List.getD_eq_getElem?_getD, List.getElem?_eq_getElem (by rw [rowL_len]; exact h)]; simp [rowL]
theorem rowL_succ (n : Nat) (M : Nat → Nat → Int) (r : Nat) : rowL (n + 1) M r = rowL n M r ++ [M r n] := by unfold rowL; rw [List.range_succ, List.map_append]; rfl
/-- A matrix as one row of numbers; where d places are filled. -/
def flat (n : Nat) (M : Nat → Nat → Int) : List Int := (List.range (n * n)).map (fun j => M (j / n) (j % n))
theorem flat_at (n : Nat) (M : Nat → Nat → Int) (r k : Nat) (hr : r < n) (hk : k < n) : (flat n M).getD (r * n + k) 0 = M r k := by
  have e1 : (r * n + k) / n = r := by rw [Nat.add_comm, Nat.add_mul_div_right _ _ (by omega), Nat.div_eq_of_lt hk]; omega
  have e2 : (r * n + k) % n = k := by rw [Nat.add_comm, Nat.add_mul_mod_self_right, Nat.mod_eq_of_lt hk]
  rw [List.getD_eq_getElem?_getD, List.getElem?_eq_getElem (by simp [flat]; exact idx_lt n r k hr hk)]
  simp only [flat, List.getElem_map, List.getElem_range, Option.getD_some, e1, e2]
/-- Filling a square row by row (back: column by column). -/
def rowFill (n : Nat) (M : Nat → Nat → Int) (back : Bool) (r : Nat) (l : List Int) : Nat → List Int
  | 0 => l
  | i + 1 => (rowFill n M back r l i).set (if back then i * n + r else r * n + i) (M r i)
def fillR (n : Nat) (M : Nat → Nat → Int) (back : Bool) : Nat → List Int
  | 0 => List.replicate (n * n) 0
  | r + 1 => rowFill n M back r (fillR n M back r) n
def fillTo (n : Nat) (M : Nat → Nat → Int) (back : Bool) (r i : Nat) : List Int := rowFill n M back r (fillR n M back r) i
theorem fill4 : fillTo 4 mA false 4 0 = flat 4 mA := by decide +kernel
theorem fill4b : fillTo 4 mA true 4 0 = flat 4 mAT := by decide +kernel
theorem fill8 : fillTo 8 mH false 8 0 = flat 8 mH := by decide +kernel
theorem fill8b : fillTo 8 mH true 8 0 = flat 8 mH := by decide +kernel
set_option maxRecDepth 100000 in
set_option maxHeartbeats 4000000 in
theorem sRow4 (r : Nat) (hr : r < 4) (w : World) :
    Calls Try.prog 48 #[.int .i64 4, .int .i64 (r : Int)] w fun e w' => ∃ A', e = .returned (.slice A' 4 4) ∧ OB w' w.heap.size w'.heap.size A' 4 4 (rowL 4 mA r) ∧ Below w.heap.size w w' := by
  rcases (show r = 0 ∨ r = 1 ∨ r = 2 ∨ r = 3 by omega) with rfl | rfl | rfl | rfl
  all_goals
    go_enter Try.func48, Try.ntmps48
    go_wp2
    go_ret
    refine ⟨_, rfl, ⟨?_, ?_⟩, by go_grown⟩
    rotate_left
    · intro k hk; simp [Value.ownBlock] at hk; simp; omega
  · exact ((((World.ownsRow_lit w #[.int .i64 1, .int .i64 1, .int .i64 1, .int .i64 1] 4 (Nat.le_refl _) (by decide) rfl).alloc _).alloc _).alloc _).alloc _
  · have h := (((World.ownsRow_lit (e := 3) (size := 1) (base := w.heap.size) (w.alloc (.cells #[.int .i64 1, .int .i64 1, .int .i64 1, .int .i64 1] 3)) #[.int .i64 2, .int .i64 1, .int .i64 (-1), .int .i64 (-2)] 4 (by simp) (by decide) rfl).alloc (.cells #[.int .i64 1, .int .i64 (-1), .int .i64 (-1), .int .i64 1] 3)).alloc (.cells #[.int .i64 1, .int .i64 (-2), .int .i64 2, .int .i64 (-1)] 3)).alloc (.cells #[.slice (some ⟨w.heap.size, 0, none⟩) 4 4, .slice (some ⟨w.heap.size + 1, 0, none⟩) 4 4, .slice (some ⟨w.heap.size + 2, 0, none⟩) 4 4, .slice (some ⟨w.heap.size + 3, 0, none⟩) 4 4] 31)
    have e : (rowL 4 mA 1).map (Value.int .i64) = [.int .i64 2, .int .i64 1, .int .i64 (-1), .int .i64 (-2)] := rfl
    rw [e]
    simpa [Nat.add_assoc] using h
  · have h := ((World.ownsRow_lit (e := 3) (size := 1) (base := w.heap.size) ((w.alloc (.cells #[.int .i64 1, .int .i64 1, .int .i64 1, .int .i64 1] 3)).alloc (.cells #[.int .i64 2, .int .i64 1, .int .i64 (-1), .int .i64 (-2)] 3)) #[.int .i64 1, .int .i64 (-1), .int .i64 (-1), .int .i64 1] 4 (by simp; omega) (by decide) rfl).alloc (.cells #[.int .i64 1, .int .i64 (-2), .int .i64 2, .int .i64 (-1)] 3)).alloc (.cells #[.slice (some ⟨w.heap.size, 0, none⟩) 4 4, .slice (some ⟨w.heap.size + 1, 0, none⟩) 4 4, .slice (some ⟨w.heap.size + 2, 0, none⟩) 4 4, .slice (some ⟨w.heap.size + 3, 0, none⟩) 4 4] 31)
    have e : (rowL 4 mA 2).map (Value.int .i64) = [.int .i64 1, .int .i64 (-1), .int .i64 (-1), .int .i64 1] := rfl
    rw [e]
    simpa [Nat.add_assoc] using h
  · have h := (World.ownsRow_lit (e := 3) (size := 1) (base := w.heap.size) (((w.alloc (.cells #[.int .i64 1, .int .i64 1, .int .i64 1, .int .i64 1] 3)).alloc (.cells #[.int .i64 2, .int .i64 1, .int .i64 (-1), .int .i64 (-2)] 3)).alloc (.cells #[.int .i64 1, .int .i64 (-1), .int .i64 (-1), .int .i64 1] 3)) #[.int .i64 1, .int .i64 (-2), .int .i64 2, .int .i64 (-1)] 4 (by simp; omega) (by decide) rfl).alloc (.cells #[.slice (some ⟨w.heap.size, 0, none⟩) 4 4, .slice (some ⟨w.heap.size + 1, 0, none⟩) 4 4, .slice (some ⟨w.heap.size + 2, 0, none⟩) 4 4, .slice (some ⟨w.heap.size + 3, 0, none⟩) 4 4] 31)
    have e : (rowL 4 mA 3).map (Value.int .i64) = [.int .i64 1, .int .i64 (-2), .int .i64 2, .int .i64 (-1)] := rfl
    rw [e]
    simpa [Nat.add_assoc] using h
set_option maxRecDepth 100000 in
set_option maxHeartbeats 16000000 in
theorem sMul4N (A : Option Addr) (c : Nat) (zs : List Int) (w : World) (h : RI w A 16 zs) (hfit : fitsB zs 4 = true) :
    Calls Try.prog 45 #[.slice A 16 c, .int .i64 4, .bool false] w fun e w' => ∃ A', e = .returned (.slice A' 16 16) ∧ OB w' w.heap.size w'.heap.size A' 16 16 (mulL 4 mA zs) ∧ Below w.heap.size w w' := by
  obtain ⟨M, hMM⟩ : ∃ M, M = mA := ⟨_, rfl⟩
  have hM2 : M2 4 M := by rw [hMM]; exact mA_2
  have hfill : Hid (fillTo 4 mA false 4 0 = flat 4 M) := by rw [hMM]; exact fill4
  rw [← hMM]
  clear hMM
  have hM := Lib.hid hM2
  have hz := Lib.hid (fun j hj => fits_at hfit j hj)
  obtain ⟨F, hF0⟩ : ∃ F, F = hf 4 M zs := ⟨_, rfl⟩
  obtain ⟨G, hG0⟩ : ∃ G, G = gf 4 M zs := ⟨_, rfl⟩
  have hFe : Hid (∀ r k i, F r k i = M r i * zs.getD (i * 4 + k) 0) := by rw [hF0]; exact fun r k i => rfl
  have hFs : Hid (∀ r k i, r < 4 → k < 4 → i ≤ 4 → -16000000000 ≤ sumTo (F r k) i ∧ sumTo (F r k) i ≤ 16000000000) := by rw [hF0]; exact fun r k i h1 h2 h3 => hs_bd 4 (by omega) M zs hM2 hz.out r k i h1 h2 h3
  have hGe : Hid (∀ r k i, G r k i = (sq 4 F).getD (r * 4 + i) 0 * M k i) := by rw [hG0, hF0]; exact fun r k i => rfl
  have hGb : Hid (∀ r k i, r < 4 → k < 4 → i < 4 → -32000000000 ≤ G r k i ∧ G r k i ≤ 32000000000) := by rw [hG0]; exact fun r k i h1 h2 h3 => gf_bd 4 (by omega) M zs hM2 hz.out r k i h1 h2 h3
  have hGs : Hid (∀ r k i, r < 4 → k < 4 → i ≤ 4 → -256000000000 ≤ sumTo (G r k) i ∧ sumTo (G r k) i ≤ 256000000000) := by rw [hG0]; exact fun r k i h1 h2 h3 => gs_bd 4 (by omega) M zs hM2 hz.out r k i h1 h2 h3
  have hres : mulL 4 M zs = sq 4 G := by rw [hG0]; rfl
  rw [hres]
  have hmk : ∀ (u : World), (Instr.makeSlice 31 (.int .i64 16) (.int .i64 16)).run Try.prog u = .ok (.slice (some ⟨u.heap.size, 0, none⟩) 16 16) (u.alloc (.cells (madeCells #[.int .i64 0] 16) 3)) := fun u => run_make_intsP 16 (by omega) u
  have hm1 := Lib.hid (fun u b hb => made_intsP u 16 b (by omega) hb)
  have hRow := Lib.hid (fun r hr W => sRow4 r hr W)
  clear hM2 hfit hF0 hG0 hres
  go_enter Try.func45, Try.ntmps45
  go_wp2
  go_loopw [8] (fun i wr => ∃ r : Nat, r ≤ 4 ∧ i = .int .i64 (r : Int) ∧ wr.ownsRow w.heap.size 3 1 (.slice (some ⟨w.heap.size, 0, none⟩) 16 16) 16 ((fillTo 4 mA false r 0).map (Value.int .i64)) ∧ Below w.heap.size w wr) (fun i _ => 4 - (intOf i).toNat)
  case atStart => exact ⟨0, Nat.zero_le _, rfl, hm1.out w w.heap.size (Nat.le_refl _), (Below.refl _ _).alloc (Nat.le_refl _) _⟩
  case round =>
    obtain ⟨r, hr, rfl, hoM, hb⟩ := hrel
    by_cases hlr : r < 4
    · have hlri : (r : Int) < 4 := by omega
      go_wp2_with fail
      refine (hRow.out r hlr _).mono ?_
      rintro e w1 ⟨A1, rfl, o1, b1⟩
      have hoM1 := owns_below hoM b1
      have hb1 := hb.trans (b1.mono hb.size)
      have hz1 := b1.size
      obtain ⟨rg, rfl, hrg1, hrg2, _⟩ := o1.form (by omega)
      have own1 := o1.1
      have hrgw : w.heap.size < rg := by have := (hoM.lt w.heap.size rfl).2; omega
      clear hoM hb b1 o1
      go_wp2
      go_loopw [10] (fun i wr => ∃ j : Nat, j ≤ 4 ∧ i = .int .i64 (j : Int) ∧ wr.ownsRow w.heap.size 3 1 (.slice (some ⟨w.heap.size, 0, none⟩) 16 16) 16 ((fillTo 4 mA false r j).map (Value.int .i64)) ∧ Below w.heap.size w wr ∧ (∀ i, i < 4 → wr.cell? ⟨rg, i, none⟩ = some (.int .i64 (mA r i)))) (fun i _ => 4 - (intOf i).toNat)
      case atStart =>
        refine ⟨0, Nat.zero_le _, rfl, hoM1, hb1, fun i hi => ?_⟩
        rw [own1.cellAt i (by omega), List.getElem?_map, List.getElem?_eq_getElem (by rw [rowL_len]; exact hi)]
        simp [rowL]
      case round =>
        clear hoM1 hb1 own1
        obtain ⟨j, hj, rfl, hoM, hb, hrow⟩ := hrel
        by_cases hlj : j < 4
        · have hlji : (j : Int) < 4 := by omega
          have hr0 : (0 : Int) ≤ (r : Int) := by omega
          have hj0 : (0 : Int) ≤ (j : Int) := by omega
          have hsrc := hrow j hlj
          obtain ⟨y, hcell⟩ : ∃ y, wr.cell? ⟨w.heap.size, r * 4 + j, none⟩ = some y := ⟨_, (hoM.cellAt _ (by omega)).trans (List.getElem?_eq_getElem (by rw [hoM.1]; omega))⟩
          have hfz := hoM.frozenAt (r * 4 + j)
          have st := hoM.stored (r * 4 + j) (.int .i64 (mA r j))
          have Q1 := st.1
          rw [map_set_p] at Q1
          have hfe : Hid (fillTo 4 mA false r (j + 1) = (fillTo 4 mA false r j).set (r * 4 + j) (mA r j)) := rfl
          have HQ := Lib.hid Q1
          have HB := Lib.hid (hb.setCell (p := ⟨w.heap.size, r * 4 + j, none⟩) (Nat.le_refl _) (.int .i64 (mA r j)))
          have HC : Hid (∀ i, i < 4 → (wr.setCell ⟨w.heap.size, r * 4 + j, none⟩ (.int .i64 (mA r j))).cell? ⟨rg, i, none⟩ = some (.int .i64 (mA r i))) := fun i hi => (World.cell?_setCell_other wr ⟨w.heap.size, r * 4 + j, none⟩ ⟨rg, i, none⟩ _ (fun e => by have := congrArg Addr.block e; simp at this; omega)).trans (hrow i hi)
          obtain ⟨m, hm⟩ : ∃ m, m = mA r j := ⟨_, rfl⟩
          rw [← hm] at hsrc HQ HB HC hfe
          clear hm Q1 st hoM hb hrow
          have i1 : IntKind.i64.wrap ((r : Int) * 4 + j) = (r : Int) * 4 + j := IntWalk.i64_in _ (by omega)
          have u1 : (0 : Int) ≤ (r : Int) * 4 + j := by omega
          have u2 : (r : Int) * 4 + j < 16 := by omega
          go_wp2
          go_roundw
          case rel => exact ⟨j + 1, by omega, by go_num, by rw [hfe.out]; exact HQ.out, HB.out, HC.out⟩
          case measure => simp [intOf]; omega
        · obtain rfl : j = 4 := by omega
          have hfe : Hid (fillTo 4 mA false (r + 1) 0 = fillTo 4 mA false r 4) := rfl
          clear hrow
          go_wp2
          go_roundw
          case rel => exact ⟨r + 1, by omega, by go_num, by rw [hfe.out]; exact hoM, hb⟩
          case measure => simp [intOf]; omega
    · obtain rfl : r = 4 := by omega
      obtain ⟨w2, hw2⟩ : ∃ w2, w2 = wr := ⟨_, rfl⟩
      rw [← hw2] at hoM hb ⊢
      clear hw2 hRow
      rw [hfill.out] at hoM
      have b02 := hb
      have hR := Lib.hid (h.below b02)
      have hwlt : w.heap.size < w2.heap.size := (hoM.lt w.heap.size rfl).2
      have hMR : Hid (∀ j, j < 16 → w2.cell? ⟨w.heap.size, j, none⟩ = some (.int .i64 ((flat 4 M).getD j 0))) := by
        show ∀ j, j < 16 → w2.cell? ⟨w.heap.size, j, none⟩ = some (.int .i64 ((flat 4 M).getD j 0))
        intro j hj
        obtain ⟨b, off, e, _, hc⟩ := (OB.new hoM).read.at_ (show 0 < 16 by omega)
        cases e
        have := hc j hj
        simpa using this
      have hHw : w2.heap.size ≤ w2.heap.size := Nat.le_refl _
      have hGw : w2.heap.size ≤ w2.heap.size + 1 := by omega
      have ownH : ((w2.alloc (.cells (madeCells #[.int .i64 0] 16) 3)).alloc (.cells (madeCells #[.int .i64 0] 16) 3)).ownsRow w2.heap.size 3 1 (.slice (some ⟨w2.heap.size, 0, none⟩) 16 16) 16 ((List.replicate 16 (0 : Int)).map (Value.int .i64)) := ((hm1.out w2 w2.heap.size (Nat.le_refl _)).alloc _)
      have ownG : ((w2.alloc (.cells (madeCells #[.int .i64 0] 16) 3)).alloc (.cells (madeCells #[.int .i64 0] 16) 3)).ownsRow w2.heap.size 3 1 (.slice (some ⟨w2.heap.size + 1, 0, none⟩) 16 16) 16 ((List.replicate 16 (0 : Int)).map (Value.int .i64)) := by
        have := (hm1.out (w2.alloc (.cells (madeCells #[.int .i64 0] 16) 3)) w2.heap.size (by simp))
        simpa using this
      have bW : Below w2.heap.size w2 ((w2.alloc (.cells (madeCells #[.int .i64 0] 16) 3)).alloc (.cells (madeCells #[.int .i64 0] 16) 3)) := (((Below.refl _ _).alloc (Nat.le_refl _) _).alloc (by simp) _)
      clear hoM hb h
      -- the first sum
      go_wp2
      go_loopw [13] (fun i wr => ∃ r : Nat, r ≤ 4 ∧ i = .int .i64 (r : Int) ∧ wr.ownsRow w2.heap.size 3 1 (.slice (some ⟨w2.heap.size, 0, none⟩) 16 16) 16 ((accL 4 F r 0 0).map (Value.int .i64)) ∧ wr.ownsRow w2.heap.size 3 1 (.slice (some ⟨w2.heap.size + 1, 0, none⟩) 16 16) 16 ((List.replicate 16 (0 : Int)).map (Value.int .i64)) ∧ Below w2.heap.size w2 wr) (fun i _ => 4 - (intOf i).toNat)
      case atStart => exact ⟨0, Nat.zero_le _, rfl, by rw [accL_zero]; exact ownH, ownG, bW⟩
      case round =>
        clear ownH ownG bW
        obtain ⟨r, hr, rfl, hoH, hoG, hb⟩ := hrel
        by_cases hlr : r < 4
        · have hlri : (r : Int) < 4 := by omega
          go_wp2
          go_loopw [14] (fun i wr => ∃ k : Nat, k ≤ 4 ∧ i = .int .i64 (k : Int) ∧ wr.ownsRow w2.heap.size 3 1 (.slice (some ⟨w2.heap.size, 0, none⟩) 16 16) 16 ((accL 4 F r k 0).map (Value.int .i64)) ∧ wr.ownsRow w2.heap.size 3 1 (.slice (some ⟨w2.heap.size + 1, 0, none⟩) 16 16) 16 ((List.replicate 16 (0 : Int)).map (Value.int .i64)) ∧ Below w2.heap.size w2 wr) (fun i _ => 4 - (intOf i).toNat)
          case atStart => exact ⟨0, Nat.zero_le _, rfl, hoH, hoG, hb⟩
          case round =>
            clear hoH hoG hb
            obtain ⟨k, hk, rfl, hoH, hoG, hb⟩ := hrel
            by_cases hlk : k < 4
            · have hlki : (k : Int) < 4 := by omega
              go_wp2
              go_loopw [15] (fun i wr => ∃ i' : Nat, i' ≤ 4 ∧ i = .int .i64 (i' : Int) ∧ wr.ownsRow w2.heap.size 3 1 (.slice (some ⟨w2.heap.size, 0, none⟩) 16 16) 16 ((accL 4 F r k i').map (Value.int .i64)) ∧ wr.ownsRow w2.heap.size 3 1 (.slice (some ⟨w2.heap.size + 1, 0, none⟩) 16 16) 16 ((List.replicate 16 (0 : Int)).map (Value.int .i64)) ∧ Below w2.heap.size w2 wr) (fun i _ => 4 - (intOf i).toNat)
              case atStart => exact ⟨0, Nat.zero_le _, rfl, hoH, hoG, hb⟩
              case round =>
                clear hoH hoG hb
                obtain ⟨i, hi', rfl, hoH, hoG, hb⟩ := hrel
                by_cases hli : i < 4
                · have hlii : (i : Int) < 4 := by omega
                  have hri : (0 : Int) ≤ (r : Int) := by omega
                  have hki : (0 : Int) ≤ (k : Int) := by omega
                  have hii : (0 : Int) ≤ (i : Int) := by omega
                  obtain ⟨b, off, e1, hbl, hc⟩ := hR.out.at_ (show 0 < 16 by omega)
                  have c2 := (hb.cell (p := ⟨w.heap.size, r * 4 + i, none⟩) hwlt).trans (hMR.out (r * 4 + i) (by omega))
                  rw [flat_at 4 M r i hlr hli] at c2
                  have c3 := (hb.cell (p := ⟨b, off + (i * 4 + k), none⟩) hbl).trans (hc (i * 4 + k) (by omega))
                  have c4 : wr.cell? ⟨w2.heap.size, r * 4 + k, none⟩ = some (.int .i64 ((accL 4 F r k i).getD (r * 4 + k) 0)) := by
                    rw [hoH.cellAt _ (by omega), List.getElem?_map, List.getElem?_eq_getElem (by rw [accL_len]; omega), List.getD_eq_getElem?_getD, List.getElem?_eq_getElem (by rw [accL_len]; omega)]; rfl
                  rw [accL_cur 4 F r k i (by omega)] at c4
                  have hfz := hoH.frozenAt (r * 4 + k)
                  have st := hoH.stored (r * 4 + k) (.int .i64 (sumTo (F r k) i + F r k i))
                  have Q1 := st.1
                  rw [map_set_p, accL_step] at Q1
                  have HQ := Lib.hid Q1
                  have HG := Lib.hid (hoG.kept st.2 (Or.inr (by simp [Value.ownBlock])))
                  have HB := Lib.hid (hb.setCell (p := ⟨w2.heap.size, r * 4 + k, none⟩) hHw (.int .i64 (sumTo (F r k) i + F r k i)))
                  have hsb := hFs.out r k i hlr hlk (by omega)
                  have hF : F r k i = M r i * zs.getD (i * 4 + k) 0 := hFe.out r k i
                  have hmb := hM.out r i hlr hli
                  have hxb := hz.out (i * 4 + k) (by omega)
                  rw [hF] at HQ HG HB
                  obtain ⟨m, hm⟩ : ∃ m, m = M r i := ⟨_, rfl⟩
                  obtain ⟨x, hx⟩ : ∃ x, x = zs.getD (i * 4 + k) 0 := ⟨_, rfl⟩
                  obtain ⟨s, hs⟩ : ∃ s, s = sumTo (F r k) i := ⟨_, rfl⟩
                  rw [← hm] at c2 HQ HG HB hmb
                  rw [← hx] at c3 HQ HG HB hxb
                  rw [← hs] at c4 HQ HG HB hsb
                  have hpb := mul_2 m x 1000000000 hmb hxb
                  subst e1
                  clear hm hx hs hF Q1 st hoH hoG hb hc
                  have i7 : IntKind.i64.wrap ((r : Int) * 4 + i) = (r : Int) * 4 + i := IntWalk.i64_in _ (by omega)
                  have t3 : ((r : Int) * 4 + i).toNat = r * 4 + i := by omega
                  have u5 : (0 : Int) ≤ (r : Int) * 4 + i := by omega
                  have u6 : (r : Int) * 4 + i < 16 := by omega
                  have i1 : IntKind.i64.wrap ((r : Int) * 4) = (r : Int) * 4 := IntWalk.i64_in _ (by omega)
                  have i2 : IntKind.i64.wrap ((r : Int) * 4 + k) = (r : Int) * 4 + k := IntWalk.i64_in _ (by omega)
                  have i3 : IntKind.i64.wrap ((i : Int) * 4) = (i : Int) * 4 := IntWalk.i64_in _ (by omega)
                  have i4 : IntKind.i64.wrap ((i : Int) * 4 + k) = (i : Int) * 4 + k := IntWalk.i64_in _ (by omega)
                  have i5 : IntKind.i64.wrap (m * x) = m * x := IntWalk.i64_in _ (by omega)
                  have i6 : IntKind.i64.wrap (s + m * x) = s + m * x := IntWalk.i64_in _ (by omega)
                  have t1 : ((r : Int) * 4 + k).toNat = r * 4 + k := by omega
                  have t2 : ((i : Int) * 4 + k).toNat = i * 4 + k := by omega
                  have u1 : (0 : Int) ≤ (r : Int) * 4 + k := by omega
                  have u2 : (r : Int) * 4 + k < 16 := by omega
                  have u3 : (0 : Int) ≤ (i : Int) * 4 + k := by omega
                  have u4 : (i : Int) * 4 + k < 16 := by omega
                  go_wp2
                  go_region
                  all_goals
                    go_wp2
                    go_roundw
                    case rel => exact ⟨i + 1, by omega, by go_num, HQ.out.drew, HG.out.drew, HB.out.drew⟩
                    case measure => simp [intOf]; omega
                · obtain rfl : i = 4 := by omega
                  rw [accL_next 4 F r k hlk] at hoH
                  go_wp2
                  go_roundw
                  case rel => exact ⟨k + 1, by omega, by go_num, hoH, hoG, hb⟩
                  case measure => simp [intOf]; omega
            · obtain rfl : k = 4 := by omega
              rw [accL_row 4 F r] at hoH
              go_wp2
              go_roundw
              case rel => exact ⟨r + 1, by omega, by go_num, hoH, hoG, hb⟩
              case measure => simp [intOf]; omega
        · obtain rfl : r = 4 := by omega
          have hoH : wr.ownsRow w2.heap.size 3 1 (.slice (some ⟨w2.heap.size, 0, none⟩) 16 16) 16 ((sq 4 F).map (Value.int .i64)) := hoH
          -- the second sum
          go_wp2
          go_loopw [16] (fun i wr => ∃ r : Nat, r ≤ 4 ∧ i = .int .i64 (r : Int) ∧ wr.ownsRow w2.heap.size 3 1 (.slice (some ⟨w2.heap.size + 1, 0, none⟩) 16 16) 16 ((accL 4 G r 0 0).map (Value.int .i64)) ∧ wr.ownsRow w2.heap.size 3 1 (.slice (some ⟨w2.heap.size, 0, none⟩) 16 16) 16 ((sq 4 F).map (Value.int .i64)) ∧ Below w2.heap.size w2 wr) (fun i _ => 4 - (intOf i).toNat)
          case atStart => exact ⟨0, Nat.zero_le _, rfl, by rw [accL_zero]; exact hoG, hoH, hb⟩
          case round =>
            clear hoH hoG hb
            obtain ⟨r, hr, rfl, hoG, hoH, hb⟩ := hrel
            by_cases hlr : r < 4
            · have hlri : (r : Int) < 4 := by omega
              go_wp2
              go_loopw [17] (fun i wr => ∃ k : Nat, k ≤ 4 ∧ i = .int .i64 (k : Int) ∧ wr.ownsRow w2.heap.size 3 1 (.slice (some ⟨w2.heap.size + 1, 0, none⟩) 16 16) 16 ((accL 4 G r k 0).map (Value.int .i64)) ∧ wr.ownsRow w2.heap.size 3 1 (.slice (some ⟨w2.heap.size, 0, none⟩) 16 16) 16 ((sq 4 F).map (Value.int .i64)) ∧ Below w2.heap.size w2 wr) (fun i _ => 4 - (intOf i).toNat)
              case atStart => exact ⟨0, Nat.zero_le _, rfl, hoG, hoH, hb⟩
              case round =>
                clear hoH hoG hb
                obtain ⟨k, hk, rfl, hoG, hoH, hb⟩ := hrel
                by_cases hlk : k < 4
                · have hlki : (k : Int) < 4 := by omega
                  go_wp2
                  go_loopw [18] (fun i wr => ∃ i' : Nat, i' ≤ 4 ∧ i = .int .i64 (i' : Int) ∧ wr.ownsRow w2.heap.size 3 1 (.slice (some ⟨w2.heap.size + 1, 0, none⟩) 16 16) 16 ((accL 4 G r k i').map (Value.int .i64)) ∧ wr.ownsRow w2.heap.size 3 1 (.slice (some ⟨w2.heap.size, 0, none⟩) 16 16) 16 ((sq 4 F).map (Value.int .i64)) ∧ Below w2.heap.size w2 wr) (fun i _ => 4 - (intOf i).toNat)
                  case atStart => exact ⟨0, Nat.zero_le _, rfl, hoG, hoH, hb⟩
                  case round =>
                    clear hoH hoG hb
                    obtain ⟨i, hi', rfl, hoG, hoH, hb⟩ := hrel
                    by_cases hli : i < 4
                    · have hlii : (i : Int) < 4 := by omega
                      have hri : (0 : Int) ≤ (r : Int) := by omega
                      have hki : (0 : Int) ≤ (k : Int) := by omega
                      have hii : (0 : Int) ≤ (i : Int) := by omega
                      have c2 := (hb.cell (p := ⟨w.heap.size, k * 4 + i, none⟩) hwlt).trans (hMR.out (k * 4 + i) (by omega))
                      rw [flat_at 4 M k i hlk hli] at c2
                      have c3 : wr.cell? ⟨w2.heap.size, r * 4 + i, none⟩ = some (.int .i64 ((sq 4 F).getD (r * 4 + i) 0)) := by
                        rw [hoH.cellAt _ (by omega), List.getElem?_map, List.getElem?_eq_getElem (by unfold sq; rw [accL_len]; omega), List.getD_eq_getElem?_getD, List.getElem?_eq_getElem (by unfold sq; rw [accL_len]; omega)]; rfl
                      have c4 : wr.cell? ⟨w2.heap.size + 1, r * 4 + k, none⟩ = some (.int .i64 ((accL 4 G r k i).getD (r * 4 + k) 0)) := by
                        rw [hoG.cellAt _ (by omega), List.getElem?_map, List.getElem?_eq_getElem (by rw [accL_len]; omega), List.getD_eq_getElem?_getD, List.getElem?_eq_getElem (by rw [accL_len]; omega)]; rfl
                      rw [accL_cur 4 G r k i (by omega)] at c4
                      have hfz := hoG.frozenAt (r * 4 + k)
                      have st := hoG.stored (r * 4 + k) (.int .i64 (sumTo (G r k) i + G r k i))
                      have Q1 := st.1
                      rw [map_set_p, accL_step] at Q1
                      have HQ := Lib.hid Q1
                      have HG := Lib.hid (hoH.kept st.2 (Or.inr (by simp [Value.ownBlock])))
                      have HB := Lib.hid (hb.setCell (p := ⟨w2.heap.size + 1, r * 4 + k, none⟩) hGw (.int .i64 (sumTo (G r k) i + G r k i)))
                      have hsb := hGs.out r k i hlr hlk (by omega)
                      have hF : G r k i = (sq 4 F).getD (r * 4 + i) 0 * M k i := hGe.out r k i
                      have hpb := hGb.out r k i hlr hlk hli
                      rw [hF] at HQ HG HB hpb
                      obtain ⟨m, hm⟩ : ∃ m, m = M k i := ⟨_, rfl⟩
                      obtain ⟨x, hx⟩ : ∃ x, x = (sq 4 F).getD (r * 4 + i) 0 := ⟨_, rfl⟩
                      obtain ⟨s, hs⟩ : ∃ s, s = sumTo (G r k) i := ⟨_, rfl⟩
                      rw [← hm] at c2 HQ HG HB hpb
                      rw [← hx] at c3 HQ HG HB hpb
                      rw [← hs] at c4 HQ HG HB hsb
                      clear hm hx hs hF Q1 st hoH hoG hb
                      have i7 : IntKind.i64.wrap ((k : Int) * 4 + i) = (k : Int) * 4 + i := IntWalk.i64_in _ (by omega)
                      have t3 : ((k : Int) * 4 + i).toNat = k * 4 + i := by omega
                      have u5 : (0 : Int) ≤ (k : Int) * 4 + i := by omega
                      have u6 : (k : Int) * 4 + i < 16 := by omega
                      have i1 : IntKind.i64.wrap ((r : Int) * 4) = (r : Int) * 4 := IntWalk.i64_in _ (by omega)
                      have i2 : IntKind.i64.wrap ((r : Int) * 4 + k) = (r : Int) * 4 + k := IntWalk.i64_in _ (by omega)
                      have i4 : IntKind.i64.wrap ((r : Int) * 4 + i) = (r : Int) * 4 + i := IntWalk.i64_in _ (by omega)
                      have i5 : IntKind.i64.wrap (x * m) = x * m := IntWalk.i64_in _ (by omega)
                      have i6 : IntKind.i64.wrap (s + x * m) = s + x * m := IntWalk.i64_in _ (by omega)
                      have t1 : ((r : Int) * 4 + k).toNat = r * 4 + k := by omega
                      have t2 : ((r : Int) * 4 + i).toNat = r * 4 + i := by omega
                      have u1 : (0 : Int) ≤ (r : Int) * 4 + k := by omega
                      have u2 : (r : Int) * 4 + k < 16 := by omega
                      have u3 : (0 : Int) ≤ (r : Int) * 4 + i := by omega
                      have u4 : (r : Int) * 4 + i < 16 := by omega
                      go_wp2
                      go_region
                      all_goals
                        go_wp2
                        go_roundw
                        case rel => exact ⟨i + 1, by omega, by go_num, HQ.out.drew, HG.out.drew, HB.out.drew⟩
                        case measure => simp [intOf]; omega
                    · obtain rfl : i = 4 := by omega
                      rw [accL_next 4 G r k hlk] at hoG
                      go_wp2
                      go_roundw
                      case rel => exact ⟨k + 1, by omega, by go_num, hoG, hoH, hb⟩
                      case measure => simp [intOf]; omega
                · obtain rfl : k = 4 := by omega
                  rw [accL_row 4 G r] at hoG
                  go_wp2
                  go_roundw
                  case rel => exact ⟨r + 1, by omega, by go_num, hoG, hoH, hb⟩
                  case measure => simp [intOf]; omega
            · obtain rfl : r = 4 := by omega
              go_wp2
              go_ret
              exact ⟨_, rfl, (OB.new hoG).mono b02.size (Nat.le_refl _), b02.trans (hb.mono b02.size)⟩
set_option maxRecDepth 100000 in
set_option maxHeartbeats 16000000 in
theorem sMul4B (A : Option Addr) (c : Nat) (zs : List Int) (w : World) (h : RI w A 16 zs) (hfit : fitsB zs 4 = true) :
    Calls Try.prog 45 #[.slice A 16 c, .int .i64 4, .bool true] w fun e w' => ∃ A', e = .returned (.slice A' 16 16) ∧ OB w' w.heap.size w'.heap.size A' 16 16 (mulL 4 mAT zs) ∧ Below w.heap.size w w' := by
  obtain ⟨M, hMM⟩ : ∃ M, M = mAT := ⟨_, rfl⟩
  have hM2 : M2 4 M := by rw [hMM]; exact mAT_2
  have hfill : Hid (fillTo 4 mA true 4 0 = flat 4 M) := by rw [hMM]; exact fill4b
  rw [← hMM]
  clear hMM
  have hM := Lib.hid hM2
  have hz := Lib.hid (fun j hj => fits_at hfit j hj)
  obtain ⟨F, hF0⟩ : ∃ F, F = hf 4 M zs := ⟨_, rfl⟩
  obtain ⟨G, hG0⟩ : ∃ G, G = gf 4 M zs := ⟨_, rfl⟩
  have hFe : Hid (∀ r k i, F r k i = M r i * zs.getD (i * 4 + k) 0) := by rw [hF0]; exact fun r k i => rfl
  have hFs : Hid (∀ r k i, r < 4 → k < 4 → i ≤ 4 → -16000000000 ≤ sumTo (F r k) i ∧ sumTo (F r k) i ≤ 16000000000) := by rw [hF0]; exact fun r k i h1 h2 h3 => hs_bd 4 (by omega) M zs hM2 hz.out r k i h1 h2 h3
  have hGe : Hid (∀ r k i, G r k i = (sq 4 F).getD (r * 4 + i) 0 * M k i) := by rw [hG0, hF0]; exact fun r k i => rfl
  have hGb : Hid (∀ r k i, r < 4 → k < 4 → i < 4 → -32000000000 ≤ G r k i ∧ G r k i ≤ 32000000000) := by rw [hG0]; exact fun r k i h1 h2 h3 => gf_bd 4 (by omega) M zs hM2 hz.out r k i h1 h2 h3
  have hGs : Hid (∀ r k i, r < 4 → k < 4 → i ≤ 4 → -256000000000 ≤ sumTo (G r k) i ∧ sumTo (G r k) i ≤ 256000000000) := by rw [hG0]; exact fun r k i h1 h2 h3 => gs_bd 4 (by omega) M zs hM2 hz.out r k i h1 h2 h3
  have hres : mulL 4 M zs = sq 4 G := by rw [hG0]; rfl
  rw [hres]
  have hmk : ∀ (u : World), (Instr.makeSlice 31 (.int .i64 16) (.int .i64 16)).run Try.prog u = .ok (.slice (some ⟨u.heap.size, 0, none⟩) 16 16) (u.alloc (.cells (madeCells #[.int .i64 0] 16) 3)) := fun u => run_make_intsP 16 (by omega) u
  have hm1 := Lib.hid (fun u b hb => made_intsP u 16 b (by omega) hb)
  have hRow := Lib.hid (fun r hr W => sRow4 r hr W)
  clear hM2 hfit hF0 hG0 hres
  go_enter Try.func45, Try.ntmps45
  go_wp2
  go_loopw [8] (fun i wr => ∃ r : Nat, r ≤ 4 ∧ i = .int .i64 (r : Int) ∧ wr.ownsRow w.heap.size 3 1 (.slice (some ⟨w.heap.size, 0, none⟩) 16 16) 16 ((fillTo 4 mA true r 0).map (Value.int .i64)) ∧ Below w.heap.size w wr) (fun i _ => 4 - (intOf i).toNat)
  case atStart => exact ⟨0, Nat.zero_le _, rfl, hm1.out w w.heap.size (Nat.le_refl _), (Below.refl _ _).alloc (Nat.le_refl _) _⟩
  case round =>
    obtain ⟨r, hr, rfl, hoM, hb⟩ := hrel
    by_cases hlr : r < 4
    · have hlri : (r : Int) < 4 := by omega
      go_wp2_with fail
      refine (hRow.out r hlr _).mono ?_
      rintro e w1 ⟨A1, rfl, o1, b1⟩
      have hoM1 := owns_below hoM b1
      have hb1 := hb.trans (b1.mono hb.size)
      have hz1 := b1.size
      obtain ⟨rg, rfl, hrg1, hrg2, _⟩ := o1.form (by omega)
      have own1 := o1.1
      have hrgw : w.heap.size < rg := by have := (hoM.lt w.heap.size rfl).2; omega
      clear hoM hb b1 o1
      go_wp2
      go_loopw [10] (fun i wr => ∃ j : Nat, j ≤ 4 ∧ i = .int .i64 (j : Int) ∧ wr.ownsRow w.heap.size 3 1 (.slice (some ⟨w.heap.size, 0, none⟩) 16 16) 16 ((fillTo 4 mA true r j).map (Value.int .i64)) ∧ Below w.heap.size w wr ∧ (∀ i, i < 4 → wr.cell? ⟨rg, i, none⟩ = some (.int .i64 (mA r i)))) (fun i _ => 4 - (intOf i).toNat)
      case atStart =>
        refine ⟨0, Nat.zero_le _, rfl, hoM1, hb1, fun i hi => ?_⟩
        rw [own1.cellAt i (by omega), List.getElem?_map, List.getElem?_eq_getElem (by rw [rowL_len]; exact hi)]
        simp [rowL]
      case round =>
        clear hoM1 hb1 own1
        obtain ⟨j, hj, rfl, hoM, hb, hrow⟩ := hrel
        by_cases hlj : j < 4
        · have hlji : (j : Int) < 4 := by omega
          have hr0 : (0 : Int) ≤ (r : Int) := by omega
          have hj0 : (0 : Int) ≤ (j : Int) := by omega
          have hsrc := hrow j hlj
          obtain ⟨y, hcell⟩ : ∃ y, wr.cell? ⟨w.heap.size, j * 4 + r, none⟩ = some y := ⟨_, (hoM.cellAt _ (by omega)).trans (List.getElem?_eq_getElem (by rw [hoM.1]; omega))⟩
          have hfz := hoM.frozenAt (j * 4 + r)
          have st := hoM.stored (j * 4 + r) (.int .i64 (mA r j))
          have Q1 := st.1
          rw [map_set_p] at Q1
          have hfe : Hid (fillTo 4 mA true r (j + 1) = (fillTo 4 mA true r j).set (j * 4 + r) (mA r j)) := rfl
          have HQ := Lib.hid Q1
          have HB := Lib.hid (hb.setCell (p := ⟨w.heap.size, j * 4 + r, none⟩) (Nat.le_refl _) (.int .i64 (mA r j)))
          have HC : Hid (∀ i, i < 4 → (wr.setCell ⟨w.heap.size, j * 4 + r, none⟩ (.int .i64 (mA r j))).cell? ⟨rg, i, none⟩ = some (.int .i64 (mA r i))) := fun i hi => (World.cell?_setCell_other wr ⟨w.heap.size, j * 4 + r, none⟩ ⟨rg, i, none⟩ _ (fun e => by have := congrArg Addr.block e; simp at this; omega)).trans (hrow i hi)
          obtain ⟨m, hm⟩ : ∃ m, m = mA r j := ⟨_, rfl⟩
          rw [← hm] at hsrc HQ HB HC hfe
          clear hm Q1 st hoM hb hrow
          have i1 : IntKind.i64.wrap ((j : Int) * 4 + r) = (j : Int) * 4 + r := IntWalk.i64_in _ (by omega)
          have u1 : (0 : Int) ≤ (j : Int) * 4 + r := by omega
          have u2 : (j : Int) * 4 + r < 16 := by omega
          go_wp2
          go_roundw
          case rel => exact ⟨j + 1, by omega, by go_num, by rw [hfe.out]; exact HQ.out, HB.out, HC.out⟩
          case measure => simp [intOf]; omega
        · obtain rfl : j = 4 := by omega
          have hfe : Hid (fillTo 4 mA true (r + 1) 0 = fillTo 4 mA true r 4) := rfl
          clear hrow
          go_wp2
          go_roundw
          case rel => exact ⟨r + 1, by omega, by go_num, by rw [hfe.out]; exact hoM, hb⟩
          case measure => simp [intOf]; omega
    · obtain rfl : r = 4 := by omega
      obtain ⟨w2, hw2⟩ : ∃ w2, w2 = wr := ⟨_, rfl⟩
      rw [← hw2] at hoM hb ⊢
      clear hw2 hRow
      rw [hfill.out] at hoM
      have b02 := hb
      have hR := Lib.hid (h.below b02)
      have hwlt : w.heap.size < w2.heap.size := (hoM.lt w.heap.size rfl).2
      have hMR : Hid (∀ j, j < 16 → w2.cell? ⟨w.heap.size, j, none⟩ = some (.int .i64 ((flat 4 M).getD j 0))) := by
        show ∀ j, j < 16 → w2.cell? ⟨w.heap.size, j, none⟩ = some (.int .i64 ((flat 4 M).getD j 0))
        intro j hj
        obtain ⟨b, off, e, _, hc⟩ := (OB.new hoM).read.at_ (show 0 < 16 by omega)
        cases e
        have := hc j hj
        simpa using this
      have hHw : w2.heap.size ≤ w2.heap.size := Nat.le_refl _
      have hGw : w2.heap.size ≤ w2.heap.size + 1 := by omega
      have ownH : ((w2.alloc (.cells (madeCells #[.int .i64 0] 16) 3)).alloc (.cells (madeCells #[.int .i64 0] 16) 3)).ownsRow w2.heap.size 3 1 (.slice (some ⟨w2.heap.size, 0, none⟩) 16 16) 16 ((List.replicate 16 (0 : Int)).map (Value.int .i64)) := ((hm1.out w2 w2.heap.size (Nat.le_refl _)).alloc _)
      have ownG : ((w2.alloc (.cells (madeCells #[.int .i64 0] 16) 3)).alloc (.cells (madeCells #[.int .i64 0] 16) 3)).ownsRow w2.heap.size 3 1 (.slice (some ⟨w2.heap.size + 1, 0, none⟩) 16 16) 16 ((List.replicate 16 (0 : Int)).map (Value.int .i64)) := by
        have := (hm1.out (w2.alloc (.cells (madeCells #[.int .i64 0] 16) 3)) w2.heap.size (by simp))
        simpa using this
      have bW : Below w2.heap.size w2 ((w2.alloc (.cells (madeCells #[.int .i64 0] 16) 3)).alloc (.cells (madeCells #[.int .i64 0] 16) 3)) := (((Below.refl _ _).alloc (Nat.le_refl _) _).alloc (by simp) _)
      clear hoM hb h
      -- the first sum
      go_wp2
      go_loopw [13] (fun i wr => ∃ r : Nat, r ≤ 4 ∧ i = .int .i64 (r : Int) ∧ wr.ownsRow w2.heap.size 3 1 (.slice (some ⟨w2.heap.size, 0, none⟩) 16 16) 16 ((accL 4 F r 0 0).map (Value.int .i64)) ∧ wr.ownsRow w2.heap.size 3 1 (.slice (some ⟨w2.heap.size + 1, 0, none⟩) 16 16) 16 ((List.replicate 16 (0 : Int)).map (Value.int .i64)) ∧ Below w2.heap.size w2 wr) (fun i _ => 4 - (intOf i).toNat)
      case atStart => exact ⟨0, Nat.zero_le _, rfl, by rw [accL_zero]; exact ownH, ownG, bW⟩
      case round =>
        clear ownH ownG bW
        obtain ⟨r, hr, rfl, hoH, hoG, hb⟩ := hrel
        by_cases hlr : r < 4
        · have hlri : (r : Int) < 4 := by omega
          go_wp2
          go_loopw [14] (fun i wr => ∃ k : Nat, k ≤ 4 ∧ i = .int .i64 (k : Int) ∧ wr.ownsRow w2.heap.size 3 1 (.slice (some ⟨w2.heap.size, 0, none⟩) 16 16) 16 ((accL 4 F r k 0).map (Value.int .i64)) ∧ wr.ownsRow w2.heap.size 3 1 (.slice (some ⟨w2.heap.size + 1, 0, none⟩) 16 16) 16 ((List.replicate 16 (0 : Int)).map (Value.int .i64)) ∧ Below w2.heap.size w2 wr) (fun i _ => 4 - (intOf i).toNat)
          case atStart => exact ⟨0, Nat.zero_le _, rfl, hoH, hoG, hb⟩
          case round =>
            clear hoH hoG hb
            obtain ⟨k, hk, rfl, hoH, hoG, hb⟩ := hrel
            by_cases hlk : k < 4
            · have hlki : (k : Int) < 4 := by omega
              go_wp2
              go_loopw [15] (fun i wr => ∃ i' : Nat, i' ≤ 4 ∧ i = .int .i64 (i' : Int) ∧ wr.ownsRow w2.heap.size 3 1 (.slice (some ⟨w2.heap.size, 0, none⟩) 16 16) 16 ((accL 4 F r k i').map (Value.int .i64)) ∧ wr.ownsRow w2.heap.size 3 1 (.slice (some ⟨w2.heap.size + 1, 0, none⟩) 16 16) 16 ((List.replicate 16 (0 : Int)).map (Value.int .i64)) ∧ Below w2.heap.size w2 wr) (fun i _ => 4 - (intOf i).toNat)
              case atStart => exact ⟨0, Nat.zero_le _, rfl, hoH, hoG, hb⟩
              case round =>
                clear hoH hoG hb
                obtain ⟨i, hi', rfl, hoH, hoG, hb⟩ := hrel
                by_cases hli : i < 4
                · have hlii : (i : Int) < 4 := by omega
                  have hri : (0 : Int) ≤ (r : Int) := by omega
                  have hki : (0 : Int) ≤ (k : Int) := by omega
                  have hii : (0 : Int) ≤ (i : Int) := by omega
                  obtain ⟨b, off, e1, hbl, hc⟩ := hR.out.at_ (show 0 < 16 by omega)
                  have c2 := (hb.cell (p := ⟨w.heap.size, r * 4 + i, none⟩) hwlt).trans (hMR.out (r * 4 + i) (by omega))
                  rw [flat_at 4 M r i hlr hli] at c2
                  have c3 := (hb.cell (p := ⟨b, off + (i * 4 + k), none⟩) hbl).trans (hc (i * 4 + k) (by omega))
                  have c4 : wr.cell? ⟨w2.heap.size, r * 4 + k, none⟩ = some (.int .i64 ((accL 4 F r k i).getD (r * 4 + k) 0)) := by
                    rw [hoH.cellAt _ (by omega), List.getElem?_map, List.getElem?_eq_getElem (by rw [accL_len]; omega), List.getD_eq_getElem?_getD, List.getElem?_eq_getElem (by rw [accL_len]; omega)]; rfl
                  rw [accL_cur 4 F r k i (by omega)] at c4
                  have hfz := hoH.frozenAt (r * 4 + k)
                  have st := hoH.stored (r * 4 + k) (.int .i64 (sumTo (F r k) i + F r k i))
                  have Q1 := st.1
                  rw [map_set_p, accL_step] at Q1
                  have HQ := Lib.hid Q1
                  have HG := Lib.hid (hoG.kept st.2 (Or.inr (by simp [Value.ownBlock])))
                  have HB := Lib.hid (hb.setCell (p := ⟨w2.heap.size, r * 4 + k, none⟩) hHw (.int .i64 (sumTo (F r k) i + F r k i)))
                  have hsb := hFs.out r k i hlr hlk (by omega)
                  have hF : F r k i = M r i * zs.getD (i * 4 + k) 0 := hFe.out r k i
                  have hmb := hM.out r i hlr hli
                  have hxb := hz.out (i * 4 + k) (by omega)
                  rw [hF] at HQ HG HB
                  obtain ⟨m, hm⟩ : ∃ m, m = M r i := ⟨_, rfl⟩
                  obtain ⟨x, hx⟩ : ∃ x, x = zs.getD (i * 4 + k) 0 := ⟨_, rfl⟩
                  obtain ⟨s, hs⟩ : ∃ s, s = sumTo (F r k) i := ⟨_, rfl⟩
                  rw [← hm] at c2 HQ HG HB hmb
                  rw [← hx] at c3 HQ HG HB hxb
                  rw [← hs] at c4 HQ HG HB hsb
                  have hpb := mul_2 m x 1000000000 hmb hxb
                  subst e1
                  clear hm hx hs hF Q1 st hoH hoG hb hc
                  have i7 : IntKind.i64.wrap ((r : Int) * 4 + i) = (r : Int) * 4 + i := IntWalk.i64_in _ (by omega)
                  have t3 : ((r : Int) * 4 + i).toNat = r * 4 + i := by omega
                  have u5 : (0 : Int) ≤ (r : Int) * 4 + i := by omega
                  have u6 : (r : Int) * 4 + i < 16 := by omega
                  have i1 : IntKind.i64.wrap ((r : Int) * 4) = (r : Int) * 4 := IntWalk.i64_in _ (by omega)
                  have i2 : IntKind.i64.wrap ((r : Int) * 4 + k) = (r : Int) * 4 + k := IntWalk.i64_in _ (by omega)
                  have i3 : IntKind.i64.wrap ((i : Int) * 4) = (i : Int) * 4 := IntWalk.i64_in _ (by omega)
                  have i4 : IntKind.i64.wrap ((i : Int) * 4 + k) = (i : Int) * 4 + k := IntWalk.i64_in _ (by omega)
                  have i5 : IntKind.i64.wrap (m * x) = m * x := IntWalk.i64_in _ (by omega)
                  have i6 : IntKind.i64.wrap (s + m * x) = s + m * x := IntWalk.i64_in _ (by omega)
                  have t1 : ((r : Int) * 4 + k).toNat = r * 4 + k := by omega
                  have t2 : ((i : Int) * 4 + k).toNat = i * 4 + k := by omega
                  have u1 : (0 : Int) ≤ (r : Int) * 4 + k := by omega
                  have u2 : (r : Int) * 4 + k < 16 := by omega
                  have u3 : (0 : Int) ≤ (i : Int) * 4 + k := by omega
                  have u4 : (i : Int) * 4 + k < 16 := by omega
                  go_wp2
                  go_region
                  all_goals
                    go_wp2
                    go_roundw
                    case rel => exact ⟨i + 1, by omega, by go_num, HQ.out.drew, HG.out.drew, HB.out.drew⟩
                    case measure => simp [intOf]; omega
                · obtain rfl : i = 4 := by omega
                  rw [accL_next 4 F r k hlk] at hoH
                  go_wp2
                  go_roundw
                  case rel => exact ⟨k + 1, by omega, by go_num, hoH, hoG, hb⟩
                  case measure => simp [intOf]; omega
            · obtain rfl : k = 4 := by omega
              rw [accL_row 4 F r] at hoH
              go_wp2
              go_roundw
              case rel => exact ⟨r + 1, by omega, by go_num, hoH, hoG, hb⟩
              case measure => simp [intOf]; omega
        · obtain rfl : r = 4 := by omega
          have hoH : wr.ownsRow w2.heap.size 3 1 (.slice (some ⟨w2.heap.size, 0, none⟩) 16 16) 16 ((sq 4 F).map (Value.int .i64)) := hoH
          -- the second sum
          go_wp2
          go_loopw [16] (fun i wr => ∃ r : Nat, r ≤ 4 ∧ i = .int .i64 (r : Int) ∧ wr.ownsRow w2.heap.size 3 1 (.slice (some ⟨w2.heap.size + 1, 0, none⟩) 16 16) 16 ((accL 4 G r 0 0).map (Value.int .i64)) ∧ wr.ownsRow w2.heap.size 3 1 (.slice (some ⟨w2.heap.size, 0, none⟩) 16 16) 16 ((sq 4 F).map (Value.int .i64)) ∧ Below w2.heap.size w2 wr) (fun i _ => 4 - (intOf i).toNat)
          case atStart => exact ⟨0, Nat.zero_le _, rfl, by rw [accL_zero]; exact hoG, hoH, hb⟩
          case round =>
            clear hoH hoG hb
            obtain ⟨r, hr, rfl, hoG, hoH, hb⟩ := hrel
            by_cases hlr : r < 4
            · have hlri : (r : Int) < 4 := by omega
              go_wp2
              go_loopw [17] (fun i wr => ∃ k : Nat, k ≤ 4 ∧ i = .int .i64 (k : Int) ∧ wr.ownsRow w2.heap.size 3 1 (.slice (some ⟨w2.heap.size + 1, 0, none⟩) 16 16) 16 ((accL 4 G r k 0).map (Value.int .i64)) ∧ wr.ownsRow w2.heap.size 3 1 (.slice (some ⟨w2.heap.size, 0, none⟩) 16 16) 16 ((sq 4 F).map (Value.int .i64)) ∧ Below w2.heap.size w2 wr) (fun i _ => 4 - (intOf i).toNat)
              case atStart => exact ⟨0, Nat.zero_le _, rfl, hoG, hoH, hb⟩
              case round =>
                clear hoH hoG hb
                obtain ⟨k, hk, rfl, hoG, hoH, hb⟩ := hrel
                by_cases hlk : k < 4
                · have hlki : (k : Int) < 4 := by omega
                  go_wp2
                  go_loopw [18] (fun i wr => ∃ i' : Nat, i' ≤ 4 ∧ i = .int .i64 (i' : Int) ∧ wr.ownsRow w2.heap.size 3 1 (.slice (some ⟨w2.heap.size + 1, 0, none⟩) 16 16) 16 ((accL 4 G r k i').map (Value.int .i64)) ∧ wr.ownsRow w2.heap.size 3 1 (.slice (some ⟨w2.heap.size, 0, none⟩) 16 16) 16 ((sq 4 F).map (Value.int .i64)) ∧ Below w2.heap.size w2 wr) (fun i _ => 4 - (intOf i).toNat)
                  case atStart => exact ⟨0, Nat.zero_le _, rfl, hoG, hoH, hb⟩
                  case round =>
                    clear hoH hoG hb
                    obtain ⟨i, hi', rfl, hoG, hoH, hb⟩ := hrel
                    by_cases hli : i < 4
                    · have hlii : (i : Int) < 4 := by omega
                      have hri : (0 : Int) ≤ (r : Int) := by omega
                      have hki : (0 : Int) ≤ (k : Int) := by omega
                      have hii : (0 : Int) ≤ (i : Int) := by omega
                      have c2 := (hb.cell (p := ⟨w.heap.size, k * 4 + i, none⟩) hwlt).trans (hMR.out (k * 4 + i) (by omega))
                      rw [flat_at 4 M k i hlk hli] at c2
                      have c3 : wr.cell? ⟨w2.heap.size, r * 4 + i, none⟩ = some (.int .i64 ((sq 4 F).getD (r * 4 + i) 0)) := by
                        rw [hoH.cellAt _ (by omega), List.getElem?_map, List.getElem?_eq_getElem (by unfold sq; rw [accL_len]; omega), List.getD_eq_getElem?_getD, List.getElem?_eq_getElem (by unfold sq; rw [accL_len]; omega)]; rfl
                      have c4 : wr.cell? ⟨w2.heap.size + 1, r * 4 + k, none⟩ = some (.int .i64 ((accL 4 G r k i).getD (r * 4 + k) 0)) := by
                        rw [hoG.cellAt _ (by omega), List.getElem?_map, List.getElem?_eq_getElem (by rw [accL_len]; omega), List.getD_eq_getElem?_getD, List.getElem?_eq_getElem (by rw [accL_len]; omega)]; rfl
                      rw [accL_cur 4 G r k i (by omega)] at c4
                      have hfz := hoG.frozenAt (r * 4 + k)
                      have st := hoG.stored (r * 4 + k) (.int .i64 (sumTo (G r k) i + G r k i))
                      have Q1 := st.1
                      rw [map_set_p, accL_step] at Q1
                      have HQ := Lib.hid Q1
                      have HG := Lib.hid (hoH.kept st.2 (Or.inr (by simp [Value.ownBlock])))
                      have HB := Lib.hid (hb.setCell (p := ⟨w2.heap.size + 1, r * 4 + k, none⟩) hGw (.int .i64 (sumTo (G r k) i + G r k i)))
                      have hsb := hGs.out r k i hlr hlk (by omega)
                      have hF : G r k i = (sq 4 F).getD (r * 4 + i) 0 * M k i := hGe.out r k i
                      have hpb := hGb.out r k i hlr hlk hli
                      rw [hF] at HQ HG HB hpb
                      obtain ⟨m, hm⟩ : ∃ m, m = M k i := ⟨_, rfl⟩
                      obtain ⟨x, hx⟩ : ∃ x, x = (sq 4 F).getD (r * 4 + i) 0 := ⟨_, rfl⟩
                      obtain ⟨s, hs⟩ : ∃ s, s = sumTo (G r k) i := ⟨_, rfl⟩
                      rw [← hm] at c2 HQ HG HB hpb
                      rw [← hx] at c3 HQ HG HB hpb
                      rw [← hs] at c4 HQ HG HB hsb
                      clear hm hx hs hF Q1 st hoH hoG hb
                      have i7 : IntKind.i64.wrap ((k : Int) * 4 + i) = (k : Int) * 4 + i := IntWalk.i64_in _ (by omega)
                      have t3 : ((k : Int) * 4 + i).toNat = k * 4 + i := by omega
                      have u5 : (0 : Int) ≤ (k : Int) * 4 + i := by omega
                      have u6 : (k : Int) * 4 + i < 16 := by omega
                      have i1 : IntKind.i64.wrap ((r : Int) * 4) = (r : Int) * 4 := IntWalk.i64_in _ (by omega)
                      have i2 : IntKind.i64.wrap ((r : Int) * 4 + k) = (r : Int) * 4 + k := IntWalk.i64_in _ (by omega)
                      have i4 : IntKind.i64.wrap ((r : Int) * 4 + i) = (r : Int) * 4 + i := IntWalk.i64_in _ (by omega)
                      have i5 : IntKind.i64.wrap (x * m) = x * m := IntWalk.i64_in _ (by omega)
                      have i6 : IntKind.i64.wrap (s + x * m) = s + x * m := IntWalk.i64_in _ (by omega)
                      have t1 : ((r : Int) * 4 + k).toNat = r * 4 + k := by omega
                      have t2 : ((r : Int) * 4 + i).toNat = r * 4 + i := by omega
                      have u1 : (0 : Int) ≤ (r : Int) * 4 + k := by omega
                      have u2 : (r : Int) * 4 + k < 16 := by omega
                      have u3 : (0 : Int) ≤ (r : Int) * 4 + i := by omega
                      have u4 : (r : Int) * 4 + i < 16 := by omega
                      go_wp2
                      go_region
                      all_goals
                        go_wp2
                        go_roundw
                        case rel => exact ⟨i + 1, by omega, by go_num, HQ.out.drew, HG.out.drew, HB.out.drew⟩
                        case measure => simp [intOf]; omega
                    · obtain rfl : i = 4 := by omega
                      rw [accL_next 4 G r k hlk] at hoG
                      go_wp2
                      go_roundw
                      case rel => exact ⟨k + 1, by omega, by go_num, hoG, hoH, hb⟩
                      case measure => simp [intOf]; omega
                · obtain rfl : k = 4 := by omega
                  rw [accL_row 4 G r] at hoG
                  go_wp2
                  go_roundw
                  case rel => exact ⟨r + 1, by omega, by go_num, hoG, hoH, hb⟩
                  case measure => simp [intOf]; omega
            · obtain rfl : r = 4 := by omega
              go_wp2
              go_ret
              exact ⟨_, rfl, (OB.new hoG).mono b02.size (Nat.le_refl _), b02.trans (hb.mono b02.size)⟩
end Go.Proofs.Ytilfekkgoooefaa
