/-
  MATRICES AS ROWS OF ROWS, and the program's product: a matrix, a square, the matrix turned. No condition but the numbers' bounds.
-/
import Derived.Test.YtilfekkgoooefaaInts
import Derived.Test.YtilfekkgoooefaaSumLaw
import Derived.BigRegion
namespace Go.Proofs.Ytilfekkgoooefaa
open Go.ChangeShapes Go.WideShapes Go.ChangeAt Go.RowKit
set_option linter.unusedVariables false
/-- A matrix in memory: a row of rows. -/
def MX (w : World) (A : Option Addr) (n : Nat) (M : Nat → Nat → Int) : Prop :=
  ∃ b off, A = some ⟨b, off, none⟩ ∧ b < w.heap.size ∧ ∀ r, r < n → ∃ rb ro rc, w.cell? ⟨b, off + r, none⟩ = some (.slice (some ⟨rb, ro, none⟩) n rc) ∧ rb < w.heap.size ∧ ∀ i, i < n → w.cell? ⟨rb, ro + i, none⟩ = some (.int .i64 (M r i))
theorem MX.below {w w' : World} {A : Option Addr} {n : Nat} {M : Nat → Nat → Int} (h : MX w A n M) (hb : Below w.heap.size w w') : MX w' A n M := by
  obtain ⟨b, off, e, hl, hr⟩ := h
  refine ⟨b, off, e, Nat.lt_of_lt_of_le hl hb.size, fun r hrn => ?_⟩
  obtain ⟨rb, ro, rc, h1, h2, h3⟩ := hr r hrn
  exact ⟨rb, ro, rc, (hb.cell (p := ⟨b, off + r, none⟩) hl).trans h1, Nat.lt_of_lt_of_le h2 hb.size, fun i hi => (hb.cell (p := ⟨rb, ro + i, none⟩) h2).trans (h3 i hi)⟩
theorem run_make_intsP (z : Nat) (hz : z ≤ 100000000) (u : World) : (Instr.makeSlice 31 (.int .i64 (z : Int)) (.int .i64 (z : Int))).run Try.prog u = .ok (.slice (some ⟨u.heap.size, 0, none⟩) z z) (u.alloc (.cells (madeCells #[.int .i64 0] z) 3)) := by
  obtain ⟨i0, hi, hz0, hz1, hz2⟩ := info_parts info_i64
  have h := run_make (P := Try.prog) u 31 3 i0 (.int .i64 0) Try.underlying31 hi hz0 .i64 .i64 (z : Int) (z : Int) (by omega) (Int.le_refl _) (by rw [hz2]; omega) (by omega)
  simpa [hz1, Value.cells] using h
theorem made_intsP (u : World) (z base : Nat) (hz : z ≤ 100000000) (hb : base ≤ u.heap.size) : (u.alloc (.cells (madeCells #[.int .i64 0] z) 3)).ownsRow base 3 1 (.slice (some ⟨u.heap.size, 0, none⟩) z z) z ((List.replicate z (0 : Int)).map (Value.int .i64)) := by
  have h := World.ownsRow_lit (base := base) (e := 3) (size := 1) u (madeCells #[.int .i64 0] z) z hb (by unfold maxLen; omega) (by rw [size_madeCells]; omega)
  rw [toList_madeCells_one] at h
  rw [List.map_replicate]
  exact h
theorem map_set_p (l : List Int) (m : Nat) (x : Int) : (l.map (Value.int .i64)).set m (.int .i64 x) = (l.set m x).map (Value.int .i64) := by rw [← List.map_set]
set_option maxRecDepth 100000 in
theorem iAllWithin (A : Option Addr) (n c : Nat) (zs : List Int) (w : World) (h : RI w A n zs) (hn : n ≤ 1048576) :
    Calls Try.prog 43 #[.slice A n c, .int .i64 (-1000000000), .int .i64 1000000000] w fun e w' => e = .returned (.bool (zs.all okBig)) ∧ w = w' := by
  have hlen := h.len
  go_enter Try.func43, Try.ntmps43
  go_wp2
  go_loop [11] (fun i => ∃ k : Nat, k ≤ n ∧ i = .int .i64 k ∧ ∀ x ∈ zs.take k, okBig x = true) (fun i => n - (intOf i).toNat)
  case atStart => exact ⟨0, Nat.zero_le _, rfl, fun x hx => by simp at hx⟩
  case round =>
    obtain ⟨k, hk, rfl, hok⟩ := hrel
    by_cases hlt : k < n
    · obtain ⟨b, off, rfl, hbl, hc⟩ := h.at_ hlt
      have h1 := hc k hlt
      have hts : zs.take (k + 1) = zs.take k ++ [zs.getD k 0] := by
        rw [List.take_add_one, List.getElem?_eq_getElem (by omega), List.getD_eq_getElem?_getD, List.getElem?_eq_getElem (by omega)]; rfl
      have hmem : zs.getD k 0 ∈ zs := by rw [List.getD_eq_getElem?_getD, List.getElem?_eq_getElem (by omega)]; exact List.getElem_mem (by omega)
      obtain ⟨x, hx⟩ : ∃ x, x = zs.getD k 0 := ⟨_, rfl⟩
      rw [← hx] at h1 hts hmem
      by_cases hr : -1000000000 ≤ x ∧ x ≤ 1000000000
      · have hG : Hid (∀ y ∈ zs.take (k + 1), okBig y = true) := by
          show ∀ y ∈ zs.take (k + 1), okBig y = true
          intro y hy
          rw [hts] at hy
          rcases List.mem_append.1 hy with hy | hy
          · exact hok y hy
          · simp at hy; subst hy; simp [okBig, hr.1, hr.2]
        clear hok hlen hts hmem hx hc h
        go_wp2_with (first
          | (go_at_call 29; refine (iIn_yes _ _ _ _ hr).mono ?_; rintro e w' ⟨rfl, rfl⟩))
        go_round
        case rel => exact ⟨k + 1, by omega, by go_num, hG.out⟩
        case measure => simp [intOf]; omega
      · have hB : Hid (zs.all okBig = false) := by
          show zs.all okBig = false
          rw [List.all_eq_false]
          exact ⟨x, hmem, by simp [okBig]; omega⟩
        have hr' : x < -1000000000 ∨ 1000000000 < x := by omega
        clear hok hlen hts hmem hx hc h hr
        go_wp2_with (first
          | (go_at_call 29; refine (iIn_no _ _ _ _ hr').mono ?_; rintro e w' ⟨rfl, rfl⟩))
        go_ret
        exact ⟨ret_bool (by rw [hB.out]), rfl⟩
    · obtain rfl : k = n := by omega
      have hE : Hid (zs.all okBig = true) := by
        show zs.all okBig = true
        rw [List.all_eq_true]
        rw [List.take_of_length_le (by omega)] at hok
        exact hok
      clear hok hlen
      go_wp2
      go_ret
      exact ⟨ret_bool (by rw [hE.out]), rfl⟩
set_option maxRecDepth 100000 in
set_option maxHeartbeats 16000000 in
theorem iProduct4_in (Am A : Option Addr) (cm c : Nat) (M : Nat → Nat → Int) (zs : List Int) (w : World) (hX : MX w Am 4 M) (hM2 : M2 4 M) (h : RI w A 16 zs) (hf_ : zs.all okBig = true) :
    Calls Try.prog 33 #[.slice Am 4 cm, .slice A 16 c] w fun e w' => ∃ A', e = .returned (.slice A' 16 16) ∧ OB w' w.heap.size w'.heap.size A' 16 16 (mulL 4 M zs) ∧ Below w.heap.size w w' := by
  have hMX := Lib.hid hX
  have hR := Lib.hid h
  have hM := Lib.hid hM2
  have hfit : fitsB zs 4 = true := by unfold fitsB; rw [hf_, h.len]; rfl
  have hz := Lib.hid (fun j hj => fits_at hfit j hj)
  have hAll : Hid (Calls Try.prog 43 #[.slice A 16 c, .int .i64 (-1000000000), .int .i64 1000000000] w fun e w' => e = .returned (.bool true) ∧ w = w') := by
    have := iAllWithin A 16 c zs w h (by omega); rw [hf_] at this; exact this
  obtain ⟨F, hF0⟩ : ∃ F, F = hf 4 M zs := ⟨_, rfl⟩
  obtain ⟨G, hG0⟩ : ∃ G, G = gf 4 M zs := ⟨_, rfl⟩
  have hFe : Hid (∀ r k i, F r k i = M r i * zs.getD (i * 4 + k) 0) := by rw [hF0]; exact fun r k i => rfl
  have hFs : Hid (∀ r k i, r < 4 → k < 4 → i ≤ 4 → -16000000000 ≤ sumTo (F r k) i ∧ sumTo (F r k) i ≤ 16000000000) := by rw [hF0]; exact fun r k i h1 h2 h3 => hs_bd 4 (by omega) M zs hM2 hz.out r k i h1 h2 h3
  have hGe : Hid (∀ r k i, G r k i = (sq 4 F).getD (r * 4 + i) 0 * M k i) := by rw [hG0, hF0]; exact fun r k i => rfl
  have hGb : Hid (∀ r k i, r < 4 → k < 4 → i < 4 → -32000000000 ≤ G r k i ∧ G r k i ≤ 32000000000) := by rw [hG0]; exact fun r k i h1 h2 h3 => gf_bd 4 (by omega) M zs hM2 hz.out r k i h1 h2 h3
  have hGs : Hid (∀ r k i, r < 4 → k < 4 → i ≤ 4 → -256000000000 ≤ sumTo (G r k) i ∧ sumTo (G r k) i ≤ 256000000000) := by rw [hG0]; exact fun r k i h1 h2 h3 => gs_bd 4 (by omega) M zs hM2 hz.out r k i h1 h2 h3
  have hres : mulL 4 M zs = sq 4 G := by rw [hG0]; rfl
  rw [hres]
  have hmk : ∀ (u : World), (Instr.makeSlice 31 (.int .i64 16) (.int .i64 16)).run Try.prog u = .ok (.slice (some ⟨u.heap.size, 0, none⟩) 16 16) (u.alloc (.cells (madeCells #[.int .i64 0] 16) 3)) := fun u => run_make_intsP 16 (by omega) u
  have hm1 := Lib.hid (fun u b hb => made_intsP u 16 b (by omega) hb)
  clear hX hM2 h hf_ hfit hF0 hG0 hres
  go_enter Try.func33, Try.ntmps33
  go_wp2_with fail
  refine hAll.out.mono ?_
  rintro e w' ⟨rfl, rfl⟩
  clear hAll
  go_wp2
  go_region
  · have hHw : w.heap.size ≤ w.heap.size := by omega
    have hGw : w.heap.size ≤ w.heap.size + 1 := by omega
    have own1 : ((w.alloc (.cells (madeCells #[.int .i64 0] 16) 3)).alloc (.cells (madeCells #[.int .i64 0] 16) 3)).drew.ownsRow w.heap.size 3 1 (.slice (some ⟨w.heap.size, 0, none⟩) 16 16) 16 ((List.replicate 16 (0 : Int)).map (Value.int .i64)) := ((hm1.out w w.heap.size (Nat.le_refl _)).alloc _).drew
    have own2 : ((w.alloc (.cells (madeCells #[.int .i64 0] 16) 3)).alloc (.cells (madeCells #[.int .i64 0] 16) 3)).drew.ownsRow w.heap.size 3 1 (.slice (some ⟨w.heap.size + 1, 0, none⟩) 16 16) 16 ((List.replicate 16 (0 : Int)).map (Value.int .i64)) := by
      have := (hm1.out (w.alloc (.cells (madeCells #[.int .i64 0] 16) 3)) w.heap.size (by simp)).drew
      simpa using this
    have bW : Below w.heap.size w ((w.alloc (.cells (madeCells #[.int .i64 0] 16) 3)).alloc (.cells (madeCells #[.int .i64 0] 16) 3)).drew := (((Below.refl _ _).alloc (Nat.le_refl _) _).alloc (by simp) _).drew
    obtain ⟨wz, hwz⟩ : ∃ wz, wz = ((w.alloc (.cells (madeCells #[.int .i64 0] 16) 3)).alloc (.cells (madeCells #[.int .i64 0] 16) 3)).drew := ⟨_, rfl⟩
    rw [← hwz] at own1 own2 bW ⊢
    clear hwz hmk hm1
    have ownH := own1
    have ownG := own2
    clear own1 own2
    -- the first sum
    go_wp2
    go_loopw [36] (fun i wr => ∃ r : Nat, r ≤ 4 ∧ i = .int .i64 (r : Int) ∧ wr.ownsRow w.heap.size 3 1 (.slice (some ⟨w.heap.size, 0, none⟩) 16 16) 16 ((accL 4 F r 0 0).map (Value.int .i64)) ∧ wr.ownsRow w.heap.size 3 1 (.slice (some ⟨w.heap.size + 1, 0, none⟩) 16 16) 16 ((List.replicate 16 (0 : Int)).map (Value.int .i64)) ∧ Below w.heap.size w wr) (fun i _ => 4 - (intOf i).toNat)
    case atStart => exact ⟨0, Nat.zero_le _, rfl, by rw [accL_zero]; exact ownH, ownG, bW⟩
    case round =>
      clear ownH ownG bW
      obtain ⟨r, hr, rfl, hoH, hoG, hb⟩ := hrel
      by_cases hlr : r < 4
      · have hlri : (r : Int) < 4 := by omega
        go_wp2
        go_loopw [40] (fun i wr => ∃ k : Nat, k ≤ 4 ∧ i = .int .i64 (k : Int) ∧ wr.ownsRow w.heap.size 3 1 (.slice (some ⟨w.heap.size, 0, none⟩) 16 16) 16 ((accL 4 F r k 0).map (Value.int .i64)) ∧ wr.ownsRow w.heap.size 3 1 (.slice (some ⟨w.heap.size + 1, 0, none⟩) 16 16) 16 ((List.replicate 16 (0 : Int)).map (Value.int .i64)) ∧ Below w.heap.size w wr) (fun i _ => 4 - (intOf i).toNat)
        case atStart => exact ⟨0, Nat.zero_le _, rfl, hoH, hoG, hb⟩
        case round =>
          clear hoH hoG hb
          obtain ⟨k, hk, rfl, hoH, hoG, hb⟩ := hrel
          by_cases hlk : k < 4
          · have hlki : (k : Int) < 4 := by omega
            go_wp2
            go_loopw [44] (fun i wr => ∃ i' : Nat, i' ≤ 4 ∧ i = .int .i64 (i' : Int) ∧ wr.ownsRow w.heap.size 3 1 (.slice (some ⟨w.heap.size, 0, none⟩) 16 16) 16 ((accL 4 F r k i').map (Value.int .i64)) ∧ wr.ownsRow w.heap.size 3 1 (.slice (some ⟨w.heap.size + 1, 0, none⟩) 16 16) 16 ((List.replicate 16 (0 : Int)).map (Value.int .i64)) ∧ Below w.heap.size w wr) (fun i _ => 4 - (intOf i).toNat)
            case atStart => exact ⟨0, Nat.zero_le _, rfl, hoH, hoG, hb⟩
            case round =>
              clear hoH hoG hb
              obtain ⟨i, hi', rfl, hoH, hoG, hb⟩ := hrel
              by_cases hli : i < 4
              · have hlii : (i : Int) < 4 := by omega
                have hri : (0 : Int) ≤ (r : Int) := by omega
                have hki : (0 : Int) ≤ (k : Int) := by omega
                have hii : (0 : Int) ≤ (i : Int) := by omega
                obtain ⟨b, off, e1, hbl, hc⟩ := hR.out.at_ (show 0 < 16 by omega)
                obtain ⟨mb, mo, e2, mbl, hmr⟩ := hMX.out
                obtain ⟨rb, ro, rc, g1, g2, g3⟩ := hmr r hlr
                have c1 := (hb.cell (p := ⟨mb, mo + r, none⟩) mbl).trans g1
                have c2 := (hb.cell (p := ⟨rb, ro + i, none⟩) g2).trans (g3 i hli)
                have c3 := (hb.cell (p := ⟨b, off + (i * 4 + k), none⟩) hbl).trans (hc (i * 4 + k) (by omega))
                have c4 : wr.cell? ⟨w.heap.size, r * 4 + k, none⟩ = some (.int .i64 ((accL 4 F r k i).getD (r * 4 + k) 0)) := by
                  rw [hoH.cellAt _ (by omega), List.getElem?_map, List.getElem?_eq_getElem (by rw [accL_len]; omega), List.getD_eq_getElem?_getD, List.getElem?_eq_getElem (by rw [accL_len]; omega)]; rfl
                rw [accL_cur 4 F r k i (by omega)] at c4
                have hfz := hoH.frozenAt (r * 4 + k)
                have st := hoH.stored (r * 4 + k) (.int .i64 (sumTo (F r k) i + F r k i))
                have Q1 := st.1
                rw [map_set_p, accL_step] at Q1
                have HQ := Lib.hid Q1
                have HG := Lib.hid (hoG.kept st.2 (Or.inr (by simp [Value.ownBlock])))
                have HB := Lib.hid (hb.setCell (p := ⟨w.heap.size, r * 4 + k, none⟩) hHw (.int .i64 (sumTo (F r k) i + F r k i)))
                have hsb := hFs.out r k i hlr hlk (by omega)
                have hF : F r k i = M r i * zs.getD (i * 4 + k) 0 := hFe.out r k i
                have hmb := hM.out r i hlr hli
                have hxb := hz.out (i * 4 + k) (by omega)
                rw [hF] at HQ HG HB
                obtain ⟨m, hm⟩ : ∃ m, m = M r i := ⟨_, rfl⟩
                obtain ⟨x, hx⟩ : ∃ x, x = zs.getD (i * 4 + k) 0 := ⟨_, rfl⟩
                obtain ⟨s, hs⟩ : ∃ s, s = sumTo (F r k) i := ⟨_, rfl⟩
                rw [← hm] at c2 HQ HG HB hmb
                rw [← hx] at c3 HQ HG HB hxb
                rw [← hs] at c4 HQ HG HB hsb
                have hpb := mul_2 m x 1000000000 hmb hxb
                subst e1
                subst e2
                have hrb : (rb : Nat) < w.heap.size := g2
                clear hm hx hs hF Q1 st hoH hoG hb hc hmr g1 g3
                have i1 : IntKind.i64.wrap ((r : Int) * 4) = (r : Int) * 4 := IntWalk.i64_in _ (by omega)
                have i2 : IntKind.i64.wrap ((r : Int) * 4 + k) = (r : Int) * 4 + k := IntWalk.i64_in _ (by omega)
                have i3 : IntKind.i64.wrap ((i : Int) * 4) = (i : Int) * 4 := IntWalk.i64_in _ (by omega)
                have i4 : IntKind.i64.wrap ((i : Int) * 4 + k) = (i : Int) * 4 + k := IntWalk.i64_in _ (by omega)
                have i5 : IntKind.i64.wrap (m * x) = m * x := IntWalk.i64_in _ (by omega)
                have i6 : IntKind.i64.wrap (s + m * x) = s + m * x := IntWalk.i64_in _ (by omega)
                have t1 : ((r : Int) * 4 + k).toNat = r * 4 + k := by omega
                have t2 : ((i : Int) * 4 + k).toNat = i * 4 + k := by omega
                have u1 : (0 : Int) ≤ (r : Int) * 4 + k := by omega
                have u2 : (r : Int) * 4 + k < 16 := by omega
                have u3 : (0 : Int) ≤ (i : Int) * 4 + k := by omega
                have u4 : (i : Int) * 4 + k < 16 := by omega
                go_wp2
                go_region
                all_goals
                  go_wp2
                  go_roundw
                  case rel => exact ⟨i + 1, by omega, by go_num, HQ.out.drew, HG.out.drew, HB.out.drew⟩
                  case measure => simp [intOf]; omega
              · obtain rfl : i = 4 := by omega
                rw [accL_next 4 F r k hlk] at hoH
                go_wp2
                go_roundw
                case rel => exact ⟨k + 1, by omega, by go_num, hoH, hoG, hb⟩
                case measure => simp [intOf]; omega
          · obtain rfl : k = 4 := by omega
            rw [accL_row 4 F r] at hoH
            go_wp2
            go_roundw
            case rel => exact ⟨r + 1, by omega, by go_num, hoH, hoG, hb⟩
            case measure => simp [intOf]; omega
      · obtain rfl : r = 4 := by omega
        have hoH : wr.ownsRow w.heap.size 3 1 (.slice (some ⟨w.heap.size, 0, none⟩) 16 16) 16 ((sq 4 F).map (Value.int .i64)) := hoH
        -- the second sum
        go_wp2
        go_loopw [77] (fun i wr => ∃ r : Nat, r ≤ 4 ∧ i = .int .i64 (r : Int) ∧ wr.ownsRow w.heap.size 3 1 (.slice (some ⟨w.heap.size + 1, 0, none⟩) 16 16) 16 ((accL 4 G r 0 0).map (Value.int .i64)) ∧ wr.ownsRow w.heap.size 3 1 (.slice (some ⟨w.heap.size, 0, none⟩) 16 16) 16 ((sq 4 F).map (Value.int .i64)) ∧ Below w.heap.size w wr) (fun i _ => 4 - (intOf i).toNat)
        case atStart => exact ⟨0, Nat.zero_le _, rfl, by rw [accL_zero]; exact hoG, hoH, hb⟩
        case round =>
          clear hoH hoG hb
          obtain ⟨r, hr, rfl, hoG, hoH, hb⟩ := hrel
          by_cases hlr : r < 4
          · have hlri : (r : Int) < 4 := by omega
            go_wp2
            go_loopw [81] (fun i wr => ∃ k : Nat, k ≤ 4 ∧ i = .int .i64 (k : Int) ∧ wr.ownsRow w.heap.size 3 1 (.slice (some ⟨w.heap.size + 1, 0, none⟩) 16 16) 16 ((accL 4 G r k 0).map (Value.int .i64)) ∧ wr.ownsRow w.heap.size 3 1 (.slice (some ⟨w.heap.size, 0, none⟩) 16 16) 16 ((sq 4 F).map (Value.int .i64)) ∧ Below w.heap.size w wr) (fun i _ => 4 - (intOf i).toNat)
            case atStart => exact ⟨0, Nat.zero_le _, rfl, hoG, hoH, hb⟩
            case round =>
              clear hoH hoG hb
              obtain ⟨k, hk, rfl, hoG, hoH, hb⟩ := hrel
              by_cases hlk : k < 4
              · have hlki : (k : Int) < 4 := by omega
                go_wp2
                go_loopw [85] (fun i wr => ∃ i' : Nat, i' ≤ 4 ∧ i = .int .i64 (i' : Int) ∧ wr.ownsRow w.heap.size 3 1 (.slice (some ⟨w.heap.size + 1, 0, none⟩) 16 16) 16 ((accL 4 G r k i').map (Value.int .i64)) ∧ wr.ownsRow w.heap.size 3 1 (.slice (some ⟨w.heap.size, 0, none⟩) 16 16) 16 ((sq 4 F).map (Value.int .i64)) ∧ Below w.heap.size w wr) (fun i _ => 4 - (intOf i).toNat)
                case atStart => exact ⟨0, Nat.zero_le _, rfl, hoG, hoH, hb⟩
                case round =>
                  clear hoH hoG hb
                  obtain ⟨i, hi', rfl, hoG, hoH, hb⟩ := hrel
                  by_cases hli : i < 4
                  · have hlii : (i : Int) < 4 := by omega
                    have hri : (0 : Int) ≤ (r : Int) := by omega
                    have hki : (0 : Int) ≤ (k : Int) := by omega
                    have hii : (0 : Int) ≤ (i : Int) := by omega
                    obtain ⟨mb, mo, e2, mbl, hmr⟩ := hMX.out
                    obtain ⟨rb, ro, rc, g1, g2, g3⟩ := hmr k hlk
                    have c1 := (hb.cell (p := ⟨mb, mo + k, none⟩) mbl).trans g1
                    have c2 := (hb.cell (p := ⟨rb, ro + i, none⟩) g2).trans (g3 i hli)
                    have c3 : wr.cell? ⟨w.heap.size, r * 4 + i, none⟩ = some (.int .i64 ((sq 4 F).getD (r * 4 + i) 0)) := by
                      rw [hoH.cellAt _ (by omega), List.getElem?_map, List.getElem?_eq_getElem (by unfold sq; rw [accL_len]; omega), List.getD_eq_getElem?_getD, List.getElem?_eq_getElem (by unfold sq; rw [accL_len]; omega)]; rfl
                    have c4 : wr.cell? ⟨w.heap.size + 1, r * 4 + k, none⟩ = some (.int .i64 ((accL 4 G r k i).getD (r * 4 + k) 0)) := by
                      rw [hoG.cellAt _ (by omega), List.getElem?_map, List.getElem?_eq_getElem (by rw [accL_len]; omega), List.getD_eq_getElem?_getD, List.getElem?_eq_getElem (by rw [accL_len]; omega)]; rfl
                    rw [accL_cur 4 G r k i (by omega)] at c4
                    have hfz := hoG.frozenAt (r * 4 + k)
                    have st := hoG.stored (r * 4 + k) (.int .i64 (sumTo (G r k) i + G r k i))
                    have Q1 := st.1
                    rw [map_set_p, accL_step] at Q1
                    have HQ := Lib.hid Q1
                    have HG := Lib.hid (hoH.kept st.2 (Or.inr (by simp [Value.ownBlock])))
                    have HB := Lib.hid (hb.setCell (p := ⟨w.heap.size + 1, r * 4 + k, none⟩) hGw (.int .i64 (sumTo (G r k) i + G r k i)))
                    have hsb := hGs.out r k i hlr hlk (by omega)
                    have hF : G r k i = (sq 4 F).getD (r * 4 + i) 0 * M k i := hGe.out r k i
                    have hpb := hGb.out r k i hlr hlk hli
                    rw [hF] at HQ HG HB hpb
                    obtain ⟨m, hm⟩ : ∃ m, m = M k i := ⟨_, rfl⟩
                    obtain ⟨x, hx⟩ : ∃ x, x = (sq 4 F).getD (r * 4 + i) 0 := ⟨_, rfl⟩
                    obtain ⟨s, hs⟩ : ∃ s, s = sumTo (G r k) i := ⟨_, rfl⟩
                    rw [← hm] at c2 HQ HG HB hpb
                    rw [← hx] at c3 HQ HG HB hpb
                    rw [← hs] at c4 HQ HG HB hsb
                    subst e2
                    have hrb : (rb : Nat) < w.heap.size := g2
                    clear hm hx hs hF Q1 st hoH hoG hb hmr g1 g3
                    have i1 : IntKind.i64.wrap ((r : Int) * 4) = (r : Int) * 4 := IntWalk.i64_in _ (by omega)
                    have i2 : IntKind.i64.wrap ((r : Int) * 4 + k) = (r : Int) * 4 + k := IntWalk.i64_in _ (by omega)
                    have i4 : IntKind.i64.wrap ((r : Int) * 4 + i) = (r : Int) * 4 + i := IntWalk.i64_in _ (by omega)
                    have i5 : IntKind.i64.wrap (x * m) = x * m := IntWalk.i64_in _ (by omega)
                    have i6 : IntKind.i64.wrap (s + x * m) = s + x * m := IntWalk.i64_in _ (by omega)
                    have t1 : ((r : Int) * 4 + k).toNat = r * 4 + k := by omega
                    have t2 : ((r : Int) * 4 + i).toNat = r * 4 + i := by omega
                    have u1 : (0 : Int) ≤ (r : Int) * 4 + k := by omega
                    have u2 : (r : Int) * 4 + k < 16 := by omega
                    have u3 : (0 : Int) ≤ (r : Int) * 4 + i := by omega
                    have u4 : (r : Int) * 4 + i < 16 := by omega
                    go_wp2
                    go_region
                    all_goals
                      go_wp2
                      go_roundw
                      case rel => exact ⟨i + 1, by omega, by go_num, HQ.out.drew, HG.out.drew, HB.out.drew⟩
                      case measure => simp [intOf]; omega
                  · obtain rfl : i = 4 := by omega
                    rw [accL_next 4 G r k hlk] at hoG
                    go_wp2
                    go_roundw
                    case rel => exact ⟨k + 1, by omega, by go_num, hoG, hoH, hb⟩
                    case measure => simp [intOf]; omega
              · obtain rfl : k = 4 := by omega
                rw [accL_row 4 G r] at hoG
                go_wp2
                go_roundw
                case rel => exact ⟨r + 1, by omega, by go_num, hoG, hoH, hb⟩
                case measure => simp [intOf]; omega
          · obtain rfl : r = 4 := by omega
            go_wp2
            go_ret
            exact ⟨_, rfl, OB.new hoG, hb⟩
  · have hHw : w.heap.size ≤ w.heap.size + 1 := by omega
    have hGw : w.heap.size ≤ w.heap.size := by omega
    have own1 : ((w.alloc (.cells (madeCells #[.int .i64 0] 16) 3)).alloc (.cells (madeCells #[.int .i64 0] 16) 3)).drew.ownsRow w.heap.size 3 1 (.slice (some ⟨w.heap.size, 0, none⟩) 16 16) 16 ((List.replicate 16 (0 : Int)).map (Value.int .i64)) := ((hm1.out w w.heap.size (Nat.le_refl _)).alloc _).drew
    have own2 : ((w.alloc (.cells (madeCells #[.int .i64 0] 16) 3)).alloc (.cells (madeCells #[.int .i64 0] 16) 3)).drew.ownsRow w.heap.size 3 1 (.slice (some ⟨w.heap.size + 1, 0, none⟩) 16 16) 16 ((List.replicate 16 (0 : Int)).map (Value.int .i64)) := by
      have := (hm1.out (w.alloc (.cells (madeCells #[.int .i64 0] 16) 3)) w.heap.size (by simp)).drew
      simpa using this
    have bW : Below w.heap.size w ((w.alloc (.cells (madeCells #[.int .i64 0] 16) 3)).alloc (.cells (madeCells #[.int .i64 0] 16) 3)).drew := (((Below.refl _ _).alloc (Nat.le_refl _) _).alloc (by simp) _).drew
    obtain ⟨wz, hwz⟩ : ∃ wz, wz = ((w.alloc (.cells (madeCells #[.int .i64 0] 16) 3)).alloc (.cells (madeCells #[.int .i64 0] 16) 3)).drew := ⟨_, rfl⟩
    rw [← hwz] at own1 own2 bW ⊢
    clear hwz hmk hm1
    have ownH := own2
    have ownG := own1
    clear own1 own2
    -- the first sum
    go_wp2
    go_loopw [36] (fun i wr => ∃ r : Nat, r ≤ 4 ∧ i = .int .i64 (r : Int) ∧ wr.ownsRow w.heap.size 3 1 (.slice (some ⟨w.heap.size + 1, 0, none⟩) 16 16) 16 ((accL 4 F r 0 0).map (Value.int .i64)) ∧ wr.ownsRow w.heap.size 3 1 (.slice (some ⟨w.heap.size, 0, none⟩) 16 16) 16 ((List.replicate 16 (0 : Int)).map (Value.int .i64)) ∧ Below w.heap.size w wr) (fun i _ => 4 - (intOf i).toNat)
    case atStart => exact ⟨0, Nat.zero_le _, rfl, by rw [accL_zero]; exact ownH, ownG, bW⟩
    case round =>
      clear ownH ownG bW
      obtain ⟨r, hr, rfl, hoH, hoG, hb⟩ := hrel
      by_cases hlr : r < 4
      · have hlri : (r : Int) < 4 := by omega
        go_wp2
        go_loopw [40] (fun i wr => ∃ k : Nat, k ≤ 4 ∧ i = .int .i64 (k : Int) ∧ wr.ownsRow w.heap.size 3 1 (.slice (some ⟨w.heap.size + 1, 0, none⟩) 16 16) 16 ((accL 4 F r k 0).map (Value.int .i64)) ∧ wr.ownsRow w.heap.size 3 1 (.slice (some ⟨w.heap.size, 0, none⟩) 16 16) 16 ((List.replicate 16 (0 : Int)).map (Value.int .i64)) ∧ Below w.heap.size w wr) (fun i _ => 4 - (intOf i).toNat)
        case atStart => exact ⟨0, Nat.zero_le _, rfl, hoH, hoG, hb⟩
        case round =>
          clear hoH hoG hb
          obtain ⟨k, hk, rfl, hoH, hoG, hb⟩ := hrel
          by_cases hlk : k < 4
          · have hlki : (k : Int) < 4 := by omega
            go_wp2
            go_loopw [44] (fun i wr => ∃ i' : Nat, i' ≤ 4 ∧ i = .int .i64 (i' : Int) ∧ wr.ownsRow w.heap.size 3 1 (.slice (some ⟨w.heap.size + 1, 0, none⟩) 16 16) 16 ((accL 4 F r k i').map (Value.int .i64)) ∧ wr.ownsRow w.heap.size 3 1 (.slice (some ⟨w.heap.size, 0, none⟩) 16 16) 16 ((List.replicate 16 (0 : Int)).map (Value.int .i64)) ∧ Below w.heap.size w wr) (fun i _ => 4 - (intOf i).toNat)
            case atStart => exact ⟨0, Nat.zero_le _, rfl, hoH, hoG, hb⟩
            case round =>
              clear hoH hoG hb
              obtain ⟨i, hi', rfl, hoH, hoG, hb⟩ := hrel
              by_cases hli : i < 4
              · have hlii : (i : Int) < 4 := by omega
                have hri : (0 : Int) ≤ (r : Int) := by omega
                have hki : (0 : Int) ≤ (k : Int) := by omega
                have hii : (0 : Int) ≤ (i : Int) := by omega
                obtain ⟨b, off, e1, hbl, hc⟩ := hR.out.at_ (show 0 < 16 by omega)
                obtain ⟨mb, mo, e2, mbl, hmr⟩ := hMX.out
                obtain ⟨rb, ro, rc, g1, g2, g3⟩ := hmr r hlr
                have c1 := (hb.cell (p := ⟨mb, mo + r, none⟩) mbl).trans g1
                have c2 := (hb.cell (p := ⟨rb, ro + i, none⟩) g2).trans (g3 i hli)
                have c3 := (hb.cell (p := ⟨b, off + (i * 4 + k), none⟩) hbl).trans (hc (i * 4 + k) (by omega))
                have c4 : wr.cell? ⟨w.heap.size + 1, r * 4 + k, none⟩ = some (.int .i64 ((accL 4 F r k i).getD (r * 4 + k) 0)) := by
                  rw [hoH.cellAt _ (by omega), List.getElem?_map, List.getElem?_eq_getElem (by rw [accL_len]; omega), List.getD_eq_getElem?_getD, List.getElem?_eq_getElem (by rw [accL_len]; omega)]; rfl
                rw [accL_cur 4 F r k i (by omega)] at c4
                have hfz := hoH.frozenAt (r * 4 + k)
                have st := hoH.stored (r * 4 + k) (.int .i64 (sumTo (F r k) i + F r k i))
                have Q1 := st.1
                rw [map_set_p, accL_step] at Q1
                have HQ := Lib.hid Q1
                have HG := Lib.hid (hoG.kept st.2 (Or.inr (by simp [Value.ownBlock])))
                have HB := Lib.hid (hb.setCell (p := ⟨w.heap.size + 1, r * 4 + k, none⟩) hHw (.int .i64 (sumTo (F r k) i + F r k i)))
                have hsb := hFs.out r k i hlr hlk (by omega)
                have hF : F r k i = M r i * zs.getD (i * 4 + k) 0 := hFe.out r k i
                have hmb := hM.out r i hlr hli
                have hxb := hz.out (i * 4 + k) (by omega)
                rw [hF] at HQ HG HB
                obtain ⟨m, hm⟩ : ∃ m, m = M r i := ⟨_, rfl⟩
                obtain ⟨x, hx⟩ : ∃ x, x = zs.getD (i * 4 + k) 0 := ⟨_, rfl⟩
                obtain ⟨s, hs⟩ : ∃ s, s = sumTo (F r k) i := ⟨_, rfl⟩
                rw [← hm] at c2 HQ HG HB hmb
                rw [← hx] at c3 HQ HG HB hxb
                rw [← hs] at c4 HQ HG HB hsb
                have hpb := mul_2 m x 1000000000 hmb hxb
                subst e1
                subst e2
                have hrb : (rb : Nat) < w.heap.size := g2
                clear hm hx hs hF Q1 st hoH hoG hb hc hmr g1 g3
                have i1 : IntKind.i64.wrap ((r : Int) * 4) = (r : Int) * 4 := IntWalk.i64_in _ (by omega)
                have i2 : IntKind.i64.wrap ((r : Int) * 4 + k) = (r : Int) * 4 + k := IntWalk.i64_in _ (by omega)
                have i3 : IntKind.i64.wrap ((i : Int) * 4) = (i : Int) * 4 := IntWalk.i64_in _ (by omega)
                have i4 : IntKind.i64.wrap ((i : Int) * 4 + k) = (i : Int) * 4 + k := IntWalk.i64_in _ (by omega)
                have i5 : IntKind.i64.wrap (m * x) = m * x := IntWalk.i64_in _ (by omega)
                have i6 : IntKind.i64.wrap (s + m * x) = s + m * x := IntWalk.i64_in _ (by omega)
                have t1 : ((r : Int) * 4 + k).toNat = r * 4 + k := by omega
                have t2 : ((i : Int) * 4 + k).toNat = i * 4 + k := by omega
                have u1 : (0 : Int) ≤ (r : Int) * 4 + k := by omega
                have u2 : (r : Int) * 4 + k < 16 := by omega
                have u3 : (0 : Int) ≤ (i : Int) * 4 + k := by omega
                have u4 : (i : Int) * 4 + k < 16 := by omega
                go_wp2
                go_region
                all_goals
                  go_wp2
                  go_roundw
                  case rel => exact ⟨i + 1, by omega, by go_num, HQ.out.drew, HG.out.drew, HB.out.drew⟩
                  case measure => simp [intOf]; omega
              · obtain rfl : i = 4 := by omega
                rw [accL_next 4 F r k hlk] at hoH
                go_wp2
                go_roundw
                case rel => exact ⟨k + 1, by omega, by go_num, hoH, hoG, hb⟩
                case measure => simp [intOf]; omega
          · obtain rfl : k = 4 := by omega
            rw [accL_row 4 F r] at hoH
            go_wp2
            go_roundw
            case rel => exact ⟨r + 1, by omega, by go_num, hoH, hoG, hb⟩
            case measure => simp [intOf]; omega
      · obtain rfl : r = 4 := by omega
        have hoH : wr.ownsRow w.heap.size 3 1 (.slice (some ⟨w.heap.size + 1, 0, none⟩) 16 16) 16 ((sq 4 F).map (Value.int .i64)) := hoH
        -- the second sum
        go_wp2
        go_loopw [77] (fun i wr => ∃ r : Nat, r ≤ 4 ∧ i = .int .i64 (r : Int) ∧ wr.ownsRow w.heap.size 3 1 (.slice (some ⟨w.heap.size, 0, none⟩) 16 16) 16 ((accL 4 G r 0 0).map (Value.int .i64)) ∧ wr.ownsRow w.heap.size 3 1 (.slice (some ⟨w.heap.size + 1, 0, none⟩) 16 16) 16 ((sq 4 F).map (Value.int .i64)) ∧ Below w.heap.size w wr) (fun i _ => 4 - (intOf i).toNat)
        case atStart => exact ⟨0, Nat.zero_le _, rfl, by rw [accL_zero]; exact hoG, hoH, hb⟩
        case round =>
          clear hoH hoG hb
          obtain ⟨r, hr, rfl, hoG, hoH, hb⟩ := hrel
          by_cases hlr : r < 4
          · have hlri : (r : Int) < 4 := by omega
            go_wp2
            go_loopw [81] (fun i wr => ∃ k : Nat, k ≤ 4 ∧ i = .int .i64 (k : Int) ∧ wr.ownsRow w.heap.size 3 1 (.slice (some ⟨w.heap.size, 0, none⟩) 16 16) 16 ((accL 4 G r k 0).map (Value.int .i64)) ∧ wr.ownsRow w.heap.size 3 1 (.slice (some ⟨w.heap.size + 1, 0, none⟩) 16 16) 16 ((sq 4 F).map (Value.int .i64)) ∧ Below w.heap.size w wr) (fun i _ => 4 - (intOf i).toNat)
            case atStart => exact ⟨0, Nat.zero_le _, rfl, hoG, hoH, hb⟩
            case round =>
              clear hoH hoG hb
              obtain ⟨k, hk, rfl, hoG, hoH, hb⟩ := hrel
              by_cases hlk : k < 4
              · have hlki : (k : Int) < 4 := by omega
                go_wp2
                go_loopw [85] (fun i wr => ∃ i' : Nat, i' ≤ 4 ∧ i = .int .i64 (i' : Int) ∧ wr.ownsRow w.heap.size 3 1 (.slice (some ⟨w.heap.size, 0, none⟩) 16 16) 16 ((accL 4 G r k i').map (Value.int .i64)) ∧ wr.ownsRow w.heap.size 3 1 (.slice (some ⟨w.heap.size + 1, 0, none⟩) 16 16) 16 ((sq 4 F).map (Value.int .i64)) ∧ Below w.heap.size w wr) (fun i _ => 4 - (intOf i).toNat)
                case atStart => exact ⟨0, Nat.zero_le _, rfl, hoG, hoH, hb⟩
                case round =>
                  clear hoH hoG hb
                  obtain ⟨i, hi', rfl, hoG, hoH, hb⟩ := hrel
                  by_cases hli : i < 4
                  · have hlii : (i : Int) < 4 := by omega
                    have hri : (0 : Int) ≤ (r : Int) := by omega
                    have hki : (0 : Int) ≤ (k : Int) := by omega
                    have hii : (0 : Int) ≤ (i : Int) := by omega
                    obtain ⟨mb, mo, e2, mbl, hmr⟩ := hMX.out
                    obtain ⟨rb, ro, rc, g1, g2, g3⟩ := hmr k hlk
                    have c1 := (hb.cell (p := ⟨mb, mo + k, none⟩) mbl).trans g1
                    have c2 := (hb.cell (p := ⟨rb, ro + i, none⟩) g2).trans (g3 i hli)
                    have c3 : wr.cell? ⟨w.heap.size + 1, r * 4 + i, none⟩ = some (.int .i64 ((sq 4 F).getD (r * 4 + i) 0)) := by
                      rw [hoH.cellAt _ (by omega), List.getElem?_map, List.getElem?_eq_getElem (by unfold sq; rw [accL_len]; omega), List.getD_eq_getElem?_getD, List.getElem?_eq_getElem (by unfold sq; rw [accL_len]; omega)]; rfl
                    have c4 : wr.cell? ⟨w.heap.size, r * 4 + k, none⟩ = some (.int .i64 ((accL 4 G r k i).getD (r * 4 + k) 0)) := by
                      rw [hoG.cellAt _ (by omega), List.getElem?_map, List.getElem?_eq_getElem (by rw [accL_len]; omega), List.getD_eq_getElem?_getD, List.getElem?_eq_getElem (by rw [accL_len]; omega)]; rfl
                    rw [accL_cur 4 G r k i (by omega)] at c4
                    have hfz := hoG.frozenAt (r * 4 + k)
                    have st := hoG.stored (r * 4 + k) (.int .i64 (sumTo (G r k) i + G r k i))
                    have Q1 := st.1
                    rw [map_set_p, accL_step] at Q1
                    have HQ := Lib.hid Q1
                    have HG := Lib.hid (hoH.kept st.2 (Or.inr (by simp [Value.ownBlock])))
                    have HB := Lib.hid (hb.setCell (p := ⟨w.heap.size, r * 4 + k, none⟩) hGw (.int .i64 (sumTo (G r k) i + G r k i)))
                    have hsb := hGs.out r k i hlr hlk (by omega)
                    have hF : G r k i = (sq 4 F).getD (r * 4 + i) 0 * M k i := hGe.out r k i
                    have hpb := hGb.out r k i hlr hlk hli
                    rw [hF] at HQ HG HB hpb
                    obtain ⟨m, hm⟩ : ∃ m, m = M k i := ⟨_, rfl⟩
                    obtain ⟨x, hx⟩ : ∃ x, x = (sq 4 F).getD (r * 4 + i) 0 := ⟨_, rfl⟩
                    obtain ⟨s, hs⟩ : ∃ s, s = sumTo (G r k) i := ⟨_, rfl⟩
                    rw [← hm] at c2 HQ HG HB hpb
                    rw [← hx] at c3 HQ HG HB hpb
                    rw [← hs] at c4 HQ HG HB hsb
                    subst e2
                    have hrb : (rb : Nat) < w.heap.size := g2
                    clear hm hx hs hF Q1 st hoH hoG hb hmr g1 g3
                    have i1 : IntKind.i64.wrap ((r : Int) * 4) = (r : Int) * 4 := IntWalk.i64_in _ (by omega)
                    have i2 : IntKind.i64.wrap ((r : Int) * 4 + k) = (r : Int) * 4 + k := IntWalk.i64_in _ (by omega)
                    have i4 : IntKind.i64.wrap ((r : Int) * 4 + i) = (r : Int) * 4 + i := IntWalk.i64_in _ (by omega)
                    have i5 : IntKind.i64.wrap (x * m) = x * m := IntWalk.i64_in _ (by omega)
                    have i6 : IntKind.i64.wrap (s + x * m) = s + x * m := IntWalk.i64_in _ (by omega)
                    have t1 : ((r : Int) * 4 + k).toNat = r * 4 + k := by omega
                    have t2 : ((r : Int) * 4 + i).toNat = r * 4 + i := by omega
                    have u1 : (0 : Int) ≤ (r : Int) * 4 + k := by omega
                    have u2 : (r : Int) * 4 + k < 16 := by omega
                    have u3 : (0 : Int) ≤ (r : Int) * 4 + i := by omega
                    have u4 : (r : Int) * 4 + i < 16 := by omega
                    go_wp2
                    go_region
                    all_goals
                      go_wp2
                      go_roundw
                      case rel => exact ⟨i + 1, by omega, by go_num, HQ.out.drew, HG.out.drew, HB.out.drew⟩
                      case measure => simp [intOf]; omega
                  · obtain rfl : i = 4 := by omega
                    rw [accL_next 4 G r k hlk] at hoG
                    go_wp2
                    go_roundw
                    case rel => exact ⟨k + 1, by omega, by go_num, hoG, hoH, hb⟩
                    case measure => simp [intOf]; omega
              · obtain rfl : k = 4 := by omega
                rw [accL_row 4 G r] at hoG
                go_wp2
                go_roundw
                case rel => exact ⟨r + 1, by omega, by go_num, hoG, hoH, hb⟩
                case measure => simp [intOf]; omega
          · obtain rfl : r = 4 := by omega
            go_wp2
            go_ret
            exact ⟨_, rfl, OB.new hoG, hb⟩
set_option maxRecDepth 100000 in
set_option maxHeartbeats 16000000 in
theorem iProduct8_in (Am A : Option Addr) (cm c : Nat) (M : Nat → Nat → Int) (zs : List Int) (w : World) (hX : MX w Am 8 M) (hM2 : M2 8 M) (h : RI w A 64 zs) (hf_ : zs.all okBig = true) :
    Calls Try.prog 33 #[.slice Am 8 cm, .slice A 64 c] w fun e w' => ∃ A', e = .returned (.slice A' 64 64) ∧ OB w' w.heap.size w'.heap.size A' 64 64 (mulL 8 M zs) ∧ Below w.heap.size w w' := by
  have hMX := Lib.hid hX
  have hR := Lib.hid h
  have hM := Lib.hid hM2
  have hfit : fitsB zs 8 = true := by unfold fitsB; rw [hf_, h.len]; rfl
  have hz := Lib.hid (fun j hj => fits_at hfit j hj)
  have hAll : Hid (Calls Try.prog 43 #[.slice A 64 c, .int .i64 (-1000000000), .int .i64 1000000000] w fun e w' => e = .returned (.bool true) ∧ w = w') := by
    have := iAllWithin A 64 c zs w h (by omega); rw [hf_] at this; exact this
  obtain ⟨F, hF0⟩ : ∃ F, F = hf 8 M zs := ⟨_, rfl⟩
  obtain ⟨G, hG0⟩ : ∃ G, G = gf 8 M zs := ⟨_, rfl⟩
  have hFe : Hid (∀ r k i, F r k i = M r i * zs.getD (i * 8 + k) 0) := by rw [hF0]; exact fun r k i => rfl
  have hFs : Hid (∀ r k i, r < 8 → k < 8 → i ≤ 8 → -16000000000 ≤ sumTo (F r k) i ∧ sumTo (F r k) i ≤ 16000000000) := by rw [hF0]; exact fun r k i h1 h2 h3 => hs_bd 8 (by omega) M zs hM2 hz.out r k i h1 h2 h3
  have hGe : Hid (∀ r k i, G r k i = (sq 8 F).getD (r * 8 + i) 0 * M k i) := by rw [hG0, hF0]; exact fun r k i => rfl
  have hGb : Hid (∀ r k i, r < 8 → k < 8 → i < 8 → -32000000000 ≤ G r k i ∧ G r k i ≤ 32000000000) := by rw [hG0]; exact fun r k i h1 h2 h3 => gf_bd 8 (by omega) M zs hM2 hz.out r k i h1 h2 h3
  have hGs : Hid (∀ r k i, r < 8 → k < 8 → i ≤ 8 → -256000000000 ≤ sumTo (G r k) i ∧ sumTo (G r k) i ≤ 256000000000) := by rw [hG0]; exact fun r k i h1 h2 h3 => gs_bd 8 (by omega) M zs hM2 hz.out r k i h1 h2 h3
  have hres : mulL 8 M zs = sq 8 G := by rw [hG0]; rfl
  rw [hres]
  have hmk : ∀ (u : World), (Instr.makeSlice 31 (.int .i64 64) (.int .i64 64)).run Try.prog u = .ok (.slice (some ⟨u.heap.size, 0, none⟩) 64 64) (u.alloc (.cells (madeCells #[.int .i64 0] 64) 3)) := fun u => run_make_intsP 64 (by omega) u
  have hm1 := Lib.hid (fun u b hb => made_intsP u 64 b (by omega) hb)
  clear hX hM2 h hf_ hfit hF0 hG0 hres
  go_enter Try.func33, Try.ntmps33
  go_wp2_with fail
  refine hAll.out.mono ?_
  rintro e w' ⟨rfl, rfl⟩
  clear hAll
  go_wp2
  go_region
  · have hHw : w.heap.size ≤ w.heap.size := by omega
    have hGw : w.heap.size ≤ w.heap.size + 1 := by omega
    have own1 : ((w.alloc (.cells (madeCells #[.int .i64 0] 64) 3)).alloc (.cells (madeCells #[.int .i64 0] 64) 3)).drew.ownsRow w.heap.size 3 1 (.slice (some ⟨w.heap.size, 0, none⟩) 64 64) 64 ((List.replicate 64 (0 : Int)).map (Value.int .i64)) := ((hm1.out w w.heap.size (Nat.le_refl _)).alloc _).drew
    have own2 : ((w.alloc (.cells (madeCells #[.int .i64 0] 64) 3)).alloc (.cells (madeCells #[.int .i64 0] 64) 3)).drew.ownsRow w.heap.size 3 1 (.slice (some ⟨w.heap.size + 1, 0, none⟩) 64 64) 64 ((List.replicate 64 (0 : Int)).map (Value.int .i64)) := by
      have := (hm1.out (w.alloc (.cells (madeCells #[.int .i64 0] 64) 3)) w.heap.size (by simp)).drew
      simpa using this
    have bW : Below w.heap.size w ((w.alloc (.cells (madeCells #[.int .i64 0] 64) 3)).alloc (.cells (madeCells #[.int .i64 0] 64) 3)).drew := (((Below.refl _ _).alloc (Nat.le_refl _) _).alloc (by simp) _).drew
    obtain ⟨wz, hwz⟩ : ∃ wz, wz = ((w.alloc (.cells (madeCells #[.int .i64 0] 64) 3)).alloc (.cells (madeCells #[.int .i64 0] 64) 3)).drew := ⟨_, rfl⟩
    rw [← hwz] at own1 own2 bW ⊢
    clear hwz hmk hm1
    have ownH := own1
    have ownG := own2
    clear own1 own2
    -- the first sum
    go_wp2
    go_loopw [36] (fun i wr => ∃ r : Nat, r ≤ 8 ∧ i = .int .i64 (r : Int) ∧ wr.ownsRow w.heap.size 3 1 (.slice (some ⟨w.heap.size, 0, none⟩) 64 64) 64 ((accL 8 F r 0 0).map (Value.int .i64)) ∧ wr.ownsRow w.heap.size 3 1 (.slice (some ⟨w.heap.size + 1, 0, none⟩) 64 64) 64 ((List.replicate 64 (0 : Int)).map (Value.int .i64)) ∧ Below w.heap.size w wr) (fun i _ => 8 - (intOf i).toNat)
    case atStart => exact ⟨0, Nat.zero_le _, rfl, by rw [accL_zero]; exact ownH, ownG, bW⟩
    case round =>
      clear ownH ownG bW
      obtain ⟨r, hr, rfl, hoH, hoG, hb⟩ := hrel
      by_cases hlr : r < 8
      · have hlri : (r : Int) < 8 := by omega
        go_wp2
        go_loopw [40] (fun i wr => ∃ k : Nat, k ≤ 8 ∧ i = .int .i64 (k : Int) ∧ wr.ownsRow w.heap.size 3 1 (.slice (some ⟨w.heap.size, 0, none⟩) 64 64) 64 ((accL 8 F r k 0).map (Value.int .i64)) ∧ wr.ownsRow w.heap.size 3 1 (.slice (some ⟨w.heap.size + 1, 0, none⟩) 64 64) 64 ((List.replicate 64 (0 : Int)).map (Value.int .i64)) ∧ Below w.heap.size w wr) (fun i _ => 8 - (intOf i).toNat)
        case atStart => exact ⟨0, Nat.zero_le _, rfl, hoH, hoG, hb⟩
        case round =>
          clear hoH hoG hb
          obtain ⟨k, hk, rfl, hoH, hoG, hb⟩ := hrel
          by_cases hlk : k < 8
          · have hlki : (k : Int) < 8 := by omega
            go_wp2
            go_loopw [44] (fun i wr => ∃ i' : Nat, i' ≤ 8 ∧ i = .int .i64 (i' : Int) ∧ wr.ownsRow w.heap.size 3 1 (.slice (some ⟨w.heap.size, 0, none⟩) 64 64) 64 ((accL 8 F r k i').map (Value.int .i64)) ∧ wr.ownsRow w.heap.size 3 1 (.slice (some ⟨w.heap.size + 1, 0, none⟩) 64 64) 64 ((List.replicate 64 (0 : Int)).map (Value.int .i64)) ∧ Below w.heap.size w wr) (fun i _ => 8 - (intOf i).toNat)
            case atStart => exact ⟨0, Nat.zero_le _, rfl, hoH, hoG, hb⟩
            case round =>
              clear hoH hoG hb
              obtain ⟨i, hi', rfl, hoH, hoG, hb⟩ := hrel
              by_cases hli : i < 8
              · have hlii : (i : Int) < 8 := by omega
                have hri : (0 : Int) ≤ (r : Int) := by omega
                have hki : (0 : Int) ≤ (k : Int) := by omega
                have hii : (0 : Int) ≤ (i : Int) := by omega
                obtain ⟨b, off, e1, hbl, hc⟩ := hR.out.at_ (show 0 < 64 by omega)
                obtain ⟨mb, mo, e2, mbl, hmr⟩ := hMX.out
                obtain ⟨rb, ro, rc, g1, g2, g3⟩ := hmr r hlr
                have c1 := (hb.cell (p := ⟨mb, mo + r, none⟩) mbl).trans g1
                have c2 := (hb.cell (p := ⟨rb, ro + i, none⟩) g2).trans (g3 i hli)
                have c3 := (hb.cell (p := ⟨b, off + (i * 8 + k), none⟩) hbl).trans (hc (i * 8 + k) (by omega))
                have c4 : wr.cell? ⟨w.heap.size, r * 8 + k, none⟩ = some (.int .i64 ((accL 8 F r k i).getD (r * 8 + k) 0)) := by
                  rw [hoH.cellAt _ (by omega), List.getElem?_map, List.getElem?_eq_getElem (by rw [accL_len]; omega), List.getD_eq_getElem?_getD, List.getElem?_eq_getElem (by rw [accL_len]; omega)]; rfl
                rw [accL_cur 8 F r k i (by omega)] at c4
                have hfz := hoH.frozenAt (r * 8 + k)
                have st := hoH.stored (r * 8 + k) (.int .i64 (sumTo (F r k) i + F r k i))
                have Q1 := st.1
                rw [map_set_p, accL_step] at Q1
                have HQ := Lib.hid Q1
                have HG := Lib.hid (hoG.kept st.2 (Or.inr (by simp [Value.ownBlock])))
                have HB := Lib.hid (hb.setCell (p := ⟨w.heap.size, r * 8 + k, none⟩) hHw (.int .i64 (sumTo (F r k) i + F r k i)))
                have hsb := hFs.out r k i hlr hlk (by omega)
                have hF : F r k i = M r i * zs.getD (i * 8 + k) 0 := hFe.out r k i
                have hmb := hM.out r i hlr hli
                have hxb := hz.out (i * 8 + k) (by omega)
                rw [hF] at HQ HG HB
                obtain ⟨m, hm⟩ : ∃ m, m = M r i := ⟨_, rfl⟩
                obtain ⟨x, hx⟩ : ∃ x, x = zs.getD (i * 8 + k) 0 := ⟨_, rfl⟩
                obtain ⟨s, hs⟩ : ∃ s, s = sumTo (F r k) i := ⟨_, rfl⟩
                rw [← hm] at c2 HQ HG HB hmb
                rw [← hx] at c3 HQ HG HB hxb
                rw [← hs] at c4 HQ HG HB hsb
                have hpb := mul_2 m x 1000000000 hmb hxb
                subst e1
                subst e2
                have hrb : (rb : Nat) < w.heap.size := g2
                clear hm hx hs hF Q1 st hoH hoG hb hc hmr g1 g3
                have i1 : IntKind.i64.wrap ((r : Int) * 8) = (r : Int) * 8 := IntWalk.i64_in _ (by omega)
                have i2 : IntKind.i64.wrap ((r : Int) * 8 + k) = (r : Int) * 8 + k := IntWalk.i64_in _ (by omega)
                have i3 : IntKind.i64.wrap ((i : Int) * 8) = (i : Int) * 8 := IntWalk.i64_in _ (by omega)
                have i4 : IntKind.i64.wrap ((i : Int) * 8 + k) = (i : Int) * 8 + k := IntWalk.i64_in _ (by omega)
                have i5 : IntKind.i64.wrap (m * x) = m * x := IntWalk.i64_in _ (by omega)
                have i6 : IntKind.i64.wrap (s + m * x) = s + m * x := IntWalk.i64_in _ (by omega)
                have t1 : ((r : Int) * 8 + k).toNat = r * 8 + k := by omega
                have t2 : ((i : Int) * 8 + k).toNat = i * 8 + k := by omega
                have u1 : (0 : Int) ≤ (r : Int) * 8 + k := by omega
                have u2 : (r : Int) * 8 + k < 64 := by omega
                have u3 : (0 : Int) ≤ (i : Int) * 8 + k := by omega
                have u4 : (i : Int) * 8 + k < 64 := by omega
                go_wp2
                go_region
                all_goals
                  go_wp2
                  go_roundw
                  case rel => exact ⟨i + 1, by omega, by go_num, HQ.out.drew, HG.out.drew, HB.out.drew⟩
                  case measure => simp [intOf]; omega
              · obtain rfl : i = 8 := by omega
                rw [accL_next 8 F r k hlk] at hoH
                go_wp2
                go_roundw
                case rel => exact ⟨k + 1, by omega, by go_num, hoH, hoG, hb⟩
                case measure => simp [intOf]; omega
          · obtain rfl : k = 8 := by omega
            rw [accL_row 8 F r] at hoH
            go_wp2
            go_roundw
            case rel => exact ⟨r + 1, by omega, by go_num, hoH, hoG, hb⟩
            case measure => simp [intOf]; omega
      · obtain rfl : r = 8 := by omega
        have hoH : wr.ownsRow w.heap.size 3 1 (.slice (some ⟨w.heap.size, 0, none⟩) 64 64) 64 ((sq 8 F).map (Value.int .i64)) := hoH
        -- the second sum
        go_wp2
        go_loopw [77] (fun i wr => ∃ r : Nat, r ≤ 8 ∧ i = .int .i64 (r : Int) ∧ wr.ownsRow w.heap.size 3 1 (.slice (some ⟨w.heap.size + 1, 0, none⟩) 64 64) 64 ((accL 8 G r 0 0).map (Value.int .i64)) ∧ wr.ownsRow w.heap.size 3 1 (.slice (some ⟨w.heap.size, 0, none⟩) 64 64) 64 ((sq 8 F).map (Value.int .i64)) ∧ Below w.heap.size w wr) (fun i _ => 8 - (intOf i).toNat)
        case atStart => exact ⟨0, Nat.zero_le _, rfl, by rw [accL_zero]; exact hoG, hoH, hb⟩
        case round =>
          clear hoH hoG hb
          obtain ⟨r, hr, rfl, hoG, hoH, hb⟩ := hrel
          by_cases hlr : r < 8
          · have hlri : (r : Int) < 8 := by omega
            go_wp2
            go_loopw [81] (fun i wr => ∃ k : Nat, k ≤ 8 ∧ i = .int .i64 (k : Int) ∧ wr.ownsRow w.heap.size 3 1 (.slice (some ⟨w.heap.size + 1, 0, none⟩) 64 64) 64 ((accL 8 G r k 0).map (Value.int .i64)) ∧ wr.ownsRow w.heap.size 3 1 (.slice (some ⟨w.heap.size, 0, none⟩) 64 64) 64 ((sq 8 F).map (Value.int .i64)) ∧ Below w.heap.size w wr) (fun i _ => 8 - (intOf i).toNat)
            case atStart => exact ⟨0, Nat.zero_le _, rfl, hoG, hoH, hb⟩
            case round =>
              clear hoH hoG hb
              obtain ⟨k, hk, rfl, hoG, hoH, hb⟩ := hrel
              by_cases hlk : k < 8
              · have hlki : (k : Int) < 8 := by omega
                go_wp2
                go_loopw [85] (fun i wr => ∃ i' : Nat, i' ≤ 8 ∧ i = .int .i64 (i' : Int) ∧ wr.ownsRow w.heap.size 3 1 (.slice (some ⟨w.heap.size + 1, 0, none⟩) 64 64) 64 ((accL 8 G r k i').map (Value.int .i64)) ∧ wr.ownsRow w.heap.size 3 1 (.slice (some ⟨w.heap.size, 0, none⟩) 64 64) 64 ((sq 8 F).map (Value.int .i64)) ∧ Below w.heap.size w wr) (fun i _ => 8 - (intOf i).toNat)
                case atStart => exact ⟨0, Nat.zero_le _, rfl, hoG, hoH, hb⟩
                case round =>
                  clear hoH hoG hb
                  obtain ⟨i, hi', rfl, hoG, hoH, hb⟩ := hrel
                  by_cases hli : i < 8
                  · have hlii : (i : Int) < 8 := by omega
                    have hri : (0 : Int) ≤ (r : Int) := by omega
                    have hki : (0 : Int) ≤ (k : Int) := by omega
                    have hii : (0 : Int) ≤ (i : Int) := by omega
                    obtain ⟨mb, mo, e2, mbl, hmr⟩ := hMX.out
                    obtain ⟨rb, ro, rc, g1, g2, g3⟩ := hmr k hlk
                    have c1 := (hb.cell (p := ⟨mb, mo + k, none⟩) mbl).trans g1
                    have c2 := (hb.cell (p := ⟨rb, ro + i, none⟩) g2).trans (g3 i hli)
                    have c3 : wr.cell? ⟨w.heap.size, r * 8 + i, none⟩ = some (.int .i64 ((sq 8 F).getD (r * 8 + i) 0)) := by
                      rw [hoH.cellAt _ (by omega), List.getElem?_map, List.getElem?_eq_getElem (by unfold sq; rw [accL_len]; omega), List.getD_eq_getElem?_getD, List.getElem?_eq_getElem (by unfold sq; rw [accL_len]; omega)]; rfl
                    have c4 : wr.cell? ⟨w.heap.size + 1, r * 8 + k, none⟩ = some (.int .i64 ((accL 8 G r k i).getD (r * 8 + k) 0)) := by
                      rw [hoG.cellAt _ (by omega), List.getElem?_map, List.getElem?_eq_getElem (by rw [accL_len]; omega), List.getD_eq_getElem?_getD, List.getElem?_eq_getElem (by rw [accL_len]; omega)]; rfl
                    rw [accL_cur 8 G r k i (by omega)] at c4
                    have hfz := hoG.frozenAt (r * 8 + k)
                    have st := hoG.stored (r * 8 + k) (.int .i64 (sumTo (G r k) i + G r k i))
                    have Q1 := st.1
                    rw [map_set_p, accL_step] at Q1
                    have HQ := Lib.hid Q1
                    have HG := Lib.hid (hoH.kept st.2 (Or.inr (by simp [Value.ownBlock])))
                    have HB := Lib.hid (hb.setCell (p := ⟨w.heap.size + 1, r * 8 + k, none⟩) hGw (.int .i64 (sumTo (G r k) i + G r k i)))
                    have hsb := hGs.out r k i hlr hlk (by omega)
                    have hF : G r k i = (sq 8 F).getD (r * 8 + i) 0 * M k i := hGe.out r k i
                    have hpb := hGb.out r k i hlr hlk hli
                    rw [hF] at HQ HG HB hpb
                    obtain ⟨m, hm⟩ : ∃ m, m = M k i := ⟨_, rfl⟩
                    obtain ⟨x, hx⟩ : ∃ x, x = (sq 8 F).getD (r * 8 + i) 0 := ⟨_, rfl⟩
                    obtain ⟨s, hs⟩ : ∃ s, s = sumTo (G r k) i := ⟨_, rfl⟩
                    rw [← hm] at c2 HQ HG HB hpb
                    rw [← hx] at c3 HQ HG HB hpb
                    rw [← hs] at c4 HQ HG HB hsb
                    subst e2
                    have hrb : (rb : Nat) < w.heap.size := g2
                    clear hm hx hs hF Q1 st hoH hoG hb hmr g1 g3
                    have i1 : IntKind.i64.wrap ((r : Int) * 8) = (r : Int) * 8 := IntWalk.i64_in _ (by omega)
                    have i2 : IntKind.i64.wrap ((r : Int) * 8 + k) = (r : Int) * 8 + k := IntWalk.i64_in _ (by omega)
                    have i4 : IntKind.i64.wrap ((r : Int) * 8 + i) = (r : Int) * 8 + i := IntWalk.i64_in _ (by omega)
                    have i5 : IntKind.i64.wrap (x * m) = x * m := IntWalk.i64_in _ (by omega)
                    have i6 : IntKind.i64.wrap (s + x * m) = s + x * m := IntWalk.i64_in _ (by omega)
                    have t1 : ((r : Int) * 8 + k).toNat = r * 8 + k := by omega
                    have t2 : ((r : Int) * 8 + i).toNat = r * 8 + i := by omega
                    have u1 : (0 : Int) ≤ (r : Int) * 8 + k := by omega
                    have u2 : (r : Int) * 8 + k < 64 := by omega
                    have u3 : (0 : Int) ≤ (r : Int) * 8 + i := by omega
                    have u4 : (r : Int) * 8 + i < 64 := by omega
                    go_wp2
                    go_region
                    all_goals
                      go_wp2
                      go_roundw
                      case rel => exact ⟨i + 1, by omega, by go_num, HQ.out.drew, HG.out.drew, HB.out.drew⟩
                      case measure => simp [intOf]; omega
                  · obtain rfl : i = 8 := by omega
                    rw [accL_next 8 G r k hlk] at hoG
                    go_wp2
                    go_roundw
                    case rel => exact ⟨k + 1, by omega, by go_num, hoG, hoH, hb⟩
                    case measure => simp [intOf]; omega
              · obtain rfl : k = 8 := by omega
                rw [accL_row 8 G r] at hoG
                go_wp2
                go_roundw
                case rel => exact ⟨r + 1, by omega, by go_num, hoG, hoH, hb⟩
                case measure => simp [intOf]; omega
          · obtain rfl : r = 8 := by omega
            go_wp2
            go_ret
            exact ⟨_, rfl, OB.new hoG, hb⟩
  · have hHw : w.heap.size ≤ w.heap.size + 1 := by omega
    have hGw : w.heap.size ≤ w.heap.size := by omega
    have own1 : ((w.alloc (.cells (madeCells #[.int .i64 0] 64) 3)).alloc (.cells (madeCells #[.int .i64 0] 64) 3)).drew.ownsRow w.heap.size 3 1 (.slice (some ⟨w.heap.size, 0, none⟩) 64 64) 64 ((List.replicate 64 (0 : Int)).map (Value.int .i64)) := ((hm1.out w w.heap.size (Nat.le_refl _)).alloc _).drew
    have own2 : ((w.alloc (.cells (madeCells #[.int .i64 0] 64) 3)).alloc (.cells (madeCells #[.int .i64 0] 64) 3)).drew.ownsRow w.heap.size 3 1 (.slice (some ⟨w.heap.size + 1, 0, none⟩) 64 64) 64 ((List.replicate 64 (0 : Int)).map (Value.int .i64)) := by
      have := (hm1.out (w.alloc (.cells (madeCells #[.int .i64 0] 64) 3)) w.heap.size (by simp)).drew
      simpa using this
    have bW : Below w.heap.size w ((w.alloc (.cells (madeCells #[.int .i64 0] 64) 3)).alloc (.cells (madeCells #[.int .i64 0] 64) 3)).drew := (((Below.refl _ _).alloc (Nat.le_refl _) _).alloc (by simp) _).drew
    obtain ⟨wz, hwz⟩ : ∃ wz, wz = ((w.alloc (.cells (madeCells #[.int .i64 0] 64) 3)).alloc (.cells (madeCells #[.int .i64 0] 64) 3)).drew := ⟨_, rfl⟩
    rw [← hwz] at own1 own2 bW ⊢
    clear hwz hmk hm1
    have ownH := own2
    have ownG := own1
    clear own1 own2
    -- the first sum
    go_wp2
    go_loopw [36] (fun i wr => ∃ r : Nat, r ≤ 8 ∧ i = .int .i64 (r : Int) ∧ wr.ownsRow w.heap.size 3 1 (.slice (some ⟨w.heap.size + 1, 0, none⟩) 64 64) 64 ((accL 8 F r 0 0).map (Value.int .i64)) ∧ wr.ownsRow w.heap.size 3 1 (.slice (some ⟨w.heap.size, 0, none⟩) 64 64) 64 ((List.replicate 64 (0 : Int)).map (Value.int .i64)) ∧ Below w.heap.size w wr) (fun i _ => 8 - (intOf i).toNat)
    case atStart => exact ⟨0, Nat.zero_le _, rfl, by rw [accL_zero]; exact ownH, ownG, bW⟩
    case round =>
      clear ownH ownG bW
      obtain ⟨r, hr, rfl, hoH, hoG, hb⟩ := hrel
      by_cases hlr : r < 8
      · have hlri : (r : Int) < 8 := by omega
        go_wp2
        go_loopw [40] (fun i wr => ∃ k : Nat, k ≤ 8 ∧ i = .int .i64 (k : Int) ∧ wr.ownsRow w.heap.size 3 1 (.slice (some ⟨w.heap.size + 1, 0, none⟩) 64 64) 64 ((accL 8 F r k 0).map (Value.int .i64)) ∧ wr.ownsRow w.heap.size 3 1 (.slice (some ⟨w.heap.size, 0, none⟩) 64 64) 64 ((List.replicate 64 (0 : Int)).map (Value.int .i64)) ∧ Below w.heap.size w wr) (fun i _ => 8 - (intOf i).toNat)
        case atStart => exact ⟨0, Nat.zero_le _, rfl, hoH, hoG, hb⟩
        case round =>
          clear hoH hoG hb
          obtain ⟨k, hk, rfl, hoH, hoG, hb⟩ := hrel
          by_cases hlk : k < 8
          · have hlki : (k : Int) < 8 := by omega
            go_wp2
            go_loopw [44] (fun i wr => ∃ i' : Nat, i' ≤ 8 ∧ i = .int .i64 (i' : Int) ∧ wr.ownsRow w.heap.size 3 1 (.slice (some ⟨w.heap.size + 1, 0, none⟩) 64 64) 64 ((accL 8 F r k i').map (Value.int .i64)) ∧ wr.ownsRow w.heap.size 3 1 (.slice (some ⟨w.heap.size, 0, none⟩) 64 64) 64 ((List.replicate 64 (0 : Int)).map (Value.int .i64)) ∧ Below w.heap.size w wr) (fun i _ => 8 - (intOf i).toNat)
            case atStart => exact ⟨0, Nat.zero_le _, rfl, hoH, hoG, hb⟩
            case round =>
              clear hoH hoG hb
              obtain ⟨i, hi', rfl, hoH, hoG, hb⟩ := hrel
              by_cases hli : i < 8
              · have hlii : (i : Int) < 8 := by omega
                have hri : (0 : Int) ≤ (r : Int) := by omega
                have hki : (0 : Int) ≤ (k : Int) := by omega
                have hii : (0 : Int) ≤ (i : Int) := by omega
                obtain ⟨b, off, e1, hbl, hc⟩ := hR.out.at_ (show 0 < 64 by omega)
                obtain ⟨mb, mo, e2, mbl, hmr⟩ := hMX.out
                obtain ⟨rb, ro, rc, g1, g2, g3⟩ := hmr r hlr
                have c1 := (hb.cell (p := ⟨mb, mo + r, none⟩) mbl).trans g1
                have c2 := (hb.cell (p := ⟨rb, ro + i, none⟩) g2).trans (g3 i hli)
                have c3 := (hb.cell (p := ⟨b, off + (i * 8 + k), none⟩) hbl).trans (hc (i * 8 + k) (by omega))
                have c4 : wr.cell? ⟨w.heap.size + 1, r * 8 + k, none⟩ = some (.int .i64 ((accL 8 F r k i).getD (r * 8 + k) 0)) := by
                  rw [hoH.cellAt _ (by omega), List.getElem?_map, List.getElem?_eq_getElem (by rw [accL_len]; omega), List.getD_eq_getElem?_getD, List.getElem?_eq_getElem (by rw [accL_len]; omega)]; rfl
                rw [accL_cur 8 F r k i (by omega)] at c4
                have hfz := hoH.frozenAt (r * 8 + k)
                have st := hoH.stored (r * 8 + k) (.int .i64 (sumTo (F r k) i + F r k i))
                have Q1 := st.1
                rw [map_set_p, accL_step] at Q1
                have HQ := Lib.hid Q1
                have HG := Lib.hid (hoG.kept st.2 (Or.inr (by simp [Value.ownBlock])))
                have HB := Lib.hid (hb.setCell (p := ⟨w.heap.size + 1, r * 8 + k, none⟩) hHw (.int .i64 (sumTo (F r k) i + F r k i)))
                have hsb := hFs.out r k i hlr hlk (by omega)
                have hF : F r k i = M r i * zs.getD (i * 8 + k) 0 := hFe.out r k i
                have hmb := hM.out r i hlr hli
                have hxb := hz.out (i * 8 + k) (by omega)
                rw [hF] at HQ HG HB
                obtain ⟨m, hm⟩ : ∃ m, m = M r i := ⟨_, rfl⟩
                obtain ⟨x, hx⟩ : ∃ x, x = zs.getD (i * 8 + k) 0 := ⟨_, rfl⟩
                obtain ⟨s, hs⟩ : ∃ s, s = sumTo (F r k) i := ⟨_, rfl⟩
                rw [← hm] at c2 HQ HG HB hmb
                rw [← hx] at c3 HQ HG HB hxb
                rw [← hs] at c4 HQ HG HB hsb
                have hpb := mul_2 m x 1000000000 hmb hxb
                subst e1
                subst e2
                have hrb : (rb : Nat) < w.heap.size := g2
                clear hm hx hs hF Q1 st hoH hoG hb hc hmr g1 g3
                have i1 : IntKind.i64.wrap ((r : Int) * 8) = (r : Int) * 8 := IntWalk.i64_in _ (by omega)
                have i2 : IntKind.i64.wrap ((r : Int) * 8 + k) = (r : Int) * 8 + k := IntWalk.i64_in _ (by omega)
                have i3 : IntKind.i64.wrap ((i : Int) * 8) = (i : Int) * 8 := IntWalk.i64_in _ (by omega)
                have i4 : IntKind.i64.wrap ((i : Int) * 8 + k) = (i : Int) * 8 + k := IntWalk.i64_in _ (by omega)
                have i5 : IntKind.i64.wrap (m * x) = m * x := IntWalk.i64_in _ (by omega)
                have i6 : IntKind.i64.wrap (s + m * x) = s + m * x := IntWalk.i64_in _ (by omega)
                have t1 : ((r : Int) * 8 + k).toNat = r * 8 + k := by omega
                have t2 : ((i : Int) * 8 + k).toNat = i * 8 + k := by omega
                have u1 : (0 : Int) ≤ (r : Int) * 8 + k := by omega
                have u2 : (r : Int) * 8 + k < 64 := by omega
                have u3 : (0 : Int) ≤ (i : Int) * 8 + k := by omega
                have u4 : (i : Int) * 8 + k < 64 := by omega
                go_wp2
                go_region
                all_goals
                  go_wp2
                  go_roundw
                  case rel => exact ⟨i + 1, by omega, by go_num, HQ.out.drew, HG.out.drew, HB.out.drew⟩
                  case measure => simp [intOf]; omega
              · obtain rfl : i = 8 := by omega
                rw [accL_next 8 F r k hlk] at hoH
                go_wp2
                go_roundw
                case rel => exact ⟨k + 1, by omega, by go_num, hoH, hoG, hb⟩
                case measure => simp [intOf]; omega
          · obtain rfl : k = 8 := by omega
            rw [accL_row 8 F r] at hoH
            go_wp2
            go_roundw
            case rel => exact ⟨r + 1, by omega, by go_num, hoH, hoG, hb⟩
            case measure => simp [intOf]; omega
      · obtain rfl : r = 8 := by omega
        have hoH : wr.ownsRow w.heap.size 3 1 (.slice (some ⟨w.heap.size + 1, 0, none⟩) 64 64) 64 ((sq 8 F).map (Value.int .i64)) := hoH
        -- the second sum
        go_wp2
        go_loopw [77] (fun i wr => ∃ r : Nat, r ≤ 8 ∧ i = .int .i64 (r : Int) ∧ wr.ownsRow w.heap.size 3 1 (.slice (some ⟨w.heap.size, 0, none⟩) 64 64) 64 ((accL 8 G r 0 0).map (Value.int .i64)) ∧ wr.ownsRow w.heap.size 3 1 (.slice (some ⟨w.heap.size + 1, 0, none⟩) 64 64) 64 ((sq 8 F).map (Value.int .i64)) ∧ Below w.heap.size w wr) (fun i _ => 8 - (intOf i).toNat)
        case atStart => exact ⟨0, Nat.zero_le _, rfl, by rw [accL_zero]; exact hoG, hoH, hb⟩
        case round =>
          clear hoH hoG hb
          obtain ⟨r, hr, rfl, hoG, hoH, hb⟩ := hrel
          by_cases hlr : r < 8
          · have hlri : (r : Int) < 8 := by omega
            go_wp2
            go_loopw [81] (fun i wr => ∃ k : Nat, k ≤ 8 ∧ i = .int .i64 (k : Int) ∧ wr.ownsRow w.heap.size 3 1 (.slice (some ⟨w.heap.size, 0, none⟩) 64 64) 64 ((accL 8 G r k 0).map (Value.int .i64)) ∧ wr.ownsRow w.heap.size 3 1 (.slice (some ⟨w.heap.size + 1, 0, none⟩) 64 64) 64 ((sq 8 F).map (Value.int .i64)) ∧ Below w.heap.size w wr) (fun i _ => 8 - (intOf i).toNat)
            case atStart => exact ⟨0, Nat.zero_le _, rfl, hoG, hoH, hb⟩
            case round =>
              clear hoH hoG hb
              obtain ⟨k, hk, rfl, hoG, hoH, hb⟩ := hrel
              by_cases hlk : k < 8
              · have hlki : (k : Int) < 8 := by omega
                go_wp2
                go_loopw [85] (fun i wr => ∃ i' : Nat, i' ≤ 8 ∧ i = .int .i64 (i' : Int) ∧ wr.ownsRow w.heap.size 3 1 (.slice (some ⟨w.heap.size, 0, none⟩) 64 64) 64 ((accL 8 G r k i').map (Value.int .i64)) ∧ wr.ownsRow w.heap.size 3 1 (.slice (some ⟨w.heap.size + 1, 0, none⟩) 64 64) 64 ((sq 8 F).map (Value.int .i64)) ∧ Below w.heap.size w wr) (fun i _ => 8 - (intOf i).toNat)
                case atStart => exact ⟨0, Nat.zero_le _, rfl, hoG, hoH, hb⟩
                case round =>
                  clear hoH hoG hb
                  obtain ⟨i, hi', rfl, hoG, hoH, hb⟩ := hrel
                  by_cases hli : i < 8
                  · have hlii : (i : Int) < 8 := by omega
                    have hri : (0 : Int) ≤ (r : Int) := by omega
                    have hki : (0 : Int) ≤ (k : Int) := by omega
                    have hii : (0 : Int) ≤ (i : Int) := by omega
                    obtain ⟨mb, mo, e2, mbl, hmr⟩ := hMX.out
                    obtain ⟨rb, ro, rc, g1, g2, g3⟩ := hmr k hlk
                    have c1 := (hb.cell (p := ⟨mb, mo + k, none⟩) mbl).trans g1
                    have c2 := (hb.cell (p := ⟨rb, ro + i, none⟩) g2).trans (g3 i hli)
                    have c3 : wr.cell? ⟨w.heap.size + 1, r * 8 + i, none⟩ = some (.int .i64 ((sq 8 F).getD (r * 8 + i) 0)) := by
                      rw [hoH.cellAt _ (by omega), List.getElem?_map, List.getElem?_eq_getElem (by unfold sq; rw [accL_len]; omega), List.getD_eq_getElem?_getD, List.getElem?_eq_getElem (by unfold sq; rw [accL_len]; omega)]; rfl
                    have c4 : wr.cell? ⟨w.heap.size, r * 8 + k, none⟩ = some (.int .i64 ((accL 8 G r k i).getD (r * 8 + k) 0)) := by
                      rw [hoG.cellAt _ (by omega), List.getElem?_map, List.getElem?_eq_getElem (by rw [accL_len]; omega), List.getD_eq_getElem?_getD, List.getElem?_eq_getElem (by rw [accL_len]; omega)]; rfl
                    rw [accL_cur 8 G r k i (by omega)] at c4
                    have hfz := hoG.frozenAt (r * 8 + k)
                    have st := hoG.stored (r * 8 + k) (.int .i64 (sumTo (G r k) i + G r k i))
                    have Q1 := st.1
                    rw [map_set_p, accL_step] at Q1
                    have HQ := Lib.hid Q1
                    have HG := Lib.hid (hoH.kept st.2 (Or.inr (by simp [Value.ownBlock])))
                    have HB := Lib.hid (hb.setCell (p := ⟨w.heap.size, r * 8 + k, none⟩) hGw (.int .i64 (sumTo (G r k) i + G r k i)))
                    have hsb := hGs.out r k i hlr hlk (by omega)
                    have hF : G r k i = (sq 8 F).getD (r * 8 + i) 0 * M k i := hGe.out r k i
                    have hpb := hGb.out r k i hlr hlk hli
                    rw [hF] at HQ HG HB hpb
                    obtain ⟨m, hm⟩ : ∃ m, m = M k i := ⟨_, rfl⟩
                    obtain ⟨x, hx⟩ : ∃ x, x = (sq 8 F).getD (r * 8 + i) 0 := ⟨_, rfl⟩
                    obtain ⟨s, hs⟩ : ∃ s, s = sumTo (G r k) i := ⟨_, rfl⟩
                    rw [← hm] at c2 HQ HG HB hpb
                    rw [← hx] at c3 HQ HG HB hpb
                    rw [← hs] at c4 HQ HG HB hsb
                    subst e2
                    have hrb : (rb : Nat) < w.heap.size := g2
                    clear hm hx hs hF Q1 st hoH hoG hb hmr g1 g3
                    have i1 : IntKind.i64.wrap ((r : Int) * 8) = (r : Int) * 8 := IntWalk.i64_in _ (by omega)
                    have i2 : IntKind.i64.wrap ((r : Int) * 8 + k) = (r : Int) * 8 + k := IntWalk.i64_in _ (by omega)
                    have i4 : IntKind.i64.wrap ((r : Int) * 8 + i) = (r : Int) * 8 + i := IntWalk.i64_in _ (by omega)
                    have i5 : IntKind.i64.wrap (x * m) = x * m := IntWalk.i64_in _ (by omega)
                    have i6 : IntKind.i64.wrap (s + x * m) = s + x * m := IntWalk.i64_in _ (by omega)
                    have t1 : ((r : Int) * 8 + k).toNat = r * 8 + k := by omega
                    have t2 : ((r : Int) * 8 + i).toNat = r * 8 + i := by omega
                    have u1 : (0 : Int) ≤ (r : Int) * 8 + k := by omega
                    have u2 : (r : Int) * 8 + k < 64 := by omega
                    have u3 : (0 : Int) ≤ (r : Int) * 8 + i := by omega
                    have u4 : (r : Int) * 8 + i < 64 := by omega
                    go_wp2
                    go_region
                    all_goals
                      go_wp2
                      go_roundw
                      case rel => exact ⟨i + 1, by omega, by go_num, HQ.out.drew, HG.out.drew, HB.out.drew⟩
                      case measure => simp [intOf]; omega
                  · obtain rfl : i = 8 := by omega
                    rw [accL_next 8 G r k hlk] at hoG
                    go_wp2
                    go_roundw
                    case rel => exact ⟨k + 1, by omega, by go_num, hoG, hoH, hb⟩
                    case measure => simp [intOf]; omega
              · obtain rfl : k = 8 := by omega
                rw [accL_row 8 G r] at hoG
                go_wp2
                go_roundw
                case rel => exact ⟨r + 1, by omega, by go_num, hoG, hoH, hb⟩
                case measure => simp [intOf]; omega
          · obtain rfl : r = 8 := by omega
            go_wp2
            go_ret
            exact ⟨_, rfl, OB.new hoG, hb⟩
end Go.Proofs.Ytilfekkgoooefaa
