/-
  The reference's matrix of eight and its products. No condition but the numbers' bounds.
-/
import Derived.Test.YtlkpkfcimbepcaaFwd
import Derived.Test.YtlkpkfcimbepcaaGrow
namespace Go.Proofs.Ytlkpkfcimbepcaa
open Go.ChangeShapes Go.WideShapes Go.ChangeAt Go.RowKit
set_option linter.unusedVariables false
def par (b : Nat) : Int := 1 - 2 * ((pop3 b % 2 : Nat) : Int)
theorem par_odd (b : Nat) (h : b % 2 = 1) (hb : b < 8) : par (b / 2) = - par b := by unfold par pop3; omega
theorem par_even (b : Nat) (h : b % 2 = 0) (hb : b < 8) : par (b / 2) = par b := by unfold par pop3; omega
theorem par_zero : par 0 = 1 := rfl
set_option maxRecDepth 100000 in
set_option maxHeartbeats 4000000 in
theorem sRow8 (r : Nat) (hr : r < 8) (w : World) :
    Calls Try.prog 29 #[.int .i64 8, .int .i64 (r : Int)] w fun e w' => ∃ A' c', e = .returned (.slice A' 8 c') ∧ OB w' w.heap.size w'.heap.size A' 8 c' (rowL 8 mH r) ∧ Below w.heap.size w w' := by
  have hri : (r : Int) < 8 := by omega
  have hr0 : (0 : Int) ≤ (r : Int) := by omega
  go_enter Try.func29, Try.ntmps29
  go_wp2
  go_loopw [5, 6] (fun v i wr => ∃ k : Nat, k ≤ 8 ∧ i = .int .i64 (k : Int) ∧ wr.ownsRow w.heap.size 3 1 v k ((rowL k mH r).map (Value.int .i64)) ∧ Below w.heap.size w wr) (fun _ i _ => 8 - (intOf i).toNat)
  case atStart => exact ⟨0, by omega, rfl, World.ownsRow_made _ #[] 0 (Nat.le_refl _) (by decide) rfl, (Below.refl _ _).alloc (Nat.le_refl _) _⟩
  case round =>
    obtain ⟨k, hk, rfl, hown, hb⟩ := hrel
    by_cases hlk : k < 8
    · have hki : (k : Int) < 8 := by omega
      have hk0 : (0 : Int) ≤ (k : Int) := by omega
      have hand := i64_and_nat r k (by omega) (by omega)
      have hb8 : r &&& k < 8 := Nat.lt_of_le_of_lt Nat.and_le_right hlk
      have hpar : Hid ((1 : Int) * par (r &&& k) = mH r k) := by show (1 : Int) * par (r &&& k) = mH r k; rw [Int.one_mul]; rfl
      have hE : Hid ((rowL k mH r) ++ [mH r k] = rowL (k + 1) mH r) := by show _ = _; rw [rowL_succ]
      have hl2 : Small k := small_of (by omega)
      have hB := hb.size
      obtain ⟨b0, hb0⟩ : ∃ b, b = r &&& k := ⟨_, rfl⟩
      rw [← hb0] at hand hb8 hpar
      clear hb0
      go_wp2
      go_loop [7, 8] (fun s b => ∃ (b' : Nat) (sv : Int), b' < 8 ∧ b = .int .i64 (b' : Int) ∧ s = .int .i64 sv ∧ (sv = 1 ∨ sv = -1) ∧ sv * par b' = mH r k) (fun _ b => (intOf b).toNat)
      case atStart => exact ⟨b0, 1, hb8, rfl, rfl, Or.inl rfl, hpar.out⟩
      case round =>
        clear hpar hand hb8
        obtain ⟨b', sv, hb', rfl, rfl, hsv, hm⟩ := hrel
        have hsb : -1 ≤ sv ∧ sv ≤ 1 := by omega
        have HSV := Lib.hid hsv
        have HM := Lib.hid hm
        clear hsv hm
        rcases Nat.eq_zero_or_pos b' with h0 | h0
        · subst h0
          have HE : Hid (mH r k = sv) := by show mH r k = sv; rw [← HM.out, par_zero, Int.mul_one]
          clear HM HSV
          go_wp2_with (first
            | (at_builtin; refine wpList_app_g rfl (.tmp 36) (.tmp 38) rfl _ k _ rfl hown hB rfl hl2 ?_; intro g cap w1 hown1 hg1 hp1))
          go_roundw
          case rel => exact ⟨k + 1, by omega, by go_num, by rw [← hE.out, HE.out]; exact hown1, hb.grown hg1 hB (fun g hg => (hown.lt g hg).1)⟩
          case measure => simp [intOf]; omega
        · have h0i : (0 : Int) < (b' : Int) := by omega
          have ha1 := i64_and_one (b' : Int) (by omega) (by omega)
          by_cases hod : b' % 2 = 1
          · have hodi : (b' : Int) % 2 = 1 := by omega
            have HP : Hid ((-sv) * par (b' / 2) = mH r k) := by show (-sv) * par (b' / 2) = mH r k; rw [par_odd b' hod hb', Int.neg_mul_neg]; exact HM.out
            have HS2 : Hid (-sv = 1 ∨ -sv = -1) := by show -sv = 1 ∨ -sv = -1; have := HSV.out; omega
            rw [hodi] at ha1
            clear HM HSV hod
            go_wp2
            go_round
            case rel => exact ⟨b' / 2, -sv, by omega, by go_num, rfl, HS2.out, HP.out⟩
            case measure => simp [intOf]; omega
          · have hodi : (b' : Int) % 2 = 0 := by omega
            have HP : Hid (sv * par (b' / 2) = mH r k) := by show sv * par (b' / 2) = mH r k; rw [par_even b' (by omega) hb']; exact HM.out
            rw [hodi] at ha1
            clear HM hod
            go_wp2
            go_round
            case rel => exact ⟨b' / 2, sv, by omega, by go_num, rfl, HSV.out, HP.out⟩
            case measure => simp [intOf]; omega
    · obtain rfl : k = 8 := by omega
      obtain ⟨a, c', hv⟩ := owns_shape hown
      subst hv
      go_wp2
      go_ret
      exact ⟨a, c', rfl, OB.new hown, hb⟩
set_option maxRecDepth 100000 in
set_option maxHeartbeats 16000000 in
theorem sMul8N (A : Option Addr) (c : Nat) (zs : List Int) (w : World) (h : RI w A 64 zs) (hfit : fitsB zs 8 = true) :
    Calls Try.prog 25 #[.slice A 64 c, .int .i64 8, .bool false] w fun e w' => ∃ A', e = .returned (.slice A' 64 64) ∧ OB w' w.heap.size w'.heap.size A' 64 64 (mulL 8 mH zs) ∧ Below w.heap.size w w' := by
  obtain ⟨M, hMM⟩ : ∃ M, M = mH := ⟨_, rfl⟩
  have hM2 : M2 8 M := by rw [hMM]; exact mH_2
  have hfill : Hid (fillTo 8 mH false 8 0 = flat 8 M) := by rw [hMM]; exact fill8
  rw [← hMM]
  clear hMM
  have hM := Lib.hid hM2
  have hz := Lib.hid (fun j hj => fits_at hfit j hj)
  obtain ⟨F, hF0⟩ : ∃ F, F = hf 8 M zs := ⟨_, rfl⟩
  obtain ⟨G, hG0⟩ : ∃ G, G = gf 8 M zs := ⟨_, rfl⟩
  have hFe : Hid (∀ r k i, F r k i = M r i * zs.getD (i * 8 + k) 0) := by rw [hF0]; exact fun r k i => rfl
  have hFs : Hid (∀ r k i, r < 8 → k < 8 → i ≤ 8 → -16000000000 ≤ sumTo (F r k) i ∧ sumTo (F r k) i ≤ 16000000000) := by rw [hF0]; exact fun r k i h1 h2 h3 => hs_bd 8 (by omega) M zs hM2 hz.out r k i h1 h2 h3
  have hGe : Hid (∀ r k i, G r k i = (sq 8 F).getD (r * 8 + i) 0 * M k i) := by rw [hG0, hF0]; exact fun r k i => rfl
  have hGb : Hid (∀ r k i, r < 8 → k < 8 → i < 8 → -32000000000 ≤ G r k i ∧ G r k i ≤ 32000000000) := by rw [hG0]; exact fun r k i h1 h2 h3 => gf_bd 8 (by omega) M zs hM2 hz.out r k i h1 h2 h3
  have hGs : Hid (∀ r k i, r < 8 → k < 8 → i ≤ 8 → -256000000000 ≤ sumTo (G r k) i ∧ sumTo (G r k) i ≤ 256000000000) := by rw [hG0]; exact fun r k i h1 h2 h3 => gs_bd 8 (by omega) M zs hM2 hz.out r k i h1 h2 h3
  have hres : mulL 8 M zs = sq 8 G := by rw [hG0]; rfl
  rw [hres]
  have hmk : ∀ (u : World), (Instr.makeSlice 22 (.int .i64 64) (.int .i64 64)).run Try.prog u = .ok (.slice (some ⟨u.heap.size, 0, none⟩) 64 64) (u.alloc (.cells (madeCells #[.int .i64 0] 64) 3)) := fun u => run_make_intsP 64 (by omega) u
  have hm1 := Lib.hid (fun u b hb => made_intsP u 64 b (by omega) hb)
  have hRow := Lib.hid (fun r hr W => sRow8 r hr W)
  clear hM2 hfit hF0 hG0 hres
  go_enter Try.func25, Try.ntmps25
  go_wp2
  go_loopw [8] (fun i wr => ∃ r : Nat, r ≤ 8 ∧ i = .int .i64 (r : Int) ∧ wr.ownsRow w.heap.size 3 1 (.slice (some ⟨w.heap.size, 0, none⟩) 64 64) 64 ((fillTo 8 mH false r 0).map (Value.int .i64)) ∧ Below w.heap.size w wr) (fun i _ => 8 - (intOf i).toNat)
  case atStart => exact ⟨0, Nat.zero_le _, rfl, hm1.out w w.heap.size (Nat.le_refl _), (Below.refl _ _).alloc (Nat.le_refl _) _⟩
  case round =>
    obtain ⟨r, hr, rfl, hoM, hb⟩ := hrel
    by_cases hlr : r < 8
    · have hlri : (r : Int) < 8 := by omega
      go_wp2_with fail
      refine (hRow.out r hlr _).mono ?_
      rintro e w1 ⟨A1, cr, rfl, o1, b1⟩
      have hoM1 := owns_below hoM b1
      have hb1 := hb.trans (b1.mono hb.size)
      have hz1 := b1.size
      obtain ⟨rg, rfl, hrg1, hrg2, _⟩ := o1.form (by omega)
      have own1 := o1.1
      have hrgw : w.heap.size < rg := by have := (hoM.lt w.heap.size rfl).2; omega
      clear hoM hb b1 o1
      go_wp2
      go_loopw [10] (fun i wr => ∃ j : Nat, j ≤ 8 ∧ i = .int .i64 (j : Int) ∧ wr.ownsRow w.heap.size 3 1 (.slice (some ⟨w.heap.size, 0, none⟩) 64 64) 64 ((fillTo 8 mH false r j).map (Value.int .i64)) ∧ Below w.heap.size w wr ∧ (∀ i, i < 8 → wr.cell? ⟨rg, i, none⟩ = some (.int .i64 (mH r i)))) (fun i _ => 8 - (intOf i).toNat)
      case atStart =>
        refine ⟨0, Nat.zero_le _, rfl, hoM1, hb1, fun i hi => ?_⟩
        rw [own1.cellAt i (by omega), List.getElem?_map, List.getElem?_eq_getElem (by rw [rowL_len]; exact hi)]
        simp [rowL]
      case round =>
        clear hoM1 hb1 own1
        obtain ⟨j, hj, rfl, hoM, hb, hrow⟩ := hrel
        by_cases hlj : j < 8
        · have hlji : (j : Int) < 8 := by omega
          have hr0 : (0 : Int) ≤ (r : Int) := by omega
          have hj0 : (0 : Int) ≤ (j : Int) := by omega
          have hsrc := hrow j hlj
          obtain ⟨y, hcell⟩ : ∃ y, wr.cell? ⟨w.heap.size, r * 8 + j, none⟩ = some y := ⟨_, (hoM.cellAt _ (by omega)).trans (List.getElem?_eq_getElem (by rw [hoM.1]; omega))⟩
          have hfz := hoM.frozenAt (r * 8 + j)
          have st := hoM.stored (r * 8 + j) (.int .i64 (mH r j))
          have Q1 := st.1
          rw [map_set_p] at Q1
          have hfe : Hid (fillTo 8 mH false r (j + 1) = (fillTo 8 mH false r j).set (r * 8 + j) (mH r j)) := rfl
          have HQ := Lib.hid Q1
          have HB := Lib.hid (hb.setCell (p := ⟨w.heap.size, r * 8 + j, none⟩) (Nat.le_refl _) (.int .i64 (mH r j)))
          have HC : Hid (∀ i, i < 8 → (wr.setCell ⟨w.heap.size, r * 8 + j, none⟩ (.int .i64 (mH r j))).cell? ⟨rg, i, none⟩ = some (.int .i64 (mH r i))) := fun i hi => (World.cell?_setCell_other wr ⟨w.heap.size, r * 8 + j, none⟩ ⟨rg, i, none⟩ _ (fun e => by have := congrArg Addr.block e; simp at this; omega)).trans (hrow i hi)
          obtain ⟨m, hm⟩ : ∃ m, m = mH r j := ⟨_, rfl⟩
          rw [← hm] at hsrc HQ HB HC hfe
          clear hm Q1 st hoM hb hrow
          have i1 : IntKind.i64.wrap ((r : Int) * 8 + j) = (r : Int) * 8 + j := IntWalk.i64_in _ (by omega)
          have u1 : (0 : Int) ≤ (r : Int) * 8 + j := by omega
          have u2 : (r : Int) * 8 + j < 64 := by omega
          go_wp2
          go_roundw
          case rel => exact ⟨j + 1, by omega, by go_num, by rw [hfe.out]; exact HQ.out, HB.out, HC.out⟩
          case measure => simp [intOf]; omega
        · obtain rfl : j = 8 := by omega
          have hfe : Hid (fillTo 8 mH false (r + 1) 0 = fillTo 8 mH false r 8) := rfl
          clear hrow
          go_wp2
          go_roundw
          case rel => exact ⟨r + 1, by omega, by go_num, by rw [hfe.out]; exact hoM, hb⟩
          case measure => simp [intOf]; omega
    · obtain rfl : r = 8 := by omega
      obtain ⟨w2, hw2⟩ : ∃ w2, w2 = wr := ⟨_, rfl⟩
      rw [← hw2] at hoM hb ⊢
      clear hw2 hRow
      rw [hfill.out] at hoM
      have b02 := hb
      have hR := Lib.hid (h.below b02)
      have hwlt : w.heap.size < w2.heap.size := (hoM.lt w.heap.size rfl).2
      have hMR : Hid (∀ j, j < 64 → w2.cell? ⟨w.heap.size, j, none⟩ = some (.int .i64 ((flat 8 M).getD j 0))) := by
        show ∀ j, j < 64 → w2.cell? ⟨w.heap.size, j, none⟩ = some (.int .i64 ((flat 8 M).getD j 0))
        intro j hj
        obtain ⟨b, off, e, _, hc⟩ := (OB.new hoM).read.at_ (show 0 < 64 by omega)
        cases e
        have := hc j hj
        simpa using this
      have hHw : w2.heap.size ≤ w2.heap.size := Nat.le_refl _
      have hGw : w2.heap.size ≤ w2.heap.size + 1 := by omega
      have ownH : ((w2.alloc (.cells (madeCells #[.int .i64 0] 64) 3)).alloc (.cells (madeCells #[.int .i64 0] 64) 3)).ownsRow w2.heap.size 3 1 (.slice (some ⟨w2.heap.size, 0, none⟩) 64 64) 64 ((List.replicate 64 (0 : Int)).map (Value.int .i64)) := ((hm1.out w2 w2.heap.size (Nat.le_refl _)).alloc _)
      have ownG : ((w2.alloc (.cells (madeCells #[.int .i64 0] 64) 3)).alloc (.cells (madeCells #[.int .i64 0] 64) 3)).ownsRow w2.heap.size 3 1 (.slice (some ⟨w2.heap.size + 1, 0, none⟩) 64 64) 64 ((List.replicate 64 (0 : Int)).map (Value.int .i64)) := by
        have := (hm1.out (w2.alloc (.cells (madeCells #[.int .i64 0] 64) 3)) w2.heap.size (by simp))
        simpa using this
      have bW : Below w2.heap.size w2 ((w2.alloc (.cells (madeCells #[.int .i64 0] 64) 3)).alloc (.cells (madeCells #[.int .i64 0] 64) 3)) := (((Below.refl _ _).alloc (Nat.le_refl _) _).alloc (by simp) _)
      clear hoM hb h
      -- the first sum
      go_wp2
      go_loopw [13] (fun i wr => ∃ r : Nat, r ≤ 8 ∧ i = .int .i64 (r : Int) ∧ wr.ownsRow w2.heap.size 3 1 (.slice (some ⟨w2.heap.size, 0, none⟩) 64 64) 64 ((accL 8 F r 0 0).map (Value.int .i64)) ∧ wr.ownsRow w2.heap.size 3 1 (.slice (some ⟨w2.heap.size + 1, 0, none⟩) 64 64) 64 ((List.replicate 64 (0 : Int)).map (Value.int .i64)) ∧ Below w2.heap.size w2 wr) (fun i _ => 8 - (intOf i).toNat)
      case atStart => exact ⟨0, Nat.zero_le _, rfl, by rw [accL_zero]; exact ownH, ownG, bW⟩
      case round =>
        clear ownH ownG bW
        obtain ⟨r, hr, rfl, hoH, hoG, hb⟩ := hrel
        by_cases hlr : r < 8
        · have hlri : (r : Int) < 8 := by omega
          go_wp2
          go_loopw [14] (fun i wr => ∃ k : Nat, k ≤ 8 ∧ i = .int .i64 (k : Int) ∧ wr.ownsRow w2.heap.size 3 1 (.slice (some ⟨w2.heap.size, 0, none⟩) 64 64) 64 ((accL 8 F r k 0).map (Value.int .i64)) ∧ wr.ownsRow w2.heap.size 3 1 (.slice (some ⟨w2.heap.size + 1, 0, none⟩) 64 64) 64 ((List.replicate 64 (0 : Int)).map (Value.int .i64)) ∧ Below w2.heap.size w2 wr) (fun i _ => 8 - (intOf i).toNat)
          case atStart => exact ⟨0, Nat.zero_le _, rfl, hoH, hoG, hb⟩
          case round =>
            clear hoH hoG hb
            obtain ⟨k, hk, rfl, hoH, hoG, hb⟩ := hrel
            by_cases hlk : k < 8
            · have hlki : (k : Int) < 8 := by omega
              go_wp2
              go_loopw [15] (fun i wr => ∃ i' : Nat, i' ≤ 8 ∧ i = .int .i64 (i' : Int) ∧ wr.ownsRow w2.heap.size 3 1 (.slice (some ⟨w2.heap.size, 0, none⟩) 64 64) 64 ((accL 8 F r k i').map (Value.int .i64)) ∧ wr.ownsRow w2.heap.size 3 1 (.slice (some ⟨w2.heap.size + 1, 0, none⟩) 64 64) 64 ((List.replicate 64 (0 : Int)).map (Value.int .i64)) ∧ Below w2.heap.size w2 wr) (fun i _ => 8 - (intOf i).toNat)
              case atStart => exact ⟨0, Nat.zero_le _, rfl, hoH, hoG, hb⟩
              case round =>
                clear hoH hoG hb
                obtain ⟨i, hi', rfl, hoH, hoG, hb⟩ := hrel
                by_cases hli : i < 8
                · have hlii : (i : Int) < 8 := by omega
                  have hri : (0 : Int) ≤ (r : Int) := by omega
                  have hki : (0 : Int) ≤ (k : Int) := by omega
                  have hii : (0 : Int) ≤ (i : Int) := by omega
                  obtain ⟨b, off, e1, hbl, hc⟩ := hR.out.at_ (show 0 < 64 by omega)
                  have c2 := (hb.cell (p := ⟨w.heap.size, r * 8 + i, none⟩) hwlt).trans (hMR.out (r * 8 + i) (by omega))
                  rw [flat_at 8 M r i hlr hli] at c2
                  have c3 := (hb.cell (p := ⟨b, off + (i * 8 + k), none⟩) hbl).trans (hc (i * 8 + k) (by omega))
                  have c4 : wr.cell? ⟨w2.heap.size, r * 8 + k, none⟩ = some (.int .i64 ((accL 8 F r k i).getD (r * 8 + k) 0)) := by
                    rw [hoH.cellAt _ (by omega), List.getElem?_map, List.getElem?_eq_getElem (by rw [accL_len]; omega), List.getD_eq_getElem?_getD, List.getElem?_eq_getElem (by rw [accL_len]; omega)]; rfl
                  rw [accL_cur 8 F r k i (by omega)] at c4
                  have hfz := hoH.frozenAt (r * 8 + k)
                  have st := hoH.stored (r * 8 + k) (.int .i64 (sumTo (F r k) i + F r k i))
                  have Q1 := st.1
                  rw [map_set_p, accL_step] at Q1
                  have HQ := Lib.hid Q1
                  have HG := Lib.hid (hoG.kept st.2 (Or.inr (by simp [Value.ownBlock])))
                  have HB := Lib.hid (hb.setCell (p := ⟨w2.heap.size, r * 8 + k, none⟩) hHw (.int .i64 (sumTo (F r k) i + F r k i)))
                  have hsb := hFs.out r k i hlr hlk (by omega)
                  have hF : F r k i = M r i * zs.getD (i * 8 + k) 0 := hFe.out r k i
                  have hmb := hM.out r i hlr hli
                  have hxb := hz.out (i * 8 + k) (by omega)
                  rw [hF] at HQ HG HB
                  obtain ⟨m, hm⟩ : ∃ m, m = M r i := ⟨_, rfl⟩
                  obtain ⟨x, hx⟩ : ∃ x, x = zs.getD (i * 8 + k) 0 := ⟨_, rfl⟩
                  obtain ⟨s, hs⟩ : ∃ s, s = sumTo (F r k) i := ⟨_, rfl⟩
                  rw [← hm] at c2 HQ HG HB hmb
                  rw [← hx] at c3 HQ HG HB hxb
                  rw [← hs] at c4 HQ HG HB hsb
                  have hpb := mul_2 m x 1000000000 hmb hxb
                  subst e1
                  clear hm hx hs hF Q1 st hoH hoG hb hc
                  have i7 : IntKind.i64.wrap ((r : Int) * 8 + i) = (r : Int) * 8 + i := IntWalk.i64_in _ (by omega)
                  have t3 : ((r : Int) * 8 + i).toNat = r * 8 + i := by omega
                  have u5 : (0 : Int) ≤ (r : Int) * 8 + i := by omega
                  have u6 : (r : Int) * 8 + i < 64 := by omega
                  have i1 : IntKind.i64.wrap ((r : Int) * 8) = (r : Int) * 8 := IntWalk.i64_in _ (by omega)
                  have i2 : IntKind.i64.wrap ((r : Int) * 8 + k) = (r : Int) * 8 + k := IntWalk.i64_in _ (by omega)
                  have i3 : IntKind.i64.wrap ((i : Int) * 8) = (i : Int) * 8 := IntWalk.i64_in _ (by omega)
                  have i4 : IntKind.i64.wrap ((i : Int) * 8 + k) = (i : Int) * 8 + k := IntWalk.i64_in _ (by omega)
                  have i5 : IntKind.i64.wrap (m * x) = m * x := IntWalk.i64_in _ (by omega)
                  have i6 : IntKind.i64.wrap (s + m * x) = s + m * x := IntWalk.i64_in _ (by omega)
                  have t1 : ((r : Int) * 8 + k).toNat = r * 8 + k := by omega
                  have t2 : ((i : Int) * 8 + k).toNat = i * 8 + k := by omega
                  have u1 : (0 : Int) ≤ (r : Int) * 8 + k := by omega
                  have u2 : (r : Int) * 8 + k < 64 := by omega
                  have u3 : (0 : Int) ≤ (i : Int) * 8 + k := by omega
                  have u4 : (i : Int) * 8 + k < 64 := by omega
                  go_wp2
                  go_region
                  all_goals
                    go_wp2
                    go_roundw
                    case rel => exact ⟨i + 1, by omega, by go_num, HQ.out.drew, HG.out.drew, HB.out.drew⟩
                    case measure => simp [intOf]; omega
                · obtain rfl : i = 8 := by omega
                  rw [accL_next 8 F r k hlk] at hoH
                  go_wp2
                  go_roundw
                  case rel => exact ⟨k + 1, by omega, by go_num, hoH, hoG, hb⟩
                  case measure => simp [intOf]; omega
            · obtain rfl : k = 8 := by omega
              rw [accL_row 8 F r] at hoH
              go_wp2
              go_roundw
              case rel => exact ⟨r + 1, by omega, by go_num, hoH, hoG, hb⟩
              case measure => simp [intOf]; omega
        · obtain rfl : r = 8 := by omega
          have hoH : wr.ownsRow w2.heap.size 3 1 (.slice (some ⟨w2.heap.size, 0, none⟩) 64 64) 64 ((sq 8 F).map (Value.int .i64)) := hoH
          -- the second sum
          go_wp2
          go_loopw [16] (fun i wr => ∃ r : Nat, r ≤ 8 ∧ i = .int .i64 (r : Int) ∧ wr.ownsRow w2.heap.size 3 1 (.slice (some ⟨w2.heap.size + 1, 0, none⟩) 64 64) 64 ((accL 8 G r 0 0).map (Value.int .i64)) ∧ wr.ownsRow w2.heap.size 3 1 (.slice (some ⟨w2.heap.size, 0, none⟩) 64 64) 64 ((sq 8 F).map (Value.int .i64)) ∧ Below w2.heap.size w2 wr) (fun i _ => 8 - (intOf i).toNat)
          case atStart => exact ⟨0, Nat.zero_le _, rfl, by rw [accL_zero]; exact hoG, hoH, hb⟩
          case round =>
            clear hoH hoG hb
            obtain ⟨r, hr, rfl, hoG, hoH, hb⟩ := hrel
            by_cases hlr : r < 8
            · have hlri : (r : Int) < 8 := by omega
              go_wp2
              go_loopw [17] (fun i wr => ∃ k : Nat, k ≤ 8 ∧ i = .int .i64 (k : Int) ∧ wr.ownsRow w2.heap.size 3 1 (.slice (some ⟨w2.heap.size + 1, 0, none⟩) 64 64) 64 ((accL 8 G r k 0).map (Value.int .i64)) ∧ wr.ownsRow w2.heap.size 3 1 (.slice (some ⟨w2.heap.size, 0, none⟩) 64 64) 64 ((sq 8 F).map (Value.int .i64)) ∧ Below w2.heap.size w2 wr) (fun i _ => 8 - (intOf i).toNat)
              case atStart => exact ⟨0, Nat.zero_le _, rfl, hoG, hoH, hb⟩
              case round =>
                clear hoH hoG hb
                obtain ⟨k, hk, rfl, hoG, hoH, hb⟩ := hrel
                by_cases hlk : k < 8
                · have hlki : (k : Int) < 8 := by omega
                  go_wp2
                  go_loopw [18] (fun i wr => ∃ i' : Nat, i' ≤ 8 ∧ i = .int .i64 (i' : Int) ∧ wr.ownsRow w2.heap.size 3 1 (.slice (some ⟨w2.heap.size + 1, 0, none⟩) 64 64) 64 ((accL 8 G r k i').map (Value.int .i64)) ∧ wr.ownsRow w2.heap.size 3 1 (.slice (some ⟨w2.heap.size, 0, none⟩) 64 64) 64 ((sq 8 F).map (Value.int .i64)) ∧ Below w2.heap.size w2 wr) (fun i _ => 8 - (intOf i).toNat)
                  case atStart => exact ⟨0, Nat.zero_le _, rfl, hoG, hoH, hb⟩
                  case round =>
                    clear hoH hoG hb
                    obtain ⟨i, hi', rfl, hoG, hoH, hb⟩ := hrel
                    by_cases hli : i < 8
                    · have hlii : (i : Int) < 8 := by omega
                      have hri : (0 : Int) ≤ (r : Int) := by omega
                      have hki : (0 : Int) ≤ (k : Int) := by omega
                      have hii : (0 : Int) ≤ (i : Int) := by omega
                      have c2 := (hb.cell (p := ⟨w.heap.size, k * 8 + i, none⟩) hwlt).trans (hMR.out (k * 8 + i) (by omega))
                      rw [flat_at 8 M k i hlk hli] at c2
                      have c3 : wr.cell? ⟨w2.heap.size, r * 8 + i, none⟩ = some (.int .i64 ((sq 8 F).getD (r * 8 + i) 0)) := by
                        rw [hoH.cellAt _ (by omega), List.getElem?_map, List.getElem?_eq_getElem (by unfold sq; rw [accL_len]; omega), List.getD_eq_getElem?_getD, List.getElem?_eq_getElem (by unfold sq; rw [accL_len]; omega)]; rfl
                      have c4 : wr.cell? ⟨w2.heap.size + 1, r * 8 + k, none⟩ = some (.int .i64 ((accL 8 G r k i).getD (r * 8 + k) 0)) := by
                        rw [hoG.cellAt _ (by omega), List.getElem?_map, List.getElem?_eq_getElem (by rw [accL_len]; omega), List.getD_eq_getElem?_getD, List.getElem?_eq_getElem (by rw [accL_len]; omega)]; rfl
                      rw [accL_cur 8 G r k i (by omega)] at c4
                      have hfz := hoG.frozenAt (r * 8 + k)
                      have st := hoG.stored (r * 8 + k) (.int .i64 (sumTo (G r k) i + G r k i))
                      have Q1 := st.1
                      rw [map_set_p, accL_step] at Q1
                      have HQ := Lib.hid Q1
                      have HG := Lib.hid (hoH.kept st.2 (Or.inr (by simp [Value.ownBlock])))
                      have HB := Lib.hid (hb.setCell (p := ⟨w2.heap.size + 1, r * 8 + k, none⟩) hGw (.int .i64 (sumTo (G r k) i + G r k i)))
                      have hsb := hGs.out r k i hlr hlk (by omega)
                      have hF : G r k i = (sq 8 F).getD (r * 8 + i) 0 * M k i := hGe.out r k i
                      have hpb := hGb.out r k i hlr hlk hli
                      rw [hF] at HQ HG HB hpb
                      obtain ⟨m, hm⟩ : ∃ m, m = M k i := ⟨_, rfl⟩
                      obtain ⟨x, hx⟩ : ∃ x, x = (sq 8 F).getD (r * 8 + i) 0 := ⟨_, rfl⟩
                      obtain ⟨s, hs⟩ : ∃ s, s = sumTo (G r k) i := ⟨_, rfl⟩
                      rw [← hm] at c2 HQ HG HB hpb
                      rw [← hx] at c3 HQ HG HB hpb
                      rw [← hs] at c4 HQ HG HB hsb
                      clear hm hx hs hF Q1 st hoH hoG hb
                      have i7 : IntKind.i64.wrap ((k : Int) * 8 + i) = (k : Int) * 8 + i := IntWalk.i64_in _ (by omega)
                      have t3 : ((k : Int) * 8 + i).toNat = k * 8 + i := by omega
                      have u5 : (0 : Int) ≤ (k : Int) * 8 + i := by omega
                      have u6 : (k : Int) * 8 + i < 64 := by omega
                      have i1 : IntKind.i64.wrap ((r : Int) * 8) = (r : Int) * 8 := IntWalk.i64_in _ (by omega)
                      have i2 : IntKind.i64.wrap ((r : Int) * 8 + k) = (r : Int) * 8 + k := IntWalk.i64_in _ (by omega)
                      have i4 : IntKind.i64.wrap ((r : Int) * 8 + i) = (r : Int) * 8 + i := IntWalk.i64_in _ (by omega)
                      have i5 : IntKind.i64.wrap (x * m) = x * m := IntWalk.i64_in _ (by omega)
                      have i6 : IntKind.i64.wrap (s + x * m) = s + x * m := IntWalk.i64_in _ (by omega)
                      have t1 : ((r : Int) * 8 + k).toNat = r * 8 + k := by omega
                      have t2 : ((r : Int) * 8 + i).toNat = r * 8 + i := by omega
                      have u1 : (0 : Int) ≤ (r : Int) * 8 + k := by omega
                      have u2 : (r : Int) * 8 + k < 64 := by omega
                      have u3 : (0 : Int) ≤ (r : Int) * 8 + i := by omega
                      have u4 : (r : Int) * 8 + i < 64 := by omega
                      go_wp2
                      go_region
                      all_goals
                        go_wp2
                        go_roundw
                        case rel => exact ⟨i + 1, by omega, by go_num, HQ.out.drew, HG.out.drew, HB.out.drew⟩
                        case measure => simp [intOf]; omega
                    · obtain rfl : i = 8 := by omega
                      rw [accL_next 8 G r k hlk] at hoG
                      go_wp2
                      go_roundw
                      case rel => exact ⟨k + 1, by omega, by go_num, hoG, hoH, hb⟩
                      case measure => simp [intOf]; omega
                · obtain rfl : k = 8 := by omega
                  rw [accL_row 8 G r] at hoG
                  go_wp2
                  go_roundw
                  case rel => exact ⟨r + 1, by omega, by go_num, hoG, hoH, hb⟩
                  case measure => simp [intOf]; omega
            · obtain rfl : r = 8 := by omega
              go_wp2
              go_ret
              exact ⟨_, rfl, (OB.new hoG).mono b02.size (Nat.le_refl _), b02.trans (hb.mono b02.size)⟩
set_option maxRecDepth 100000 in
set_option maxHeartbeats 16000000 in
theorem sMul8B (A : Option Addr) (c : Nat) (zs : List Int) (w : World) (h : RI w A 64 zs) (hfit : fitsB zs 8 = true) :
    Calls Try.prog 25 #[.slice A 64 c, .int .i64 8, .bool true] w fun e w' => ∃ A', e = .returned (.slice A' 64 64) ∧ OB w' w.heap.size w'.heap.size A' 64 64 (mulL 8 mH zs) ∧ Below w.heap.size w w' := by
  obtain ⟨M, hMM⟩ : ∃ M, M = mH := ⟨_, rfl⟩
  have hM2 : M2 8 M := by rw [hMM]; exact mH_2
  have hfill : Hid (fillTo 8 mH true 8 0 = flat 8 M) := by rw [hMM]; exact fill8b
  rw [← hMM]
  clear hMM
  have hM := Lib.hid hM2
  have hz := Lib.hid (fun j hj => fits_at hfit j hj)
  obtain ⟨F, hF0⟩ : ∃ F, F = hf 8 M zs := ⟨_, rfl⟩
  obtain ⟨G, hG0⟩ : ∃ G, G = gf 8 M zs := ⟨_, rfl⟩
  have hFe : Hid (∀ r k i, F r k i = M r i * zs.getD (i * 8 + k) 0) := by rw [hF0]; exact fun r k i => rfl
  have hFs : Hid (∀ r k i, r < 8 → k < 8 → i ≤ 8 → -16000000000 ≤ sumTo (F r k) i ∧ sumTo (F r k) i ≤ 16000000000) := by rw [hF0]; exact fun r k i h1 h2 h3 => hs_bd 8 (by omega) M zs hM2 hz.out r k i h1 h2 h3
  have hGe : Hid (∀ r k i, G r k i = (sq 8 F).getD (r * 8 + i) 0 * M k i) := by rw [hG0, hF0]; exact fun r k i => rfl
  have hGb : Hid (∀ r k i, r < 8 → k < 8 → i < 8 → -32000000000 ≤ G r k i ∧ G r k i ≤ 32000000000) := by rw [hG0]; exact fun r k i h1 h2 h3 => gf_bd 8 (by omega) M zs hM2 hz.out r k i h1 h2 h3
  have hGs : Hid (∀ r k i, r < 8 → k < 8 → i ≤ 8 → -256000000000 ≤ sumTo (G r k) i ∧ sumTo (G r k) i ≤ 256000000000) := by rw [hG0]; exact fun r k i h1 h2 h3 => gs_bd 8 (by omega) M zs hM2 hz.out r k i h1 h2 h3
  have hres : mulL 8 M zs = sq 8 G := by rw [hG0]; rfl
  rw [hres]
  have hmk : ∀ (u : World), (Instr.makeSlice 22 (.int .i64 64) (.int .i64 64)).run Try.prog u = .ok (.slice (some ⟨u.heap.size, 0, none⟩) 64 64) (u.alloc (.cells (madeCells #[.int .i64 0] 64) 3)) := fun u => run_make_intsP 64 (by omega) u
  have hm1 := Lib.hid (fun u b hb => made_intsP u 64 b (by omega) hb)
  have hRow := Lib.hid (fun r hr W => sRow8 r hr W)
  clear hM2 hfit hF0 hG0 hres
  go_enter Try.func25, Try.ntmps25
  go_wp2
  go_loopw [8] (fun i wr => ∃ r : Nat, r ≤ 8 ∧ i = .int .i64 (r : Int) ∧ wr.ownsRow w.heap.size 3 1 (.slice (some ⟨w.heap.size, 0, none⟩) 64 64) 64 ((fillTo 8 mH true r 0).map (Value.int .i64)) ∧ Below w.heap.size w wr) (fun i _ => 8 - (intOf i).toNat)
  case atStart => exact ⟨0, Nat.zero_le _, rfl, hm1.out w w.heap.size (Nat.le_refl _), (Below.refl _ _).alloc (Nat.le_refl _) _⟩
  case round =>
    obtain ⟨r, hr, rfl, hoM, hb⟩ := hrel
    by_cases hlr : r < 8
    · have hlri : (r : Int) < 8 := by omega
      go_wp2_with fail
      refine (hRow.out r hlr _).mono ?_
      rintro e w1 ⟨A1, cr, rfl, o1, b1⟩
      have hoM1 := owns_below hoM b1
      have hb1 := hb.trans (b1.mono hb.size)
      have hz1 := b1.size
      obtain ⟨rg, rfl, hrg1, hrg2, _⟩ := o1.form (by omega)
      have own1 := o1.1
      have hrgw : w.heap.size < rg := by have := (hoM.lt w.heap.size rfl).2; omega
      clear hoM hb b1 o1
      go_wp2
      go_loopw [10] (fun i wr => ∃ j : Nat, j ≤ 8 ∧ i = .int .i64 (j : Int) ∧ wr.ownsRow w.heap.size 3 1 (.slice (some ⟨w.heap.size, 0, none⟩) 64 64) 64 ((fillTo 8 mH true r j).map (Value.int .i64)) ∧ Below w.heap.size w wr ∧ (∀ i, i < 8 → wr.cell? ⟨rg, i, none⟩ = some (.int .i64 (mH r i)))) (fun i _ => 8 - (intOf i).toNat)
      case atStart =>
        refine ⟨0, Nat.zero_le _, rfl, hoM1, hb1, fun i hi => ?_⟩
        rw [own1.cellAt i (by omega), List.getElem?_map, List.getElem?_eq_getElem (by rw [rowL_len]; exact hi)]
        simp [rowL]
      case round =>
        clear hoM1 hb1 own1
        obtain ⟨j, hj, rfl, hoM, hb, hrow⟩ := hrel
        by_cases hlj : j < 8
        · have hlji : (j : Int) < 8 := by omega
          have hr0 : (0 : Int) ≤ (r : Int) := by omega
          have hj0 : (0 : Int) ≤ (j : Int) := by omega
          have hsrc := hrow j hlj
          obtain ⟨y, hcell⟩ : ∃ y, wr.cell? ⟨w.heap.size, j * 8 + r, none⟩ = some y := ⟨_, (hoM.cellAt _ (by omega)).trans (List.getElem?_eq_getElem (by rw [hoM.1]; omega))⟩
          have hfz := hoM.frozenAt (j * 8 + r)
          have st := hoM.stored (j * 8 + r) (.int .i64 (mH r j))
          have Q1 := st.1
          rw [map_set_p] at Q1
          have hfe : Hid (fillTo 8 mH true r (j + 1) = (fillTo 8 mH true r j).set (j * 8 + r) (mH r j)) := rfl
          have HQ := Lib.hid Q1
          have HB := Lib.hid (hb.setCell (p := ⟨w.heap.size, j * 8 + r, none⟩) (Nat.le_refl _) (.int .i64 (mH r j)))
          have HC : Hid (∀ i, i < 8 → (wr.setCell ⟨w.heap.size, j * 8 + r, none⟩ (.int .i64 (mH r j))).cell? ⟨rg, i, none⟩ = some (.int .i64 (mH r i))) := fun i hi => (World.cell?_setCell_other wr ⟨w.heap.size, j * 8 + r, none⟩ ⟨rg, i, none⟩ _ (fun e => by have := congrArg Addr.block e; simp at this; omega)).trans (hrow i hi)
          obtain ⟨m, hm⟩ : ∃ m, m = mH r j := ⟨_, rfl⟩
          rw [← hm] at hsrc HQ HB HC hfe
          clear hm Q1 st hoM hb hrow
          have i1 : IntKind.i64.wrap ((j : Int) * 8 + r) = (j : Int) * 8 + r := IntWalk.i64_in _ (by omega)
          have u1 : (0 : Int) ≤ (j : Int) * 8 + r := by omega
          have u2 : (j : Int) * 8 + r < 64 := by omega
          go_wp2
          go_roundw
          case rel => exact ⟨j + 1, by omega, by go_num, by rw [hfe.out]; exact HQ.out, HB.out, HC.out⟩
          case measure => simp [intOf]; omega
        · obtain rfl : j = 8 := by omega
          have hfe : Hid (fillTo 8 mH true (r + 1) 0 = fillTo 8 mH true r 8) := rfl
          clear hrow
          go_wp2
          go_roundw
          case rel => exact ⟨r + 1, by omega, by go_num, by rw [hfe.out]; exact hoM, hb⟩
          case measure => simp [intOf]; omega
    · obtain rfl : r = 8 := by omega
      obtain ⟨w2, hw2⟩ : ∃ w2, w2 = wr := ⟨_, rfl⟩
      rw [← hw2] at hoM hb ⊢
      clear hw2 hRow
      rw [hfill.out] at hoM
      have b02 := hb
      have hR := Lib.hid (h.below b02)
      have hwlt : w.heap.size < w2.heap.size := (hoM.lt w.heap.size rfl).2
      have hMR : Hid (∀ j, j < 64 → w2.cell? ⟨w.heap.size, j, none⟩ = some (.int .i64 ((flat 8 M).getD j 0))) := by
        show ∀ j, j < 64 → w2.cell? ⟨w.heap.size, j, none⟩ = some (.int .i64 ((flat 8 M).getD j 0))
        intro j hj
        obtain ⟨b, off, e, _, hc⟩ := (OB.new hoM).read.at_ (show 0 < 64 by omega)
        cases e
        have := hc j hj
        simpa using this
      have hHw : w2.heap.size ≤ w2.heap.size := Nat.le_refl _
      have hGw : w2.heap.size ≤ w2.heap.size + 1 := by omega
      have ownH : ((w2.alloc (.cells (madeCells #[.int .i64 0] 64) 3)).alloc (.cells (madeCells #[.int .i64 0] 64) 3)).ownsRow w2.heap.size 3 1 (.slice (some ⟨w2.heap.size, 0, none⟩) 64 64) 64 ((List.replicate 64 (0 : Int)).map (Value.int .i64)) := ((hm1.out w2 w2.heap.size (Nat.le_refl _)).alloc _)
      have ownG : ((w2.alloc (.cells (madeCells #[.int .i64 0] 64) 3)).alloc (.cells (madeCells #[.int .i64 0] 64) 3)).ownsRow w2.heap.size 3 1 (.slice (some ⟨w2.heap.size + 1, 0, none⟩) 64 64) 64 ((List.replicate 64 (0 : Int)).map (Value.int .i64)) := by
        have := (hm1.out (w2.alloc (.cells (madeCells #[.int .i64 0] 64) 3)) w2.heap.size (by simp))
        simpa using this
      have bW : Below w2.heap.size w2 ((w2.alloc (.cells (madeCells #[.int .i64 0] 64) 3)).alloc (.cells (madeCells #[.int .i64 0] 64) 3)) := (((Below.refl _ _).alloc (Nat.le_refl _) _).alloc (by simp) _)
      clear hoM hb h
      -- the first sum
      go_wp2
      go_loopw [13] (fun i wr => ∃ r : Nat, r ≤ 8 ∧ i = .int .i64 (r : Int) ∧ wr.ownsRow w2.heap.size 3 1 (.slice (some ⟨w2.heap.size, 0, none⟩) 64 64) 64 ((accL 8 F r 0 0).map (Value.int .i64)) ∧ wr.ownsRow w2.heap.size 3 1 (.slice (some ⟨w2.heap.size + 1, 0, none⟩) 64 64) 64 ((List.replicate 64 (0 : Int)).map (Value.int .i64)) ∧ Below w2.heap.size w2 wr) (fun i _ => 8 - (intOf i).toNat)
      case atStart => exact ⟨0, Nat.zero_le _, rfl, by rw [accL_zero]; exact ownH, ownG, bW⟩
      case round =>
        clear ownH ownG bW
        obtain ⟨r, hr, rfl, hoH, hoG, hb⟩ := hrel
        by_cases hlr : r < 8
        · have hlri : (r : Int) < 8 := by omega
          go_wp2
          go_loopw [14] (fun i wr => ∃ k : Nat, k ≤ 8 ∧ i = .int .i64 (k : Int) ∧ wr.ownsRow w2.heap.size 3 1 (.slice (some ⟨w2.heap.size, 0, none⟩) 64 64) 64 ((accL 8 F r k 0).map (Value.int .i64)) ∧ wr.ownsRow w2.heap.size 3 1 (.slice (some ⟨w2.heap.size + 1, 0, none⟩) 64 64) 64 ((List.replicate 64 (0 : Int)).map (Value.int .i64)) ∧ Below w2.heap.size w2 wr) (fun i _ => 8 - (intOf i).toNat)
          case atStart => exact ⟨0, Nat.zero_le _, rfl, hoH, hoG, hb⟩
          case round =>
            clear hoH hoG hb
            obtain ⟨k, hk, rfl, hoH, hoG, hb⟩ := hrel
            by_cases hlk : k < 8
            · have hlki : (k : Int) < 8 := by omega
              go_wp2
              go_loopw [15] (fun i wr => ∃ i' : Nat, i' ≤ 8 ∧ i = .int .i64 (i' : Int) ∧ wr.ownsRow w2.heap.size 3 1 (.slice (some ⟨w2.heap.size, 0, none⟩) 64 64) 64 ((accL 8 F r k i').map (Value.int .i64)) ∧ wr.ownsRow w2.heap.size 3 1 (.slice (some ⟨w2.heap.size + 1, 0, none⟩) 64 64) 64 ((List.replicate 64 (0 : Int)).map (Value.int .i64)) ∧ Below w2.heap.size w2 wr) (fun i _ => 8 - (intOf i).toNat)
              case atStart => exact ⟨0, Nat.zero_le _, rfl, hoH, hoG, hb⟩
              case round =>
                clear hoH hoG hb
                obtain ⟨i, hi', rfl, hoH, hoG, hb⟩ := hrel
                by_cases hli : i < 8
                · have hlii : (i : Int) < 8 := by omega
                  have hri : (0 : Int) ≤ (r : Int) := by omega
                  have hki : (0 : Int) ≤ (k : Int) := by omega
                  have hii : (0 : Int) ≤ (i : Int) := by omega
                  obtain ⟨b, off, e1, hbl, hc⟩ := hR.out.at_ (show 0 < 64 by omega)
                  have c2 := (hb.cell (p := ⟨w.heap.size, r * 8 + i, none⟩) hwlt).trans (hMR.out (r * 8 + i) (by omega))
                  rw [flat_at 8 M r i hlr hli] at c2
                  have c3 := (hb.cell (p := ⟨b, off + (i * 8 + k), none⟩) hbl).trans (hc (i * 8 + k) (by omega))
                  have c4 : wr.cell? ⟨w2.heap.size, r * 8 + k, none⟩ = some (.int .i64 ((accL 8 F r k i).getD (r * 8 + k) 0)) := by
                    rw [hoH.cellAt _ (by omega), List.getElem?_map, List.getElem?_eq_getElem (by rw [accL_len]; omega), List.getD_eq_getElem?_getD, List.getElem?_eq_getElem (by rw [accL_len]; omega)]; rfl
                  rw [accL_cur 8 F r k i (by omega)] at c4
                  have hfz := hoH.frozenAt (r * 8 + k)
                  have st := hoH.stored (r * 8 + k) (.int .i64 (sumTo (F r k) i + F r k i))
                  have Q1 := st.1
                  rw [map_set_p, accL_step] at Q1
                  have HQ := Lib.hid Q1
                  have HG := Lib.hid (hoG.kept st.2 (Or.inr (by simp [Value.ownBlock])))
                  have HB := Lib.hid (hb.setCell (p := ⟨w2.heap.size, r * 8 + k, none⟩) hHw (.int .i64 (sumTo (F r k) i + F r k i)))
                  have hsb := hFs.out r k i hlr hlk (by omega)
                  have hF : F r k i = M r i * zs.getD (i * 8 + k) 0 := hFe.out r k i
                  have hmb := hM.out r i hlr hli
                  have hxb := hz.out (i * 8 + k) (by omega)
                  rw [hF] at HQ HG HB
                  obtain ⟨m, hm⟩ : ∃ m, m = M r i := ⟨_, rfl⟩
                  obtain ⟨x, hx⟩ : ∃ x, x = zs.getD (i * 8 + k) 0 := ⟨_, rfl⟩
                  obtain ⟨s, hs⟩ : ∃ s, s = sumTo (F r k) i := ⟨_, rfl⟩
                  rw [← hm] at c2 HQ HG HB hmb
                  rw [← hx] at c3 HQ HG HB hxb
                  rw [← hs] at c4 HQ HG HB hsb
                  have hpb := mul_2 m x 1000000000 hmb hxb
                  subst e1
                  clear hm hx hs hF Q1 st hoH hoG hb hc
                  have i7 : IntKind.i64.wrap ((r : Int) * 8 + i) = (r : Int) * 8 + i := IntWalk.i64_in _ (by omega)
                  have t3 : ((r : Int) * 8 + i).toNat = r * 8 + i := by omega
                  have u5 : (0 : Int) ≤ (r : Int) * 8 + i := by omega
                  have u6 : (r : Int) * 8 + i < 64 := by omega
                  have i1 : IntKind.i64.wrap ((r : Int) * 8) = (r : Int) * 8 := IntWalk.i64_in _ (by omega)
                  have i2 : IntKind.i64.wrap ((r : Int) * 8 + k) = (r : Int) * 8 + k := IntWalk.i64_in _ (by omega)
                  have i3 : IntKind.i64.wrap ((i : Int) * 8) = (i : Int) * 8 := IntWalk.i64_in _ (by omega)
                  have i4 : IntKind.i64.wrap ((i : Int) * 8 + k) = (i : Int) * 8 + k := IntWalk.i64_in _ (by omega)
                  have i5 : IntKind.i64.wrap (m * x) = m * x := IntWalk.i64_in _ (by omega)
                  have i6 : IntKind.i64.wrap (s + m * x) = s + m * x := IntWalk.i64_in _ (by omega)
                  have t1 : ((r : Int) * 8 + k).toNat = r * 8 + k := by omega
                  have t2 : ((i : Int) * 8 + k).toNat = i * 8 + k := by omega
                  have u1 : (0 : Int) ≤ (r : Int) * 8 + k := by omega
                  have u2 : (r : Int) * 8 + k < 64 := by omega
                  have u3 : (0 : Int) ≤ (i : Int) * 8 + k := by omega
                  have u4 : (i : Int) * 8 + k < 64 := by omega
                  go_wp2
                  go_region
                  all_goals
                    go_wp2
                    go_roundw
                    case rel => exact ⟨i + 1, by omega, by go_num, HQ.out.drew, HG.out.drew, HB.out.drew⟩
                    case measure => simp [intOf]; omega
                · obtain rfl : i = 8 := by omega
                  rw [accL_next 8 F r k hlk] at hoH
                  go_wp2
                  go_roundw
                  case rel => exact ⟨k + 1, by omega, by go_num, hoH, hoG, hb⟩
                  case measure => simp [intOf]; omega
            · obtain rfl : k = 8 := by omega
              rw [accL_row 8 F r] at hoH
              go_wp2
              go_roundw
              case rel => exact ⟨r + 1, by omega, by go_num, hoH, hoG, hb⟩
              case measure => simp [intOf]; omega
        · obtain rfl : r = 8 := by omega
          have hoH : wr.ownsRow w2.heap.size 3 1 (.slice (some ⟨w2.heap.size, 0, none⟩) 64 64) 64 ((sq 8 F).map (Value.int .i64)) := hoH
          -- the second sum
          go_wp2
          go_loopw [16] (fun i wr => ∃ r : Nat, r ≤ 8 ∧ i = .int .i64 (r : Int) ∧ wr.ownsRow w2.heap.size 3 1 (.slice (some ⟨w2.heap.size + 1, 0, none⟩) 64 64) 64 ((accL 8 G r 0 0).map (Value.int .i64)) ∧ wr.ownsRow w2.heap.size 3 1 (.slice (some ⟨w2.heap.size, 0, none⟩) 64 64) 64 ((sq 8 F).map (Value.int .i64)) ∧ Below w2.heap.size w2 wr) (fun i _ => 8 - (intOf i).toNat)
          case atStart => exact ⟨0, Nat.zero_le _, rfl, by rw [accL_zero]; exact hoG, hoH, hb⟩
          case round =>
            clear hoH hoG hb
            obtain ⟨r, hr, rfl, hoG, hoH, hb⟩ := hrel
            by_cases hlr : r < 8
            · have hlri : (r : Int) < 8 := by omega
              go_wp2
              go_loopw [17] (fun i wr => ∃ k : Nat, k ≤ 8 ∧ i = .int .i64 (k : Int) ∧ wr.ownsRow w2.heap.size 3 1 (.slice (some ⟨w2.heap.size + 1, 0, none⟩) 64 64) 64 ((accL 8 G r k 0).map (Value.int .i64)) ∧ wr.ownsRow w2.heap.size 3 1 (.slice (some ⟨w2.heap.size, 0, none⟩) 64 64) 64 ((sq 8 F).map (Value.int .i64)) ∧ Below w2.heap.size w2 wr) (fun i _ => 8 - (intOf i).toNat)
              case atStart => exact ⟨0, Nat.zero_le _, rfl, hoG, hoH, hb⟩
              case round =>
                clear hoH hoG hb
                obtain ⟨k, hk, rfl, hoG, hoH, hb⟩ := hrel
                by_cases hlk : k < 8
                · have hlki : (k : Int) < 8 := by omega
                  go_wp2
                  go_loopw [18] (fun i wr => ∃ i' : Nat, i' ≤ 8 ∧ i = .int .i64 (i' : Int) ∧ wr.ownsRow w2.heap.size 3 1 (.slice (some ⟨w2.heap.size + 1, 0, none⟩) 64 64) 64 ((accL 8 G r k i').map (Value.int .i64)) ∧ wr.ownsRow w2.heap.size 3 1 (.slice (some ⟨w2.heap.size, 0, none⟩) 64 64) 64 ((sq 8 F).map (Value.int .i64)) ∧ Below w2.heap.size w2 wr) (fun i _ => 8 - (intOf i).toNat)
                  case atStart => exact ⟨0, Nat.zero_le _, rfl, hoG, hoH, hb⟩
                  case round =>
                    clear hoH hoG hb
                    obtain ⟨i, hi', rfl, hoG, hoH, hb⟩ := hrel
                    by_cases hli : i < 8
                    · have hlii : (i : Int) < 8 := by omega
                      have hri : (0 : Int) ≤ (r : Int) := by omega
                      have hki : (0 : Int) ≤ (k : Int) := by omega
                      have hii : (0 : Int) ≤ (i : Int) := by omega
                      have c2 := (hb.cell (p := ⟨w.heap.size, k * 8 + i, none⟩) hwlt).trans (hMR.out (k * 8 + i) (by omega))
                      rw [flat_at 8 M k i hlk hli] at c2
                      have c3 : wr.cell? ⟨w2.heap.size, r * 8 + i, none⟩ = some (.int .i64 ((sq 8 F).getD (r * 8 + i) 0)) := by
                        rw [hoH.cellAt _ (by omega), List.getElem?_map, List.getElem?_eq_getElem (by unfold sq; rw [accL_len]; omega), List.getD_eq_getElem?_getD, List.getElem?_eq_getElem (by unfold sq; rw [accL_len]; omega)]; rfl
                      have c4 : wr.cell? ⟨w2.heap.size + 1, r * 8 + k, none⟩ = some (.int .i64 ((accL 8 G r k i).getD (r * 8 + k) 0)) := by
                        rw [hoG.cellAt _ (by omega), List.getElem?_map, List.getElem?_eq_getElem (by rw [accL_len]; omega), List.getD_eq_getElem?_getD, List.getElem?_eq_getElem (by rw [accL_len]; omega)]; rfl
                      rw [accL_cur 8 G r k i (by omega)] at c4
                      have hfz := hoG.frozenAt (r * 8 + k)
                      have st := hoG.stored (r * 8 + k) (.int .i64 (sumTo (G r k) i + G r k i))
                      have Q1 := st.1
                      rw [map_set_p, accL_step] at Q1
                      have HQ := Lib.hid Q1
                      have HG := Lib.hid (hoH.kept st.2 (Or.inr (by simp [Value.ownBlock])))
                      have HB := Lib.hid (hb.setCell (p := ⟨w2.heap.size + 1, r * 8 + k, none⟩) hGw (.int .i64 (sumTo (G r k) i + G r k i)))
                      have hsb := hGs.out r k i hlr hlk (by omega)
                      have hF : G r k i = (sq 8 F).getD (r * 8 + i) 0 * M k i := hGe.out r k i
                      have hpb := hGb.out r k i hlr hlk hli
                      rw [hF] at HQ HG HB hpb
                      obtain ⟨m, hm⟩ : ∃ m, m = M k i := ⟨_, rfl⟩
                      obtain ⟨x, hx⟩ : ∃ x, x = (sq 8 F).getD (r * 8 + i) 0 := ⟨_, rfl⟩
                      obtain ⟨s, hs⟩ : ∃ s, s = sumTo (G r k) i := ⟨_, rfl⟩
                      rw [← hm] at c2 HQ HG HB hpb
                      rw [← hx] at c3 HQ HG HB hpb
                      rw [← hs] at c4 HQ HG HB hsb
                      clear hm hx hs hF Q1 st hoH hoG hb
                      have i7 : IntKind.i64.wrap ((k : Int) * 8 + i) = (k : Int) * 8 + i := IntWalk.i64_in _ (by omega)
                      have t3 : ((k : Int) * 8 + i).toNat = k * 8 + i := by omega
                      have u5 : (0 : Int) ≤ (k : Int) * 8 + i := by omega
                      have u6 : (k : Int) * 8 + i < 64 := by omega
                      have i1 : IntKind.i64.wrap ((r : Int) * 8) = (r : Int) * 8 := IntWalk.i64_in _ (by omega)
                      have i2 : IntKind.i64.wrap ((r : Int) * 8 + k) = (r : Int) * 8 + k := IntWalk.i64_in _ (by omega)
                      have i4 : IntKind.i64.wrap ((r : Int) * 8 + i) = (r : Int) * 8 + i := IntWalk.i64_in _ (by omega)
                      have i5 : IntKind.i64.wrap (x * m) = x * m := IntWalk.i64_in _ (by omega)
                      have i6 : IntKind.i64.wrap (s + x * m) = s + x * m := IntWalk.i64_in _ (by omega)
                      have t1 : ((r : Int) * 8 + k).toNat = r * 8 + k := by omega
                      have t2 : ((r : Int) * 8 + i).toNat = r * 8 + i := by omega
                      have u1 : (0 : Int) ≤ (r : Int) * 8 + k := by omega
                      have u2 : (r : Int) * 8 + k < 64 := by omega
                      have u3 : (0 : Int) ≤ (r : Int) * 8 + i := by omega
                      have u4 : (r : Int) * 8 + i < 64 := by omega
                      go_wp2
                      go_region
                      all_goals
                        go_wp2
                        go_roundw
                        case rel => exact ⟨i + 1, by omega, by go_num, HQ.out.drew, HG.out.drew, HB.out.drew⟩
                        case measure => simp [intOf]; omega
                    · obtain rfl : i = 8 := by omega
                      rw [accL_next 8 G r k hlk] at hoG
                      go_wp2
                      go_roundw
                      case rel => exact ⟨k + 1, by omega, by go_num, hoG, hoH, hb⟩
                      case measure => simp [intOf]; omega
                · obtain rfl : k = 8 := by omega
                  rw [accL_row 8 G r] at hoG
                  go_wp2
                  go_roundw
                  case rel => exact ⟨r + 1, by omega, by go_num, hoG, hoH, hb⟩
                  case measure => simp [intOf]; omega
            · obtain rfl : r = 8 := by omega
              go_wp2
              go_ret
              exact ⟨_, rfl, (OB.new hoG).mono b02.size (Nat.le_refl _), b02.trans (hb.mono b02.size)⟩
theorem sForward8 (A : Option Addr) (n c : Nat) (zs : List Int) (w : World) (h : RI w A n zs) (hn : n ≤ 1048576) :
    Calls Try.prog 15 #[.slice A n c] w fun e w' => ∃ A' n' c', e = .returned (.slice A' n' c') ∧ OB w' w.heap.size w'.heap.size A' n' c' (trans 8 mH zs) ∧ Below w.heap.size w w' := by
  have hS := Lib.hid (sSome 8 (by omega) mH false A n c zs w h hn (fun W hW hf => sMul8N A c zs W hW hf))
  go_enter Try.func15, Try.ntmps15
  go_wp2_with fail
  refine hS.out.mono ?_
  rintro e w1 ⟨A1, n1, c1, rfl, o1, b1⟩
  go_wp2
  go_ret
  exact ⟨A1, n1, c1, rfl, o1, b1⟩
theorem sInverse8 (A : Option Addr) (n c : Nat) (zs : List Int) (w : World) (h : RI w A n zs) (hn : n ≤ 1048576) :
    Calls Try.prog 17 #[.slice A n c] w fun e w' => ∃ A' n' c', e = .returned (.slice A' n' c') ∧ OB w' w.heap.size w'.heap.size A' n' c' (trans 8 mH zs) ∧ Below w.heap.size w w' := by
  have hS := Lib.hid (sSome 8 (by omega) mH true A n c zs w h hn (fun W hW hf => sMul8B A c zs W hW hf))
  go_enter Try.func17, Try.ntmps17
  go_wp2_with fail
  refine hS.out.mono ?_
  rintro e w1 ⟨A1, n1, c1, rfl, o1, b1⟩
  go_wp2
  go_ret
  exact ⟨A1, n1, c1, rfl, o1, b1⟩
end Go.Proofs.Ytlkpkfcimbepcaa
