/-
  FnBits: strings can be restored from their bits, and numbers from their bits. No condition.
-/
import Derived.Test.YteojnjcoamcigaaBitsLaw
import Derived.Test.YteojnjcoamcigaaDrawBits
import Derived.Test.YteojnjcoamcigaaLawHelp
namespace Go.Proofs.Yteojnjcoamcigaa.fnBits
open Go.ChangeShapes Go.WideShapes Go.ChangeAt Go.RowKit
set_option linter.unusedVariables false
theorem bitsIn_48 (n d : Int) : (bitsIn n d).length ≤ 48 := by
  unfold bitsIn
  split
  · rename_i hc; rw [bitsK_length]; omega
  · simp
theorem bs_len (l : List Int) : (bs l).size = l.length := by show ((l.map _).toArray).size = _; simp
set_option maxRecDepth 100000 in
set_option maxHeartbeats 4000000 in
theorem walkIn (a0 : Option Addr) (len0 cap0 : Nat) (z0 : List Int) (w : World) (w0 : IsRow .u8 w a0 len0 cap0 z0) (hl : len0 ≤ 1048576) :
    Calls Try.prog 14 #[.slice a0 len0 cap0] w fun e w' => e = .returned (.bool true) ∧ Below w.heap.size w w' := by
  have HRU := Lib.hid (RU.ofIsRow w0)
  clear w0
  go_enter Try.func14, Try.ntmps14
  go_wp2_with fail
  refine (big_no _ _ _ _ hl).mono ?_
  rintro e w' ⟨rfl, rfl⟩
  go_wp2_with fail
  refine (xDrawBitsOf _ _ _ _ _ HRU.out hl).mono ?_
  rintro e W1 ⟨acc, rfl, hal, hby, b01⟩
  obtain ⟨s, hs⟩ : ∃ s, s = bs acc := ⟨_, rfl⟩
  have hsz : s.size ≤ 6 := by rw [hs, bs_len]; exact hal
  rw [← hs]
  clear hs hal hby
  go_wp2_with fail
  refine (iBitsOf s _ (by omega)).mono ?_
  rintro e W2 ⟨A2, n2, c2, rfl, o2, b2⟩
  have b02 := b01.trans (b2.mono b01.size)
  obtain rfl : n2 = 8 * s.size := o2.len.symm.trans (bitsOf_length s)
  have HBO : Hid (∀ W, RI W A2 (8 * s.size) (bitsOf s) → Calls Try.prog 32 #[.slice A2 (8 * s.size) c2] W fun e w' => e = .returned (.tuple #[.string s, .bool true]) ∧ Below W.heap.size W w') := by
    intro W hW
    have := iBytesOf_any A2 (8 * s.size) c2 (bitsOf s) W hW (by omega)
    rw [(bytes_back s).1, (bytes_back s).2] at this
    exact this
  clear b01 b2
  go_wp2_with fail
  refine (HBO.out _ o2.read).mono ?_
  rintro e W3 ⟨rfl, b3⟩
  have b03 := b02.trans (b3.mono b02.size)
  have o2 := (o2.below b3).read
  clear b02 b3 HBO
  go_wp2
  go_loopw [7] (fun i wr => ∃ k : Nat, k ≤ 8 * s.size ∧ i = .int .i64 (k : Int) ∧ RI wr A2 (8 * s.size) (bitsOf s) ∧ Below w.heap.size w wr) (fun i _ => 8 * s.size - (intOf i).toNat)
  case atStart => exact ⟨0, Nat.zero_le _, rfl, o2, b03⟩
  case round =>
    clear o2 b03
    obtain ⟨k, hk, rfl, o2, b03⟩ := hrel
    by_cases hlt : k < 8 * s.size
    · have hlti : (k : Int) < 8 * (s.size : Int) := by omega
      have hk0 : (0 : Int) ≤ (k : Int) := by omega
      obtain ⟨b, off, rfl, hbl, hc⟩ := o2.at_ hlt
      have hck := hc k hlt
      rw [bitsOf_get s k hlt] at hck
      obtain ⟨x, hx⟩ : ∃ x, x = bitAt s (k : Int) := ⟨_, rfl⟩
      have HB : Hid (∀ W, Calls Try.prog 45 #[.string s, .int .i64 (k : Int)] W fun e w' => e = .returned (.int .i64 x) ∧ w' = W) := by
        intro W; rw [hx]; exact iBitAt s _ (by omega) W
      rw [← hx] at hck
      have O2 := Lib.hid o2
      have B3 := Lib.hid b03
      clear hx hc o2 b03
      go_wp2
      go_quiet ((go_at_call 45; exact Calls.quiet_of_same (HB.out _)))
      go_wp2
      go_roundw
      case rel => exact ⟨k + 1, by omega, by go_num, O2.out.drewN _, below_drewN B3.out _⟩
      case measure => simp [intOf]; omega
    · obtain rfl : k = 8 * s.size := by omega
      have b03' := b03
      have hru := HRU.out.below b03'
      have HNO := Lib.hid (fun W => iBitAt_out s ((8 * s.size : Nat) : Int) (by omega) (Or.inr (by omega)) W)
      clear o2 b03 hlt hk
      go_wp2_with fail
      refine (xDrawBitsIn _ _ _ _ _ hru hl).mono ?_
      rintro e W4 ⟨n, d, rfl, ⟨wn, wd⟩, b4⟩
      have b04 := b03'.trans (b4.mono b03'.size)
      have HI := Lib.hid (fun W => iBitsIn n d W wn wd)
      have HS := Lib.hid (fun W => sBitsIn n d W wn wd)
      clear b03' b4 hru wn wd
      go_wp2_with fail
      refine (HI.out _).mono ?_
      rintro e W5 ⟨A5, n5, c5, rfl, o5, b5⟩
      have b05 := b04.trans (b5.mono b04.size)
      have hl5 := o5.len
      have h48 : n5 ≤ 48 := by have := bitsIn_48 n d; omega
      clear b04 b5
      rcases Nat.eq_zero_or_pos n5 with h0 | h0
      · subst h0
        go_wp2_with fail
        refine (iNumOf _ _ _ _ _ o5.read (by omega)).mono ?_
        rintro e W6 ⟨rfl, b6⟩
        have o5 := o5.below b6
        have b06 := b05.trans (b6.mono b05.size)
        clear b05 b6
        go_wp2_with fail
        refine (HNO.out _).mono ?_
        rintro e w' ⟨rfl, rfl⟩
        go_wp2_with fail
        refine (HS.out _).mono ?_
        rintro e W7 ⟨A7, n7, c7, rfl, o7, b7⟩
        have o5 := o5.below b7
        have b07 := b06.trans (b7.mono b06.size)
        obtain rfl : n7 = 0 := o7.len.symm.trans hl5
        clear b06 b7
        go_wp2_with fail
        refine (sameInts_yes _ _ _ _ _ _ _ o5.read o7.read (by omega)).mono ?_
        rintro e W8 ⟨rfl, b8⟩
        have b08 := b07.trans (b8.mono b07.size)
        clear b07 b8 o5 o7
        go_wp2
        go_ret
        exact ⟨rfl, b08⟩
      · obtain ⟨hnum, hlen⟩ := num_back n d (by omega)
        rw [hl5] at hlen
        subst hlen
        have HN : Hid (∀ W, RI W A5 n5 (bitsIn n (n5 : Int)) → Calls Try.prog 20 #[.slice A5 n5 c5] W fun e w' => e = .returned (.tuple #[.int .i64 n, .bool true]) ∧ Below W.heap.size W w') := by
          intro W hW
          have := iNumOf A5 n5 c5 _ W hW (by omega)
          rw [hnum] at this
          exact this
        have h0i : ((n5 : Int) == 0) = false := by simp; omega
        clear hnum
        go_wp2_with fail
        refine (HN.out _ o5.read).mono ?_
        rintro e W6 ⟨rfl, b6⟩
        have o5 := o5.below b6
        have b06 := b05.trans (b6.mono b05.size)
        clear b05 b6
        go_wp2_with fail
        refine (HNO.out _).mono ?_
        rintro e w' ⟨rfl, rfl⟩
        go_wp2_with fail
        refine (HS.out _).mono ?_
        rintro e W7 ⟨A7, n7, c7, rfl, o7, b7⟩
        have o5 := o5.below b7
        have b07 := b06.trans (b7.mono b06.size)
        obtain rfl : n7 = n5 := o7.len.symm.trans hl5
        clear b06 b7
        go_wp2_with fail
        refine (sameInts_yes _ _ _ _ _ _ _ o5.read o7.read (by omega)).mono ?_
        rintro e W8 ⟨rfl, b8⟩
        have b08 := b07.trans (b8.mono b07.size)
        clear b07 b8 o5 o7
        go_wp2
        go_ret
        exact ⟨rfl, b08⟩
theorem walk (a0 : Option Addr) (len0 cap0 : Nat) (z0 : List Int) (w : World) (w0 : IsRow .u8 w a0 len0 cap0 z0) :
    Calls Try.prog 14 #[.slice a0 len0 cap0] w fun e w' => e = .returned (.bool true) ∧ Below w.heap.size w w' := by
  by_cases hl : len0 ≤ 1048576
  · exact walkIn a0 len0 cap0 z0 w w0 hl
  · go_enter Try.func14, Try.ntmps14
    go_wp2_with fail
    refine (big_yes _ _ _ _ hl).mono ?_
    rintro e w' ⟨rfl, rfl⟩
    go_wp2
    go_ret
    exact ⟨rfl, Below.refl _ _⟩

set_option maxRecDepth 100000 in
theorem lifted (os : Os) (started : os.Started) (H : Type) (enc : TypeId × Value → H) :
    ReturnsInHanded {} Try.checked os 14 .any (Rows.fnBitsSpec.pre6 enc Try.prog Try.f14 Rows.fnBitsRow.domain false) (Rows.fnBitsSpec.post enc Try.prog Try.f14 false true false false) := by
  refine returnsInHanded_of_change (C := Try.checked) own started (by kernel_rfl) Try.func14
    (ChangeSpec.witness6 (enc := enc) (C := Try.checked) false ⟨#[], #[.slice none 0 0], []⟩ 8 (by kernel_rfl) (by kernel_rfl) (by kernel_rfl) (by kernel_rfl)) ?_
  intro W base args ds gs before hval0 hW hcnd _
  have hval : ∀ (j : Nat) t v, Try.f14.params[j]? = some t → args[j]? = some v → Value.okWide Try.prog W .any base t v := hval0
  have hW' := hW
  obtain ⟨p, q, hA0, hV, rfl, hfz, hnd⟩ := hW
  have hA : DataW.TrodAll enc Try.prog W 0 (fun _ => true) true Try.f14.params.toList args.toList ds p := hA0
  rw [Try.params14] at hA hval
  obtain ⟨v0, vs0, d0, ds0, p0, q0, hargs, rfl, rfl, h0, r0⟩ := trodAll_cons hA
  obtain ⟨rfl, rfl, rfl⟩ := trodAll_nil r0
  obtain rfl : args = #[v0] := by cases args; simp_all
  obtain ⟨rfl, rfl⟩ := trodVars_none hV
  obtain ⟨a0, len0, cap0, rfl⟩ := okWide_slice Try.underlying50 (hval 0 50 v0 rfl rfl)
  have k0 := h0
  have lt0 : ∀ x ∈ p0, x.block < W.heap.size := by obtain ⟨m, hm⟩ := k0; exact DataW.trod_lt m _ _ _ hm
  obtain ⟨z0, w0⟩ : ∃ zs, IsRow .u8 W a0 len0 cap0 zs := by
    obtain ⟨fuel, hf⟩ := h0
    rcases open_ints Try.underlying50 Try.underlying5 (by kernel_rfl) hf with ⟨hcs, _⟩ | ⟨x, l, c, zs, hcs, _, hl, hm, hz, _, hcell, hwz⟩
    · simp [Value.cells] at hcs
      obtain ⟨rfl, rfl, rfl⟩ := hcs
      exact ⟨[], .inl ⟨rfl, rfl, rfl, rfl⟩⟩
    · simp [Value.cells] at hcs
      obtain ⟨rfl, rfl, rfl⟩ := hcs
      exact ⟨zs, .inr ⟨_, rfl, hl, hm, by simpa using hz, hcell, hwz⟩⟩
  clear hA0 hval0
  refine (walk a0 len0 cap0 z0 W w0).mono fun e W' ⟨he, bel⟩ => ?_
  subst he
  simp only [List.append_nil] at hW'
  exact ⟨_, rfl, _, _, _, [], _, [], hW', trodAll_mk1 (shut_bool Try.underlying4 _), (trodAll_cons_mk (Below.trod laidOut (by kernel_rfl) (of_decide_eq_true (by kernel_rfl)) k0 bel lt0) trodAll_mk0), rfl, bel.frame _, fun h => by cases h⟩

theorem proved : Rows.FnBitsSaid :=
  OpenClaim.holds_of_wide 14 Try.f14 rfl rfl rfl rfl rfl rfl rfl ⟨rfl, rfl, rfl, rfl, rfl⟩ rfl rfl rfl rfl rfl (by kernel_rfl) Try.func14 (by kernel_rfl)
    (of_decide_eq_true (by kernel_rfl)) (by unfold Func.isWrapper; first | (rw [if_pos (by decide +kernel)]; kernel_rfl) | (rw [if_neg (by decide +kernel)]; exact ⟨rfl, rfl⟩))
    (fun os started H enc _ => lifted os started H enc)

end Go.Proofs.Yteojnjcoamcigaa.fnBits
