/-
  FnRuns: levels can be restored from their run-length pairs. No condition.
-/
import Derived.Test.YtcjodaoeoifbcaaPairsOf
import Derived.Test.YtcjodaoeoifbcaaRunsLaw
import Derived.Test.YtcjodaoeoifbcaaDrawRuns
import Derived.Test.YtcjodaoeoifbcaaLawHelp
namespace Go.Proofs.Ytcjodaoeoifbcaa.fnRuns
open Go.ChangeShapes Go.WideShapes Go.ChangeAt Go.RowKit
set_option linter.unusedVariables false
set_option maxRecDepth 100000 in
set_option maxHeartbeats 4000000 in
theorem walkIn (a0 : Option Addr) (len0 cap0 : Nat) (z0 : List Int) (w : World) (w0 : IsRow .u8 w a0 len0 cap0 z0) (hl : len0 ≤ 1048576) :
    Calls Try.prog 13 #[.slice a0 len0 cap0] w fun e w' => e = .returned (.bool true) ∧ Below w.heap.size w w' := by
  have HRU := Lib.hid (RU.ofIsRow w0)
  clear w0
  go_enter Try.func13, Try.ntmps13
  go_wp2_with fail
  refine (big_no _ _ _ _ hl).mono ?_
  rintro e w' ⟨rfl, rfl⟩
  go_wp2_with fail
  refine (xDrawPairsOf _ _ _ _ _ HRU.out hl).mono ?_
  rintro e W1 ⟨A1, n1, c1, l, rfl, o1, hs1, b01⟩
  have hl1 := o1.len
  have hn1 : n1 ≤ 64 := by unfold SqLen at hs1; omega
  clear hs1
  go_wp2_with fail
  refine (iPairsOf _ _ _ l _ o1.read (by omega)).mono ?_
  rintro e W2 ⟨A2, m, c2, rfl, p2, b2⟩
  have o1 := o1.below b2
  have b02 := b01.trans (b2.mono b01.size)
  have hpl := p2.len
  have hm : m ≤ 64 := by have e1 := pairsF_half l; omega
  clear b01 b2
  go_wp2_with fail
  refine (iLevelsFrom _ m _ (pairsF l) _ _ p2.read (by omega)).mono ?_
  rintro e W3 ⟨A3, n3, c3, rfl, o3, b3⟩
  have o1 := o1.below b3
  have b03 := b02.trans (b3.mono b02.size)
  clear b02 b3 p2
  obtain ⟨q, hq⟩ : ∃ q, q = levelsOk l := ⟨_, rfl⟩
  have HI := Lib.hid (fun W hW => iLevelsOk A1 n1 c1 l W hW (by omega))
  have HS := Lib.hid (fun W hW => sLevelsOk A1 n1 c1 l W hW (by omega))
  rw [← hq] at HI HS
  cases q
  · -- no levels
    obtain rfl := runs_none l m hq.symm hpl
    clear hq hpl
    go_wp2_with fail
    refine (HI.out _ o1.read).mono ?_
    rintro e W4 ⟨rfl, b4⟩
    have o1 := o1.below b4
    have b04 := b03.trans (b4.mono b03.size)
    clear b03 b4
    go_wp2_with fail
    refine (HS.out _ o1.read).mono ?_
    rintro e W5 ⟨rfl, b5⟩
    have o1 := o1.below b5
    have b05 := b04.trans (b5.mono b04.size)
    clear b04 b5
    go_wp2_with fail
    refine (HS.out _ o1.read).mono ?_
    rintro e W6 ⟨rfl, b6⟩
    have b06 := b05.trans (b6.mono b05.size)
    clear b05 b6 o1 o3
    go_wp2
    go_ret
    exact ⟨rfl, b06⟩
  · have hbk := runs_back l m hq.symm hpl
    rw [hl1] at hbk
    rw [hbk] at o3 ⊢
    obtain rfl : n3 = n1 := by have := o3.len; simp only [lvL] at this; omega
    have o3 : OB W3 _ _ A3 n3 c3 l := o3
    clear hq hpl hbk
    go_wp2_with fail
    refine (HI.out _ o1.read).mono ?_
    rintro e W4 ⟨rfl, b4⟩
    have o1 := o1.below b4
    have o3 := o3.below b4
    have b04 := b03.trans (b4.mono b03.size)
    clear b03 b4
    go_wp2_with fail
    refine (HS.out _ o1.read).mono ?_
    rintro e W5 ⟨rfl, b5⟩
    have o1 := o1.below b5
    have o3 := o3.below b5
    have b05 := b04.trans (b5.mono b04.size)
    clear b04 b5
    go_wp2_with fail
    refine (HS.out _ o1.read).mono ?_
    rintro e W6 ⟨rfl, b6⟩
    have o1 := o1.below b6
    have o3 := o3.below b6
    have b06 := b05.trans (b6.mono b05.size)
    have hru := HRU.out.below b06
    clear b05 b6
    go_wp2_with fail
    refine (xDrawLevelsFrom _ _ _ _ _ hru hl).mono ?_
    rintro e W7 ⟨A7, m7, c7, ps, n7, rfl, p7, hm7, b7⟩
    have o1 := o1.below b7
    have o3 := o3.below b7
    have b07 := b06.trans (b7.mono b06.size)
    clear b06 b7 hru
    obtain ⟨R, hR⟩ : ∃ R, R = lvRes ps m7 n7 := ⟨_, rfl⟩
    have HF := Lib.hid (fun W hW => iLevelsFrom A7 m7 c7 ps n7 W hW (by omega))
    have HG := Lib.hid (fun W hW => sLevelsFrom A7 m7 c7 ps n7 W hW (by omega))
    have hll := lvL_len ps m7 n7
    rw [← hR] at HF HG hll
    have HR := Lib.hid hR
    clear hR
    go_wp2_with fail
    refine (HF.out _ p7.read).mono ?_
    rintro e W8 ⟨A8, n8, c8, rfl, o8, b8⟩
    have o1 := o1.below b8
    have o3 := o3.below b8
    have p7 := p7.below b8
    have b08 := b07.trans (b8.mono b07.size)
    clear b07 b8
    go_wp2_with fail
    refine (HG.out _ p7.read).mono ?_
    rintro e W9 ⟨A9, n9, c9, rfl, o9, b9⟩
    have o1 := o1.below b9
    have o3 := o3.below b9
    have o8 := o8.below b9
    have b09 := b08.trans (b9.mono b08.size)
    clear b08 b9 p7
    have hl8 := o8.len
    obtain rfl : n9 = n8 := o9.len.symm.trans o8.len
    have hn9 : n9 ≤ 1000000000 := by omega
    cases R with
    | none =>
      clear HR hll hl8
      go_wp2_with fail
      refine (sameInts_yes _ _ _ _ _ l _ o3.read o1.read (by omega)).mono ?_
      rintro e W10 ⟨rfl, b10⟩
      have o8 := o8.below b10
      have o9 := o9.below b10
      have b010 := b09.trans (b10.mono b09.size)
      clear b09 b10 o1 o3
      go_wp2_with fail
      refine (sameInts_yes _ _ _ _ _ _ _ o8.read o9.read hn9).mono ?_
      rintro e W11 ⟨rfl, b11⟩
      have b011 := b010.trans (b11.mono b010.size)
      clear b010 b11 o8 o9
      go_wp2
      go_ret
      exact ⟨rfl, b011⟩
    | some v =>
      have o8 : OB W9 _ _ A8 n9 c8 v := o8
      have o9 : OB W9 _ _ A9 n9 c9 v := o9
      have hv64 := lvRes_len ps v m7 n7 HR.out.symm
      have hn64 : n9 ≤ 64 := by have := o8.len; omega
      have HL : Hid (∀ k : Nat, (pairsF v).length = k * 2 → k = m7) := fun k hk => runs_len ps v m7 k n7 HR.out.symm hk
      clear HR hll hl8 hv64
      go_wp2_with fail
      refine (sameInts_yes _ _ _ _ _ l _ o3.read o1.read (by omega)).mono ?_
      rintro e W10 ⟨rfl, b10⟩
      have o8 := o8.below b10
      have o9 := o9.below b10
      have b010 := b09.trans (b10.mono b09.size)
      clear b09 b10 o1 o3
      go_wp2_with fail
      refine (sameInts_yes _ _ _ _ _ v _ o8.read o9.read hn9).mono ?_
      rintro e W11 ⟨rfl, b11⟩
      have o8 := o8.below b11
      have b011 := b010.trans (b11.mono b010.size)
      clear b010 b11 o9
      go_wp2_with fail
      refine (iPairsOf _ _ _ v _ o8.read (by omega)).mono ?_
      rintro e W12 ⟨A12, k, c12, rfl, p12, b12⟩
      have b012 := b011.trans (b12.mono b011.size)
      obtain rfl := HL.out k p12.len
      clear b011 b12 o8 p12
      go_wp2
      go_ret
      exact ⟨rfl, b012⟩
theorem walk (a0 : Option Addr) (len0 cap0 : Nat) (z0 : List Int) (w : World) (w0 : IsRow .u8 w a0 len0 cap0 z0) :
    Calls Try.prog 13 #[.slice a0 len0 cap0] w fun e w' => e = .returned (.bool true) ∧ Below w.heap.size w w' := by
  by_cases hl : len0 ≤ 1048576
  · exact walkIn a0 len0 cap0 z0 w w0 hl
  · go_enter Try.func13, Try.ntmps13
    go_wp2_with fail
    refine (big_yes _ _ _ _ hl).mono ?_
    rintro e w' ⟨rfl, rfl⟩
    go_wp2
    go_ret
    exact ⟨rfl, Below.refl _ _⟩

set_option maxRecDepth 100000 in
theorem lifted (os : Os) (started : os.Started) (H : Type) (enc : TypeId × Value → H) :
    ReturnsInHanded {} Try.checked os 13 .any (Rows.fnRunsSpec.pre6 enc Try.prog Try.f13 Rows.fnRunsRow.domain false) (Rows.fnRunsSpec.post enc Try.prog Try.f13 false true false false) := by
  refine returnsInHanded_of_change (C := Try.checked) own started (by kernel_rfl) Try.func13
    (ChangeSpec.witness6 (enc := enc) (C := Try.checked) false ⟨#[], #[.slice none 0 0], []⟩ 8 (by kernel_rfl) (by kernel_rfl) (by kernel_rfl) (by kernel_rfl)) ?_
  intro W base args ds gs before hval0 hW hcnd _
  have hval : ∀ (j : Nat) t v, Try.f13.params[j]? = some t → args[j]? = some v → Value.okWide Try.prog W .any base t v := hval0
  have hW' := hW
  obtain ⟨p, q, hA0, hV, rfl, hfz, hnd⟩ := hW
  have hA : DataW.TrodAll enc Try.prog W 0 (fun _ => true) true Try.f13.params.toList args.toList ds p := hA0
  rw [Try.params13] at hA hval
  obtain ⟨v0, vs0, d0, ds0, p0, q0, hargs, rfl, rfl, h0, r0⟩ := trodAll_cons hA
  obtain ⟨rfl, rfl, rfl⟩ := trodAll_nil r0
  obtain rfl : args = #[v0] := by cases args; simp_all
  obtain ⟨rfl, rfl⟩ := trodVars_none hV
  obtain ⟨a0, len0, cap0, rfl⟩ := okWide_slice Try.underlying41 (hval 0 41 v0 rfl rfl)
  have k0 := h0
  have lt0 : ∀ x ∈ p0, x.block < W.heap.size := by obtain ⟨m, hm⟩ := k0; exact DataW.trod_lt m _ _ _ hm
  obtain ⟨z0, w0⟩ : ∃ zs, IsRow .u8 W a0 len0 cap0 zs := by
    obtain ⟨fuel, hf⟩ := h0
    rcases open_ints Try.underlying41 Try.underlying5 (by kernel_rfl) hf with ⟨hcs, _⟩ | ⟨x, l, c, zs, hcs, _, hl, hm, hz, _, hcell, hwz⟩
    · simp [Value.cells] at hcs
      obtain ⟨rfl, rfl, rfl⟩ := hcs
      exact ⟨[], .inl ⟨rfl, rfl, rfl, rfl⟩⟩
    · simp [Value.cells] at hcs
      obtain ⟨rfl, rfl, rfl⟩ := hcs
      exact ⟨zs, .inr ⟨_, rfl, hl, hm, by simpa using hz, hcell, hwz⟩⟩
  clear hA0 hval0
  refine (walk a0 len0 cap0 z0 W w0).mono fun e W' ⟨he, bel⟩ => ?_
  subst he
  simp only [List.append_nil] at hW'
  exact ⟨_, rfl, _, _, _, [], _, [], hW', trodAll_mk1 (shut_bool Try.underlying4 _), (trodAll_cons_mk (Below.trod laidOut (by kernel_rfl) (of_decide_eq_true (by kernel_rfl)) k0 bel lt0) trodAll_mk0), rfl, bel.frame _, fun h => by cases h⟩

theorem proved : Rows.FnRunsSaid :=
  OpenClaim.holds_of_wide 13 Try.f13 rfl rfl rfl rfl rfl rfl rfl ⟨rfl, rfl, rfl, rfl, rfl⟩ rfl rfl rfl rfl rfl (by kernel_rfl) Try.func13 (by kernel_rfl)
    (of_decide_eq_true (by kernel_rfl)) (by unfold Func.isWrapper; first | (rw [if_pos (by decide +kernel)]; kernel_rfl) | (rw [if_neg (by decide +kernel)]; exact ⟨rfl, rfl⟩))
    (fun os started H enc _ => lifted os started H enc)

end Go.Proofs.Ytcjodaoeoifbcaa.fnRuns
