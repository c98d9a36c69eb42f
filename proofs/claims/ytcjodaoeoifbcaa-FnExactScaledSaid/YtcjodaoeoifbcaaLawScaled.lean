/-
  FnExactScaled: the program's Scaled returns what the reference's returns, for all arguments. No condition.
-/
import Derived.Test.YtcjodaoeoifbcaaScaled
namespace Go.Proofs.Ytcjodaoeoifbcaa.fnExactScaled
open Go.ChangeShapes Go.WideShapes Go.ChangeAt Go.RowKit
open Go.ChangeMaps (open_string shut_string)
set_option linter.unusedVariables false

set_option maxRecDepth 100000 in
set_option maxHeartbeats 800000 in
theorem walkIn (a0 : Option Addr) (len0 cap0 : Nat) (z0 : List Int) (a1 : Int) (w : World) (w0 : IsRow .i64 w a0 len0 cap0 z0) (ha1 : (Lit.int .i64 a1).wf = true) (hl : len0 ≤ 1048576) :
    Calls Try.prog 10 #[.slice a0 len0 cap0, .int .i64 a1] w fun e w' => e = .returned (.bool true) ∧ Below w.heap.size w w' := by
  have hR := RI.ofIsRow w0
  obtain ⟨zl, hzl⟩ : ∃ zl, zl = z0.take len0 := ⟨_, rfl⟩
  rw [← hzl] at hR
  clear hzl w0
  go_enter Try.func10, Try.ntmps10
  go_wp2_with fail
  refine (toIntS_c _ _ _ zl _ hR hl).mono ?_
  rintro e W1 ⟨rfl, o1, b1⟩
  go_wp2_with fail
  refine (sScaled _ _ _ zl a1 _ o1.read hl ha1).mono ?_
  rintro e W2 ⟨A2, n2, c2, rfl, o2, b2⟩
  have b12 : Below w.heap.size w W2 := b1.trans (b2.mono b1.size)
  have hR2 := hR.below b12
  clear o1
  go_wp2_with fail
  refine (toIntS_c _ _ _ zl _ hR2 hl).mono ?_
  rintro e W3 ⟨rfl, o3, b3⟩
  have x23 : W2.heap.size < W3.heap.size := (o3.hi_le W2.heap.size rfl).2.2
  clear hR2
  have o2 := o2.below b3
  go_wp2_with fail
  refine (iScaled _ _ _ zl a1 _ o3.read hl ha1).mono ?_
  rintro e W4 ⟨A4, n4, c4, rfl, o4, b4⟩
  obtain rfl : n4 = n2 := o4.len.symm.trans o2.len
  have hn : n4 ≤ 1000000000 := by rw [← o4.len]; exact (scaled_len zl _ _ (by rw [hR.len]; omega))
  have o2 := o2.below b4
  have o3 := o3.below b4
  have b14 : Below w.heap.size w W4 := (b12.trans (b3.mono b12.size)).trans (b4.mono (Nat.le_trans b12.size b3.size))
  go_wp2_with fail
  refine (eqIntS_yes _ _ _ _ _ _ _ o4.read o2.read hn).mono ?_
  rintro e W5 ⟨rfl, b5⟩
  have o2 := o2.below b5
  have o4 := o4.below b5
  have b15 : Below w.heap.size w W5 := b14.trans (b5.mono b14.size)
  have o3 := o3.below b5
  have hR5 := hR.below b15
  go_wp2_with fail
  refine (toIntS_c _ _ _ zl _ hR5 hl).mono ?_
  rintro e W6 ⟨rfl, o6, b6⟩
  have o2 := o2.below b6
  have o3 := o3.below b6
  have o4 := o4.below b6
  have b16 : Below w.heap.size w W6 := b15.trans (b6.mono b15.size)
  go_wp2_with fail
  refine (eqIntS_yes _ _ _ _ _ _ _ o3.read o6.read (by omega)).mono ?_
  rintro e W7 ⟨rfl, b7⟩
  clear o6 hR5
  have o2 := o2.below b7
  have o3 := o3.below b7
  have o4 := o4.below b7
  have b17 : Below w.heap.size w W7 := b16.trans (b7.mono b16.size)
  go_wp2_with fail
  refine (markIntS_c _ _ _ _ _ 1 _ _ o3 (by omega) (by omega) (by omega)).mono ?_
  rintro e W8 ⟨rfl, o8, y8⟩
  have o2 := o2.only y8 (Or.inl (Nat.le_refl _))
  have o4 := o4.only y8 (Or.inr x23)
  have b18 : Below w.heap.size w W8 := below_only b17 y8 b12.size b17.size
  clear o3 o8
  have hk0 : (0 : Int) ≤ 1 + (len0 : Int) := by omega
  go_wp2_with fail
  refine (eqIntS_yes _ _ _ _ _ _ _ o4.read o2.read hn).mono ?_
  rintro e W9 ⟨rfl, b9⟩
  have o2 := o2.below b9
  have o4 := o4.below b9
  have b19 : Below w.heap.size w W9 := b18.trans (b9.mono b18.size)
  have hm0 : (0 : Int) ≤ 1 + (n4 : Int) := by omega
  go_wp2_with fail
  refine (markIntS_c _ _ _ _ _ 1 _ _ o4 hn (by omega) (by omega)).mono ?_
  rintro e W10 ⟨rfl, o10, y10⟩
  have o2 := o2.only y10 (Or.inl (Nat.le_of_lt x23))
  have b110 : Below w.heap.size w W10 := below_only b19 y10 (Nat.le_trans b12.size b3.size) b19.size
  clear o4
  go_wp2_with fail
  refine (heldIntS_c _ _ _ 1 _ o10.read hn (by omega) (by omega)).mono ?_
  rintro e W10' ⟨rfl, rfl⟩
  go_wp2_with fail
  have hR10 := hR.below b110
  refine (toIntS_c _ _ _ zl _ hR10 hl).mono ?_
  rintro e W11 ⟨rfl, o11, b11⟩
  have o2 := o2.below b11
  have o10 := o10.below b11
  have b111 : Below w.heap.size w W11 := b110.trans (b11.mono b110.size)
  go_wp2_with fail
  refine (iScaled _ _ _ zl a1 _ o11.read hl ha1).mono ?_
  rintro e W12 ⟨A12, n12, c12, rfl, o12, b12'⟩
  obtain rfl : n12 = n4 := o12.len.symm.trans o2.len
  have o2 := o2.below b12'
  have o10 := o10.below b12'
  have b112 : Below w.heap.size w W12 := b111.trans (b12'.mono b111.size)
  go_wp2_with fail
  refine (eqIntS_yes _ _ _ _ _ _ _ o12.read o2.read hn).mono ?_
  rintro e W13 ⟨rfl, b13⟩
  have o10 := o10.below b13
  have b113 : Below w.heap.size w W13 := b112.trans (b13.mono b112.size)
  go_wp2_with fail
  refine (heldIntS_c _ _ _ 1 _ o10.read hn (by omega) (by omega)).mono ?_
  rintro e W13' ⟨rfl, rfl⟩
  go_wp2
  go_ret
  exact ⟨rfl, b113⟩

theorem walk (a0 : Option Addr) (len0 cap0 : Nat) (z0 : List Int) (a1 : Int) (w : World) (w0 : IsRow .i64 w a0 len0 cap0 z0) (ha1 : (Lit.int .i64 a1).wf = true) :
    Calls Try.prog 10 #[.slice a0 len0 cap0, .int .i64 a1] w fun e w' => e = .returned (.bool true) ∧ Below w.heap.size w w' := by
  by_cases hl : len0 ≤ 1048576
  · exact walkIn a0 len0 cap0 z0 a1 w w0 ha1 hl
  · have hlt : (1048576 : Int) < (len0 : Int) := by omega
    go_enter Try.func10, Try.ntmps10
    go_wp2
    go_ret
    exact ⟨rfl, Below.refl _ _⟩

set_option maxRecDepth 100000 in
theorem lifted (os : Os) (started : os.Started) (H : Type) (enc : TypeId × Value → H) :
    ReturnsInHanded {} Try.checked os 10 .any (Rows.fnExactScaledSpec.pre6 enc Try.prog Try.f10 Rows.fnExactScaledRow.domain false) (Rows.fnExactScaledSpec.post enc Try.prog Try.f10 false true false false) := by
  refine returnsInHanded_of_change (C := Try.checked) own started (by kernel_rfl) Try.func10
    (ChangeSpec.witness6 (enc := enc) (C := Try.checked) false ⟨#[], #[.slice none 0 0, .int .i64 0], []⟩ 8 (by kernel_rfl) (by kernel_rfl) (by kernel_rfl) (by kernel_rfl)) ?_
  intro W base args ds gs before hval0 hW hcnd _
  have hval : ∀ (j : Nat) t v, Try.f10.params[j]? = some t → args[j]? = some v → Value.okWide Try.prog W .any base t v := hval0
  have hW' := hW
  obtain ⟨p, q, hA0, hV, rfl, hfz, hnd⟩ := hW
  have hA : DataW.TrodAll enc Try.prog W 0 (fun _ => true) true Try.f10.params.toList args.toList ds p := hA0
  rw [Try.params10] at hA hval
  obtain ⟨v0, vs0, d0, ds0, p0, q0, hargs, rfl, rfl, h0, r0⟩ := trodAll_cons hA
  obtain ⟨v1, vs1, d1, ds1, p1, q1, rfl, rfl, rfl, h1, r1⟩ := trodAll_cons r0
  obtain ⟨rfl, rfl, rfl⟩ := trodAll_nil r1
  obtain rfl : args = #[v0, v1] := by cases args; simp_all
  obtain ⟨rfl, rfl⟩ := trodVars_none hV
  obtain ⟨a0, len0, cap0, rfl⟩ := okWide_slice Try.underlying22 (hval 0 22 v0 rfl rfl)
  have k0 := h0
  have lt0 : ∀ x ∈ p0, x.block < W.heap.size := by obtain ⟨m, hm⟩ := k0; exact DataW.trod_lt m _ _ _ hm
  obtain ⟨z0, w0⟩ : ∃ zs, IsRow .i64 W a0 len0 cap0 zs := by
    obtain ⟨fuel, hf⟩ := h0
    rcases open_ints Try.underlying22 Try.underlying3 (by kernel_rfl) hf with ⟨hcs, _⟩ | ⟨x, l, c, zs, hcs, _, hl, hm, hz, _, hcell, hwz⟩
    · simp [Value.cells] at hcs
      obtain ⟨rfl, rfl, rfl⟩ := hcs
      exact ⟨[], .inl ⟨rfl, rfl, rfl, rfl⟩⟩
    · simp [Value.cells] at hcs
      obtain ⟨rfl, rfl, rfl⟩ := hcs
      exact ⟨zs, .inr ⟨_, rfl, hl, hm, by simpa using hz, hcell, hwz⟩⟩
  obtain ⟨a1, rfl, rfl, rfl, w1⟩ := open_int Try.underlying3 (hval 1 3 v1 rfl rfl) h1
  clear hA0 hval0
  refine (walk a0 len0 cap0 z0 a1 W w0 w1).mono fun e W' ⟨he, bel⟩ => ?_
  subst he
  simp only [List.append_nil] at hW'
  exact ⟨_, rfl, _, _, _, [], _, [], hW', trodAll_mk1 (shut_bool Try.underlying4 _), (trodAll_cons_mk (Below.trod laidOut (by kernel_rfl) (of_decide_eq_true (by kernel_rfl)) k0 bel lt0) (trodAll_cons_mk (shut_int Try.underlying3 w1) trodAll_mk0)), rfl, bel.frame _, fun h => by cases h⟩

theorem proved : Rows.FnExactScaledSaid :=
  OpenClaim.holds_of_wide 10 Try.f10 rfl rfl rfl rfl rfl rfl rfl ⟨rfl, rfl, rfl, rfl, rfl⟩ rfl rfl rfl rfl rfl (by kernel_rfl) Try.func10 (by kernel_rfl)
    (of_decide_eq_true (by kernel_rfl)) (by unfold Func.isWrapper; first | (rw [if_pos (by decide +kernel)]; kernel_rfl) | (rw [if_neg (by decide +kernel)]; exact ⟨rfl, rfl⟩))
    (fun os started H enc _ => lifted os started H enc)

end Go.Proofs.Ytcjodaoeoifbcaa.fnExactScaled
