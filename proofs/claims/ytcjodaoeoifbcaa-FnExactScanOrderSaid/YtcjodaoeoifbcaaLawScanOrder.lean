/-
  FnExactScanOrder: the program's ScanOrder returns what the reference's returns, for all arguments. No condition.
-/
import Derived.Test.YtcjodaoeoifbcaaScan
namespace Go.Proofs.Ytcjodaoeoifbcaa.fnExactScanOrder
open Go.ChangeShapes Go.WideShapes Go.ChangeAt Go.RowKit
open Go.ChangeMaps (open_string shut_string)
set_option linter.unusedVariables false

set_option maxRecDepth 100000 in
set_option maxHeartbeats 800000 in
theorem walkIn (a1 : Int) (w : World) (ha1 : (Lit.int .i64 a1).wf = true) :
    Calls Try.prog 4 #[.int .i64 a1] w fun e w' => e = .returned (.bool true) ∧ Below w.heap.size w w' := by
  go_enter Try.func4, Try.ntmps4
  go_wp2_with fail
  refine (sScanOrder a1 _ ha1).mono ?_
  rintro e W2 ⟨A2, n2, c2, rfl, o2, b2⟩
  have b12 : Below w.heap.size w W2 := b2
  go_wp2_with fail
  refine (iScanOrder a1 _ ha1).mono ?_
  rintro e W4 ⟨A4, n4, c4, rfl, o4, b4⟩
  obtain rfl : n4 = n2 := o4.len.symm.trans o2.len
  have hn : n4 ≤ 1000000000 := by rw [← o4.len]; exact (scan_le a1)
  have o2 := o2.below b4
  have b14 : Below w.heap.size w W4 := b12.trans (b4.mono b12.size)
  go_wp2_with fail
  refine (eqIntS_yes _ _ _ _ _ _ _ o4.read o2.read hn).mono ?_
  rintro e W5 ⟨rfl, b5⟩
  have o2 := o2.below b5
  have o4 := o4.below b5
  have b15 : Below w.heap.size w W5 := b14.trans (b5.mono b14.size)
  have hm0 : (0 : Int) ≤ 1 + (n4 : Int) := by omega
  go_wp2_with fail
  refine (markIntS_c _ _ _ _ _ 1 _ _ o4 hn (by omega) (by omega)).mono ?_
  rintro e W10 ⟨rfl, o10, y10⟩
  have o2 := o2.only y10 (Or.inl (Nat.le_refl _))
  have b110 : Below w.heap.size w W10 := below_only b15 y10 (b12.size) b15.size
  clear o4
  go_wp2_with fail
  refine (heldIntS_c _ _ _ 1 _ o10.read hn (by omega) (by omega)).mono ?_
  rintro e W10' ⟨rfl, rfl⟩
  go_wp2_with fail
  refine (iScanOrder a1 _ ha1).mono ?_
  rintro e W12 ⟨A12, n12, c12, rfl, o12, b12'⟩
  obtain rfl : n12 = n4 := o12.len.symm.trans o2.len
  have o2 := o2.below b12'
  have o10 := o10.below b12'
  have b112 : Below w.heap.size w W12 := b110.trans (b12'.mono b110.size)
  go_wp2_with fail
  refine (eqIntS_yes _ _ _ _ _ _ _ o12.read o2.read hn).mono ?_
  rintro e W13 ⟨rfl, b13⟩
  have o10 := o10.below b13
  have b113 : Below w.heap.size w W13 := b112.trans (b13.mono b112.size)
  go_wp2_with fail
  refine (heldIntS_c _ _ _ 1 _ o10.read hn (by omega) (by omega)).mono ?_
  rintro e W13' ⟨rfl, rfl⟩
  go_wp2
  go_ret
  exact ⟨rfl, b113⟩

theorem walk (a1 : Int) (w : World) (ha1 : (Lit.int .i64 a1).wf = true) :
    Calls Try.prog 4 #[.int .i64 a1] w fun e w' => e = .returned (.bool true) ∧ Below w.heap.size w w' := by
  exact walkIn a1 w ha1

set_option maxRecDepth 100000 in
theorem lifted (os : Os) (started : os.Started) (H : Type) (enc : TypeId × Value → H) :
    ReturnsInHanded {} Try.checked os 4 .any (Rows.fnExactScanOrderSpec.pre6 enc Try.prog Try.f4 Rows.fnExactScanOrderRow.domain false) (Rows.fnExactScanOrderSpec.post enc Try.prog Try.f4 false true false false) := by
  refine returnsInHanded_of_change (C := Try.checked) own started (by kernel_rfl) Try.func4
    (ChangeSpec.witness6 (enc := enc) (C := Try.checked) false ⟨#[], #[.int .i64 0], []⟩ 8 (by kernel_rfl) (by kernel_rfl) (by kernel_rfl) (by kernel_rfl)) ?_
  intro W base args ds gs before hval0 hW hcnd _
  have hval : ∀ (j : Nat) t v, Try.f4.params[j]? = some t → args[j]? = some v → Value.okWide Try.prog W .any base t v := hval0
  have hW' := hW
  obtain ⟨p, q, hA0, hV, rfl, hfz, hnd⟩ := hW
  have hA : DataW.TrodAll enc Try.prog W 0 (fun _ => true) true Try.f4.params.toList args.toList ds p := hA0
  rw [Try.params4] at hA hval
  obtain ⟨v0, vs0, d0, ds0, p0, q0, hargs, rfl, rfl, h0, r0⟩ := trodAll_cons hA
  obtain ⟨rfl, rfl, rfl⟩ := trodAll_nil r0
  obtain rfl : args = #[v0] := by cases args; simp_all
  obtain ⟨rfl, rfl⟩ := trodVars_none hV
  obtain ⟨a0, rfl, rfl, rfl, w0⟩ := open_int Try.underlying3 (hval 0 3 v0 rfl rfl) h0
  clear hA0 hval0
  refine (walk a0 W w0).mono fun e W' ⟨he, bel⟩ => ?_
  subst he
  simp only [List.append_nil] at hW'
  exact ⟨_, rfl, _, _, _, [], _, [], hW', trodAll_mk1 (shut_bool Try.underlying4 _), (trodAll_cons_mk (shut_int Try.underlying3 w0) trodAll_mk0), rfl, bel.frame _, fun h => by cases h⟩

theorem proved : Rows.FnExactScanOrderSaid :=
  OpenClaim.holds_of_wide 4 Try.f4 rfl rfl rfl rfl rfl rfl rfl ⟨rfl, rfl, rfl, rfl, rfl⟩ rfl rfl rfl rfl rfl (by kernel_rfl) Try.func4 (by kernel_rfl)
    (of_decide_eq_true (by kernel_rfl)) (by unfold Func.isWrapper; first | (rw [if_pos (by decide +kernel)]; kernel_rfl) | (rw [if_neg (by decide +kernel)]; exact ⟨rfl, rfl⟩))
    (fun os started H enc _ => lifted os started H enc)

end Go.Proofs.Ytcjodaoeoifbcaa.fnExactScanOrder
