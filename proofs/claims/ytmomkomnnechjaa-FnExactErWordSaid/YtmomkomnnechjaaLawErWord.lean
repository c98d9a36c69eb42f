/-
  FnExactErWord: the program's ErWord returns what the reference's returns, for all arguments. No condition.
-/
import Derived.Test.YtmomkomnnechjaaIn
namespace Go.Proofs.Ytmomkomnnechjaa.fnExactErWord
open Go.ChangeShapes Go.WideShapes Go.ChangeAt Go.RowKit
open Go.ChangeMaps (open_string shut_string)
set_option linter.unusedVariables false

def erWords : List ByteArray := [ByteArray.mk #[110, 111, 110, 101], ByteArray.mk #[115, 104, 111, 114, 116], ByteArray.mk #[104, 101, 97, 100, 101, 114], ByteArray.mk #[108, 105, 109, 105, 116], ByteArray.mk #[99, 111, 100, 101], ByteArray.mk #[99, 111, 101, 102], ByteArray.mk #[116, 97, 105, 108]]
def erWord (n : Int) : ByteArray := erWords.getD n.toNat (ByteArray.mk #[])
theorem erWord_at (n : Int) (h0 : 0 ≤ n) (h1 : n ≤ 6) : ([.string (ByteArray.mk #[110, 111, 110, 101]), .string (ByteArray.mk #[115, 104, 111, 114, 116]), .string (ByteArray.mk #[104, 101, 97, 100, 101, 114]), .string (ByteArray.mk #[108, 105, 109, 105, 116]), .string (ByteArray.mk #[99, 111, 100, 101]), .string (ByteArray.mk #[99, 111, 101, 102]), .string (ByteArray.mk #[116, 97, 105, 108])] : List Value)[n.toNat]? = some (.string (erWord n)) := by
  obtain ⟨k, rfl⟩ := Int.eq_ofNat_of_zero_le h0
  match k, h1 with
  | 0, _ => rfl
  | 1, _ => rfl
  | 2, _ => rfl
  | 3, _ => rfl
  | 4, _ => rfl
  | 5, _ => rfl
  | 6, _ => rfl
  | k + 7, h => omega
theorem walkIn (n : Int) (w : World) (h0 : 0 ≤ n) (h1 : n ≤ 6) :
    Calls Try.prog 3 #[.int .i64 n] w fun e w' => e = .returned (.bool true) ∧ Below w.heap.size w w' := by
  have ht := erWord_at n h0 h1
  go_enter Try.func3, Try.ntmps3
  go_wp2
  go_ret
  exact ⟨rfl, by go_grown⟩
theorem walk (n : Int) (w : World) (hn : (Lit.int .i64 n).wf = true) :
    Calls Try.prog 3 #[.int .i64 n] w fun e w' => e = .returned (.bool true) ∧ Below w.heap.size w w' := by
  by_cases h : 0 ≤ n ∧ n ≤ 6
  · exact walkIn n w h.1 h.2
  · have h' : n < 0 ∨ 6 < n := by omega
    clear h
    go_enter Try.func3, Try.ntmps3
    go_wp2_with (first
      | (go_at_call 6; refine (sIn_no _ _ _ _ h').mono ?_; rintro e w' ⟨rfl, rfl⟩)
      | (go_at_call 7; refine (iIn_no _ _ _ _ h').mono ?_; rintro e w' ⟨rfl, rfl⟩)
      | go_in)
    go_ret
    exact ⟨rfl, by go_grown⟩

set_option maxRecDepth 100000 in
theorem lifted (os : Os) (started : os.Started) (H : Type) (enc : TypeId × Value → H) :
    ReturnsInHanded {} Try.checked os 3 .any (Rows.fnExactErWordSpec.pre6 enc Try.prog Try.f3 Rows.fnExactErWordRow.domain false) (Rows.fnExactErWordSpec.post enc Try.prog Try.f3 false true false false) := by
  refine returnsInHanded_of_change (C := Try.checked) own started (by kernel_rfl) Try.func3
    (ChangeSpec.witness6 (enc := enc) (C := Try.checked) false ⟨#[], #[.int .i64 0], []⟩ 8 (by kernel_rfl) (by kernel_rfl) (by kernel_rfl) (by kernel_rfl)) ?_
  intro W base args ds gs before hval0 hW hcnd _
  have hval : ∀ (j : Nat) t v, Try.f3.params[j]? = some t → args[j]? = some v → Value.okWide Try.prog W .any base t v := hval0
  have hW' := hW
  obtain ⟨p, q, hA0, hV, rfl, hfz, hnd⟩ := hW
  have hA : DataW.TrodAll enc Try.prog W 0 (fun _ => true) true Try.f3.params.toList args.toList ds p := hA0
  rw [Try.params3] at hA hval
  obtain ⟨v0, vs0, d0, ds0, p0, q0, hargs, rfl, rfl, h0, r0⟩ := trodAll_cons hA
  obtain ⟨rfl, rfl, rfl⟩ := trodAll_nil r0
  obtain rfl : args = #[v0] := by cases args; simp_all
  obtain ⟨rfl, rfl⟩ := trodVars_none hV
  obtain ⟨a0, rfl, rfl, rfl, w0⟩ := open_int Try.underlying3 (hval 0 3 v0 rfl rfl) h0
  clear hA0 hval0
  refine (walk a0 W w0).mono fun e W' ⟨he, bel⟩ => ?_
  subst he
  simp only [List.append_nil] at hW'
  exact ⟨_, rfl, _, _, _, [], _, [], hW', trodAll_mk1 (shut_bool Try.underlying4 _), (trodAll_cons_mk (shut_int Try.underlying3 w0) trodAll_mk0), rfl, bel.frame _, fun h => by cases h⟩

theorem proved : Rows.FnExactErWordSaid :=
  OpenClaim.holds_of_wide 3 Try.f3 rfl rfl rfl rfl rfl rfl rfl ⟨rfl, rfl, rfl, rfl, rfl⟩ rfl rfl rfl rfl rfl (by kernel_rfl) Try.func3 (by kernel_rfl)
    (of_decide_eq_true (by kernel_rfl)) (by unfold Func.isWrapper; first | (rw [if_pos (by decide +kernel)]; kernel_rfl) | (rw [if_neg (by decide +kernel)]; exact ⟨rfl, rfl⟩))
    (fun os started H enc _ => lifted os started H enc)

end Go.Proofs.Ytmomkomnnechjaa.fnExactErWord
