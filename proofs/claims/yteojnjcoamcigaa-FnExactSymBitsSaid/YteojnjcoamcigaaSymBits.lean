/-
  SymBits, the reference's and the program's: both return 'symBits'. No condition but at most 2^20 lengths.
-/
import Derived.Test.YteojnjcoamcigaaCodesOf
import Derived.Test.YteojnjcoamcigaaUeBits
import Derived.WalkSpells
namespace Go.Proofs.Yteojnjcoamcigaa
open Go.ChangeShapes Go.WideShapes Go.ChangeAt Go.RowKit
set_option linter.unusedVariables false
theorem inner_mem (zs : List Int) (d : Int) (st : Int × List Int) (hi : Int) (h : ∀ x ∈ st.2, -1 ≤ x ∧ x ≤ hi) (h0 : 0 ≤ st.1) : ∀ k : Nat, st.1 + (k : Int) ≤ hi → ∀ x ∈ (inner zs d k st).2, -1 ≤ x ∧ x ≤ hi
  | 0, _ => by rw [inner_zero]; exact h
  | k + 1, hk => by
    have ih := inner_mem zs d st hi h h0 k (by omega)
    have hb := inner_bd zs d st k
    rw [inner_succ]
    unfold inStep
    split
    · intro x hx
      rcases List.mem_or_eq_of_mem_set hx with hx | rfl
      · exact ih x hx
      · omega
    · exact ih
theorem outer_mem (zs : List Int) : ∀ j : Nat, j ≤ 7 → ∀ x ∈ (outer zs j).2, -1 ≤ x ∧ x ≤ 5000
  | 0, _ => by intro x hx; simp [outer] at hx; omega
  | j + 1, hj => by
    have ih := outer_mem zs j (by omega)
    have hb := outer_bd zs j (by omega)
    rw [outer]
    refine inner_mem zs _ ((outer zs j).1 * 2, (outer zs j).2) 5000 ih ?_ 6 ?_
    · show 0 ≤ (outer zs j).1 * 2; omega
    · show (outer zs j).1 * 2 + ((6 : Nat) : Int) ≤ 5000; omega
theorem getD_mem_i {l : List Int} {k : Nat} (h : k < l.length) : l.getD k 0 ∈ l := by
  rw [List.getD_eq_getElem?_getD, List.getElem?_eq_getElem h]; exact List.getElem_mem h
theorem codesOf_at (zs : List Int) (h : codeOk zs = true) (k : Nat) (hk : k < 6) : -1 ≤ (codesOf zs).getD k 0 ∧ (codesOf zs).getD k 0 ≤ 5000 := by
  have e : codesOf zs = (outer zs 7).2 := by unfold codesOf; rw [if_pos h]
  rw [e]
  exact outer_mem zs 7 (Nat.le_refl _) _ (getD_mem_i (by rw [outer_len]; exact hk))
theorem codeOk_at {zs : List Int} (h : codeOk zs = true) (k : Nat) (hk : k < 6) : 0 ≤ zs.getD k 0 ∧ zs.getD k 0 ≤ 7 := by
  have h6 := codeOk_len h
  unfold codeOk at h
  simp only [Bool.and_eq_true, List.all_eq_true] at h
  have := h.1 _ (getD_mem_i (l := zs) (k := k) (by omega))
  unfold okLen at this
  simpa using this
def symBits (zs : List Int) (m : Int) : List Int := if codeOk zs = true ∧ 0 ≤ m ∧ m ≤ 5 ∧ zs.getD m.toNat 0 ≠ 0 then bitsIn ((codesOf zs).getD m.toNat 0) (zs.getD m.toNat 0) else []
theorem symBits_len (zs : List Int) (m : Int) : (symBits zs m).length ≤ 1000000000 := by
  unfold symBits
  split
  · exact bitsIn_len _ _
  · simp
set_option maxRecDepth 100000 in
theorem sSymBits_no (A : Option Addr) (n c : Nat) (zs : List Int) (m : Int) (w : World) (h : RI w A n zs) (hn : n ≤ 1048576) (hok : codeOk zs = false) :
    Calls Try.prog 41 #[.slice A n c, .int .i64 m] w fun e w' => ∃ A' n' c', e = .returned (.slice A' n' c') ∧ OB w' w.heap.size w'.heap.size A' n' c' [] ∧ Below w.heap.size w w' := by
  have hC : Hid (∀ W, RI W A n zs → Calls Try.prog 15 #[.slice A n c] W fun e w' => e = .returned (.bool false) ∧ Below W.heap.size W w') := by
    intro W hW; have := sCodeOk A n c zs W hW hn; rw [hok] at this; exact this
  go_enter Try.func41, Try.ntmps41
  go_wp2_with (first
    | (go_at_call 15; refine (hC.out _ h).mono ?_; rintro e w1 ⟨rfl, b1⟩))
  go_ret
  exact ⟨_, _, _, rfl, (OB.made 0).mono b1.size (Nat.le_refl _), b1.alloc b1.size _⟩
set_option maxRecDepth 100000 in
theorem sSymBits_out (A : Option Addr) (n c : Nat) (zs : List Int) (m : Int) (w : World) (h : RI w A n zs) (hn : n ≤ 1048576) (hok : codeOk zs = true) (hm : m < 0 ∨ 5 < m) :
    Calls Try.prog 41 #[.slice A n c, .int .i64 m] w fun e w' => ∃ A' n' c', e = .returned (.slice A' n' c') ∧ OB w' w.heap.size w'.heap.size A' n' c' [] ∧ Below w.heap.size w w' := by
  have hC : Hid (∀ W, RI W A n zs → Calls Try.prog 15 #[.slice A n c] W fun e w' => e = .returned (.bool true) ∧ Below W.heap.size W w') := by
    intro W hW; have := sCodeOk A n c zs W hW hn; rw [hok] at this; exact this
  go_enter Try.func41, Try.ntmps41
  go_wp2_with (first
    | (go_at_call 15; refine (hC.out _ h).mono ?_; rintro e w1 ⟨rfl, b1⟩)
    | (go_at_call 48; refine (sIn_no _ _ _ _ hm).mono ?_; rintro e w' ⟨rfl, rfl⟩))
  go_ret
  exact ⟨_, _, _, rfl, (OB.made 0).mono b1.size (Nat.le_refl _), b1.alloc b1.size _⟩
set_option maxRecDepth 100000 in
theorem sSymBits_zero (A : Option Addr) (n c : Nat) (zs : List Int) (m : Nat) (w : World) (h : RI w A n zs) (hn : n ≤ 1048576) (hok : codeOk zs = true) (hm : m < 6) (hz : zs.getD m 0 = 0) :
    Calls Try.prog 41 #[.slice A n c, .int .i64 (m : Int)] w fun e w' => ∃ A' n' c', e = .returned (.slice A' n' c') ∧ OB w' w.heap.size w'.heap.size A' n' c' [] ∧ Below w.heap.size w w' := by
  have hC : Hid (∀ W, RI W A n zs → Calls Try.prog 15 #[.slice A n c] W fun e w' => e = .returned (.bool true) ∧ Below W.heap.size W w') := by
    intro W hW; have := sCodeOk A n c zs W hW hn; rw [hok] at this; exact this
  have hr : (0 : Int) ≤ (m : Int) ∧ (m : Int) ≤ 5 := by omega
  have h6 := codeOk_len hok
  have hlen := h.len
  obtain rfl : n = 6 := by omega
  have hm' : (m : Int) < 6 := by omega
  obtain ⟨b, off, rfl, hbl, hc⟩ := id h.at_ hm
  have hcm := hc m hm
  rw [hz] at hcm
  go_enter Try.func41, Try.ntmps41
  go_wp2_with (first
    | (go_at_call 15; refine (hC.out _ h).mono ?_; rintro e w1 ⟨rfl, b1⟩; have hcell := (b1.cell (p := ⟨b, off + m, none⟩) hbl).trans hcm)
    | (go_at_call 48; refine (sIn_yes _ _ _ _ hr).mono ?_; rintro e w' ⟨rfl, rfl⟩))
  go_ret
  exact ⟨_, _, _, rfl, (OB.made 0).mono b1.size (Nat.le_refl _), b1.alloc b1.size _⟩
set_option maxRecDepth 100000 in
theorem sSymBits_in (A : Option Addr) (n c : Nat) (zs : List Int) (m : Nat) (w : World) (h : RI w A n zs) (hn : n ≤ 1048576) (hok : codeOk zs = true) (hm : m < 6) (hz : ¬ zs.getD m 0 = 0) :
    Calls Try.prog 41 #[.slice A n c, .int .i64 (m : Int)] w fun e w' => ∃ A' n' c', e = .returned (.slice A' n' c') ∧ OB w' w.heap.size w'.heap.size A' n' c' (bitsIn ((codesOf zs).getD m 0) (zs.getD m 0)) ∧ Below w.heap.size w w' := by
  have hC : Hid (∀ W, RI W A n zs → Calls Try.prog 15 #[.slice A n c] W fun e w' => e = .returned (.bool true) ∧ Below W.heap.size W w') := by
    intro W hW; have := sCodeOk A n c zs W hW hn; rw [hok] at this; exact this
  have hr : (0 : Int) ≤ (m : Int) ∧ (m : Int) ≤ 5 := by omega
  have h6 := codeOk_len hok
  have hlen := h.len
  obtain rfl : n = 6 := by omega
  have hm' : (m : Int) < 6 := by omega
  have x1 := i64_wf ((codesOf zs).getD m 0) (by have := codesOf_at zs hok m hm; omega)
  have x2 := i64_wf (zs.getD m 0) (by have := codeOk_at hok m hm; omega)
  have hcl : (codesOf zs).length = 6 := by unfold codesOf; rw [if_pos hok]; exact outer_len zs 7
  obtain ⟨b, off, rfl, hbl, hc⟩ := id h.at_ hm
  have hcm := hc m hm
  have hz' : (zs.getD m 0 == 0) = false := by rw [beq_eq_false_iff_ne]; exact hz
  have hD : Hid (∀ W, Below w.heap.size w W → Calls Try.prog 37 #[.slice (some ⟨b, off, none⟩) 6 c] W fun e w' => ∃ g c', e = .returned (.slice (some ⟨g, 0, none⟩) 6 c') ∧ w'.cell? ⟨g, m, none⟩ = some (.int .i64 ((codesOf zs).getD m 0)) ∧ w'.cell? ⟨b, off + m, none⟩ = some (.int .i64 (zs.getD m 0)) ∧ Below w.heap.size w w') := by
    intro W hW
    refine (sCodesOf _ 6 c zs W (h.below hW) (by omega)).mono ?_
    rintro e w' ⟨A', n', c', rfl, o, b'⟩
    have hl := o.len
    obtain rfl : n' = 6 := by omega
    obtain ⟨g, rfl, _, _, _⟩ := o.form (by omega)
    have hb2 : Below w.heap.size w w' := hW.trans (b'.mono hW.size)
    obtain ⟨b2, off2, e2, _, hcc⟩ := o.read.at_ hm
    cases e2
    exact ⟨g, c', rfl, by have := hcc m hm; simpa using this, (hb2.cell (p := ⟨b, off + m, none⟩) hbl).trans hcm, hb2⟩
  obtain ⟨x, hx⟩ : ∃ x, x = zs.getD m 0 := ⟨_, rfl⟩
  obtain ⟨y, hy⟩ : ∃ y, y = (codesOf zs).getD m 0 := ⟨_, rfl⟩
  rw [← hx] at hcm hz' x2 hD ⊢
  rw [← hy] at x1 hD ⊢
  clear hx hy hz hc
  go_enter Try.func41, Try.ntmps41
  go_wp2_with (first
    | (go_at_call 15; refine (hC.out _ h).mono ?_; rintro e w1 ⟨rfl, b1⟩; have hcell := (b1.cell (p := ⟨b, off + m, none⟩) hbl).trans hcm)
    | (go_at_call 48; refine (sIn_yes _ _ _ _ hr).mono ?_; rintro e w' ⟨rfl, rfl⟩))
  clear hC hcm hok h
  go_region_with (first
    | (go_at_call 37; refine (hD.out _ b1.drew).mono ?_; rintro e w2 ⟨g, c', rfl, hg, hs, b2⟩)
    | (go_at_call 21; refine (sBitsIn _ _ _ x1 x2).mono ?_; rintro e w3 ⟨A3, n3, c3, rfl, o3, b3⟩))
  all_goals
    go_wp2
    go_ret
    exact ⟨A3, n3, c3, rfl, o3.mono b2.size (Nat.le_refl _), b2.trans (b3.mono b2.size)⟩
theorem sSymBits (A : Option Addr) (n c : Nat) (zs : List Int) (m : Int) (w : World) (h : RI w A n zs) (hn : n ≤ 1048576) :
    Calls Try.prog 41 #[.slice A n c, .int .i64 m] w fun e w' => ∃ A' n' c', e = .returned (.slice A' n' c') ∧ OB w' w.heap.size w'.heap.size A' n' c' (symBits zs m) ∧ Below w.heap.size w w' := by
  unfold symBits
  cases hok : codeOk zs with
  | false => rw [if_neg (by simp)]; exact sSymBits_no A n c zs m w h hn hok
  | true =>
    by_cases hm : 0 ≤ m ∧ m ≤ 5
    · obtain ⟨k, rfl⟩ := Int.eq_ofNat_of_zero_le hm.1
      by_cases hz : zs.getD k 0 = 0
      · rw [if_neg (fun hh => hh.2.2.2 (by simpa using hz))]; exact sSymBits_zero A n c zs k w h hn hok (by omega) hz
      · rw [if_pos ⟨rfl, hm.1, hm.2, by simpa using hz⟩]; exact sSymBits_in A n c zs k w h hn hok (by omega) hz
    · rw [if_neg (by omega)]; exact sSymBits_out A n c zs m w h hn hok (by omega)
set_option maxRecDepth 100000 in
theorem iSymBits_no (A : Option Addr) (n c : Nat) (zs : List Int) (m : Int) (w : World) (h : RI w A n zs) (hn : n ≤ 1048576) (hok : codeOk zs = false) :
    Calls Try.prog 42 #[.slice A n c, .int .i64 m] w fun e w' => ∃ A' n' c', e = .returned (.slice A' n' c') ∧ OB w' w.heap.size w'.heap.size A' n' c' [] ∧ Below w.heap.size w w' := by
  have hC := iCodesOf_no A n c zs w h hn hok
  have hnil := fun (u : World) a k k' => Lib.run_eql_slice_nil (P := Try.prog) u 22 3 a k k' 0 0 Try.underlying22
  go_enter Try.func42, Try.ntmps42
  go_wp2_with (first
    | (go_at_call 38; refine hC.mono ?_; rintro e w1 ⟨rfl, b1⟩))
  go_ret
  exact ⟨_, _, _, rfl, OB.nil_ _ _ _, b1⟩
set_option maxRecDepth 100000 in
theorem iSymBits_out (A : Option Addr) (n c : Nat) (zs : List Int) (m : Int) (w : World) (h : RI w A n zs) (hn : n ≤ 1048576) (hok : codeOk zs = true) (hm : m < 0 ∨ 5 < m) :
    Calls Try.prog 42 #[.slice A n c, .int .i64 m] w fun e w' => ∃ A' n' c', e = .returned (.slice A' n' c') ∧ OB w' w.heap.size w'.heap.size A' n' c' [] ∧ Below w.heap.size w w' := by
  have hC := iCodesOf_yes A n c zs w h hok
  have hnil := fun (u : World) a k k' => Lib.run_eql_slice_nil (P := Try.prog) u 22 3 a k k' 0 0 Try.underlying22
  go_enter Try.func42, Try.ntmps42
  go_wp2_with (first
    | (go_at_call 38; refine hC.mono ?_; rintro e w1 ⟨g, rfl, o1, b1⟩)
    | (go_at_call 49; refine (iIn_no _ _ _ _ hm).mono ?_; rintro e w' ⟨rfl, rfl⟩))
  go_ret
  exact ⟨_, _, _, rfl, OB.nil_ _ _ _, b1⟩
set_option maxRecDepth 100000 in
theorem iSymBits_zero (A : Option Addr) (n c : Nat) (zs : List Int) (m : Nat) (w : World) (h : RI w A n zs) (hn : n ≤ 1048576) (hok : codeOk zs = true) (hm : m < 6) (hz : zs.getD m 0 = 0) :
    Calls Try.prog 42 #[.slice A n c, .int .i64 (m : Int)] w fun e w' => ∃ A' n' c', e = .returned (.slice A' n' c') ∧ OB w' w.heap.size w'.heap.size A' n' c' [] ∧ Below w.heap.size w w' := by
  have hC := iCodesOf_yes A n c zs w h hok
  have hr : (0 : Int) ≤ (m : Int) ∧ (m : Int) ≤ 5 := by omega
  have h6 := codeOk_len hok
  have hlen := h.len
  obtain rfl : n = 6 := by omega
  have hm' : (m : Int) < 6 := by omega
  obtain ⟨b, off, rfl, hbl, hc⟩ := id h.at_ hm
  have hcm := hc m hm
  rw [hz] at hcm
  clear hc
  have hnil := fun (u : World) a k k' => Lib.run_eql_slice_nil (P := Try.prog) u 22 3 a k k' 0 0 Try.underlying22
  go_enter Try.func42, Try.ntmps42
  go_wp2_with (first
    | (go_at_call 38; refine hC.mono ?_; rintro e w1 ⟨g, rfl, o1, b1⟩; have hcell := (b1.cell (p := ⟨b, off + m, none⟩) hbl).trans hcm)
    | (go_at_call 49; refine (iIn_yes _ _ _ _ hr).mono ?_; rintro e w' ⟨rfl, rfl⟩))
  go_ret
  exact ⟨_, _, _, rfl, OB.nil_ _ _ _, b1⟩
set_option maxRecDepth 100000 in
theorem iSymBits_in (A : Option Addr) (n c : Nat) (zs : List Int) (m : Nat) (w : World) (h : RI w A n zs) (hn : n ≤ 1048576) (hok : codeOk zs = true) (hm : m < 6) (hz : ¬ zs.getD m 0 = 0) :
    Calls Try.prog 42 #[.slice A n c, .int .i64 (m : Int)] w fun e w' => ∃ A' n' c', e = .returned (.slice A' n' c') ∧ OB w' w.heap.size w'.heap.size A' n' c' (bitsIn ((codesOf zs).getD m 0) (zs.getD m 0)) ∧ Below w.heap.size w w' := by
  have hC := iCodesOf_yes A n c zs w h hok
  have hr : (0 : Int) ≤ (m : Int) ∧ (m : Int) ≤ 5 := by omega
  have h6 := codeOk_len hok
  have hlen := h.len
  obtain rfl : n = 6 := by omega
  have hm' : (m : Int) < 6 := by omega
  have x1 := i64_wf ((codesOf zs).getD m 0) (by have := codesOf_at zs hok m hm; omega)
  have x2 := i64_wf (zs.getD m 0) (by have := codeOk_at hok m hm; omega)
  obtain ⟨b, off, rfl, hbl, hc⟩ := id h.at_ hm
  have hcm := hc m hm
  have hz' : (zs.getD m 0 == 0) = false := by rw [beq_eq_false_iff_ne]; exact hz
  have hD : Calls Try.prog 38 #[.slice (some ⟨b, off, none⟩) 6 c] w fun e w' => ∃ g, e = .returned (.slice (some ⟨g, 0, none⟩) 6 6) ∧ w'.cell? ⟨g, m, none⟩ = some (.int .i64 ((codesOf zs).getD m 0)) ∧ w'.cell? ⟨b, off + m, none⟩ = some (.int .i64 (zs.getD m 0)) ∧ Below w.heap.size w w' := by
    refine hC.mono ?_
    rintro e w' ⟨g, rfl, o, b'⟩
    obtain ⟨b2, off2, e2, _, hcc⟩ := o.read.at_ hm
    cases e2
    exact ⟨g, rfl, by have := hcc m hm; simpa using this, (b'.cell (p := ⟨b, off + m, none⟩) hbl).trans hcm, b'⟩
  obtain ⟨x, hx⟩ : ∃ x, x = zs.getD m 0 := ⟨_, rfl⟩
  obtain ⟨y, hy⟩ : ∃ y, y = (codesOf zs).getD m 0 := ⟨_, rfl⟩
  rw [← hx] at hz' x2 hD ⊢
  rw [← hy] at x1 hD ⊢
  clear hx hy hz hc hcm hC
  have hnil := fun (u : World) a k k' => Lib.run_eql_slice_nil (P := Try.prog) u 22 3 a k k' 0 0 Try.underlying22
  go_enter Try.func42, Try.ntmps42
  go_wp2_with (first
    | (go_at_call 38; refine hD.mono ?_; rintro e w2 ⟨g, rfl, hg, hs, b2⟩)
    | (go_at_call 49; refine (iIn_yes _ _ _ _ hr).mono ?_; rintro e w' ⟨rfl, rfl⟩))
  clear hD hok h
  go_region_with (first
    | (go_at_call 22; refine (iBitsIn _ _ _ x1 x2).mono ?_; rintro e w3 ⟨A3, n3, c3, rfl, o3, b3⟩))
  all_goals
    go_wp2
    go_ret
    exact ⟨A3, n3, c3, rfl, o3.mono b2.size (Nat.le_refl _), b2.drew.trans (b3.mono b2.size)⟩
theorem iSymBits (A : Option Addr) (n c : Nat) (zs : List Int) (m : Int) (w : World) (h : RI w A n zs) (hn : n ≤ 1048576) :
    Calls Try.prog 42 #[.slice A n c, .int .i64 m] w fun e w' => ∃ A' n' c', e = .returned (.slice A' n' c') ∧ OB w' w.heap.size w'.heap.size A' n' c' (symBits zs m) ∧ Below w.heap.size w w' := by
  unfold symBits
  cases hok : codeOk zs with
  | false => rw [if_neg (by simp)]; exact iSymBits_no A n c zs m w h hn hok
  | true =>
    by_cases hm : 0 ≤ m ∧ m ≤ 5
    · obtain ⟨k, rfl⟩ := Int.eq_ofNat_of_zero_le hm.1
      by_cases hz : zs.getD k 0 = 0
      · rw [if_neg (fun hh => hh.2.2.2 (by simpa using hz))]; exact iSymBits_zero A n c zs k w h hn hok (by omega) hz
      · rw [if_pos ⟨rfl, hm.1, hm.2, by simpa using hz⟩]; exact iSymBits_in A n c zs k w h hn hok (by omega) hz
    · rw [if_neg (by omega)]; exact iSymBits_out A n c zs m w h hn hok (by omega)
end Go.Proofs.Yteojnjcoamcigaa
