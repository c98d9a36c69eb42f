/-
  CodeOk, the reference's and the program's: both return 'codeOk' of the lengths. No condition but at most 2^20 of them.
-/
import Derived.Test.YteojnjcoamcigaaInts
namespace Go.Proofs.Yteojnjcoamcigaa
open Go.ChangeShapes Go.WideShapes Go.ChangeAt Go.RowKit
set_option linter.unusedVariables false
theorem take_snoc_i (zs : List Int) (k : Nat) (h : k < zs.length) : zs.take (k + 1) = zs.take k ++ [zs.getD k 0] := by
  rw [List.take_succ_eq_append_getElem h, List.getD_eq_getElem?_getD, List.getElem?_eq_getElem h]; rfl
/-- What a code length weighs. -/
def wt (x : Int) : Int := if 0 < x then 2 ^ (7 - x).toNat else 0
def kraft (l : List Int) : Int := l.foldl (fun a x => a + wt x) 0
theorem kraft_snoc (l : List Int) (x : Int) : kraft (l ++ [x]) = kraft l + wt x := by unfold kraft; rw [List.foldl_append]; rfl
def okLen (x : Int) : Bool := decide (0 ≤ x) && decide (x ≤ 7)
theorem wt_bd (x : Int) (h0 : 0 ≤ x) (h7 : x ≤ 7) : 0 ≤ wt x ∧ wt x ≤ 128 := by
  obtain ⟨n, rfl⟩ := Int.eq_ofNat_of_zero_le h0
  have : ∀ m : Fin 8, 0 ≤ wt m.val ∧ wt m.val ≤ 128 := by decide
  exact this ⟨n, by omega⟩
theorem kraft_bd (l : List Int) (h : ∀ x ∈ l, okLen x = true) : 0 ≤ kraft l ∧ kraft l ≤ 128 * l.length := by
  have H : ∀ (l : List Int) (a : Int), (∀ x ∈ l, okLen x = true) → a ≤ l.foldl (fun a x => a + wt x) a ∧ l.foldl (fun a x => a + wt x) a ≤ a + 128 * l.length := by
    intro l
    induction l with
    | nil => intro a _; simp
    | cons x l ih =>
      intro a h
      have hx := h x (by simp)
      simp only [okLen, Bool.and_eq_true, decide_eq_true_eq] at hx
      have h2 := wt_bd x hx.1 hx.2
      have h3 := ih (a + wt x) (fun y hy => h y (by simp [hy]))
      rw [List.foldl_cons, List.length_cons]
      omega
  have := H l 0 h
  unfold kraft
  omega
/-- The code lengths are valid. -/
def codeOk (l : List Int) : Bool := l.all okLen && (decide (l.length = 6) && decide (kraft l = 128))
def OkTo (zs : List Int) (k : Nat) : Prop := ∀ x ∈ zs.take k, okLen x = true
theorem OkTo.succ {zs : List Int} {k : Nat} (h : OkTo zs k) (hk : k < zs.length) (hx : okLen (zs.getD k 0) = true) : OkTo zs (k + 1) := by
  intro x hm
  rw [take_snoc_i zs k hk] at hm
  rcases List.mem_append.1 hm with hm | hm
  · exact h x hm
  · simp at hm; subst hm; simpa using hx
theorem codeOk_bad {zs : List Int} {k : Nat} (hk : k < zs.length) (hx : okLen (zs.getD k 0) = false) : codeOk zs = false := by
  unfold codeOk
  have : zs.all okLen = false := by
    rw [List.all_eq_false]
    refine ⟨zs.getD k 0, ?_, by rw [hx]; decide⟩
    rw [List.getD_eq_getElem?_getD, List.getElem?_eq_getElem hk]
    exact List.getElem_mem hk
  rw [this]; rfl
theorem codeOk_end {zs : List Int} (h : OkTo zs zs.length) : codeOk zs = (decide (zs.length = 6) && decide (kraft zs = 128)) := by
  unfold codeOk
  have : zs.all okLen = true := by
    rw [List.all_eq_true]
    intro x hx
    exact h x (by rw [List.take_length]; exact hx)
  rw [this]; rfl
theorem pow_wt (x : Int) (h0 : 0 < x) (h7 : x ≤ 7) : (2 : Int) ^ (7 - x).toNat = wt x := by unfold wt; rw [if_pos h0]
theorem wt_zero (x : Int) (h : ¬ 0 < x) : wt x = 0 := by unfold wt; rw [if_neg h]

set_option maxRecDepth 100000 in
theorem sCodeOk (A : Option Addr) (n c : Nat) (zs : List Int) (w : World) (h : RI w A n zs) (hn : n ≤ 1048576) :
    Calls Try.prog 15 #[.slice A n c] w fun e w' => e = .returned (.bool (codeOk zs)) ∧ Below w.heap.size w w' := by
  go_enter Try.func15, Try.ntmps15
  go_wp2
  go_loop [3, 4] (fun a i => ∃ k : Nat, k ≤ n ∧ i = .int .i64 k ∧ a = .int .i64 (kraft (zs.take k)) ∧ OkTo zs k) (fun _ i => n - (intOf i).toNat)
  case atStart => exact ⟨0, Nat.zero_le _, rfl, rfl, fun x hx => by simp at hx⟩
  case round =>
    obtain ⟨k, hk, rfl, rfl, hok⟩ := hrel
    have hlen := h.len
    have hkb := kraft_bd _ hok
    rw [List.length_take] at hkb
    by_cases hlt : k < n
    · obtain ⟨b, off, rfl, hbl, hc⟩ := h.at_ hlt
      have h1 := hc k hlt
      have hT := Lib.hid (take_snoc_i zs k (by omega))
      obtain ⟨x, hx⟩ : ∃ x, x = zs.getD k 0 := ⟨_, rfl⟩
      have hbad := fun hb => codeOk_bad (zs := zs) (k := k) (by omega) hb
      have hgood := fun hb => OkTo.succ hok (by omega) hb
      rw [← hx] at h1 hT hbad hgood
      have hz0 : 0 ≤ kraft (zs.take k) := hkb.1
      have hz1 : kraft (zs.take k) ≤ 134217728 := by have := hkb.2; omega
      clear hx hc h hkb
      by_cases hr : 0 ≤ x ∧ x ≤ 7
      · have hG := Lib.hid (hgood (by simp [okLen, hr.1, hr.2]))
        have hw := wt_bd x hr.1 hr.2
        clear hbad hgood hok hlen
        by_cases hp : 0 < x
        · have hpw := pow_wt x hp hr.2
          go_wp2_with (first
            | (go_at_call 48; refine (sIn_yes _ _ _ _ hr).mono ?_; rintro e w' ⟨rfl, rfl⟩))
          go_round
          case rel => exact ⟨k + 1, by omega, by go_num, by rw [hT.out, kraft_snoc], hG.out⟩
          case measure => simp [intOf]; omega
        · have hpw := Lib.hid (wt_zero x hp)
          go_wp2_with (first
            | (go_at_call 48; refine (sIn_yes _ _ _ _ hr).mono ?_; rintro e w' ⟨rfl, rfl⟩))
          go_round
          case rel => exact ⟨k + 1, by omega, by go_num, by rw [hT.out, kraft_snoc, hpw.out]; go_num, hG.out⟩
          case measure => simp [intOf]; omega
      · have hB := Lib.hid (hbad (by simp [okLen]; omega))
        have hr' : x < 0 ∨ 7 < x := by omega
        clear hbad hgood hok hr hlen
        go_wp2_with (first
          | (go_at_call 48; refine (sIn_no _ _ _ _ hr').mono ?_; rintro e w' ⟨rfl, rfl⟩))
        go_ret
        exact ⟨by rw [hB.out]; rfl, Below.refl _ _⟩
    · have hke : k = n := by omega
      subst hke
      have hE := codeOk_end (zs := zs) (by rw [hlen]; exact hok)
      rw [List.take_of_length_le (by omega)]
      clear hok hkb
      by_cases h6 : k = 6
      · subst h6
        have hE' := Lib.hid hE
        clear hE
        by_cases h128 : kraft zs = 128
        · go_wp2
          go_ret
          exact ⟨by rw [hE'.out, hlen, h128]; rfl, Below.refl _ _⟩
        · have h129 : (kraft zs == 128) = false := by simpa using h128
          go_wp2
          go_ret
          exact ⟨by rw [hE'.out]; simp [h128], Below.refl _ _⟩
      · have h7 : ((k : Int) == 6) = false := by simp; omega
        have hE' := Lib.hid hE
        clear hE
        go_wp2
        go_ret
        exact ⟨by rw [hE'.out, hlen]; simp [h6], Below.refl _ _⟩
set_option maxRecDepth 100000 in
theorem iCodeOk (A : Option Addr) (n c : Nat) (zs : List Int) (w : World) (h : RI w A n zs) (hn : n ≤ 1048576) :
    Calls Try.prog 17 #[.slice A n c] w fun e w' => e = .returned (.bool (codeOk zs)) ∧ Below w.heap.size w w' := by
  go_enter Try.func17, Try.ntmps17
  go_wp2
  go_loop [3, 8] (fun a i => ∃ k : Nat, k ≤ n ∧ i = .int .i64 k ∧ a = .int .i64 (kraft (zs.take k)) ∧ OkTo zs k) (fun _ i => n - (intOf i).toNat)
  case atStart => exact ⟨0, Nat.zero_le _, rfl, rfl, fun x hx => by simp at hx⟩
  case round =>
    obtain ⟨k, hk, rfl, rfl, hok⟩ := hrel
    have hlen := h.len
    have hkb := kraft_bd _ hok
    rw [List.length_take] at hkb
    by_cases hlt : k < n
    · obtain ⟨b, off, rfl, hbl, hc⟩ := h.at_ hlt
      have h1 := hc k hlt
      have hT := Lib.hid (take_snoc_i zs k (by omega))
      obtain ⟨x, hx⟩ : ∃ x, x = zs.getD k 0 := ⟨_, rfl⟩
      have hbad := fun hb => codeOk_bad (zs := zs) (k := k) (by omega) hb
      have hgood := fun hb => OkTo.succ hok (by omega) hb
      rw [← hx] at h1 hT hbad hgood
      have hz0 : 0 ≤ kraft (zs.take k) := hkb.1
      have hz1 : kraft (zs.take k) ≤ 134217728 := by have := hkb.2; omega
      clear hx hc h hkb
      by_cases hr : 0 ≤ x ∧ x ≤ 7
      · have hG := Lib.hid (hgood (by simp [okLen, hr.1, hr.2]))
        have hw := wt_bd x hr.1 hr.2
        clear hbad hgood hok hlen
        by_cases hp : 0 < x
        · have hpw := pow_wt x hp hr.2
          go_wp2_with (first
            | (go_at_call 49; refine (iIn_yes _ _ _ _ hr).mono ?_; rintro e w' ⟨rfl, rfl⟩))
          go_round
          case rel => exact ⟨k + 1, by omega, by go_num, by rw [hT.out, kraft_snoc], hG.out⟩
          case measure => simp [intOf]; omega
        · have hpw := Lib.hid (wt_zero x hp)
          go_wp2_with (first
            | (go_at_call 49; refine (iIn_yes _ _ _ _ hr).mono ?_; rintro e w' ⟨rfl, rfl⟩))
          go_round
          case rel => exact ⟨k + 1, by omega, by go_num, by rw [hT.out, kraft_snoc, hpw.out]; go_num, hG.out⟩
          case measure => simp [intOf]; omega
      · have hB := Lib.hid (hbad (by simp [okLen]; omega))
        have hr' : x < 0 ∨ 7 < x := by omega
        clear hbad hgood hok hr hlen
        go_wp2_with (first
          | (go_at_call 49; refine (iIn_no _ _ _ _ hr').mono ?_; rintro e w' ⟨rfl, rfl⟩))
        go_ret
        exact ⟨by rw [hB.out]; rfl, Below.refl _ _⟩
    · have hke : k = n := by omega
      subst hke
      have hE := codeOk_end (zs := zs) (by rw [hlen]; exact hok)
      rw [List.take_of_length_le (by omega)]
      clear hok hkb
      by_cases h6 : k = 6
      · subst h6
        have hE' := Lib.hid hE
        clear hE
        by_cases h128 : kraft zs = 128
        · go_wp2
          go_ret
          exact ⟨by rw [hE'.out, hlen, h128]; rfl, Below.refl _ _⟩
        · have h129 : (kraft zs == 128) = false := by simpa using h128
          go_wp2
          go_ret
          exact ⟨by rw [hE'.out]; simp [h128], Below.refl _ _⟩
      · have h7 : ((k : Int) == 6) = false := by simp; omega
        have hE' := Lib.hid hE
        clear hE
        go_wp2
        go_ret
        exact ⟨by rw [hE'.out, hlen]; simp [h6], Below.refl _ _⟩
end Go.Proofs.Yteojnjcoamcigaa
