/-
  NumOf, the reference's and the program's: both return 'numOf' of the bits. No condition but at most 2^20 of them.
-/
import Derived.Test.YteojnjcoamcigaaInts
namespace Go.Proofs.Yteojnjcoamcigaa
open Go.ChangeShapes Go.WideShapes Go.ChangeAt Go.RowKit
set_option linter.unusedVariables false
theorem take_snoc_b (zs : List Int) (k : Nat) (h : k < zs.length) : zs.take (k + 1) = zs.take k ++ [zs.getD k 0] := by
  rw [List.take_succ_eq_append_getElem h, List.getD_eq_getElem?_getD, List.getElem?_eq_getElem h]; rfl
def isBit (x : Int) : Bool := decide (x = 0) || decide (x = 1)
theorem isBit_iff (x : Int) : isBit x = true ↔ 0 ≤ x ∧ x ≤ 1 := by simp [isBit]; omega
def numL (l : List Int) : Int := l.foldl (fun a x => a * 2 + x) 0
theorem numL_snoc (l : List Int) (x : Int) : numL (l ++ [x]) = numL l * 2 + x := by unfold numL; rw [List.foldl_append]; rfl
theorem numL_bd (l : List Int) (h : ∀ x ∈ l, isBit x = true) : 0 ≤ numL l ∧ numL l < 2 ^ l.length := by
  have H : ∀ (l : List Int) (a : Int) (m : Nat), 0 ≤ a → a < 2 ^ m → (∀ x ∈ l, isBit x = true) → 0 ≤ l.foldl (fun a x => a * 2 + x) a ∧ l.foldl (fun a x => a * 2 + x) a < 2 ^ (m + l.length) := by
    intro l
    induction l with
    | nil => intro a m h0 h1 _; exact ⟨h0, h1⟩
    | cons x l ih =>
      intro a m h0 h1 h
      have hx := (isBit_iff x).1 (h x (by simp))
      have := ih (a * 2 + x) (m + 1) (by omega) (by rw [Int.pow_succ]; omega) (fun y hy => h y (by simp [hy]))
      rw [List.length_cons, show m + (l.length + 1) = m + 1 + l.length from by omega]
      exact this
  have := H l 0 0 (by omega) (by decide) h
  simpa [numL] using this
theorem numL_bd48 (l : List Int) (h : ∀ x ∈ l, isBit x = true) (hl : l.length ≤ 48) : 0 ≤ numL l ∧ numL l ≤ 281474976710656 := by
  have h1 := numL_bd l h
  have h2 : (2 : Nat) ^ l.length ≤ 2 ^ 48 := Nat.pow_le_pow_right (by decide) hl
  have h3 : ((2 ^ l.length : Nat) : Int) = 2 ^ l.length := by rw [Int.natCast_pow]; rfl
  omega
/-- What NumOf gives. -/
def numOf (l : List Int) : Int × Bool := if l.all isBit && decide (l.length ≤ 48) then (numL l, true) else (0, false)
def BitsTo (zs : List Int) (k : Nat) : Prop := ∀ x ∈ zs.take k, isBit x = true
theorem BitsTo.succ {zs : List Int} {k : Nat} (h : BitsTo zs k) (hk : k < zs.length) (hx : isBit (zs.getD k 0) = true) : BitsTo zs (k + 1) := by
  intro x hm
  rw [take_snoc_b zs k hk] at hm
  rcases List.mem_append.1 hm with hm | hm
  · exact h x hm
  · simp at hm; subst hm; simpa using hx
theorem all_bad {zs : List Int} {k : Nat} (hk : k < zs.length) (hx : isBit (zs.getD k 0) = false) : zs.all isBit = false := by
  rw [List.all_eq_false]
  refine ⟨zs.getD k 0, ?_, by rw [hx]; decide⟩
  rw [List.getD_eq_getElem?_getD, List.getElem?_eq_getElem hk]
  exact List.getElem_mem hk
theorem all_good {zs : List Int} {n : Nat} (h : BitsTo zs n) (hn : zs.length = n) : zs.all isBit = true := by
  rw [List.all_eq_true]
  intro x hx
  exact h x (by rw [← hn, List.take_length]; exact hx)
theorem or_bit (n x : Int) (h0 : 0 ≤ n) (h1 : n ≤ 281474976710656) (hx : 0 ≤ x ∧ x ≤ 1) : bits .or .i64 (n * 2) x = n * 2 + x := by
  obtain ⟨m, rfl⟩ := Int.eq_ofNat_of_zero_le h0
  obtain ⟨b, rfl⟩ := Int.eq_ofNat_of_zero_le hx.1
  have := i64_or_nat (m * 2) b (by omega) (by omega)
  have e : m * 2 ||| b = m * 2 + b := by
    have := Nat.shiftLeft_add_eq_or_of_lt (b := b) (i := 1) (by omega) m
    rw [Nat.shiftLeft_eq] at this
    exact this.symm
  rw [e] at this
  rw [show (((m * 2 : Nat)) : Int) = (m : Int) * 2 from by omega] at this
  rw [this]
  omega

set_option maxRecDepth 100000 in
theorem sNumOf (A : Option Addr) (n c : Nat) (zs : List Int) (w : World) (h : RI w A n zs) (hn : n ≤ 1048576) :
    Calls Try.prog 19 #[.slice A n c] w fun e w' => e = .returned (.tuple #[.int .i64 (numOf zs).1, .bool (numOf zs).2]) ∧ Below w.heap.size w w' := by
  go_enter Try.func19, Try.ntmps19
  go_wp2
  go_loop [4, 5] (fun a i => ∃ k : Nat, k ≤ n ∧ k ≤ 48 ∧ i = .int .i64 k ∧ a = .int .i64 (numL (zs.take k)) ∧ BitsTo zs k) (fun _ i => n - (intOf i).toNat)
  case atStart => exact ⟨0, Nat.zero_le _, by omega, rfl, rfl, fun x hx => by simp at hx⟩
  case round =>
    obtain ⟨k, hk, hk48, rfl, rfl, hok⟩ := hrel
    have hlen := h.len
    have hkb := numL_bd48 _ hok (by rw [List.length_take]; omega)
    by_cases hlt : k < n
    · obtain ⟨b, off, rfl, hbl, hc⟩ := h.at_ hlt
      have h1 := hc k hlt
      have hT := Lib.hid (take_snoc_b zs k (by omega))
      obtain ⟨x, hx⟩ : ∃ x, x = zs.getD k 0 := ⟨_, rfl⟩
      have hbad := fun hb => all_bad (zs := zs) (k := k) (by omega) hb
      have hgood := fun hb => BitsTo.succ hok (by omega) hb
      rw [← hx] at h1 hT hbad hgood
      have hz0 : 0 ≤ numL (zs.take k) := hkb.1
      have hz1 : numL (zs.take k) ≤ 281474976710656 := hkb.2
      have hL : Hid (48 ≤ k → numOf zs = (0, false)) := by
        intro h48
        unfold numOf
        rw [if_neg (by simp; intro _; omega)]
      clear hx hc h hkb
      by_cases hr : 0 ≤ x ∧ x ≤ 1
      · have hG := Lib.hid (hgood ((isBit_iff x).2 hr))
        clear hbad hgood hok hlen
        by_cases h48 : k < 48
        · have h48' : (k : Int) < 48 := by omega
          go_wp2_with (first
            | (go_at_call 48; refine (sIn_yes _ _ _ _ hr).mono ?_; rintro e w' ⟨rfl, rfl⟩))
          go_round
          case rel => exact ⟨k + 1, by omega, by omega, by go_num, by rw [hT.out, numL_snoc], hG.out⟩
          case measure => simp [intOf]; omega
        · have h48' : (48 : Int) ≤ (k : Int) := by omega
          have hB := Lib.hid (hL.out (by omega))
          go_wp2_with (first
            | (go_at_call 48; refine (sIn_yes _ _ _ _ hr).mono ?_; rintro e w' ⟨rfl, rfl⟩))
          go_ret2
          exact ⟨by rw [hB.out]; rfl, Below.refl _ _⟩
      · have hB : Hid (numOf zs = (0, false)) := by
          show numOf zs = (0, false)
          unfold numOf
          rw [hbad (by rw [Bool.eq_false_iff]; intro hh; exact hr ((isBit_iff x).1 hh))]
          rfl
        have hr' : x < 0 ∨ 1 < x := by omega
        clear hbad hgood hok hr hlen
        go_wp2_with (first
          | (go_at_call 48; refine (sIn_no _ _ _ _ hr').mono ?_; rintro e w' ⟨rfl, rfl⟩))
        go_ret2
        exact ⟨by rw [hB.out]; rfl, Below.refl _ _⟩
    · have hke : k = n := by omega
      subst hke
      have hE : Hid (numOf zs = (numL zs, true)) := by
        show numOf zs = (numL zs, true)
        unfold numOf
        rw [all_good hok hlen, if_pos (by simp; omega)]
      rw [List.take_of_length_le (by omega)]
      clear hok hkb
      go_wp2
      go_ret2
      exact ⟨by rw [hE.out]; rfl, Below.refl _ _⟩

set_option maxRecDepth 100000 in
theorem iAreBits (A : Option Addr) (n c : Nat) (zs : List Int) (w : World) (h : RI w A n zs) (hn : n ≤ 1000000000) :
    Calls Try.prog 50 #[.slice A n c] w fun e w' => e = .returned (.bool (zs.all isBit)) ∧ w = w' := by
  go_enter Try.func50, Try.ntmps50
  go_wp2
  go_loop [7] (fun i => ∃ k : Nat, k ≤ n ∧ i = .int .i64 k ∧ BitsTo zs k) (fun i => n - (intOf i).toNat)
  case atStart => exact ⟨0, Nat.zero_le _, rfl, fun x hx => by simp at hx⟩
  case round =>
    obtain ⟨k, hk, rfl, hok⟩ := hrel
    have hlen := h.len
    by_cases hlt : k < n
    · obtain ⟨b, off, rfl, hbl, hc⟩ := h.at_ hlt
      have h1 := hc k hlt
      obtain ⟨x, hx⟩ : ∃ x, x = zs.getD k 0 := ⟨_, rfl⟩
      have hbad := fun hb => all_bad (zs := zs) (k := k) (by omega) hb
      have hgood := fun hb => BitsTo.succ hok (by omega) hb
      rw [← hx] at h1 hbad hgood
      clear hx hc h hlen
      by_cases hr : x = 0 ∨ x = 1
      · have hG := Lib.hid (hgood ((isBit_iff x).2 (by omega)))
        clear hbad hgood hok
        rcases hr with rfl | rfl
        · go_wp2
          go_round
          case rel => exact ⟨k + 1, by omega, by go_num, hG.out⟩
          case measure => simp [intOf]; omega
        · go_wp2
          go_round
          case rel => exact ⟨k + 1, by omega, by go_num, hG.out⟩
          case measure => simp [intOf]; omega
      · have hB := Lib.hid (hbad (by rw [Bool.eq_false_iff]; intro hh; exact hr (by have := (isBit_iff x).1 hh; omega)))
        have n0 : (x != 0) = true := by simp; omega
        have n1 : (x != 1) = true := by simp; omega
        clear hbad hgood hok hr
        go_wp2
        go_ret
        exact ⟨by rw [hB.out]; rfl, rfl⟩
    · have hke : k = n := by omega
      subst hke
      have hE := Lib.hid (all_good hok hlen)
      clear hok
      go_wp2
      go_ret
      exact ⟨by rw [hE.out]; rfl, rfl⟩
set_option maxRecDepth 100000 in
theorem iNumOf (A : Option Addr) (n c : Nat) (zs : List Int) (w : World) (h : RI w A n zs) (hn : n ≤ 1048576) :
    Calls Try.prog 20 #[.slice A n c] w fun e w' => e = .returned (.tuple #[.int .i64 (numOf zs).1, .bool (numOf zs).2]) ∧ Below w.heap.size w w' := by
  have hlen := h.len
  cases hab : zs.all isBit with
  | false =>
    have hB : Hid (numOf zs = (0, false)) := by
      show numOf zs = (0, false)
      unfold numOf; rw [hab]; rfl
    have hC : Hid (∀ w', RI w' A n zs → Calls Try.prog 50 #[.slice A n c] w' fun e w'' => e = .returned (.bool false) ∧ w' = w'') := by
      intro w' h'; have := iAreBits A n c zs w' h' (by omega); rw [hab] at this; exact this
    clear hab
    go_enter Try.func20, Try.ntmps20
    go_wp2_with (first
      | (go_at_call 50; refine (hC.out _ h).mono ?_; rintro e w' ⟨rfl, rfl⟩))
    go_ret2
    exact ⟨by rw [hB.out]; rfl, Below.refl _ _⟩
  | true =>
    have hC : Hid (∀ w', RI w' A n zs → Calls Try.prog 50 #[.slice A n c] w' fun e w'' => e = .returned (.bool true) ∧ w' = w'') := by
      intro w' h'; have := iAreBits A n c zs w' h' (by omega); rw [hab] at this; exact this
    by_cases h48 : n ≤ 48
    · have h48' : (n : Int) ≤ 48 := by omega
      have hE : Hid (numOf zs = (numL zs, true)) := by
        show numOf zs = (numL zs, true)
        unfold numOf
        rw [hab, if_pos (by simp; omega)]
      have hall : Hid (∀ x ∈ zs, isBit x = true) := by
        show ∀ x ∈ zs, isBit x = true
        rw [List.all_eq_true] at hab; exact hab
      clear hab
      go_enter Try.func20, Try.ntmps20
      go_wp2_with (first
        | (go_at_call 50; refine (hC.out _ h).mono ?_; rintro e w' ⟨rfl, rfl⟩))
      clear hC
      go_loop [4, 17] (fun a i => ∃ k : Nat, k ≤ n ∧ i = .int .i64 k ∧ a = .int .i64 (numL (zs.take k))) (fun _ i => n - (intOf i).toNat)
      case atStart => exact ⟨0, Nat.zero_le _, rfl, rfl⟩
      case round =>
        obtain ⟨k, hk, rfl, rfl⟩ := hrel
        have hkb := numL_bd48 (zs.take k) (fun x hx => hall.out x (List.mem_of_mem_take hx)) (by rw [List.length_take]; omega)
        by_cases hlt : k < n
        · obtain ⟨b, off, rfl, hbl, hc⟩ := h.at_ hlt
          have h1 := hc k hlt
          have hT := Lib.hid (take_snoc_b zs k (by omega))
          have hxb := (isBit_iff (zs.getD k 0)).1 (hall.out _ (by rw [List.getD_eq_getElem?_getD, List.getElem?_eq_getElem (by omega)]; exact List.getElem_mem _))
          obtain ⟨x, hx⟩ : ∃ x, x = zs.getD k 0 := ⟨_, rfl⟩
          rw [← hx] at h1 hT hxb
          have hz0 : 0 ≤ numL (zs.take k) := hkb.1
          have hz1 : numL (zs.take k) ≤ 281474976710656 := hkb.2
          have hor := or_bit _ x hz0 hz1 hxb
          clear hx hc h hkb hlen
          go_wp2
          go_round
          case rel => exact ⟨k + 1, by omega, by go_num, by rw [hT.out, numL_snoc]⟩
          case measure => simp [intOf]; omega
        · have hke : k = n := by omega
          subst hke
          rw [List.take_of_length_le (by omega)]
          clear hkb
          go_wp2
          go_ret2
          exact ⟨by rw [hE.out]; rfl, Below.refl _ _⟩
    · have h48' : (48 : Int) < (n : Int) := by omega
      have hB : Hid (numOf zs = (0, false)) := by
        show numOf zs = (0, false)
        unfold numOf
        rw [if_neg (by simp; intro _; omega)]
      clear hab
      go_enter Try.func20, Try.ntmps20
      go_wp2_with (first
        | (go_at_call 50; refine (hC.out _ h).mono ?_; rintro e w' ⟨rfl, rfl⟩))
      go_ret2
      exact ⟨by rw [hB.out]; rfl, Below.refl _ _⟩
end Go.Proofs.Yteojnjcoamcigaa
