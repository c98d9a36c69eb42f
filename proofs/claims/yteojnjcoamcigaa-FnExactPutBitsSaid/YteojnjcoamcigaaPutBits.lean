/-
  PutBits, the reference's and the program's: both return the row 'putL' and whether it was put, 'putOk'. No condition but at most 2^20 bits.
-/
import Derived.Test.YteojnjcoamcigaaBitsIn
import Derived.Test.YteojnjcoamcigaaAppMany
import Derived.Test.YteojnjcoamcigaaClone
namespace Go.Proofs.Yteojnjcoamcigaa
open Go.ChangeShapes Go.WideShapes Go.ChangeAt Go.RowKit
set_option linter.unusedVariables false
def putOk (zs : List Int) (n d : Int) : Bool := decide (0 ≤ d ∧ d ≤ 32 ∧ 0 ≤ n ∧ n / 2 ^ d.toNat = 0 ∧ (zs.length : Int) + d ≤ 200000)
def putL (zs : List Int) (n d : Int) : List Int := if putOk zs n d = true then zs ++ bitsIn n d else zs
theorem bitsIn_len48' (n d : Int) : (bitsIn n d).length ≤ 48 := by
  unfold bitsIn
  split
  · rename_i h; rw [bitsK_length]; omega
  · simp
theorem putL_len (zs : List Int) (n d : Int) (h : zs.length ≤ 1048576) : (putL zs n d).length ≤ 1000000000 := by
  unfold putL
  split
  · rw [List.length_append]; have := bitsIn_len48' n d; omega
  · omega
theorem put_small {zs ys : List Int} {n m : Nat} (h : zs.length = n) (hn : n ≤ 1048576) (h2 : ys.length = m) (hy : ys.length ≤ 48) : Small (n + m) := small_of (by omega)

/-- The ways on which nothing is put. -/
def PutNo (n : Nat) (m : Int) (d : Int) : Prop := (d < 0 ∨ 32 < d) ∨ (∃ k : Nat, d = k ∧ k ≤ 32 ∧ (m < 0 ∨ (0 ≤ m ∧ (m / 2 ^ k != 0) = true) ∨ (0 ≤ m ∧ (m / 2 ^ k != 0) = false ∧ 200000 < (n : Int) + d)))
theorem putNo_of (zs : List Int) (n : Nat) (m d : Int) (hl : zs.length = n) (h : putOk zs m d = false) : PutNo n m d := by
  unfold PutNo
  simp only [putOk, decide_eq_false_iff_not] at h
  by_cases hd : 0 ≤ d ∧ d ≤ 32
  · right
    obtain ⟨k, rfl⟩ := Int.eq_ofNat_of_zero_le hd.1
    refine ⟨k, rfl, by omega, ?_⟩
    by_cases hm : 0 ≤ m
    · right
      by_cases hz : m / 2 ^ k = 0
      · right
        refine ⟨hm, by simpa using hz, ?_⟩
        have : ¬ ((zs.length : Int) + (k : Int) ≤ 200000) := fun hh => h ⟨hd.1, hd.2, hm, by simpa using hz, hh⟩
        omega
      · left; exact ⟨hm, by simpa using hz⟩
    · left; omega
  · left; omega

set_option maxRecDepth 100000 in
theorem sPutBits_yes (A : Option Addr) (n c : Nat) (zs : List Int) (m : Int) (d : Nat) (w : World) (h : RI w A n zs) (hn : n ≤ 1048576) (hm : (Lit.int .i64 m).wf = true) (hd32 : d ≤ 32) (h0 : 0 ≤ m) (hz : (m / 2 ^ d != 0) = false) (hl : (n : Int) + (d : Int) ≤ 200000) :
    Calls Try.prog 33 #[.slice A n c, .int .i64 m, .int .i64 (d : Int)] w fun e w' => ∃ A' n' c', e = .returned (.tuple #[.slice A' n' c', .bool true]) ∧ OB w' w.heap.size w'.heap.size A' n' c' (zs ++ bitsIn m d) ∧ Below w.heap.size w w' := by
  have hr : (0 : Int) ≤ (d : Int) ∧ (d : Int) ≤ 32 := by omega
  have hdw : (Lit.int .i64 (d : Int)).wf = true := WalkArith.wf_i64 (by omega)
  have hsn : Small (0 + n) := small_of (by omega)
  have hlen := h.len
  go_enter Try.func33, Try.ntmps33
  go_wp2_with (first
    | (at_builtin; refine wpList_appmany (w0 := w) rfl (.tmp 9) (.tmp 10) rfl rfl _ 0 [] rfl (World.ownsRow_made w #[] 0 (Nat.le_refl _) (by decide) rfl) ((Below.refl _ _).alloc (Nat.le_refl _) _) A n c zs rfl (h.below ((Below.refl _ _).alloc (Nat.le_refl _) _)) hsn ?_; intro A1 c1 w1 hown1 hb1 _; rw [Nat.zero_add, List.nil_append] at hown1)
    | (go_at_call 48; refine (sIn_yes _ _ _ _ hr).mono ?_; rintro e w' ⟨rfl, rfl⟩)
    | (go_at_call 21; refine (sBitsIn _ _ _ hm hdw).mono ?_; rintro e w2 ⟨A2, n2, c2, rfl, o2, b2⟩; have hsm := put_small hlen hn o2.len (bitsIn_len48' _ _))
    | (at_builtin; refine wpList_appmany (w0 := w) rfl (.tmp 33) (.tmp 36) rfl rfl _ n zs rfl (owns_below hown1 b2) (hb1.trans (b2.mono hb1.size)) A2 n2 c2 _ rfl o2.read hsm ?_; intro A3 c3 w3 hown3 hb3 _))
  go_ret2
  exact ⟨A3, _, c3, rfl, OB.new hown3, hb3⟩
set_option maxRecDepth 100000 in
theorem iPutBits_yes (A : Option Addr) (n c : Nat) (zs : List Int) (m : Int) (d : Nat) (w : World) (h : RI w A n zs) (hn : n ≤ 1048576) (hm : (Lit.int .i64 m).wf = true) (hd32 : d ≤ 32) (h0 : 0 ≤ m) (hz : (m / 2 ^ d != 0) = false) (hl : (n : Int) + (d : Int) ≤ 200000) :
    Calls Try.prog 34 #[.slice A n c, .int .i64 m, .int .i64 (d : Int)] w fun e w' => ∃ A' n' c', e = .returned (.tuple #[.slice A' n' c', .bool true]) ∧ OB w' w.heap.size w'.heap.size A' n' c' (zs ++ bitsIn m d) ∧ Below w.heap.size w w' := by
  have hr : (0 : Int) ≤ (d : Int) ∧ (d : Int) ≤ 32 := by omega
  have hdw : (Lit.int .i64 (d : Int)).wf = true := WalkArith.wf_i64 (by omega)
  have hlen := h.len
  go_enter Try.func34, Try.ntmps34
  go_wp2_with (first
    | (go_at_call 54; refine (iClone _ _ _ _ _ h hn).mono ?_; rintro e w1 ⟨A1, c1, rfl, o1, hb1⟩)
    | (go_at_call 49; refine (iIn_yes _ _ _ _ hr).mono ?_; rintro e w' ⟨rfl, rfl⟩)
    | (go_at_call 22; refine (iBitsIn _ _ _ hm hdw).mono ?_; rintro e w2 ⟨A2, n2, c2, rfl, o2, b2⟩; have hsm := put_small hlen hn o2.len (bitsIn_len48' _ _))
    | (at_builtin; refine wpList_appmany (w0 := w) rfl (.tmp 32) (.tmp 35) rfl rfl _ n zs rfl (owns_below o1.1 b2) (hb1.trans (b2.mono hb1.size)) A2 n2 c2 _ rfl o2.read hsm ?_; intro A3 c3 w3 hown3 hb3 _))
  go_ret2
  exact ⟨A3, _, c3, rfl, OB.new hown3, hb3⟩
set_option maxRecDepth 100000 in
theorem sPutBits_no (A : Option Addr) (n c : Nat) (zs : List Int) (m d : Int) (w : World) (h : RI w A n zs) (hn : n ≤ 1048576) (hp : PutNo n m d) :
    Calls Try.prog 33 #[.slice A n c, .int .i64 m, .int .i64 d] w fun e w' => ∃ A' n' c', e = .returned (.tuple #[.slice A' n' c', .bool false]) ∧ OB w' w.heap.size w'.heap.size A' n' c' zs ∧ Below w.heap.size w w' := by
  have hsn : Small (0 + n) := small_of (by omega)
  rcases hp with h' | ⟨k, rfl, hk, hp⟩
  · go_enter Try.func33, Try.ntmps33
    go_wp2_with (first
      | (at_builtin; refine wpList_appmany (w0 := w) rfl (.tmp 9) (.tmp 10) rfl rfl _ 0 [] rfl (World.ownsRow_made w #[] 0 (Nat.le_refl _) (by decide) rfl) ((Below.refl _ _).alloc (Nat.le_refl _) _) A n c zs rfl (h.below ((Below.refl _ _).alloc (Nat.le_refl _) _)) hsn ?_; intro A1 c1 w1 hown1 hb1 _; rw [Nat.zero_add, List.nil_append] at hown1)
      | (go_at_call 48; refine (sIn_no _ _ _ _ h').mono ?_; rintro e w' ⟨rfl, rfl⟩))
    go_ret2
    exact ⟨A1, _, c1, rfl, OB.new hown1, hb1⟩
  · have hr : (0 : Int) ≤ (k : Int) ∧ (k : Int) ≤ 32 := by omega
    rcases hp with h' | ⟨h0, hz⟩ | ⟨h0, hz, hl⟩
    all_goals
      go_enter Try.func33, Try.ntmps33
      go_wp2_with (first
        | (at_builtin; refine wpList_appmany (w0 := w) rfl (.tmp 9) (.tmp 10) rfl rfl _ 0 [] rfl (World.ownsRow_made w #[] 0 (Nat.le_refl _) (by decide) rfl) ((Below.refl _ _).alloc (Nat.le_refl _) _) A n c zs rfl (h.below ((Below.refl _ _).alloc (Nat.le_refl _) _)) hsn ?_; intro A1 c1 w1 hown1 hb1 _; rw [Nat.zero_add, List.nil_append] at hown1)
        | (go_at_call 48; refine (sIn_yes _ _ _ _ hr).mono ?_; rintro e w' ⟨rfl, rfl⟩))
      go_ret2
      exact ⟨A1, _, c1, rfl, OB.new hown1, hb1⟩
set_option maxRecDepth 100000 in
theorem iPutBits_no (A : Option Addr) (n c : Nat) (zs : List Int) (m d : Int) (w : World) (h : RI w A n zs) (hn : n ≤ 1048576) (hp : PutNo n m d) :
    Calls Try.prog 34 #[.slice A n c, .int .i64 m, .int .i64 d] w fun e w' => ∃ A' n' c', e = .returned (.tuple #[.slice A' n' c', .bool false]) ∧ OB w' w.heap.size w'.heap.size A' n' c' zs ∧ Below w.heap.size w w' := by
  rcases hp with h' | ⟨k, rfl, hk, hp⟩
  · go_enter Try.func34, Try.ntmps34
    go_wp2_with (first
      | (go_at_call 54; refine (iClone _ _ _ _ _ h hn).mono ?_; rintro e w1 ⟨A1, c1, rfl, o1, hb1⟩)
      | (go_at_call 49; refine (iIn_no _ _ _ _ h').mono ?_; rintro e w' ⟨rfl, rfl⟩))
    go_ret2
    exact ⟨A1, _, c1, rfl, o1, hb1⟩
  · have hr : (0 : Int) ≤ (k : Int) ∧ (k : Int) ≤ 32 := by omega
    rcases hp with h' | ⟨h0, hz⟩ | ⟨h0, hz, hl⟩
    all_goals
      go_enter Try.func34, Try.ntmps34
      go_wp2_with (first
        | (go_at_call 54; refine (iClone _ _ _ _ _ h hn).mono ?_; rintro e w1 ⟨A1, c1, rfl, o1, hb1⟩)
        | (go_at_call 49; refine (iIn_yes _ _ _ _ hr).mono ?_; rintro e w' ⟨rfl, rfl⟩))
      go_ret2
      exact ⟨A1, _, c1, rfl, o1, hb1⟩
theorem putOk_yes {zs : List Int} {n : Nat} {m d : Int} (hl : zs.length = n) (h : putOk zs m d = true) : ∃ k : Nat, d = k ∧ k ≤ 32 ∧ 0 ≤ m ∧ (m / 2 ^ k != 0) = false ∧ (n : Int) + (k : Int) ≤ 200000 := by
  simp only [putOk, decide_eq_true_eq] at h
  obtain ⟨k, rfl⟩ := Int.eq_ofNat_of_zero_le h.1
  refine ⟨k, rfl, by omega, h.2.2.1, by simpa using h.2.2.2.1, by omega⟩
theorem sPutBits (A : Option Addr) (n c : Nat) (zs : List Int) (m d : Int) (w : World) (h : RI w A n zs) (hn : n ≤ 1048576) (hm : (Lit.int .i64 m).wf = true) (hd : (Lit.int .i64 d).wf = true) :
    Calls Try.prog 33 #[.slice A n c, .int .i64 m, .int .i64 d] w fun e w' => ∃ A' n' c', e = .returned (.tuple #[.slice A' n' c', .bool (putOk zs m d)]) ∧ OB w' w.heap.size w'.heap.size A' n' c' (putL zs m d) ∧ Below w.heap.size w w' := by
  unfold putL
  cases hp : putOk zs m d with
  | true =>
    obtain ⟨k, rfl, hk, h0, hz, hl⟩ := putOk_yes h.len hp
    rw [if_pos rfl]
    exact sPutBits_yes A n c zs m k w h hn hm hk h0 hz hl
  | false =>
    rw [if_neg (by simp)]
    exact sPutBits_no A n c zs m d w h hn (putNo_of zs n m d h.len hp)
theorem iPutBits (A : Option Addr) (n c : Nat) (zs : List Int) (m d : Int) (w : World) (h : RI w A n zs) (hn : n ≤ 1048576) (hm : (Lit.int .i64 m).wf = true) (hd : (Lit.int .i64 d).wf = true) :
    Calls Try.prog 34 #[.slice A n c, .int .i64 m, .int .i64 d] w fun e w' => ∃ A' n' c', e = .returned (.tuple #[.slice A' n' c', .bool (putOk zs m d)]) ∧ OB w' w.heap.size w'.heap.size A' n' c' (putL zs m d) ∧ Below w.heap.size w w' := by
  unfold putL
  cases hp : putOk zs m d with
  | true =>
    obtain ⟨k, rfl, hk, h0, hz, hl⟩ := putOk_yes h.len hp
    rw [if_pos rfl]
    exact iPutBits_yes A n c zs m k w h hn hm hk h0 hz hl
  | false =>
    rw [if_neg (by simp)]
    exact iPutBits_no A n c zs m d w h hn (putNo_of zs n m d h.len hp)
end Go.Proofs.Yteojnjcoamcigaa
