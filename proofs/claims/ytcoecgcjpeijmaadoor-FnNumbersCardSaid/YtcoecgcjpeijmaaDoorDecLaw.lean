/-
  THE PLAIN LAW OF DECIMAL NUMERALS: which texts are read, and as what. No program here. No condition.
-/
import Derived.Test.YtcoecgcjpeijmaaDoorBase
import Derived.Lib.AtoiTie
import Derived.Lib.ItoaMem
import Derived.Lib.ItoaLen
namespace Go.Proofs.YtcoecgcjpeijmaaDoor
open Go.Lib
set_option linter.unusedVariables false
/-- The bytes are the numeral of n, of at most nine digits. -/
def rdOk (l : List UInt8) (n : Int) : Prop := (-999999999 ≤ n ∧ n ≤ 999999999) ∧ itoa n = l
theorem decDigits_low (u : Nat) (h : u < 10) : decDigits u = [UInt8.ofNat (48 + u)] := by rw [decDigits, dif_pos h]
theorem decDigits_high (u : Nat) (h : ¬ u < 10) : decDigits u = decDigits (u / 10) ++ [UInt8.ofNat (48 + u % 10)] := by rw [decDigits, dif_neg h]
theorem u8_digit (d : Nat) (h : d < 10) : (UInt8.ofNat (48 + d)).toNat = 48 + d := by rw [UInt8.toNat_ofNat']; omega
def rdStep (st : Nat × Nat) (b : UInt8) : Nat × Nat := if 48 ≤ b.toNat ∧ b.toNat ≤ 57 then (st.1 * 10 + (b.toNat - 48), st.2 + 1) else st
theorem rdStep_digit (st : Nat × Nat) (d : Nat) (h : d < 10) : rdStep st (UInt8.ofNat (48 + d)) = (st.1 * 10 + d, st.2 + 1) := by
  unfold rdStep
  rw [u8_digit d h, if_pos (by omega)]
  congr 2
  omega
theorem rd_digits (c0 : Nat) : ∀ m u : Nat, u ≤ m → (decDigits u).foldl rdStep (0, c0) = (u, c0 + nDigits u)
  | 0, u, h => by
    obtain rfl : u = 0 := by omega
    rw [decDigits_low 0 (by omega), List.foldl_cons, List.foldl_nil, rdStep_digit _ 0 (by omega), nDigits_small (by omega)]; simp
  | m + 1, u, h => by
    by_cases h10 : u < 10
    · rw [decDigits_low u h10, List.foldl_cons, List.foldl_nil, rdStep_digit _ u h10, nDigits_small h10]; simp
    · rw [decDigits_high u h10, List.foldl_append, rd_digits c0 m (u / 10) (by omega), List.foldl_cons, List.foldl_nil, rdStep_digit _ _ (by omega), nDigits_big h10]
      simp only [Prod.mk.injEq]
      omega
theorem decFrom_app : ∀ (l r : List UInt8) (a : Nat), decFrom a (l ++ r) = (decFrom a l).bind (fun n => decFrom n r)
  | [], r, a => rfl
  | b :: l, r, a => by
    simp only [List.cons_append, decFrom]
    cases digitVal b with
    | none => rfl
    | some d => exact decFrom_app l r _
theorem digitVal_digit (d : Nat) (h : d < 10) : digitVal (UInt8.ofNat (48 + d)) = some d := by
  unfold digitVal
  rw [u8_digit d h, if_pos (by omega)]
  congr 1
  omega
theorem decFrom_digits : ∀ m u : Nat, u ≤ m → decFrom 0 (decDigits u) = some u
  | 0, u, h => by
    obtain rfl : u = 0 := by omega
    rw [decDigits_low 0 (by omega)]; simp only [decFrom, digitVal_digit 0 (by omega)]
  | m + 1, u, h => by
    by_cases h10 : u < 10
    · rw [decDigits_low u h10]; simp only [decFrom, digitVal_digit u h10]; congr 1; omega
    · rw [decDigits_high u h10, decFrom_app, decFrom_digits m (u / 10) (by omega)]
      simp only [Option.bind_some, decFrom, digitVal_digit (u % 10) (by omega)]
      congr 1
      omega
theorem decDigits_ne (u : Nat) : decDigits u ≠ [] := by
  intro h
  have := congrArg List.length h
  rw [decDigits_length] at this
  have := nDigits_pos u
  simp at *
  omega
theorem decNat_digits (u : Nat) : decNat (decDigits u) = some u := by
  unfold decNat
  rw [if_neg (by simpa using decDigits_ne u)]
  exact decFrom_digits u u (Nat.le_refl _)
/-- The first byte of a numeral with no sign is a digit. -/
theorem decDigits_head : ∀ m u : Nat, u ≤ m → ∃ b r, decDigits u = b :: r ∧ 48 ≤ b.toNat ∧ b.toNat ≤ 57
  | 0, u, h => by
    obtain rfl : u = 0 := by omega
    exact ⟨_, [], decDigits_low 0 (by omega), by rw [u8_digit 0 (by omega)]; omega, by rw [u8_digit 0 (by omega)]; omega⟩
  | m + 1, u, h => by
    by_cases h10 : u < 10
    · exact ⟨_, [], decDigits_low u h10, by rw [u8_digit u h10]; omega, by rw [u8_digit u h10]; omega⟩
    · obtain ⟨b, r, e, h1, h2⟩ := decDigits_head m (u / 10) (by omega)
      exact ⟨b, r ++ [_], by rw [decDigits_high u h10, e]; rfl, h1, h2⟩
theorem nDigits_le9 (u : Nat) (h : u ≤ 999999999) : nDigits u ≤ 9 := by
  rw [nDigits]; split; omega
  rw [nDigits]; split; omega
  rw [nDigits]; split; omega
  rw [nDigits]; split; omega
  rw [nDigits]; split; omega
  rw [nDigits]; split; omega
  rw [nDigits]; split; omega
  rw [nDigits]; split; omega
  rw [nDigits]; split
  · omega
  · omega
theorem itoa_split (n : Int) : (n < 0 ∧ itoa n = 45 :: decDigits n.natAbs) ∨ (0 ≤ n ∧ itoa n = decDigits n.natAbs) := by
  unfold itoa
  by_cases h : n < 0
  · left; exact ⟨h, by rw [if_pos h]⟩
  · right; exact ⟨by omega, by rw [if_neg h, show n.toNat = n.natAbs from by omega]⟩
theorem rdOk_len {l : List UInt8} {n : Int} (h : rdOk l n) : l.length ≤ 10 ∧ nDigits n.natAbs ≤ 9 := by
  obtain ⟨⟨h1, h2⟩, rfl⟩ := h
  have h9 := nDigits_le9 n.natAbs (by omega)
  refine ⟨?_, h9⟩
  rcases itoa_split n with ⟨_, e⟩ | ⟨_, e⟩ <;> rw [e]
  · rw [List.length_cons, decDigits_length]; omega
  · rw [decDigits_length]; omega
theorem atoi_itoa (n : Int) : atoi (itoa n) = some n := by
  rcases itoa_split n with ⟨hn, e⟩ | ⟨hn, e⟩ <;> rw [e]
  · simp only [atoi]
    rw [if_pos (by decide), decNat_digits]
    simp only [Option.map_some, Option.some.injEq]
    omega
  · obtain ⟨b, r, e2, h1, h2⟩ := decDigits_head n.natAbs n.natAbs (Nat.le_refl _)
    rw [e2]
    simp only [atoi]
    rw [if_neg (by intro hb; have := eq_of_beq hb; subst this; exact absurd h1 (by decide)), if_neg (by intro hb; have := eq_of_beq hb; subst this; exact absurd h1 (by decide)), ← e2, decNat_digits]
    simp only [Option.map_some, Option.some.injEq]
    omega
/-- What the program's ReadDec makes of a text. -/
def implRd (l : List UInt8) : Option Int := match atoiAll l with
  | .ok v => if itoa v = l ∧ -999999999 ≤ v ∧ v ≤ 999999999 then some v else none
  | _ => none
theorem implRd_iff (l : List UInt8) (n : Int) : implRd l = some n ↔ rdOk l n := by
  constructor
  · intro h
    unfold implRd at h
    split at h
    · split at h
      · rename_i hc
        simp only [Option.some.injEq] at h
        subst h
        exact ⟨hc.2, hc.1⟩
      · cases h
    · cases h
  · intro h
    have hl := (rdOk_len h).1
    have ha : atoiAll l = .ok n := by
      rw [atoiAll_short l (by omega), ← h.2, atoi_itoa]
      rfl
    unfold implRd
    rw [ha]
    simp only
    rw [if_pos ⟨h.2, h.1⟩]
def rdTo (l : List UInt8) (k : Nat) : Nat × Nat := (l.take k).foldl rdStep (0, 0)
theorem rdTo_succ (l : List UInt8) (k : Nat) (h : k < l.length) : rdTo l (k + 1) = rdStep (rdTo l k) (l[k]'h) := by
  unfold rdTo
  rw [List.take_add_one, List.getElem?_eq_getElem h, List.foldl_append]
  rfl
theorem rdTo_bd (l : List UInt8) : ∀ k, (rdTo l k).1 < 10 ^ (rdTo l k).2 ∧ (rdTo l k).2 ≤ k
  | 0 => by simp [rdTo]
  | k + 1 => by
    have := rdTo_bd l k
    by_cases h : k < l.length
    · rw [rdTo_succ l k h]
      unfold rdStep
      split
      · simp only [Nat.pow_succ]; omega
      · omega
    · have e : rdTo l (k + 1) = rdTo l k := by unfold rdTo; rw [List.take_of_length_le (by omega), List.take_of_length_le (by omega)]
      rw [e]; omega
/-- The number that the reference makes of a text. -/
def rdNum (l : List UInt8) : Int := if l.head? = some 45 then -((rdTo l 11).1 : Int) else ((rdTo l 11).1 : Int)
/-- What the reference's ReadDec makes of a text. -/
def specRd (l : List UInt8) : Option Int := if (rdTo l 11).2 ≤ 9 ∧ l.length ≤ 10 ∧ itoa (rdNum l) = l then some (rdNum l) else none
theorem specRd_iff (l : List UInt8) (n : Int) : specRd l = some n ↔ rdOk l n := by
  constructor
  · intro h
    unfold specRd at h
    split at h
    · rename_i hc
      simp only [Option.some.injEq] at h
      subst h
      have h1 := (rdTo_bd l 11).1
      have h2 : 10 ^ (rdTo l 11).2 ≤ 10 ^ 9 := Nat.pow_le_pow_right (by omega) hc.1
      refine ⟨?_, hc.2.2⟩
      unfold rdNum
      split <;> omega
    · cases h
  · intro h
    obtain ⟨hl, h9⟩ := rdOk_len h
    have hd := rd_digits 0 n.natAbs n.natAbs (Nat.le_refl _)
    have key : rdTo l 11 = (n.natAbs, nDigits n.natAbs) ∧ rdNum l = n := by
      rcases itoa_split n with ⟨hn, e⟩ | ⟨hn, e⟩
      · have e2 : l = 45 :: decDigits n.natAbs := by rw [← h.2, e]
        have e3 : rdTo l 11 = (n.natAbs, nDigits n.natAbs) := by
          unfold rdTo
          rw [List.take_of_length_le (by omega), e2, List.foldl_cons, show rdStep (0, 0) 45 = (0, 0) from by decide, hd, Nat.zero_add]
        refine ⟨e3, ?_⟩
        unfold rdNum
        rw [e3, e2, if_pos (by simp)]
        simp only
        omega
      · have e2 : l = decDigits n.natAbs := by rw [← h.2, e]
        have e3 : rdTo l 11 = (n.natAbs, nDigits n.natAbs) := by
          unfold rdTo
          rw [List.take_of_length_le (by omega), e2, hd, Nat.zero_add]
        refine ⟨e3, ?_⟩
        obtain ⟨b, r, e4, h1, h2⟩ := decDigits_head n.natAbs n.natAbs (Nat.le_refl _)
        unfold rdNum
        rw [e3, e2, e4, if_neg (by simp only [List.head?_cons, Option.some.injEq]; intro hb; subst hb; exact absurd h1 (by decide))]
        simp only
        omega
    obtain ⟨k1, k2⟩ := key
    unfold specRd
    rw [k2, k1, if_pos ⟨h9, hl, h.2⟩]
theorem rd_same (l : List UInt8) : implRd l = specRd l := by
  apply Option.ext
  intro n
  rw [implRd_iff, specRd_iff]
theorem implRd_itoa (n : Int) : implRd (itoa n) = if -999999999 ≤ n ∧ n ≤ 999999999 then some n else none := by
  by_cases h : -999999999 ≤ n ∧ n ≤ 999999999
  · rw [if_pos h]; exact (implRd_iff _ _).2 ⟨h, rfl⟩
  · rw [if_neg h]
    cases hr : implRd (itoa n) with
    | none => rfl
    | some m =>
      have h1 := (implRd_iff _ _).1 hr
      have h2 := atoi_itoa m
      rw [h1.2, atoi_itoa] at h2
      simp only [Option.some.injEq] at h2
      subst h2
      exact absurd h1.1 h
end Go.Proofs.YtcoecgcjpeijmaaDoor
