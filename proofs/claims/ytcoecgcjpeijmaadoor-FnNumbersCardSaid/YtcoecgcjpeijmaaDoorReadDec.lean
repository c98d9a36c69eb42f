/-
  ReadDec, the reference's and the program's: both read the numerals of at most nine digits. The program's reads the library's table of powers of ten, and its two errors.
-/
import Derived.Test.YtcoecgcjpeijmaaDoorDec
import Derived.Lib.AtoiErrMem
import Derived.Lib.Strings
namespace Go.Proofs.YtcoecgcjpeijmaaDoor
open Go.ChangeShapes Go.WideShapes Go.ChangeAt Go.RowKit Go.Shelf
open Go.Lib (decDigits itoa nDigits nDigits_le20 decDigits_length itoa_neg itoa_nonneg)
set_option linter.unusedVariables false
theorem head45 (s : ByteArray) (hp : 0 < s.size) (h : (s[0]'hp).toNat = 45) : s.data.toList.head? = some 45 := by
  have hl : 0 < s.data.toList.length := by rw [Array.length_toList]; exact hp
  rw [List.head?_eq_getElem?, List.getElem?_eq_getElem hl]
  have e : s.data.toList[0]'hl = s[0]'hp := rfl
  rw [e]
  congr 1
  exact UInt8.toNat_inj.1 h
theorem head45' (s : ByteArray) (hp : 0 < s.size) (h : s.data.toList.head? = some 45) : (s[0]'hp).toNat = 45 := by
  have hl : 0 < s.data.toList.length := by rw [Array.length_toList]; exact hp
  rw [List.head?_eq_getElem?, List.getElem?_eq_getElem hl] at h
  have e : s.data.toList[0]'hl = s[0]'hp := rfl
  rw [e, Option.some.injEq] at h
  rw [h]; rfl
theorem rdTo_end (l : List UInt8) (j : Nat) (h : l.length ≤ j) (hj : j ≤ 11) : rdTo l 11 = rdTo l j := by
  unfold rdTo
  rw [List.take_of_length_le (by omega), List.take_of_length_le h]
theorem rdTo_11 (l : List UInt8) (j : Nat) (hj : j ≤ 11) : ((rdTo l j).1 : Int) < 100000000000 ∧ ((rdTo l j).2 : Int) ≤ 11 := by
  have h1 := (rdTo_bd l j).1
  have h2 := (rdTo_bd l j).2
  have h3 : 10 ^ (rdTo l j).2 ≤ 10 ^ 11 := Nat.pow_le_pow_right (by omega) (by omega)
  have h4 : (10 : Nat) ^ 11 = 100000000000 := by decide
  omega
theorem rdTo_yes (s : ByteArray) (j a k : Nat) (h : j < s.size) (hab : rdTo s.data.toList j = (a, k)) (h1 : 48 ≤ (s[j]'h).toNat) (h2 : (s[j]'h).toNat ≤ 57) : rdTo s.data.toList (j + 1) = (a * 10 + ((s[j]'h).toNat - 48), k + 1) := by
  rw [rdTo_succ _ j (by rw [Array.length_toList]; exact h), hab]
  have e : s.data.toList[j]'(by rw [Array.length_toList]; exact h) = s[j]'h := rfl
  unfold rdStep
  rw [e, if_pos ⟨h1, h2⟩]
theorem rdTo_no (s : ByteArray) (j a k : Nat) (h : j < s.size) (hab : rdTo s.data.toList j = (a, k)) (hn : ¬ (48 ≤ (s[j]'h).toNat ∧ (s[j]'h).toNat ≤ 57)) : rdTo s.data.toList (j + 1) = (a, k) := by
  rw [rdTo_succ _ j (by rw [Array.length_toList]; exact h), hab]
  have e : s.data.toList[j]'(by rw [Array.length_toList]; exact h) = s[j]'h := rfl
  unfold rdStep
  rw [e, if_neg hn]
set_option maxRecDepth 100000 in
set_option maxHeartbeats 4000000 in
theorem sReadDec (s : ByteArray) (hs : s.size ≤ 1048576) (w : World) :
    Calls Tryd.prog 6 #[.string s] w fun e w' => e = .returned (.tuple #[.int .i64 ((specRd s.data.toList).getD 0), .bool (specRd s.data.toList).isSome]) ∧ Below w.heap.size w w' := by
  have hlen : s.data.toList.length = s.size := Array.length_toList
  go_enter Tryd.func6, Tryd.ntmps6
  go_wp2
  go_loop [4, 5, 6] (fun n k i => ∃ j N K : Nat, j ≤ s.size ∧ j ≤ 11 ∧ rdTo s.data.toList j = (N, K) ∧ n = .int .i64 (N : Int) ∧ k = .int .i64 (K : Int) ∧ i = .int .i64 (j : Int)) (fun _ _ i => 11 - (intOf i).toNat)
  case atStart => exact ⟨0, 0, 0, Nat.zero_le _, by omega, rfl, rfl, rfl, rfl⟩
  case round =>
    obtain ⟨j, N, K, hj1, hj2, hR, rfl, rfl, rfl⟩ := hrel
    have hb := rdTo_11 s.data.toList j hj2
    rw [hR] at hb
    have hN : (N : Int) < 100000000000 := hb.1
    have hK : (K : Int) ≤ 11 := hb.2
    clear hb
    by_cases hlt : j < s.size
    · by_cases h11 : j < 11
      · have hji : (j : Int) < (s.size : Int) := by omega
        have hj0 : (0 : Int) ≤ (j : Int) := by omega
        have h11i : (j : Int) < 11 := by omega
        by_cases hd : 48 ≤ s[j].toNat ∧ s[j].toNat ≤ 57
        · have HR := Lib.hid (rdTo_yes s j N K hlt hR hd.1 hd.2)
          have h1 : (48 : Int) ≤ ((s[j].toNat : Nat) : Int) := by omega
          have h2 : ((s[j].toNat : Nat) : Int) ≤ 57 := by omega
          have h3 : (((s[j].toNat : Nat) : Int) - 48) % 256 = ((s[j].toNat : Nat) : Int) - 48 := by omega
          have HV : Hid ((N : Int) * 10 + (((s[j].toNat : Nat) : Int) - 48) = ((N * 10 + (s[j].toNat - 48) : Nat) : Int)) := by show _ = _; omega
          clear hR hd
          go_wp2
          go_round
          case rel => exact ⟨j + 1, _, _, by omega, by omega, HR.out, by rw [HV.out], by go_num, by go_num⟩
          case measure => simp [intOf]; omega
        · have HR := Lib.hid (rdTo_no s j N K hlt hR hd)
          by_cases h1 : 48 ≤ s[j].toNat
          · have h1i : (48 : Int) ≤ ((s[j].toNat : Nat) : Int) := by omega
            have h2 : ¬ ((s[j].toNat : Nat) : Int) ≤ 57 := by omega
            clear hR hd h1
            go_wp2
            go_round
            case rel => exact ⟨j + 1, _, _, by omega, by omega, HR.out, rfl, rfl, by go_num⟩
            case measure => simp [intOf]; omega
          · have h1i : ¬ (48 : Int) ≤ ((s[j].toNat : Nat) : Int) := by omega
            clear hR hd h1
            go_wp2
            go_round
            case rel => exact ⟨j + 1, _, _, by omega, by omega, HR.out, rfl, rfl, by go_num⟩
            case measure => simp [intOf]; omega
      · obtain rfl : j = 11 := by omega
        have hji : (11 : Int) < (s.size : Int) := by omega
        have hpi : (0 : Int) < (s.size : Int) := by omega
        have hp : 0 < s.size := by omega
        by_cases h45 : s[0].toNat = 45
        · have hNum : rdNum s.data.toList = -(N : Int) := by
            unfold rdNum
            rw [hR, if_pos (head45 s hp h45)]
          have hbi : ((s[0].toNat : Nat) : Int) = 45 := by omega
          by_cases hk : 9 < K
          · have HE : Hid (specRd s.data.toList = none) := by
              show specRd s.data.toList = none
              unfold specRd
              rw [hNum, hR]
              exact if_neg (fun hc => by have := hc.1; have := hc.2.1; simp only at *; omega)
            have hki : (9 : Int) < (K : Int) := by omega
            clear hk hR hNum hlen
            go_wp2
            go_ret2
            exact ⟨by rw [HE.out]; rfl, Below.refl _ _⟩
          · have hki : decide ((9 : Int) < (K : Int)) = false := by simp; omega
            by_cases hz : 10 < s.size
            · have HE : Hid (specRd s.data.toList = none) := by
                show specRd s.data.toList = none
                unfold specRd
                rw [hNum, hR]
                exact if_neg (fun hc => by have := hc.1; have := hc.2.1; simp only at *; omega)
              have hzi : (10 : Int) < (s.size : Int) := by omega
              clear hk hR hNum hlen
              go_wp2
              go_ret2
              exact ⟨by rw [HE.out]; rfl, Below.refl _ _⟩
            · have hzi : decide ((10 : Int) < (s.size : Int)) = false := by simp; omega
              have hD : Hid (∀ W, Calls Tryd.prog 19 #[.int .i64 (-(N : Int))] W fun e w' => e = .returned (.string ⟨(itoa (-(N : Int))).toArray⟩) ∧ Below W.heap.size W w') := fun W => sDec (-(N : Int)) (by omega) (by omega) W
              by_cases heq : itoa (-(N : Int)) = s.data.toList
              · have HE : Hid (specRd s.data.toList = some (-(N : Int))) := by
                  show specRd s.data.toList = _
                  unfold specRd
                  rw [hNum, hR]
                  exact if_pos ⟨by simp only; omega, by omega, heq⟩
                have hE : (⟨(itoa (-(N : Int))).toArray⟩ : ByteArray) = s := by rw [heq]
                rw [hE] at hD
                clear hE
                clear hk hR hNum heq hz hlen
                go_wp2_with fail
                refine (hD.out _).mono ?_
                rintro e w1 ⟨rfl, b1⟩
                go_wp2
                go_ret2
                exact ⟨by rw [HE.out]; rfl, b1⟩
              · have HE : Hid (specRd s.data.toList = none) := by
                  show specRd s.data.toList = none
                  unfold specRd
                  rw [hNum, hR]
                  exact if_neg (fun hc => heq hc.2.2)
                have hc : (itoa (-(N : Int)) == s.toList) = false := by
                  rw [ByteArray.toList_eq, beq_eq_false_iff_ne]
                  exact heq
                clear hk hR hNum heq hz hlen
                go_wp2_with fail
                refine (hD.out _).mono ?_
                rintro e w1 ⟨rfl, b1⟩
                go_wp2
                go_ret2
                exact ⟨by rw [HE.out]; rfl, b1⟩
        · have hNum : rdNum s.data.toList = (N : Int) := by
            unfold rdNum
            rw [hR, if_neg (fun hh => h45 (head45' s hp hh))]
          have hbi : (((s[0].toNat : Nat) : Int) == 45) = false := by simp; omega
          by_cases hk : 9 < K
          · have HE : Hid (specRd s.data.toList = none) := by
              show specRd s.data.toList = none
              unfold specRd
              rw [hNum, hR]
              exact if_neg (fun hc => by have := hc.1; have := hc.2.1; simp only at *; omega)
            have hki : (9 : Int) < (K : Int) := by omega
            clear hk hR hNum hlen
            go_wp2
            go_ret2
            exact ⟨by rw [HE.out]; rfl, Below.refl _ _⟩
          · have hki : decide ((9 : Int) < (K : Int)) = false := by simp; omega
            by_cases hz : 10 < s.size
            · have HE : Hid (specRd s.data.toList = none) := by
                show specRd s.data.toList = none
                unfold specRd
                rw [hNum, hR]
                exact if_neg (fun hc => by have := hc.1; have := hc.2.1; simp only at *; omega)
              have hzi : (10 : Int) < (s.size : Int) := by omega
              clear hk hR hNum hlen
              go_wp2
              go_ret2
              exact ⟨by rw [HE.out]; rfl, Below.refl _ _⟩
            · have hzi : decide ((10 : Int) < (s.size : Int)) = false := by simp; omega
              have hD : Hid (∀ W, Calls Tryd.prog 19 #[.int .i64 (N : Int)] W fun e w' => e = .returned (.string ⟨(itoa (N : Int)).toArray⟩) ∧ Below W.heap.size W w') := fun W => sDec (N : Int) (by omega) (by omega) W
              by_cases heq : itoa (N : Int) = s.data.toList
              · have HE : Hid (specRd s.data.toList = some (N : Int)) := by
                  show specRd s.data.toList = _
                  unfold specRd
                  rw [hNum, hR]
                  exact if_pos ⟨by simp only; omega, by omega, heq⟩
                have hE : (⟨(itoa (N : Int)).toArray⟩ : ByteArray) = s := by rw [heq]
                rw [hE] at hD
                clear hE
                clear hk hR hNum heq hz hlen
                go_wp2_with fail
                refine (hD.out _).mono ?_
                rintro e w1 ⟨rfl, b1⟩
                go_wp2
                go_ret2
                exact ⟨by rw [HE.out]; rfl, b1⟩
              · have HE : Hid (specRd s.data.toList = none) := by
                  show specRd s.data.toList = none
                  unfold specRd
                  rw [hNum, hR]
                  exact if_neg (fun hc => heq hc.2.2)
                have hc : (itoa (N : Int) == s.toList) = false := by
                  rw [ByteArray.toList_eq, beq_eq_false_iff_ne]
                  exact heq
                clear hk hR hNum heq hz hlen
                go_wp2_with fail
                refine (hD.out _).mono ?_
                rintro e w1 ⟨rfl, b1⟩
                go_wp2
                go_ret2
                exact ⟨by rw [HE.out]; rfl, b1⟩
    · obtain rfl : j = s.size := by omega
      have hR := (rdTo_end s.data.toList s.size (by omega) hj2).trans hR
      rcases Nat.eq_zero_or_pos s.size with h0 | hp
      · have hNum : rdNum s.data.toList = (N : Int) := by
          unfold rdNum
          have : s.data.toList = [] := List.length_eq_zero_iff.1 (by omega)
          rw [hR, this]
          first | done | rfl
        have h0i : ¬ (0 : Int) < (s.size : Int) := by omega
        by_cases hk : 9 < K
        · have HE : Hid (specRd s.data.toList = none) := by
            show specRd s.data.toList = none
            unfold specRd
            rw [hNum, hR]
            exact if_neg (fun hc => by have := hc.1; have := hc.2.1; simp only at *; omega)
          have hki : (9 : Int) < (K : Int) := by omega
          clear hk hR hNum hlen
          go_wp2
          go_ret2
          exact ⟨by rw [HE.out]; rfl, Below.refl _ _⟩
        · have hki : decide ((9 : Int) < (K : Int)) = false := by simp; omega
          by_cases hz : 10 < s.size
          · exact absurd hz (by omega)
          · have hzi : decide ((10 : Int) < (s.size : Int)) = false := by simp; omega
            have hD : Hid (∀ W, Calls Tryd.prog 19 #[.int .i64 (N : Int)] W fun e w' => e = .returned (.string ⟨(itoa (N : Int)).toArray⟩) ∧ Below W.heap.size W w') := fun W => sDec (N : Int) (by omega) (by omega) W
            by_cases heq : itoa (N : Int) = s.data.toList
            · have HE : Hid (specRd s.data.toList = some (N : Int)) := by
                show specRd s.data.toList = _
                unfold specRd
                rw [hNum, hR]
                exact if_pos ⟨by simp only; omega, by omega, heq⟩
              have hE : (⟨(itoa (N : Int)).toArray⟩ : ByteArray) = s := by rw [heq]
              rw [hE] at hD
              clear hE
              clear hk hR hNum heq hz hlen
              go_wp2_with fail
              refine (hD.out _).mono ?_
              rintro e w1 ⟨rfl, b1⟩
              go_wp2
              go_ret2
              exact ⟨by rw [HE.out]; rfl, b1⟩
            · have HE : Hid (specRd s.data.toList = none) := by
                show specRd s.data.toList = none
                unfold specRd
                rw [hNum, hR]
                exact if_neg (fun hc => heq hc.2.2)
              have hc : (itoa (N : Int) == s.toList) = false := by
                rw [ByteArray.toList_eq, beq_eq_false_iff_ne]
                exact heq
              clear hk hR hNum heq hz hlen
              go_wp2_with fail
              refine (hD.out _).mono ?_
              rintro e w1 ⟨rfl, b1⟩
              go_wp2
              go_ret2
              exact ⟨by rw [HE.out]; rfl, b1⟩
      · have hpi : (0 : Int) < (s.size : Int) := by omega
        by_cases h45 : s[0].toNat = 45
        · have hNum : rdNum s.data.toList = -(N : Int) := by
            unfold rdNum
            rw [hR, if_pos (head45 s hp h45)]
          have hbi : ((s[0].toNat : Nat) : Int) = 45 := by omega
          by_cases hk : 9 < K
          · have HE : Hid (specRd s.data.toList = none) := by
              show specRd s.data.toList = none
              unfold specRd
              rw [hNum, hR]
              exact if_neg (fun hc => by have := hc.1; have := hc.2.1; simp only at *; omega)
            have hki : (9 : Int) < (K : Int) := by omega
            clear hk hR hNum hlen
            go_wp2
            go_ret2
            exact ⟨by rw [HE.out]; rfl, Below.refl _ _⟩
          · have hki : decide ((9 : Int) < (K : Int)) = false := by simp; omega
            by_cases hz : 10 < s.size
            · have HE : Hid (specRd s.data.toList = none) := by
                show specRd s.data.toList = none
                unfold specRd
                rw [hNum, hR]
                exact if_neg (fun hc => by have := hc.1; have := hc.2.1; simp only at *; omega)
              have hzi : (10 : Int) < (s.size : Int) := by omega
              clear hk hR hNum hlen
              go_wp2
              go_ret2
              exact ⟨by rw [HE.out]; rfl, Below.refl _ _⟩
            · have hzi : decide ((10 : Int) < (s.size : Int)) = false := by simp; omega
              have hD : Hid (∀ W, Calls Tryd.prog 19 #[.int .i64 (-(N : Int))] W fun e w' => e = .returned (.string ⟨(itoa (-(N : Int))).toArray⟩) ∧ Below W.heap.size W w') := fun W => sDec (-(N : Int)) (by omega) (by omega) W
              by_cases heq : itoa (-(N : Int)) = s.data.toList
              · have HE : Hid (specRd s.data.toList = some (-(N : Int))) := by
                  show specRd s.data.toList = _
                  unfold specRd
                  rw [hNum, hR]
                  exact if_pos ⟨by simp only; omega, by omega, heq⟩
                have hE : (⟨(itoa (-(N : Int))).toArray⟩ : ByteArray) = s := by rw [heq]
                rw [hE] at hD
                clear hE
                clear hk hR hNum heq hz hlen
                go_wp2_with fail
                refine (hD.out _).mono ?_
                rintro e w1 ⟨rfl, b1⟩
                go_wp2
                go_ret2
                exact ⟨by rw [HE.out]; rfl, b1⟩
              · have HE : Hid (specRd s.data.toList = none) := by
                  show specRd s.data.toList = none
                  unfold specRd
                  rw [hNum, hR]
                  exact if_neg (fun hc => heq hc.2.2)
                have hc : (itoa (-(N : Int)) == s.toList) = false := by
                  rw [ByteArray.toList_eq, beq_eq_false_iff_ne]
                  exact heq
                clear hk hR hNum heq hz hlen
                go_wp2_with fail
                refine (hD.out _).mono ?_
                rintro e w1 ⟨rfl, b1⟩
                go_wp2
                go_ret2
                exact ⟨by rw [HE.out]; rfl, b1⟩
        · have hNum : rdNum s.data.toList = (N : Int) := by
            unfold rdNum
            rw [hR, if_neg (fun hh => h45 (head45' s hp hh))]
          have hbi : (((s[0].toNat : Nat) : Int) == 45) = false := by simp; omega
          by_cases hk : 9 < K
          · have HE : Hid (specRd s.data.toList = none) := by
              show specRd s.data.toList = none
              unfold specRd
              rw [hNum, hR]
              exact if_neg (fun hc => by have := hc.1; have := hc.2.1; simp only at *; omega)
            have hki : (9 : Int) < (K : Int) := by omega
            clear hk hR hNum hlen
            go_wp2
            go_ret2
            exact ⟨by rw [HE.out]; rfl, Below.refl _ _⟩
          · have hki : decide ((9 : Int) < (K : Int)) = false := by simp; omega
            by_cases hz : 10 < s.size
            · have HE : Hid (specRd s.data.toList = none) := by
                show specRd s.data.toList = none
                unfold specRd
                rw [hNum, hR]
                exact if_neg (fun hc => by have := hc.1; have := hc.2.1; simp only at *; omega)
              have hzi : (10 : Int) < (s.size : Int) := by omega
              clear hk hR hNum hlen
              go_wp2
              go_ret2
              exact ⟨by rw [HE.out]; rfl, Below.refl _ _⟩
            · have hzi : decide ((10 : Int) < (s.size : Int)) = false := by simp; omega
              have hD : Hid (∀ W, Calls Tryd.prog 19 #[.int .i64 (N : Int)] W fun e w' => e = .returned (.string ⟨(itoa (N : Int)).toArray⟩) ∧ Below W.heap.size W w') := fun W => sDec (N : Int) (by omega) (by omega) W
              by_cases heq : itoa (N : Int) = s.data.toList
              · have HE : Hid (specRd s.data.toList = some (N : Int)) := by
                  show specRd s.data.toList = _
                  unfold specRd
                  rw [hNum, hR]
                  exact if_pos ⟨by simp only; omega, by omega, heq⟩
                have hE : (⟨(itoa (N : Int)).toArray⟩ : ByteArray) = s := by rw [heq]
                rw [hE] at hD
                clear hE
                clear hk hR hNum heq hz hlen
                go_wp2_with fail
                refine (hD.out _).mono ?_
                rintro e w1 ⟨rfl, b1⟩
                go_wp2
                go_ret2
                exact ⟨by rw [HE.out]; rfl, b1⟩
              · have HE : Hid (specRd s.data.toList = none) := by
                  show specRd s.data.toList = none
                  unfold specRd
                  rw [hNum, hR]
                  exact if_neg (fun hc => heq hc.2.2)
                have hc : (itoa (N : Int) == s.toList) = false := by
                  rw [ByteArray.toList_eq, beq_eq_false_iff_ne]
                  exact heq
                clear hk hR hNum heq hz hlen
                go_wp2_with fail
                refine (hD.out _).mono ?_
                rintro e w1 ⟨rfl, b1⟩
                go_wp2
                go_ret2
                exact ⟨by rw [HE.out]; rfl, b1⟩
theorem bytes_or {w w' : World} {t : TypeId} (h : w' = w ∨ ∃ x, w' = Lib.bytesWorld w t x) : Below w.heap.size w w' := by
  rcases h with rfl | ⟨x, rfl⟩
  · exact Below.refl _ _
  · exact Lib.bytesWorld_below _ _ _
set_option maxRecDepth 100000 in
set_option maxHeartbeats 1000000 in
theorem iReadDec (s : ByteArray) (hs : s.size ≤ 1048576) (w : World) (htab : Lib.TabIs Tryd.prog w "internal/strconv.uint64pow10" .u64 Lib.pow10Tab) (t1 t2 : TypeId) (p1 p2 : Value)
    (hv1 : w.var? Tryd.prog "strconv.ErrSyntax" = some #[.iface t1 p1]) (hv2 : w.var? Tryd.prog "strconv.ErrRange" = some #[.iface t2 p2]) :
    Calls Tryd.prog 7 #[.string s] w fun e w' => e = .returned (.tuple #[.int .i64 ((implRd s.data.toList).getD 0), .bool (implRd s.data.toList).isSome]) ∧ Below w.heap.size w w' := by
  rcases h : Lib.atoiAll s.data.toList with v | _ | _
  · have hA := Lib.hid (fun W => Tryd.strconv_Atoi_ok s (by omega) v h W)
    have hbd := Lib.atoiAll_bounds h
    have hT := Lib.hid (Lib.tabBelow_of_tabIs htab)
    clear htab hv1 hv2
    by_cases heq : itoa v = s.data.toList
    · have hc : (itoa v == s.toList) = true := by rw [ByteArray.toList_eq, ← heq]; simp
      by_cases hr : -999999999 ≤ v ∧ v ≤ 999999999
      · have HE : Hid (implRd s.data.toList = some v) := by
          show implRd s.data.toList = _
          unfold implRd
          rw [h]
          exact if_pos ⟨heq, hr⟩
        clear h heq
        go_enter Tryd.func7, Tryd.ntmps7
        go_wp2_with fail
        refine (hA.out _).mono ?_
        rintro e w1 ⟨rfl, hw⟩
        have b1 := bytes_or hw
        clear hw
        go_wp2_with fail
        refine (iDec v (by omega) (by omega) _ (hT.out.on b1).here).mono ?_
        rintro e w2 ⟨rfl, b2⟩
        have b2 := b1.trans (b2.mono b1.size)
        go_wp2_with (first
          | (go_at_call 21; refine (iIn_yes _ _ _ _ hr).mono ?_; rintro e w' ⟨rfl, rfl⟩))
        go_ret2
        exact ⟨by rw [HE.out]; rfl, b2⟩
      · have HE : Hid (implRd s.data.toList = none) := by
          show implRd s.data.toList = _
          unfold implRd
          rw [h]
          exact if_neg (fun hh => hr hh.2)
        have hr' : v < -999999999 ∨ 999999999 < v := by omega
        clear h heq hr
        go_enter Tryd.func7, Tryd.ntmps7
        go_wp2_with fail
        refine (hA.out _).mono ?_
        rintro e w1 ⟨rfl, hw⟩
        have b1 := bytes_or hw
        clear hw
        go_wp2_with fail
        refine (iDec v (by omega) (by omega) _ (hT.out.on b1).here).mono ?_
        rintro e w2 ⟨rfl, b2⟩
        have b2 := b1.trans (b2.mono b1.size)
        go_wp2_with (first
          | (go_at_call 21; refine (iIn_no _ _ _ _ hr').mono ?_; rintro e w' ⟨rfl, rfl⟩))
        go_ret2
        exact ⟨by rw [HE.out]; rfl, b2⟩
    · have hc : (itoa v == s.toList) = false := by
        rw [ByteArray.toList_eq, beq_eq_false_iff_ne]
        exact heq
      have HE : Hid (implRd s.data.toList = none) := by
        show implRd s.data.toList = _
        unfold implRd
        rw [h]
        exact if_neg (fun hh => heq hh.1)
      clear h heq
      go_enter Tryd.func7, Tryd.ntmps7
      go_wp2_with fail
      refine (hA.out _).mono ?_
      rintro e w1 ⟨rfl, hw⟩
      have b1 := bytes_or hw
      clear hw
      go_wp2_with fail
      refine (iDec v (by omega) (by omega) _ (hT.out.on b1).here).mono ?_
      rintro e w2 ⟨rfl, b2⟩
      have b2 := b1.trans (b2.mono b1.size)
      go_wp2
      go_ret2
      exact ⟨by rw [HE.out]; rfl, b2⟩
  · have HE : Hid (implRd s.data.toList = none) := by
      show implRd s.data.toList = _
      unfold implRd
      rw [h]
    have hA : Hid (Calls Tryd.prog 20 #[.string s] w fun e w' => ∃ N, e = .returned (.tuple #[.int .i64 0, .iface 60 (.pointer (some ⟨N, 0, none⟩))]) ∧ w.heap.size ≤ N ∧ w'.heap[N]? = some (.cells #[.string ⟨#[65, 116, 111, 105]⟩, .string s, .iface t1 p1] 68 (0, 0)) ∧ Below w.heap.size w w') :=
      Any.strconv_Atoi_syntax_var Tryd.laysC172 s (by omega) h t1 p1 w hv1
    clear h htab hv1 hv2
    go_enter Tryd.func7, Tryd.ntmps7
    go_wp2_with fail
    refine hA.out.mono ?_
    rintro e w1 ⟨q, rfl, -, -, b1⟩
    go_wp2
    go_ret2
    exact ⟨by rw [HE.out]; rfl, b1⟩
  · have HE : Hid (implRd s.data.toList = none) := by
      show implRd s.data.toList = _
      unfold implRd
      rw [h]
    have hA := Lib.hid (Tryd.strconv_Atoi_range_var s (by omega) h t2 p2 w hv2)
    clear h htab hv1 hv2
    go_enter Tryd.func7, Tryd.ntmps7
    go_wp2_with fail
    refine hA.out.mono ?_
    rintro e w1 ⟨q, rfl, -, -, b1⟩
    go_wp2
    go_ret2
    exact ⟨by rw [HE.out]; rfl, b1⟩
end Go.Proofs.YtcoecgcjpeijmaaDoor
