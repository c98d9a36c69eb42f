/-
  THE PLAIN LAW OF BITS: the bytes of the bits of a text are its own; the number of the bits of a number is it. No program here. No condition.
-/
import Derived.Test.YteojnjcoamcigaaBytesOf
import Derived.Test.YteojnjcoamcigaaBitsOf
import Derived.Test.YteojnjcoamcigaaBitsIn
namespace Go.Proofs.Yteojnjcoamcigaa
set_option linter.unusedVariables false
theorem bitsOf_length (s : ByteArray) : (bitsOf s).length = 8 * s.size := by unfold bitsOf; rw [bitsTo_length]
theorem bitsOf_get (s : ByteArray) (i : Nat) (h : i < 8 * s.size) : (bitsOf s).getD i 0 = bitAt s (i : Int) := by
  unfold bitsOf bitsTo
  rw [List.getD_eq_getElem?_getD, List.getElem?_map, List.getElem?_range h]
  rfl
theorem bitAt_bit (s : ByteArray) (i : Int) (h0 : 0 ≤ i) (h1 : i < 8 * (s.size : Int)) : isBit (bitAt s i) = true := by
  rw [isBit_iff]
  unfold bitAt
  rw [dif_pos ⟨h0, h1⟩]
  have e1 := Int.emod_nonneg (((s[(i / 8).toNat]'(by omega)).toNat : Int) / 2 ^ (7 - i % 8).toNat) (b := 2) (by omega)
  have e2 := Int.emod_lt_of_pos (((s[(i / 8).toNat]'(by omega)).toNat : Int) / 2 ^ (7 - i % 8).toNat) (b := 2) (by omega)
  exact ⟨e1, by omega⟩
theorem bits_all (s : ByteArray) : (bitsOf s).all isBit = true := by
  rw [List.all_eq_true]
  intro x hx
  unfold bitsOf bitsTo at hx
  rw [List.mem_map] at hx
  obtain ⟨i, hi, rfl⟩ := hx
  rw [List.mem_range] at hi
  exact bitAt_bit s _ (by omega) (by omega)
theorem byte_sum : ∀ b : Fin 256, numL ((List.range 8).map (fun t : Nat => ((b.val : Nat) : Int) / 2 ^ (7 - t) % 2)) = (b.val : Int) := by decide +kernel
theorem bitAt_at (s : ByteArray) (j t : Nat) (hj : j < s.size) (ht : t < 8) : bitAt s ((8 * j + t : Nat) : Int) = ((s[j]'hj).toNat : Int) / 2 ^ (7 - t) % 2 := by
  have e1 : (((8 * j + t : Nat) : Int) / 8).toNat = j := by omega
  have e2 : (7 - ((8 * j + t : Nat) : Int) % 8).toNat = 7 - t := by omega
  unfold bitAt
  rw [dif_pos ⟨by omega, by omega⟩, e2]
  simp only [e1]
theorem chunk_bits (s : ByteArray) (j : Nat) (hj : j < s.size) : chunk (bitsOf s) j = (List.range 8).map (fun t : Nat => ((s[j]'hj).toNat : Int) / 2 ^ (7 - t) % 2) := by
  apply List.ext_getElem
  · rw [chunk_len _ _ _ (bitsOf_length s) (by omega)]; simp
  · intro t h1 h2
    have ht : t < 8 := by simpa using h2
    rw [List.getElem_map, List.getElem_range, ← bitAt_at s j t hj ht, ← bitsOf_get s _ (by omega), List.getD_eq_getElem?_getD, List.getElem?_eq_getElem (by rw [bitsOf_length]; omega)]
    simp [chunk]
theorem numL_chunk (s : ByteArray) (j : Nat) (hj : j < s.size) : numL (chunk (bitsOf s) j) = ((s[j]'hj).toNat : Int) := by
  rw [chunk_bits s j hj]
  exact byte_sum ⟨(s[j]'hj).toNat, (s[j]'hj).toNat_lt⟩
theorem bytes_back (s : ByteArray) : bs (bytesOf (bitsOf s)).1 = s ∧ (bytesOf (bitsOf s)).2 = true := by
  have hok : bytesOk (bitsOf s) = true := by
    unfold bytesOk
    rw [bits_all, bitsOf_length]
    simp
  unfold bytesOf
  rw [if_pos hok]
  refine ⟨?_, rfl⟩
  show bs (bytesL (bitsOf s)) = s
  unfold bytesL bytesTo
  rw [bitsOf_length, show 8 * s.size / 8 = s.size from by omega]
  obtain ⟨d⟩ := s
  unfold bs
  congr 1
  apply Array.ext
  · simp [ByteArray.size]
  · intro i h1 h2
    have := numL_chunk ⟨d⟩ i h2
    simp only [List.getElem_toArray, List.getElem_map, List.getElem_range]
    rw [this]
    simp only [Int.toNat_natCast]
    exact UInt8.ofNat_toNat
theorem bitsK_num (n : Int) (d : Nat) (hz : n / 2 ^ d = 0) : ∀ k, k ≤ d → numL (bitsK n d k) = n / 2 ^ (d - k)
  | 0, _ => by rw [Nat.sub_zero, hz]; rfl
  | k + 1, hk => by
    rw [bitsK_succ, numL_snoc, bitsK_num n d hz k (by omega), show d - k = (d - 1 - k) + 1 from by omega, show d - (k + 1) = d - 1 - k from by omega, Int.pow_succ, ← Int.ediv_ediv_of_nonneg (by exact Int.le_of_lt (Int.pow_pos (by omega)))]
    omega
theorem bitsK_bits (n : Int) (d k : Nat) : (bitsK n d k).all isBit = true := by
  rw [List.all_eq_true]
  intro x hx
  unfold bitsK at hx
  rw [List.mem_map] at hx
  obtain ⟨i, _, rfl⟩ := hx
  rw [isBit_iff]
  have e1 := Int.emod_nonneg (n / 2 ^ (d - 1 - i)) (b := 2) (by omega)
  have e2 := Int.emod_lt_of_pos (n / 2 ^ (d - 1 - i)) (b := 2) (by omega)
  exact ⟨e1, by omega⟩
theorem num_back (n w : Int) (h : 0 < (bitsIn n w).length) : numOf (bitsIn n w) = (n, true) ∧ ((bitsIn n w).length : Int) = w := by
  unfold bitsIn at h ⊢
  split at h
  · rename_i hc
    obtain ⟨h1, h2, h3, h4⟩ := hc
    rw [if_pos ⟨h1, h2, h3, h4⟩]
    have e := bitsK_num n w.toNat h4 w.toNat (Nat.le_refl _)
    rw [Nat.sub_self, Int.pow_zero, Int.ediv_one] at e
    have el := bitsK_length n w.toNat w.toNat
    refine ⟨?_, by rw [el]; omega⟩
    unfold numOf
    rw [bitsK_bits, el, if_pos (by simp; omega), e]
  · simp at h
end Go.Proofs.Yteojnjcoamcigaa
