/-
  The plain law of ReadVar: the first beginning of at most seven bytes that is the varint of what it says. No program in sight.
-/
import Derived.Test.YtcoecgcjpeijmaaDoorVar
import Derived.Lib.Strings
namespace Go.Proofs.YtcoecgcjpeijmaaDoor
open Go.ChangeShapes Go.WideShapes Go.ChangeAt Go.RowKit
set_option linter.unusedVariables false
def leN : List UInt8 → Nat
  | [] => 0
  | b :: l => b.toNat % 128 + 128 * leN l
theorem leN_lt (l : List UInt8) : leN l < 128 ^ l.length := by
  induction l with
  | nil => decide
  | cons b l ih => simp only [leN, List.length_cons, Nat.pow_succ]; omega
theorem leN_snoc (l : List UInt8) (b : UInt8) : leN (l ++ [b]) = leN l + b.toNat % 128 * 128 ^ l.length := by
  induction l with
  | nil => simp [leN]
  | cons c l ih =>
    simp only [List.cons_append, leN, List.length_cons, ih, Nat.pow_succ, Nat.mul_add]
    rw [Nat.mul_left_comm 128, Nat.mul_comm 128 (128 ^ l.length)]
    omega
/-- The number of bytes j .. k - 1. -/
def leD (s : ByteArray) (k j : Nat) : Nat := leN ((s.data.toList.take k).drop j)
theorem leD_end (s : ByteArray) (k : Nat) : leD s k k = 0 := by unfold leD; rw [List.drop_of_length_le (by simp; omega)]; rfl
theorem leD_lt (s : ByteArray) (k j : Nat) (h7 : k ≤ 7) : leD s k j < 562949953421312 := by
  have h1 := leN_lt ((s.data.toList.take k).drop j)
  have h2 : ((s.data.toList.take k).drop j).length ≤ 7 := by simp; omega
  have h3 := Nat.pow_le_pow_right (show 0 < 128 by decide) h2
  unfold leD
  omega
theorem leD_step (s : ByteArray) (k j : Nat) (hj : 0 < j) (hjk : j ≤ k) (hk : k ≤ s.size) : leD s k (j - 1) = leD s k j * 128 + (s[j - 1]'(by omega)).toNat % 128 := by
  unfold leD
  have hl : j - 1 < (s.data.toList.take k).length := by rw [take_len' s k hk]; omega
  rw [List.drop_eq_getElem_cons hl, show j - 1 + 1 = j from by omega]
  simp only [leN]
  rw [List.getElem_take]
  have : s.data.toList[j - 1]'(by have := hl; simp at this; simp; omega) = s[j - 1]'(by omega) := rfl
  rw [this]
  omega
 where
  take_len' (s : ByteArray) (k : Nat) (h : k ≤ s.size) : (s.data.toList.take k).length = k := by
    rw [List.length_take, Array.length_toList]; exact Nat.min_eq_left h
theorem leD_snoc (s : ByteArray) (k : Nat) (hk : k < s.size) : leD s (k + 1) 0 = leD s k 0 + s[k].toNat % 128 * 128 ^ k := by
  unfold leD
  rw [List.drop_zero, List.drop_zero, take_snoc s k hk, leN_snoc]
  rw [List.length_take, Array.length_toList, show min k s.data.size = k from Nat.min_eq_left (Nat.le_of_lt hk)]
theorem leD_lt' (s : ByteArray) (k : Nat) : leD s k 0 < 128 ^ k := by
  have h1 := leN_lt ((s.data.toList.take k).drop 0)
  have h2 : ((s.data.toList.take k).drop 0).length ≤ k := by simp; omega
  have h3 := Nat.pow_le_pow_right (show 0 < 128 by decide) h2
  unfold leD
  omega

/-! ### the shape of a varint -/
theorem varL_shape : ∀ (m n : Nat), n ≤ m → ∃ (pre : List Int) (last : Int), varL n = pre ++ [last] ∧ (∀ x ∈ pre, 128 ≤ x ∧ x ≤ 255) ∧ 0 ≤ last ∧ last < 128 := by
  intro m
  induction m with
  | zero => intro n hn; exact ⟨[], n, by rw [varL_low n (by omega)]; rfl, by simp, by omega, by omega⟩
  | succ m ih =>
    intro n hn
    by_cases h : n < 128
    · exact ⟨[], n, by rw [varL_low n h]; rfl, by simp, by omega, by omega⟩
    · obtain ⟨pre, last, e, hp, h0, h1⟩ := ih (n / 128) (by omega)
      refine ⟨(128 + (n : Int) % 128) :: pre, last, by rw [varL_high n h, e]; rfl, ?_, h0, h1⟩
      intro x hx
      rcases List.mem_cons.1 hx with rfl | hx
      · omega
      · exact hp x hx
theorem varL_ne (n : Nat) : varL n ≠ [] := by
  obtain ⟨pre, last, e, _⟩ := varL_shape n n (Nat.le_refl _)
  rw [e]; simp

theorem bs_toList (l : List Int) : (bs l).toList = l.map (fun n => UInt8.ofNat n.toNat) := by rw [ByteArray.toList_eq]; simp [bs]
/-- Is the beginning of k bytes the varint of what it says? -/
def chk (s : ByteArray) (k : Nat) : Bool := (bs (varOf ((leD s k 0 : Nat) : Int))).toList == (s.extract 0 k).toList
theorem varOf_nat (n : Nat) (h : n < 562949953421312) : varOf (n : Int) = varL n := by unfold varOf; rw [if_pos (by omega)]; rfl
theorem chk_iff (s : ByteArray) (k : Nat) (h7 : k ≤ 7) : chk s k = true ↔ (varL (leD s k 0)).map (fun n => UInt8.ofNat n.toNat) = s.data.toList.take k := by
  unfold chk
  rw [varOf_nat _ (leD_lt s k 0 h7), bs_toList, ByteArray.toList_eq, Lib.extract_data]
  simp
theorem chk_bytes (s : ByteArray) (k : Nat) (h7 : k ≤ 7) (hk : k ≤ s.size) (h : chk s k = true) : 1 ≤ k ∧ (∀ (hk1 : k - 1 < s.size), s[k - 1].toNat < 128) ∧ ∀ j (hj : j < k - 1), 128 ≤ (s[j]'(by omega)).toNat := by
  have h1 := (chk_iff s k h7).1 h
  obtain ⟨pre, last, e, hp, hl0, hl1⟩ := varL_shape (leD s k 0) (leD s k 0) (Nat.le_refl _)
  rw [e, List.map_append] at h1
  have hlen := congrArg List.length h1
  simp only [List.length_append, List.length_map, List.length_take, Array.length_toList, List.length_cons, List.length_nil] at hlen
  have hsz : s.data.size = s.size := rfl
  have hlen2 : pre.length + 1 = k := by omega
  refine ⟨by omega, ?_, ?_⟩
  · intro hk1
    have h2 := congrArg (fun l => l[k - 1]?) h1
    rw [List.getElem?_append_right (by simp; omega), List.getElem?_take, if_pos (by omega)] at h2
    simp only [List.length_map] at h2
    rw [show k - 1 - pre.length = 0 from by omega] at h2
    have h3 : s.data.toList[k - 1]? = some (s[k - 1]'hk1) := by rw [List.getElem?_eq_getElem (by simpa using hk1)]; rfl
    rw [h3] at h2
    simp at h2
    rw [← h2]
    rw [UInt8.toNat_ofNat']
    omega
  · intro j hj
    have h2 := congrArg (fun l => l[j]?) h1
    rw [List.getElem?_append_left (by simp; omega), List.getElem?_take, if_pos (by omega)] at h2
    have h3 : s.data.toList[j]? = some (s[j]'(by omega)) := by rw [List.getElem?_eq_getElem (by simp; omega)]; rfl
    rw [h3, List.getElem?_map, List.getElem?_eq_getElem (by omega)] at h2
    simp at h2
    have hx := hp (pre[j]'(by omega)) (List.getElem_mem _)
    rw [← h2, UInt8.toNat_ofNat']
    omega

/-- What ReadVar gives, from k bytes on. -/
def readVarF (s : ByteArray) : Nat → Nat → Nat × Nat
  | 0, _ => (0, 0)
  | f + 1, k => if k ≤ s.size then (if chk s k = true then (leD s k 0, k) else readVarF s f (k + 1)) else (0, 0)
def readVar (s : ByteArray) : Nat × Nat := readVarF s 7 1
theorem readVarF_skip (s : ByteArray) : ∀ (f k : Nat), (∀ k', k ≤ k' → k' < k + f → k' ≤ s.size → chk s k' = false) → readVarF s f k = (0, 0)
  | 0, k, h => rfl
  | f + 1, k, h => by
    unfold readVarF
    by_cases hk : k ≤ s.size
    · rw [if_pos hk, if_neg (by rw [h k (Nat.le_refl _) (by omega) hk]; simp)]
      exact readVarF_skip s f (k + 1) (fun k' h1 h2 h3 => h k' (by omega) (by omega) h3)
    · rw [if_neg hk]
theorem readVarF_to (s : ByteArray) : ∀ (d f k : Nat), d ≤ f → k + d ≤ s.size + 1 → (∀ k', k ≤ k' → k' < k + d → chk s k' = false) → readVarF s f k = readVarF s (f - d) (k + d)
  | 0, f, k, _, _, _ => rfl
  | d + 1, 0, k, h, _, _ => by omega
  | d + 1, f + 1, k, hd, hs, h => by
    rw [readVarF, if_pos (by omega), if_neg (by rw [h k (Nat.le_refl _) (by omega)]; simp)]
    rw [readVarF_to s d f (k + 1) (by omega) (by omega) (fun k' h1 h2 => h k' (by omega) (by omega))]
    rw [show f + 1 - (d + 1) = f - d from by omega, show k + 1 + d = k + (d + 1) from by omega]
theorem readVar_low (s : ByteArray) (k : Nat) (hk : k < 7) (hs : k < s.size) (hlow : s[k].toNat < 128) (hhigh : ∀ j (hj : j < k), 128 ≤ (s[j]'(by omega)).toNat) :
    readVar s = if chk s (k + 1) = true then (leD s (k + 1) 0, k + 1) else (0, 0) := by
  unfold readVar
  rw [readVarF_to s k 7 1 (by omega) (by omega) ?_]
  · rw [show 7 - k = (6 - k) + 1 from by omega, show 1 + k = k + 1 from by omega, readVarF, if_pos (by omega)]
    by_cases hc : chk s (k + 1) = true
    · rw [if_pos hc, if_pos hc]
    · rw [if_neg hc, if_neg hc]
      refine readVarF_skip s _ _ (fun k' h1 h2 h3 => ?_)
      by_cases hc' : chk s k' = true
      · have := (chk_bytes s k' (by omega) h3 hc').2.2 k (by omega)
        omega
      · simpa using hc'
  · intro k' h1 h2
    by_cases hc' : chk s k' = true
    · have h4 := (chk_bytes s k' (by omega) (by omega) hc').2.1 (by omega)
      have := hhigh (k' - 1) (by omega)
      omega
    · simpa using hc'
theorem readVar_none (s : ByteArray) (k : Nat) (hk : k ≤ 7) (hs : k ≤ s.size) (hend : k = 7 ∨ k = s.size) (hhigh : ∀ j (hj : j < k), 128 ≤ (s[j]'(by omega)).toNat) : readVar s = (0, 0) := by
  unfold readVar
  refine readVarF_skip s _ _ (fun k' h1 h2 h3 => ?_)
  by_cases hc' : chk s k' = true
  · have h4 := (chk_bytes s k' (by omega) h3 hc').2.1 (by omega)
    have := hhigh (k' - 1) (by omega)
    omega
  · simpa using hc'
end Go.Proofs.YtcoecgcjpeijmaaDoor
