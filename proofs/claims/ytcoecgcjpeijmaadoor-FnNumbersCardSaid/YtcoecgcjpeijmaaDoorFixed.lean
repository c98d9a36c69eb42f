/-
  ReadFixed and Fixed, the reference's and the program's: 'readN' of the first bytes; the bytes 'fixL'. No condition beyond a text of at most 2^20 bytes.
-/
import Derived.Test.YtcoecgcjpeijmaaDoorIn
namespace Go.Proofs.YtcoecgcjpeijmaaDoor
open Go.ChangeShapes Go.WideShapes Go.ChangeAt Go.RowKit
set_option linter.unusedVariables false

/-- The number of some bytes, the first the highest. -/
def readN (l : List UInt8) : Int := l.foldl (fun n b => n * 256 + (b.toNat : Int)) 0
theorem readN_snoc (l : List UInt8) (b : UInt8) : readN (l ++ [b]) = readN l * 256 + (b.toNat : Int) := by unfold readN; rw [List.foldl_append]; rfl
theorem readN_nonneg (l : List UInt8) : 0 ≤ readN l := by
  unfold readN
  have h : ∀ (l : List UInt8) (a : Int), 0 ≤ a → 0 ≤ l.foldl (fun n b => n * 256 + (b.toNat : Int)) a := by
    intro l
    induction l with
    | nil => intro a ha; exact ha
    | cons b l ih => intro a ha; exact ih (a * 256 + (b.toNat : Int)) (by omega)
  exact h l 0 (by omega)
theorem readN_lt (l : List UInt8) : readN l < 256 ^ l.length := by
  have h : ∀ (l : List UInt8) (a : Int) (m : Nat), 0 ≤ a → a < 256 ^ m → l.foldl (fun n b => n * 256 + (b.toNat : Int)) a < 256 ^ (m + l.length) := by
    intro l
    induction l with
    | nil => intro a m _ ha; exact ha
    | cons b l ih =>
      intro a m h0 ha
      have hb := byte_lt b
      have := ih (a * 256 + (b.toNat : Int)) (m + 1) (by omega) (by rw [Int.pow_succ]; omega)
      rw [List.length_cons, show m + (l.length + 1) = m + 1 + l.length from by omega]
      exact this
  have := h l 0 0 (by omega) (by decide)
  simpa [readN] using this
theorem pow256_6 (k : Nat) (h : k ≤ 6) : (256 : Int) ^ k ≤ 281474976710656 := by
  rcases (show k = 0 ∨ k = 1 ∨ k = 2 ∨ k = 3 ∨ k = 4 ∨ k = 5 ∨ k = 6 from by omega) with rfl | rfl | rfl | rfl | rfl | rfl | rfl <;> decide
theorem or_low (n : Int) (b : UInt8) (h0 : 0 ≤ n) (h1 : n < 281474976710656) : bits .or .i64 (n * 256) (b.toNat : Int) = n * 256 + (b.toNat : Int) := by
  obtain ⟨m, rfl⟩ := Int.eq_ofNat_of_zero_le h0
  have hb := byte_lt b
  have := i64_or_nat (m * 256) b.toNat (by omega) (by omega)
  have e : m * 256 ||| b.toNat = m * 256 + b.toNat := by
    have := Nat.shiftLeft_add_eq_or_of_lt (b := b.toNat) (i := 8) (by omega) m
    rw [Nat.shiftLeft_eq] at this
    exact this.symm
  rw [e] at this
  rw [show (((m * 256 : Nat)) : Int) = (m : Int) * 256 from by omega] at this
  rw [this]
  omega
theorem take_len (s : ByteArray) (k : Nat) (h : k ≤ s.size) : (s.data.toList.take k).length = k := by
  rw [List.length_take, Array.length_toList]; exact Nat.min_eq_left h
theorem readN_take_bd (s : ByteArray) (k : Nat) (h : k ≤ s.size) (h7 : k ≤ 6) : 0 ≤ readN (s.data.toList.take k) ∧ readN (s.data.toList.take k) < 281474976710656 := by
  have h1 := readN_lt (s.data.toList.take k)
  rw [take_len s k h] at h1
  have h2 := pow256_6 k h7
  exact ⟨readN_nonneg _, by omega⟩

theorem iReadFixed_in (s : ByteArray) (d : Nat) (hs : s.size ≤ 1048576) (h1 : 1 ≤ d) (h7 : d ≤ 7) (hd : d ≤ s.size) (w : World) :
    Calls Tryd.prog 14 #[.string s, .int .i64 (d : Int)] w fun e w' => e = .returned (.tuple #[.int .i64 (readN (s.data.toList.take d)), .bool true]) ∧ w = w' := by
  have hd' : (d : Int) ≤ (s.size : Int) := by omega
  go_enter Tryd.func14, Tryd.ntmps14
  go_wp2
  go_loop [6, 18] (fun n i => ∃ k : Nat, k ≤ d ∧ i = .int .i64 k ∧ n = .int .i64 (readN (s.data.toList.take k))) (fun _ i => d - (intOf i).toNat)
  case atStart => exact ⟨0, Nat.zero_le _, rfl, rfl⟩
  case round =>
    obtain ⟨k, hk, rfl, rfl⟩ := hrel
    by_cases hlt : k < d
    · have hb := readN_take_bd s k (by omega) (by omega)
      have hks : k < s.size := by omega
      have hbl := byte_lt s[k]
      have hw := byte_wrap s[k]
      have H : Hid (readN (s.data.toList.take (k + 1)) = readN (s.data.toList.take k) * 256 + (s[k].toNat : Int)) := by rw [take_snoc s k hks, readN_snoc]; rfl
      have H2 : Hid _ := or_low (readN (s.data.toList.take k)) s[k] hb.1 hb.2
      go_wp2
      go_round
      case rel => exact ⟨k + 1, by omega, by go_num, by rw [H.out, ← H2.out]⟩
      case measure => simp [intOf]; omega
    · have hke : k = d := by omega
      subst hke
      go_wp2
      go_ret2
      exact ⟨rfl, rfl⟩
theorem iReadFixed_out (s : ByteArray) (d : Int) (hs : s.size ≤ 1048576) (h : d < 1 ∨ 7 < d) (w : World) :
    Calls Tryd.prog 14 #[.string s, .int .i64 d] w fun e w' => e = .returned (.tuple #[.int .i64 0, .bool false]) ∧ w = w' := by
  go_enter Tryd.func14, Tryd.ntmps14
  go_wp2_with (first
    | (go_at_call 21; refine (iIn_no _ _ _ _ h).mono ?_; rintro e w' ⟨rfl, rfl⟩))
  go_ret2
  exact ⟨rfl, rfl⟩
theorem iReadFixed_short (s : ByteArray) (d : Int) (hs : s.size ≤ 1048576) (h1 : 1 ≤ d) (h7 : d ≤ 7) (h : (s.size : Int) < d) (w : World) :
    Calls Tryd.prog 14 #[.string s, .int .i64 d] w fun e w' => e = .returned (.tuple #[.int .i64 0, .bool false]) ∧ w = w' := by
  go_enter Tryd.func14, Tryd.ntmps14
  go_wp2
  go_ret2
  exact ⟨rfl, rfl⟩
/-- What ReadFixed says. -/
def readFixed (s : ByteArray) (d : Int) : Int × Bool := if 1 ≤ d ∧ d ≤ 7 ∧ d ≤ (s.size : Int) then (readN (s.data.toList.take d.toNat), true) else (0, false)
theorem iReadFixed (s : ByteArray) (d : Int) (hs : s.size ≤ 1048576) (w : World) :
    Calls Tryd.prog 14 #[.string s, .int .i64 d] w fun e w' => e = .returned (.tuple #[.int .i64 (readFixed s d).1, .bool (readFixed s d).2]) ∧ w = w' := by
  unfold readFixed
  by_cases h : 1 ≤ d ∧ d ≤ 7 ∧ d ≤ (s.size : Int)
  · rw [if_pos h]
    obtain ⟨n, rfl⟩ := Int.eq_ofNat_of_zero_le (show 0 ≤ d by omega)
    exact iReadFixed_in s n hs (by omega) (by omega) (by omega) w
  · rw [if_neg h]
    by_cases hd : 1 ≤ d ∧ d ≤ 7
    · exact iReadFixed_short s d hs hd.1 hd.2 (by omega) w
    · exact iReadFixed_out s d hs (by omega) w
/-! ### Fixed -/
/-- Byte i of a number, the lowest first. -/
def fixB (n : Int) (i : Nat) : Int := n / 256 ^ i % 256
/-- The bytes of a number, the highest first. -/
def fixL (n : Int) (d : Nat) : List Int := ((List.range d).map (fixB n)).reverse
theorem fixL_succ (n : Int) (k : Nat) : fixL n (k + 1) = fixB n k :: fixL n k := by unfold fixL; rw [List.range_succ]; simp
theorem fixL_length (n : Int) (k : Nat) : (fixL n k).length = k := by simp [fixL]
theorem bs_size (l : List Int) : (bs l).size = l.length := by show ((l.map _).toArray).size = _; simp
theorem bs_append (l r : List Int) : bs l ++ bs r = bs (l ++ r) := by
  unfold bs
  rw [ByteArray.mk_append_mk]
  simp
theorem run_string_add_bs (w : World) (l r : List Int) (h : l.length + r.length ≤ 1000000) : (Op.stringOp .add (bs l) (bs r)).run Tryd.prog w = .ok (.string (bs (l ++ r))) w := by
  rw [run_string_add_sum w _ _ (by rw [bs_size, bs_size]; omega), bs_append]
theorem conv_one (W : World) (x : Int) : (convert 25 9 (.slice (some ⟨W.heap.size, 0, none⟩) 1 1)).run Tryd.prog (W.alloc (.cells #[.int .u8 x] 5)) = .ok (.string (bs [x])) (W.alloc (.cells #[.int .u8 x] 5)) :=
  conv_owned (base := W.heap.size) Tryd.underlying25 Tryd.underlying9 (ns := [x]) (World.ownsRow_lit W #[.int .u8 x] 1 (Nat.le_refl _) (by decide) rfl)

theorem pow_pos' (b : Int) (n : Nat) (h : 0 < b := by decide) : 0 < b ^ n := Int.pow_pos h
theorem div_pow_succ (n b : Int) (k : Nat) (h : 0 < b := by decide) : n / b ^ (k + 1) = n / b ^ k / b := by
  have := pow_pos' b k h
  rw [Int.pow_succ, Int.ediv_ediv_of_nonneg (by omega)]
def fxs (n : Int) (d k : Nat) : List Int := (List.range d).map (fun j => if d - 1 - j < k then fixB n (d - 1 - j) else 0)
theorem fxs_zero (n : Int) (d : Nat) : (fxs n d 0).map (Value.int .u8) = (madeCells (Value.int .u8 0).cells (d * 1)).toList := by
  rw [show (Value.int .u8 0).cells = #[Value.int .u8 0] from rfl, toList_madeCells_one, Nat.mul_one]
  apply List.ext_getElem <;> simp [fxs]
theorem fxs_all (n : Int) (d : Nat) : fxs n d d = fixL n d := by
  apply List.ext_getElem
  · simp [fxs, fixL]
  · intro j h1 h2
    simp [fxs, fixL] at h1 h2 ⊢
    intro hh
    omega
theorem fxs_step (n : Int) (d k : Nat) (h : k < d) : ((fxs n d k).map (Value.int .u8)).set (d - 1 - k) (.int .u8 (fixB n k)) = (fxs n d (k + 1)).map (Value.int .u8) := by
  apply List.ext_getElem
  · simp [fxs]
  · intro j h1 h2
    simp [fxs] at h1 h2
    rw [List.getElem_set]
    simp only [fxs, List.getElem_map, List.getElem_range]
    by_cases e : d - 1 - k = j
    · subst e
      rw [if_pos rfl, if_pos (by omega), show d - 1 - (d - 1 - k) = k from by omega]
    · rw [if_neg e]
      by_cases f : d - 1 - j < k
      · rw [if_pos f, if_pos (by omega)]
      · rw [if_neg f, if_neg (by omega)]
theorem pow2_8 (k : Nat) : (2 : Int) ^ (8 * k) = 256 ^ k := by rw [Int.pow_mul]; rfl
theorem fixB_eq (n : Int) (k : Nat) : n / 2 ^ (8 * k) % 256 = fixB n k := by rw [pow2_8]; rfl
theorem iFixed_in (n : Int) (d : Nat) (h0 : 0 ≤ n) (hn : n ≤ 9223372036854775807) (h1 : 1 ≤ d) (h7 : d ≤ 7) (hz : n / 2 ^ (8 * d) = 0) (w : World) :
    Calls Tryd.prog 13 #[.int .i64 n, .int .i64 (d : Int)] w fun e w' => e = .returned (.string (bs (fixL n d))) ∧ Below w.heap.size w w' := by
  have hd1 : (1 : Int) ≤ (d : Int) := by omega
  have hd7 : (d : Int) ≤ 7 := by omega
  obtain ⟨i0, hi, hz0, hz1, hz2⟩ := info_parts info_u8
  go_enter Tryd.func13, Tryd.ntmps13
  go_wp2_with (first
    | (at_make; refine wpList_make_full _ rfl _ _ 25 rfl w.heap.size 5 i0 (.int .u8 0) 1 Tryd.underlying25 hi hz0 hz1 .i64 .i64 _ _ d rfl rfl rfl rfl (by rw [hz2]; omega) (by unfold maxLen; omega) (Nat.le_refl _) ?_; intro w1 hown1 hgrow1)
    | go_in)
  have hb1 : Below w.heap.size w w1 := (Below.refl _ _).grown hgrow1 (Nat.le_refl _) (by simp)
  clear hgrow1
  rw [← fxs_zero n d] at hown1
  go_loopw [25] (fun i wr => ∃ k : Nat, k ≤ d ∧ i = .int .i64 k ∧ wr.ownsRow w.heap.size 5 1 (.slice (some ⟨w.heap.size, 0, none⟩) d d) d ((fxs n d k).map (Value.int .u8)) ∧ Below w.heap.size w wr) (fun i _ => d - (intOf i).toNat)
  case atStart => exact ⟨0, Nat.zero_le _, rfl, hown1, hb1⟩
  case round =>
    clear hown1 hb1
    obtain ⟨k, hk, rfl, hown, hb⟩ := hrel
    by_cases hlt : k < d
    · have hcell := hown.cellAt (d - 1 - k) (by omega)
      rw [List.getElem?_eq_getElem (by simp [fxs]; omega)] at hcell
      have hfz := hown.frozenAt (d - 1 - k)
      have R := hown.stored (d - 1 - k) (.int .u8 (fixB n k))
      rw [fxs_step n d k hlt] at R
      have R1 := R.1
      have R2 := hb.setCell (p := ⟨w.heap.size, d - 1 - k, none⟩) (Nat.le_refl _) (.int .u8 (fixB n k))
      clear R hown
      have HR1 : Hid _ := R1
      have HR2 : Hid _ := R2
      clear R1 R2
      have hfe := fixB_eq n k
      go_wp2
      go_roundw
      case rel => exact ⟨k + 1, by omega, by go_num, HR1.out, HR2.out⟩
      case measure => simp [intOf]; omega
    · have hke : k = d := by omega
      subst hke
      rw [fxs_all] at hown
      have hcv := conv_owned Tryd.underlying25 Tryd.underlying9 hown
      go_wp2
      go_ret
      exact ⟨rfl, hb⟩
theorem iFixed_big (n : Int) (d : Nat) (h0 : 0 ≤ n) (h1 : 1 ≤ d) (h7 : d ≤ 7) (hz : ¬ n / 2 ^ (8 * d) = 0) (w : World) :
    Calls Tryd.prog 13 #[.int .i64 n, .int .i64 (d : Int)] w fun e w' => e = .returned (.string (bs [])) ∧ Below w.heap.size w w' := by
  have hz' : (n / 2 ^ (8 * d) != 0) = true := by simpa using hz
  have hd1 : (1 : Int) ≤ (d : Int) := by omega
  have hd7 : (d : Int) ≤ 7 := by omega
  go_enter Tryd.func13, Tryd.ntmps13
  go_wp2
  go_ret
  exact ⟨rfl, Below.refl _ _⟩
theorem iFixed_out (n d : Int) (h : d < 1 ∨ 7 < d) (w : World) :
    Calls Tryd.prog 13 #[.int .i64 n, .int .i64 d] w fun e w' => e = .returned (.string (bs [])) ∧ Below w.heap.size w w' := by
  go_enter Tryd.func13, Tryd.ntmps13
  go_wp2_with (first
    | (go_at_call 21; refine (iIn_no _ _ _ _ h).mono ?_; rintro e w' ⟨rfl, rfl⟩))
  go_ret
  exact ⟨rfl, Below.refl _ _⟩
theorem iFixed_neg (n d : Int) (h1 : 1 ≤ d) (h7 : d ≤ 7) (h : n < 0) (w : World) :
    Calls Tryd.prog 13 #[.int .i64 n, .int .i64 d] w fun e w' => e = .returned (.string (bs [])) ∧ Below w.heap.size w w' := by
  go_enter Tryd.func13, Tryd.ntmps13
  go_wp2
  go_ret
  exact ⟨rfl, Below.refl _ _⟩
/-- What Fixed gives. -/
def fixedOf (n d : Int) : List Int := if 1 ≤ d ∧ d ≤ 7 ∧ 0 ≤ n ∧ n / 256 ^ d.toNat = 0 then fixL n d.toNat else []
theorem iFixed (n d : Int) (hn : n ≤ 9223372036854775807) (w : World) :
    Calls Tryd.prog 13 #[.int .i64 n, .int .i64 d] w fun e w' => e = .returned (.string (bs (fixedOf n d))) ∧ Below w.heap.size w w' := by
  by_cases h : 1 ≤ d ∧ d ≤ 7
  · by_cases h0 : 0 ≤ n
    · obtain ⟨k, rfl⟩ := Int.eq_ofNat_of_zero_le (show 0 ≤ d by omega)
      unfold fixedOf
      by_cases hz : n / 2 ^ (8 * k) = 0
      · rw [if_pos ⟨h.1, h.2, h0, by rw [pow2_8] at hz; simpa using hz⟩]
        exact iFixed_in n k h0 hn (by omega) (by omega) hz w
      · rw [if_neg (by rw [pow2_8] at hz; simpa using fun _ _ _ => hz)]
        exact iFixed_big n k h0 (by omega) (by omega) hz w
    · unfold fixedOf; rw [if_neg (by omega)]; exact iFixed_neg n d h.1 h.2 (by omega) w
  · unfold fixedOf; rw [if_neg (by omega)]; exact iFixed_out n d (by omega) w
end Go.Proofs.YtcoecgcjpeijmaaDoor
