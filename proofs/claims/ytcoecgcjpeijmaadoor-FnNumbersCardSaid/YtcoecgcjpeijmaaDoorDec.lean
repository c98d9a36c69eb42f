/-
  Dec, the reference's and the program's: both return the decimal numeral. The program's reads the library's table of powers of ten.
-/
import Derived.Test.YtcoecgcjpeijmaaDoorFixed
import Derived.Test.YtcoecgcjpeijmaaDoorDecLaw
import Derived.Test.YtcoecgcjpeijmaaDoorShelf
import Derived.Lib.AppendIntMem
namespace Go.Proofs.YtcoecgcjpeijmaaDoor
open Go.ChangeShapes Go.WideShapes Go.ChangeAt Go.RowKit
open Go.Lib (decDigits itoa nDigits nDigits_le20 decDigits_length itoa_neg itoa_nonneg)
set_option linter.unusedVariables false
def ub (l : List UInt8) : List Int := l.map (fun b => (b.toNat : Int))
theorem ub_len (l : List UInt8) : (ub l).length = l.length := by simp [ub]
theorem bs_ub (l : List UInt8) : bs (ub l) = ⟨l.toArray⟩ := by
  unfold bs ub
  rw [List.map_map]
  congr 2
  have : ((fun n : Int => UInt8.ofNat n.toNat) ∘ fun b : UInt8 => (b.toNat : Int)) = id := by
    funext b
    simp
  rw [this, List.map_id]
/-- Where the reference stands: m is left of n, l is written. -/
def DecI (u0 u : Nat) (l : List UInt8) : Prop := u ≤ u0 ∧ decDigits u0 = (if u = 0 then [] else decDigits u) ++ l
theorem DecI.zero {u0 : Nat} (h : 0 < u0) : DecI u0 u0 [] := ⟨Nat.le_refl _, by rw [if_neg (by omega), List.append_nil]⟩
theorem DecI.step {u0 u : Nat} {l : List UInt8} (h : DecI u0 u l) (hu : 0 < u) : DecI u0 (u / 10) (UInt8.ofNat (48 + u % 10) :: l) := by
  obtain ⟨h1, h2⟩ := h
  refine ⟨by omega, ?_⟩
  rw [h2, if_neg (by omega)]
  by_cases h10 : u < 10
  · rw [decDigits_low u h10, if_pos (by omega), Nat.mod_eq_of_lt h10]; rfl
  · rw [decDigits_high u h10, if_neg (by omega), List.append_assoc]; rfl
theorem DecI.len {u0 u : Nat} {l : List UInt8} (h : DecI u0 u l) (h0 : u0 < 18446744073709551616) : l.length ≤ 20 := by
  have e := congrArg List.length h.2
  rw [decDigits_length, List.length_append] at e
  have := nDigits_le20 u0 h0
  omega
theorem DecI.last {u0 : Nat} {l : List UInt8} (h : DecI u0 0 l) : decDigits u0 = l := by
  have := h.2
  rwa [if_pos rfl, List.nil_append] at this
theorem ub_digit (d : Nat) (h : d < 10) (l : List UInt8) : ub (UInt8.ofNat (48 + d) :: l) = (48 + (d : Int)) :: ub l := by
  unfold ub
  rw [List.map_cons, u8_digit d h]
  congr 1
set_option maxRecDepth 100000 in
set_option maxHeartbeats 1000000 in
theorem sDec_pos (u0 : Nat) (h0 : 0 < u0) (h1 : u0 ≤ 9223372036854775807) (w : World) :
    Calls Tryd.prog 19 #[.int .i64 (u0 : Int)] w fun e w' => e = .returned (.string (bs (ub (decDigits u0)))) ∧ Below w.heap.size w w' := by
  have hz : ((u0 : Int) == 0) = false := by simp; omega
  have hn : decide ((u0 : Int) < 0) = false := by simp
  have HI := Lib.hid (DecI.zero h0)
  have H1 := Lib.hid h1
  have hm1 : (u0 : Int) ≤ 9223372036854775807 := by omega
  clear h0 h1
  go_enter Tryd.func19, Tryd.ntmps19
  go_wp2
  go_loopw [0, 3] (fun m o wr => ∃ (u : Nat) (l : List UInt8), m = .int .i64 (u : Int) ∧ o = .string (bs (ub l)) ∧ DecI u0 u l ∧ Below w.heap.size w wr) (fun m _ _ => (intOf m).toNat)
  case atStart => exact ⟨u0, [], rfl, rfl, HI.out, Below.refl _ _⟩
  case round =>
    clear hz hm1 HI
    obtain ⟨u, l, rfl, rfl, hi, hb⟩ := hrel
    rcases Nat.eq_zero_or_pos u with hu | hu
    · subst hu
      have HL := Lib.hid hi.last
      clear hi
      go_wp2
      go_ret
      exact ⟨by rw [HL.out]; rfl, hb⟩
    · have hl := hi.len (by have := H1.out; omega)
      have hS := Lib.hid (hi.step hu)
      have hum : (u : Int) ≤ 9223372036854775807 := by have := H1.out; have := hi.1; omega
      have hcv := conv_one wr
      have hadd := fun W => run_string_add_bs W [48 + (u : Int) % 10] (ub l) (by rw [ub_len]; simp; omega)
      have hd : Hid ((48 + (u : Int) % 10) :: ub l = ub (UInt8.ofNat (48 + u % 10) :: l)) := by
        show _ = _
        rw [ub_digit _ (by omega)]
        simp
      have ht : (u : Int).tmod 10 = (u : Int) % 10 := Int.tmod_eq_emod_of_nonneg (by omega)
      have hq : (u : Int).tdiv 10 = (u : Int) / 10 := Int.tdiv_eq_ediv_of_nonneg (by omega)
      have hnz : ((u : Int) != 0) = true := by simp; omega
      have hlt : decide ((u : Int) % 10 < 0) = false := by simp; omega
      have hm : (48 + (u : Int) % 10) % 256 = 48 + (u : Int) % 10 := by omega
      have hu0 : (0 : Int) < (u : Int) := by omega
      clear hi hu hl
      go_wp2
      go_roundw
      case rel => exact ⟨u / 10, _, by go_num, by rw [← hd.out], hS.out, hb.alloc hb.size _⟩
      case measure => simp [intOf]; omega
set_option maxRecDepth 100000 in
set_option maxHeartbeats 1000000 in
theorem sDec_neg (u0 : Nat) (h0 : 0 < u0) (h1 : u0 ≤ 9223372036854775808) (w : World) :
    Calls Tryd.prog 19 #[.int .i64 (-(u0 : Int))] w fun e w' => e = .returned (.string (bs (45 :: ub (decDigits u0)))) ∧ Below w.heap.size w w' := by
  have hz : (-(u0 : Int) == 0) = false := by simp; omega
  have hn : decide (-(u0 : Int) < 0) = true := by simp; omega
  have HI := Lib.hid (DecI.zero h0)
  have H1 := Lib.hid h1
  have hm1 : -9223372036854775808 ≤ -(u0 : Int) := by omega
  clear h1
  go_enter Tryd.func19, Tryd.ntmps19
  go_wp2
  go_loopw [0, 3] (fun m o wr => ∃ (u : Nat) (l : List UInt8), m = .int .i64 (-(u : Int)) ∧ o = .string (bs (ub l)) ∧ DecI u0 u l ∧ Below w.heap.size w wr) (fun m _ _ => (-(intOf m)).toNat)
  case atStart => exact ⟨u0, [], rfl, rfl, HI.out, Below.refl _ _⟩
  case round =>
    clear hz hm1 HI
    obtain ⟨u, l, rfl, rfl, hi, hb⟩ := hrel
    rcases Nat.eq_zero_or_pos u with hu | hu
    · subst hu
      have HL := Lib.hid hi.last
      have hl := hi.len (by have := H1.out; omega)
      have hadd : ∀ W, (Op.stringOp .add ⟨#[45]⟩ (bs (ub l))).run Tryd.prog W = .ok (.string (bs (45 :: ub l))) W := fun W => run_string_add_bs W [45] (ub l) (by rw [ub_len]; simp; omega)
      clear hi hl
      go_wp2
      go_ret
      exact ⟨by rw [HL.out]; rfl, hb⟩
    · have hl := hi.len (by have := H1.out; omega)
      have hS := Lib.hid (hi.step hu)
      have hum : (u : Int) ≤ 9223372036854775808 := by have := H1.out; have := hi.1; omega
      have hcv := conv_one wr
      have hadd := fun W => run_string_add_bs W [48 + (u : Int) % 10] (ub l) (by rw [ub_len]; simp; omega)
      have hd : Hid ((48 + (u : Int) % 10) :: ub l = ub (UInt8.ofNat (48 + u % 10) :: l)) := by
        show _ = _
        rw [ub_digit _ (by omega)]
        simp
      have ht : (-(u : Int)).tmod 10 = -((u : Int) % 10) := by rw [Int.neg_tmod, Int.tmod_eq_emod_of_nonneg (by omega)]
      have hq : (-(u : Int)).tdiv 10 = -((u : Int) / 10) := by rw [Int.neg_tdiv, Int.tdiv_eq_ediv_of_nonneg (by omega)]
      have hnz : (-(u : Int) != 0) = true := by simp; omega
      have hm : (48 + (u : Int) % 10) % 256 = 48 + (u : Int) % 10 := by omega
      have hu0 : (0 : Int) < (u : Int) := by omega
      have HB : Hid (Below w.heap.size w (wr.alloc (.cells #[.int .u8 (48 + (u : Int) % 10)] 5))) := hb.alloc hb.size _
      rcases Nat.eq_zero_or_pos (u % 10) with hd0 | hd0
      · have e0 : (u : Int) % 10 = 0 := by omega
        have ht0 : (-(u : Int)).tmod 10 = 0 := by rw [ht, e0]; rfl
        have hadd0 := fun W => run_string_add_bs W [48] (ub l) (by rw [ub_len]; simp; omega)
        have HB0 : Hid (Below w.heap.size w (wr.alloc (.cells #[.int .u8 48] 5))) := hb.alloc hb.size _
        have hd' : Hid ((48 : Int) :: ub l = ub (UInt8.ofNat (48 + u % 10) :: l)) := by have := hd.out; rw [e0] at this; exact this
        clear ht hadd hm HB
        clear hi hu hl hd e0 hd0
        go_wp2
        go_roundw
        case rel => exact ⟨u / 10, _, by go_num, by rw [← hd'.out], hS.out, HB0.out⟩
        case measure => simp [intOf]; omega
      · have hlt : (-((u : Int) % 10) < 0) := by omega
        clear hi hu hl
        go_wp2
        go_roundw
        case rel => exact ⟨u / 10, _, by go_num, by rw [← hd.out], hS.out, HB.out⟩
        case measure => simp [intOf]; omega
theorem sDec (n : Int) (h0 : -9223372036854775808 ≤ n) (h1 : n ≤ 9223372036854775807) (w : World) :
    Calls Tryd.prog 19 #[.int .i64 n] w fun e w' => e = .returned (.string ⟨(itoa n).toArray⟩) ∧ Below w.heap.size w w' := by
  rw [← bs_ub]
  rcases Int.lt_trichotomy n 0 with h | h | h
  · obtain ⟨u, rfl⟩ : ∃ u : Nat, n = -(u : Int) := ⟨n.natAbs, by omega⟩
    have := sDec_neg u (by omega) (by omega) w
    rw [itoa_neg u (by omega)]
    exact this
  · subst h
    have HZ : Hid (bs (ub (itoa 0)) = ⟨#[48]⟩) := by
      show bs (ub (itoa ((0 : Nat) : Int))) = _
      rw [itoa_nonneg 0, decDigits_low 0 (by omega)]
      rfl
    go_enter Tryd.func19, Tryd.ntmps19
    go_wp2
    go_ret
    exact ⟨by rw [HZ.out]; rfl, Below.refl _ _⟩
  · obtain ⟨u, rfl⟩ : ∃ u : Nat, n = (u : Int) := ⟨n.natAbs, by omega⟩
    have := sDec_pos u (by omega) (by omega) w
    rw [itoa_nonneg u]
    exact this
theorem iDec (n : Int) (h0 : -9223372036854775808 ≤ n) (h1 : n ≤ 9223372036854775807) (w : World) (htab : Lib.TabIs Tryd.prog w "internal/strconv.uint64pow10" .u64 Lib.pow10Tab) :
    Calls Tryd.prog 15 #[.int .i64 n] w fun e w' => e = .returned (.string ⟨(itoa n).toArray⟩) ∧ Below w.heap.size w w' := by
  have HT := Lib.hid htab
  clear htab
  go_enter Tryd.func15, Tryd.ntmps15
  go_wp2_with fail
  refine (Tryd.strconv_Itoa n h0 h1 _ HT.out).mono ?_
  rintro e w1 ⟨rfl, k, os, rfl⟩
  have hb := Lib.below_grow w.heap.size w (Nat.le_refl _) k os
  go_wp2
  go_ret
  exact ⟨rfl, hb⟩
end Go.Proofs.YtcoecgcjpeijmaaDoor
