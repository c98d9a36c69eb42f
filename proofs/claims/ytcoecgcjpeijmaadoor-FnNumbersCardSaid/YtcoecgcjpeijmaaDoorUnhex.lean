/-
  Unhex, the reference's and the program's: both read the bytes 'unhex' of hexadecimal digits, for texts of at most 2^20 bytes.
-/
import Derived.Test.YtcoecgcjpeijmaaDoorHex
import Derived.Test.YtcoecgcjpeijmaaDoorApp
namespace Go.Proofs.YtcoecgcjpeijmaaDoor
open Go.ChangeShapes Go.WideShapes Go.ChangeAt Go.RowKit
set_option linter.unusedVariables false
/-- What a hexadecimal digit stands for. -/
def dig (b : Int) : Int := if 48 ≤ b ∧ b ≤ 57 then b - 48 else if 97 ≤ b ∧ b ≤ 102 then b - 87 else -1
theorem dig_hexd_ : ∀ k : Fin 16, dig (hexd k.val) = k.val := by decide +kernel
theorem dig_hexd (k : Nat) (h : k < 16) : dig (hexd k) = k := dig_hexd_ ⟨k, h⟩
theorem dig_bd (b : Int) : dig b = -1 ∨ 0 ≤ dig b ∧ dig b ≤ 15 := by unfold dig; split; omega; split <;> omega
theorem hexd_dig_ : ∀ b : Fin 256, dig (b.val : Int) = -1 ∨ hexd (dig (b.val : Int)).toNat = (b.val : Int) := by decide +kernel
theorem hexd_dig (b : Nat) (h : b < 256) : dig (b : Int) = -1 ∨ hexd (dig (b : Int)).toNat = (b : Int) := hexd_dig_ ⟨b, h⟩
theorem hexd_bd_ : ∀ k : Fin 16, 0 ≤ hexd k.val ∧ hexd k.val < 256 := by decide +kernel
def unhTo (s : ByteArray) : Nat → Option (List Int)
  | 0 => some []
  | k + 1 => match unhTo s k with
    | none => none
    | some l => if dig ((s.data.toList.getD (2 * k) 0).toNat : Int) < 0 ∨ dig ((s.data.toList.getD (2 * k + 1) 0).toNat : Int) < 0 then none else some (l ++ [16 * dig ((s.data.toList.getD (2 * k) 0).toNat : Int) + dig ((s.data.toList.getD (2 * k + 1) 0).toNat : Int)])
def unhex (s : ByteArray) : Option (List Int) := if s.size % 2 = 1 then none else unhTo s (s.size / 2)
def unhS (o : Option (List Int)) : ByteArray := match o with | none => ⟨#[]⟩ | some l => bs l
theorem unh_none (s : ByteArray) (k : Nat) (h : unhTo s k = none) : ∀ m, unhTo s (k + m) = none
  | 0 => h
  | m + 1 => by show unhTo s (k + m + 1) = none; simp only [unhTo, unh_none s k h m]
theorem unh_len (s : ByteArray) : ∀ (k : Nat) (l : List Int), unhTo s k = some l → l.length = k
  | 0, l, h => by simp only [unhTo, Option.some.injEq] at h; subst h; rfl
  | k + 1, l, h => by
    simp only [unhTo] at h
    cases hk : unhTo s k with
    | none => rw [hk] at h; simp at h
    | some m =>
      rw [hk] at h
      simp only at h
      split at h
      · cases h
      · simp only [Option.some.injEq] at h
        subst h
        rw [List.length_append, unh_len s k m hk]; rfl
theorem byte_getD (s : ByteArray) (j : Nat) (h : j < s.size) : s.data.toList.getD j 0 = s[j] := by
  rw [List.getD_eq_getElem?_getD, List.getElem?_eq_getElem (by simpa using h)]; rfl
theorem unh_yes (s : ByteArray) (k : Nat) (l : List Int) (a b : Int) (h : unhTo s k = some l) (h2 : 2 * k + 1 < s.size) (ha : dig ((s[2 * k].toNat : Nat) : Int) = a) (hb : dig ((s[2 * k + 1].toNat : Nat) : Int) = b) (ha0 : 0 ≤ a) (hb0 : 0 ≤ b) : unhTo s (k + 1) = some (l ++ [16 * a + b]) := by
  simp only [unhTo, h]
  rw [byte_getD s (2 * k) (by omega), byte_getD s (2 * k + 1) h2, ha, hb, if_neg (by omega)]
theorem unh_no (s : ByteArray) (k : Nat) (a b : Int) (h2 : 2 * k + 1 < s.size) (ha : dig ((s[2 * k].toNat : Nat) : Int) = a) (hb : dig ((s[2 * k + 1].toNat : Nat) : Int) = b) (hn : a < 0 ∨ b < 0) (h : s.size % 2 = 0) : unhex s = none := by
  have h1 : unhTo s (k + 1) = none := by
    simp only [unhTo]
    cases unhTo s k with
    | none => rfl
    | some l => simp only; rw [byte_getD s (2 * k) (by omega), byte_getD s (2 * k + 1) h2, ha, hb, if_pos hn]
  unfold unhex
  rw [if_neg (by omega)]
  have := unh_none s (k + 1) h1 (s.size / 2 - (k + 1))
  rwa [show k + 1 + (s.size / 2 - (k + 1)) = s.size / 2 from by omega] at this
set_option maxRecDepth 100000 in
theorem iDigitOf (b : Nat) (hb : b < 256) (w : World) :
    Calls Tryd.prog 26 #[.int .u8 (b : Int)] w fun e w' => e = .returned (.int .i64 (dig (b : Int))) ∧ w = w' := by
  by_cases h1 : 48 ≤ b ∧ b ≤ 57
  · have hE : Hid (dig (b : Int) = (b : Int) - 48) := by show dig (b : Int) = _; unfold dig; rw [if_pos (by omega)]
    have g1 : (48 : Int) ≤ (b : Int) := by omega
    have g2 : (b : Int) ≤ 57 := by omega
    have g3 : IntKind.u8.wrap ((b : Int) - 48) = (b : Int) - 48 := by rw [IntKind.wrap_u8]; omega
    have g4 : IntKind.i64.wrap ((b : Int) - 48) = (b : Int) - 48 := IntWalk.i64_in _ (by omega)
    clear h1
    go_enter Tryd.func26, Tryd.ntmps26
    go_wp2
    go_ret
    exact ⟨ret_int hE.out.symm, rfl⟩
  · have g0 : (decide ((48 : Int) ≤ (b : Int)) && decide ((b : Int) ≤ 57)) = false := by simp; omega
    by_cases h2 : 97 ≤ b ∧ b ≤ 102
    · have hE : Hid (dig (b : Int) = (b : Int) - 87) := by show dig (b : Int) = _; unfold dig; rw [if_neg (by omega), if_pos (by omega)]
      have g1 : (97 : Int) ≤ (b : Int) := by omega
      have g2 : (b : Int) ≤ 102 := by omega
      have k1 : (48 : Int) ≤ (b : Int) := by omega
      have k2 : decide ((b : Int) ≤ 57) = false := by simp; omega
      have g3 : IntKind.u8.wrap ((b : Int) - 97) = (b : Int) - 97 := by rw [IntKind.wrap_u8]; omega
      have g4 : IntKind.i64.wrap ((b : Int) - 97) = (b : Int) - 97 := IntWalk.i64_in _ (by omega)
      have g5 : IntKind.i64.wrap ((b : Int) - 97 + 10) = (b : Int) - 87 := by rw [IntWalk.i64_in _ (by omega)]; omega
      clear h1 h2 g0
      go_enter Tryd.func26, Tryd.ntmps26
      go_wp2
      go_ret
      exact ⟨ret_int (by rw [hE.out]), rfl⟩
    · have hE : Hid (dig (b : Int) = -1) := by show dig (b : Int) = _; unfold dig; rw [if_neg (by omega), if_neg (by omega)]
      by_cases k1 : 48 ≤ b
      · have k1' : (48 : Int) ≤ (b : Int) := by omega
        have k2 : decide ((b : Int) ≤ 57) = false := by simp; omega
        by_cases k3 : 97 ≤ b
        · have k3' : (97 : Int) ≤ (b : Int) := by omega
          have k4 : decide ((b : Int) ≤ 102) = false := by simp; omega
          clear h1 h2 g0 k1 k3
          go_enter Tryd.func26, Tryd.ntmps26
          go_wp2
          go_ret
          exact ⟨ret_int hE.out.symm, rfl⟩
        · have k3' : decide ((97 : Int) ≤ (b : Int)) = false := by simp; omega
          clear h1 h2 g0 k1 k3
          go_enter Tryd.func26, Tryd.ntmps26
          go_wp2
          go_ret
          exact ⟨ret_int hE.out.symm, rfl⟩
      · have k1' : decide ((48 : Int) ≤ (b : Int)) = false := by simp; omega
        have k3' : decide ((97 : Int) ≤ (b : Int)) = false := by simp; omega
        clear h1 h2 g0 k1
        go_enter Tryd.func26, Tryd.ntmps26
        go_wp2
        go_ret
        exact ⟨ret_int hE.out.symm, rfl⟩
theorem unh_wrap (a b : Int) (ha : 0 ≤ a ∧ a ≤ 15) (hb : 0 ≤ b ∧ b ≤ 15) : IntKind.u8.wrap (16 * a + b) = 16 * a + b := by rw [IntKind.wrap_u8]; omega
theorem or_hex_ : ∀ a b : Fin 16, bits .or .i64 ((a.val : Int) * 16) (b.val : Int) = 16 * (a.val : Int) + b.val := by decide +kernel
theorem or_hex (a b : Int) (ha : 0 ≤ a ∧ a ≤ 15) (hb : 0 ≤ b ∧ b ≤ 15) : bits .or .i64 (a * 16) b = 16 * a + b := by
  have := or_hex_ ⟨a.toNat, by omega⟩ ⟨b.toNat, by omega⟩
  simp only [Int.toNat_of_nonneg ha.1, Int.toNat_of_nonneg hb.1] at this
  exact this
set_option maxRecDepth 100000 in
set_option maxHeartbeats 1000000 in
theorem iUnhex (s : ByteArray) (hs : s.size ≤ 1048576) (w : World) :
    Calls Tryd.prog 16 #[.string s] w fun e w' => e = .returned (.tuple #[.string (unhS (unhex s)), .bool (unhex s).isSome]) ∧ Below w.heap.size w w' := by
  by_cases hodd : s.size % 2 = 1
  · have hE : Hid (unhex s = none) := by show unhex s = none; unfold unhex; rw [if_pos hodd]
    have h1 : (s.size : Int).tmod 2 = 1 := by rw [Int.tmod_eq_emod_of_nonneg (by omega)]; omega
    clear hodd
    go_enter Tryd.func16, Tryd.ntmps16
    go_wp2
    go_ret2
    exact ⟨by rw [hE.out]; rfl, by go_grown⟩
  · have hev : s.size % 2 = 0 := by omega
    have h1 : (s.size : Int).tmod 2 = 0 := by rw [Int.tmod_eq_emod_of_nonneg (by omega)]; omega
    have hU : Hid (unhex s = unhTo s (s.size / 2)) := by show unhex s = _; unfold unhex; rw [if_neg hodd]
    have hEV := Lib.hid hev
    clear hodd
    go_enter Tryd.func16, Tryd.ntmps16
    go_wp2
    go_loopw [4, 5] (fun v i wr => ∃ (k : Nat) (l : List Int), 2 * k ≤ s.size ∧ i = .int .i64 ((2 * k : Nat) : Int) ∧ unhTo s k = some l ∧ wr.ownsRow w.heap.size 5 1 v k (l.map (Value.int .u8)) ∧ Below w.heap.size w wr) (fun _ i _ => s.size - (intOf i).toNat)
    case atStart => exact ⟨0, [], by omega, rfl, rfl, World.ownsRow_made _ #[] 0 (Nat.le_refl _) (by decide) rfl, (Below.refl _ _).alloc (Nat.le_refl _) _⟩
    case round =>
      clear h1
      obtain ⟨k, l, hk, rfl, hl, hown, hb⟩ := hrel
      by_cases hlt : 2 * k < s.size
      · have hk1 : 2 * k + 1 < s.size := by omega
        have hx0 : (0 : Int) ≤ 2 * (k : Int) := by omega
        have hx1 : 2 * (k : Int) < (s.size : Int) := by omega
        have hx2 : (0 : Int) ≤ 2 * (k : Int) + 1 := by omega
        have hx3 : 2 * (k : Int) + 1 < (s.size : Int) := by omega
        have hx4 : IntKind.i64.wrap (2 * (k : Int) + 1) = 2 * (k : Int) + 1 := IntWalk.i64_in _ (by omega)
        have hx5 : (2 * (k : Int) + 1).toNat = 2 * k + 1 := by omega
        have hx6 : (2 * (k : Int)).toNat = 2 * k := by omega
        obtain ⟨a, haD⟩ : ∃ a, a = dig ((s[2 * k].toNat : Nat) : Int) := ⟨_, rfl⟩
        obtain ⟨b, hbD⟩ : ∃ b, b = dig ((s[2 * k + 1].toNat : Nat) : Int) := ⟨_, rfl⟩
        have HAD := Lib.hid haD
        have HBD := Lib.hid hbD
        have hab := dig_bd ((s[2 * k].toNat : Nat) : Int)
        have hbb := dig_bd ((s[2 * k + 1].toNat : Nat) : Int)
        rw [← haD] at hab
        rw [← hbD] at hbb
        have HG : Hid (∀ (x : UInt8) W, Calls Tryd.prog 26 #[.int .u8 ((x.toNat : Nat) : Int)] W fun e w' => e = .returned (.int .i64 (dig ((x.toNat : Nat) : Int))) ∧ W = w') := fun x W => iDigitOf _ (byte_lt _) W
        have hA' : dig ((s[2 * k].toNat : Nat) : Int) = a := haD.symm
        have hB' : dig ((s[2 * k + 1].toNat : Nat) : Int) = b := hbD.symm
        have HL := Lib.hid hl
        have hl2 : Small k := small_of (by omega)
        clear haD hbD hl
        by_cases ha0 : a < 0
        · have HE := Lib.hid (unh_no s k a b hk1 HAD.out.symm HBD.out.symm (Or.inl ha0) hEV.out)
          clear hab hbb
          go_wp2
          go_quiet ((go_at_call 26; exact Calls.quiet_of_same ((HG.out _ _).mono fun _ _ h => ⟨h.1, h.2.symm⟩)))
          go_wp2
          go_ret2
          exact ⟨by rw [HE.out]; rfl, below_drewN hb _⟩
        · have ha1 : 0 ≤ a := by omega
          have ha2 : ¬ a < 0 := ha0
          by_cases hb0 : b < 0
          · have HE := Lib.hid (unh_no s k a b hk1 HAD.out.symm HBD.out.symm (Or.inr hb0) hEV.out)
            clear hab hbb ha1
            go_wp2
            go_quiet ((go_at_call 26; exact Calls.quiet_of_same ((HG.out _ _).mono fun _ _ h => ⟨h.1, h.2.symm⟩)))
            go_wp2
            go_ret2
            exact ⟨by rw [HE.out]; rfl, below_drewN hb _⟩
          · have hb1 : 0 ≤ b := by omega
            have HN := Lib.hid (unh_yes s k l a b HL.out hk1 HAD.out.symm HBD.out.symm ha1 hb1)
            have e1 : IntKind.i64.wrap (a * 16) = a * 16 := IntWalk.i64_in _ (by omega)
            have e2 : bits .or .i64 (a * 16) b = 16 * a + b := or_hex a b (by omega) (by omega)
            have e3 : IntKind.u8.wrap (16 * a + b) = 16 * a + b := unh_wrap a b (by omega) (by omega)
            clear hab hbb ha1 hb1
            go_wp2
            go_quiet ((go_at_call 26; exact Calls.quiet_of_same ((HG.out _ _).mono fun _ _ h => ⟨h.1, h.2.symm⟩)))
            have hownD : World.ownsRow (wr.drewN nq) _ _ _ _ _ _ := hown
            have hbD := below_drewN hb nq
            go_wp2_with (first
              | (at_builtin; refine wpList_app_u8 rfl (.tmp 34) (.tmp 40) rfl _ k l rfl hownD hbD rfl hl2 ?_; intro g cap w1 hown1 hb1 _))
            go_roundw
            case rel => exact ⟨k + 1, _, by omega, by go_num, HN.out, hown1, hb1⟩
            case measure => simp [intOf]; omega
      · have hke : 2 * k = s.size := by omega
        have HE : Hid (unhex s = some l) := by
          show unhex s = some l
          rw [hU.out, ← hl]; congr 1; omega
        have hge : ¬ ((2 * k : Nat) : Int) < (s.size : Int) := by omega
        obtain ⟨a, c, hv⟩ := owns_shape hown
        subst hv
        have hcv := conv_owned Tryd.underlying25 Tryd.underlying9 hown
        clear hl hke hlt
        go_wp2
        go_ret2
        exact ⟨by rw [HE.out]; rfl, hb⟩
end Go.Proofs.YtcoecgcjpeijmaaDoor
