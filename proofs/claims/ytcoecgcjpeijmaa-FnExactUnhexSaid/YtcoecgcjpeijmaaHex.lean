/-
  Hex, the reference's and the program's: both return the digits 'hexL' of the bytes, for texts of at most 2^20 bytes.
-/
import Derived.Test.YtcoecgcjpeijmaaIn
namespace Go.Proofs.Ytcoecgcjpeijmaa
open Go.ChangeShapes Go.WideShapes Go.ChangeAt Go.RowKit
set_option linter.unusedVariables false
def hexd (k : Nat) : Int := (([48, 49, 50, 51, 52, 53, 54, 55, 56, 57, 97, 98, 99, 100, 101, 102] : List UInt8).getD k 0).toNat
theorem hexd_all : ∀ n : Fin 16, (((ByteArray.mk #[48, 49, 50, 51, 52, 53, 54, 55, 56, 57, 97, 98, 99, 100, 101, 102])[n.val]'(by exact n.isLt)).toNat : Int) = hexd n.val := by decide
theorem hexd_at (k : Nat) (h : k < 16) : (((ByteArray.mk #[48, 49, 50, 51, 52, 53, 54, 55, 56, 57, 97, 98, 99, 100, 101, 102])[k]'(by exact h)).toNat : Int) = hexd k := hexd_all ⟨k, h⟩
theorem wrap_byte_hi (b : UInt8) : IntKind.i64.wrap ((b.toNat : Int) / 16) = (b.toNat : Int) / 16 := IntWalk.i64_in _ (by have := byte_lt b; omega)
theorem wrap_byte_lo (b : UInt8) : IntKind.i64.wrap ((b.toNat : Int) % 16) = (b.toNat : Int) % 16 := IntWalk.i64_in _ (by have := byte_lt b; omega)
def hexi (k : Int) : Int := hexd k.toNat
theorem tmod_byte (b : UInt8) : (b.toNat : Int).tmod 16 = (b.toNat : Int) % 16 := Int.tmod_eq_emod_of_nonneg (by omega)
theorem sDigit (k : Int) (h0 : 0 ≤ k) (h1 : k < 16) (w : World) :
    Calls Try.prog 8 #[.int .i64 k] w fun e w' => e = .returned (.int .u8 (hexi k)) ∧ w' = w := by
  go_enter Try.func8, Try.ntmps8
  go_wp2
  go_ret
  exact ⟨ret_int (hexd_at k.toNat (by omega)), rfl⟩
/-- The hexadecimal digits of bytes. -/
def hexL : List UInt8 → List Int
  | [] => []
  | b :: l => hexd (b.toNat / 16) :: hexd (b.toNat % 16) :: hexL l
theorem hexL_append (l r : List UInt8) : hexL (l ++ r) = hexL l ++ hexL r := by induction l with | nil => rfl | cons b l ih => simp [hexL, ih]
theorem hexL_length (l : List UInt8) : (hexL l).length = 2 * l.length := by induction l with | nil => rfl | cons b l ih => simp [hexL, ih]; omega

theorem hex_step (s : ByteArray) (k : Nat) (h : k < s.size) : (hexL (s.data.toList.take k)).map (Value.int .u8) ++ [.int .u8 (hexi ((s[k].toNat : Int) / 16)), .int .u8 (hexi ((s[k].toNat : Int) % 16))] = (hexL (s.data.toList.take (k + 1))).map (Value.int .u8) := by
  rw [take_snoc s k h, hexL_append]
  simp only [hexL, List.map_append, List.map_cons, List.map_nil, hexi]
  rw [show ((s[k].toNat : Int) / 16).toNat = s[k].toNat / 16 from by omega, show ((s[k].toNat : Int) % 16).toNat = s[k].toNat % 16 from by omega]
theorem hexi_at (x : Int) (h : x.toNat < 16) : (((ByteArray.mk #[48, 49, 50, 51, 52, 53, 54, 55, 56, 57, 97, 98, 99, 100, 101, 102])[x.toNat]'(by exact h)).toNat : Int) = hexi x := hexd_at _ h
theorem ofInt_u8 (a : Nat) (ha : a < 256) : (BitVec.ofInt 8 (a : Int)).toNat = a := by
  rw [BitVec.ofInt_natCast, BitVec.toNat_ofNat]; exact Nat.mod_eq_of_lt (by omega)
theorem u8_and_nat (a b : Nat) (ha : a < 256) (hb : b < 256) : bits .and .u8 (a : Int) (b : Int) = ((a &&& b : Nat) : Int) := by
  have hx : a &&& b < 2 ^ 8 := Nat.and_lt_two_pow _ (by omega)
  show IntKind.u8.wrap ((BitVec.ofInt 8 (a : Int) &&& BitVec.ofInt 8 (b : Int)).toNat : Int) = _
  rw [BitVec.toNat_and, ofInt_u8 a ha, ofInt_u8 b hb, IntKind.wrap_u8]
  omega
theorem and15 (b : UInt8) : bits .and .u8 (b.toNat : Int) 15 = (b.toNat : Int) % 16 := by
  have := u8_and_nat b.toNat 15 (byte_lt b) (by omega)
  rw [show (15 : Nat) = 2 ^ 4 - 1 from rfl, Nat.and_two_pow_sub_one_eq_mod] at this
  simpa using this
end Go.Proofs.Ytcoecgcjpeijmaa
