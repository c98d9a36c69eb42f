/-
  Hex, the reference's and the program's: both return the digits 'hexL' of the bytes, for texts of at most 2^20 bytes.
-/
import Derived.Test.YtcoecgcjpeijmaaDoorIn
namespace Go.Proofs.YtcoecgcjpeijmaaDoor
open Go.ChangeShapes Go.WideShapes Go.ChangeAt Go.RowKit
set_option linter.unusedVariables false
def hexd (k : Nat) : Int := (([48, 49, 50, 51, 52, 53, 54, 55, 56, 57, 97, 98, 99, 100, 101, 102] : List UInt8).getD k 0).toNat
theorem hexd_all : ∀ n : Fin 16, (((ByteArray.mk #[48, 49, 50, 51, 52, 53, 54, 55, 56, 57, 97, 98, 99, 100, 101, 102])[n.val]'(by exact n.isLt)).toNat : Int) = hexd n.val := by decide
theorem hexd_at (k : Nat) (h : k < 16) : (((ByteArray.mk #[48, 49, 50, 51, 52, 53, 54, 55, 56, 57, 97, 98, 99, 100, 101, 102])[k]'(by exact h)).toNat : Int) = hexd k := hexd_all ⟨k, h⟩
theorem wrap_byte_hi (b : UInt8) : IntKind.i64.wrap ((b.toNat : Int) / 16) = (b.toNat : Int) / 16 := IntWalk.i64_in _ (by have := byte_lt b; omega)
theorem wrap_byte_lo (b : UInt8) : IntKind.i64.wrap ((b.toNat : Int) % 16) = (b.toNat : Int) % 16 := IntWalk.i64_in _ (by have := byte_lt b; omega)
def hexi (k : Int) : Int := hexd k.toNat
theorem tmod_byte (b : UInt8) : (b.toNat : Int).tmod 16 = (b.toNat : Int) % 16 := Int.tmod_eq_emod_of_nonneg (by omega)
/-- The hexadecimal digits of bytes. -/
def hexL : List UInt8 → List Int
  | [] => []
  | b :: l => hexd (b.toNat / 16) :: hexd (b.toNat % 16) :: hexL l
theorem hexL_append (l r : List UInt8) : hexL (l ++ r) = hexL l ++ hexL r := by induction l with | nil => rfl | cons b l ih => simp [hexL, ih]
theorem hexL_length (l : List UInt8) : (hexL l).length = 2 * l.length := by induction l with | nil => rfl | cons b l ih => simp [hexL, ih]; omega

theorem hex_step (s : ByteArray) (k : Nat) (h : k < s.size) : (hexL (s.data.toList.take k)).map (Value.int .u8) ++ [.int .u8 (hexi ((s[k].toNat : Int) / 16)), .int .u8 (hexi ((s[k].toNat : Int) % 16))] = (hexL (s.data.toList.take (k + 1))).map (Value.int .u8) := by
  rw [take_snoc s k h, hexL_append]
  simp only [hexL, List.map_append, List.map_cons, List.map_nil, hexi]
  rw [show ((s[k].toNat : Int) / 16).toNat = s[k].toNat / 16 from by omega, show ((s[k].toNat : Int) % 16).toNat = s[k].toNat % 16 from by omega]
theorem hexi_at (x : Int) (h : x.toNat < 16) : (((ByteArray.mk #[48, 49, 50, 51, 52, 53, 54, 55, 56, 57, 97, 98, 99, 100, 101, 102])[x.toNat]'(by exact h)).toNat : Int) = hexi x := hexd_at _ h
theorem ofInt_u8 (a : Nat) (ha : a < 256) : (BitVec.ofInt 8 (a : Int)).toNat = a := by
  rw [BitVec.ofInt_natCast, BitVec.toNat_ofNat]; exact Nat.mod_eq_of_lt (by omega)
theorem u8_and_nat (a b : Nat) (ha : a < 256) (hb : b < 256) : bits .and .u8 (a : Int) (b : Int) = ((a &&& b : Nat) : Int) := by
  have hx : a &&& b < 2 ^ 8 := Nat.and_lt_two_pow _ (by omega)
  show IntKind.u8.wrap ((BitVec.ofInt 8 (a : Int) &&& BitVec.ofInt 8 (b : Int)).toNat : Int) = _
  rw [BitVec.toNat_and, ofInt_u8 a ha, ofInt_u8 b hb, IntKind.wrap_u8]
  omega
theorem and15 (b : UInt8) : bits .and .u8 (b.toNat : Int) 15 = (b.toNat : Int) % 16 := by
  have := u8_and_nat b.toNat 15 (byte_lt b) (by omega)
  rw [show (15 : Nat) = 2 ^ 4 - 1 from rfl, Nat.and_two_pow_sub_one_eq_mod] at this
  simpa using this
theorem iHex (s : ByteArray) (hs : s.size ≤ 1048576) (w : World) :
    Calls Tryd.prog 17 #[.string s] w fun e w' => e = .returned (.string (bs (hexL s.data.toList))) ∧ Below w.heap.size w w' := by
  obtain ⟨i0, hi, hz0, hz1, hz2⟩ := info_parts info_u8
  go_enter Tryd.func17, Tryd.ntmps17
  go_wp2
  go_loopw [3, 8] (fun v i wr => ∃ k : Nat, k ≤ s.size ∧ i = .int .i64 k ∧ wr.ownsRow w.heap.size 5 1 v (2 * k) ((hexL (s.data.toList.take k)).map (Value.int .u8)) ∧ Below w.heap.size w wr) (fun _ i _ => s.size - (intOf i).toNat)
  case atStart =>
    exact ⟨0, Nat.zero_le _, rfl, World.ownsRow_made _ #[] 0 (Nat.le_refl _) (by decide) rfl, (Below.refl _ _).alloc (Nat.le_refl _) _⟩
  case round =>
    obtain ⟨k, hk, rfl, hown, hb⟩ := hrel
    by_cases hlt : k < s.size
    · have d0 : (0 : Int) ≤ (s[k].toNat : Int) / 16 := by omega
      have d1 : (s[k].toNat : Int) / 16 < 16 := by have := byte_lt s[k]; omega
      have d2 : (0 : Int) ≤ (s[k].toNat : Int) % 16 := by omega
      have d3 : (s[k].toNat : Int) % 16 < 16 := by omega
      have r1 := hexi_at ((s[k].toNat : Int) / 16) (by omega)
      have r2 := hexi_at ((s[k].toNat : Int) % 16) (by omega)
      have r3 := and15 s[k]
      have hA : 2 * k + 2 ≤ maxLen := by unfold maxLen; omega
      have hB : (2 * k + 2) * 1 ≤ 140737488355328 := by omega
      have hx0 : (0 : Int) ≤ (k : Int) := by omega
      have hx1 : (k : Int) < (s.size : Int) := by omega
      go_wp2_with fail
      go_region_held3 (fun _ => True) (trivial) ((refine step_append_lies (o := ⟨some 23, _, _, _, _, _⟩) _ rfl _ _ _ rfl w.heap.size 5 i0 _ 1 1 Tryd.underlying25 hi hz0 hz1 hz2 rfl Nat.one_pos u3 (2 * k) _ rfl ((hown.alloc _).drew) ⟨wr.heap.size, 0, none⟩ 2 2 [.int .u8 (hexi ((s[k].toNat : Int) / 16)), .int .u8 (hexi ((s[k].toNat : Int) % 16))] rfl rfl (World.news_of_block (cs := #[.int .u8 (hexi ((s[k].toNat : Int) / 16)), .int .u8 (hexi ((s[k].toNat : Int) % 16))]) (t := 5) (fr := (0, 0)) (heap_alloc_new wr _)) (ints_oneCell .u8 [hexi ((s[k].toNat : Int) / 16), hexi ((s[k].toNat : Int) % 16)]) Nat.two_pos hA hB (base_alloc_drew hb _) (wr.heap.size + 1) (size_alloc_drew wr _) ?_; intro gg cap w1 hown1 hgrow hat hglt))
      all_goals
        have hs1 := hex_step s k hlt
        have R1 : w1.ownsRow w.heap.size 5 1 (.slice (some ⟨gg, 0, none⟩) (2 * k + 2) cap) (2 * (k + 1)) ((hexL (s.data.toList.take (k + 1))).map (Value.int .u8)) := by rw [← hs1]; exact hown1
        have R2 : Below w.heap.size w w1 := ((hb.alloc hb.size _).drew).grown hgrow (base_alloc_drew hb _) (fun g hg => (hown.lt g hg).1)
        clear hs1 hown1 hgrow hown r1 r2 r3 d0 d1 d2 d3 hb
        go_wp2
        go_roundw
        case rel => exact ⟨k + 1, by omega, by go_num, R1, R2⟩
        case measure => simp [intOf]; omega
    · have hke : k = s.size := by omega
      subst hke
      rw [List.take_of_length_le (by simp)] at hown
      obtain ⟨a, c, hv⟩ := owns_shape hown
      subst hv
      have hcv := conv_owned Tryd.underlying25 Tryd.underlying9 hown
      go_wp2
      go_ret
      exact ⟨rfl, hb⟩
end Go.Proofs.YtcoecgcjpeijmaaDoor
