/-
  ReadVar, the reference's and the program's: both return 'readVar s', for texts of at most 2^20 bytes.
-/
import Derived.Test.YtoeajfhnbmpgeaaReadVarPlain
namespace Go.Proofs.Ytoeajfhnbmpgeaa
open Go.ChangeShapes Go.WideShapes Go.ChangeAt Go.RowKit
set_option linter.unusedVariables false
/-- What is still to be looked at, from k bytes on. -/
def RVRest (s : ByteArray) (k : Nat) : Prop := readVar s = readVarF s (8 - k) k
theorem leD_walk (s : ByteArray) (k j : Nat) (hj : 0 < j) (hjk : j ≤ k) (hk : k ≤ s.size) (h7 : k ≤ 7) :
    wrap64 (wrap64 ((leD s k j : Int) * 128) + (wrap64 ((s[j - 1]'(by omega)).toNat : Int)).tmod 128) = (leD s k (j - 1) : Int) := by
  have h1 := leD_lt s k j h7
  have h2 := byte_lt (s[j - 1]'(by omega))
  rw [byte_wrap, Int.tmod_eq_emod_of_nonneg (by omega), leD_step s k j hj hjk hk, IntWalk.wrap64_in ((leD s k j : Int) * 128) (by omega), IntWalk.wrap64_in _ (by omega)]
  omega
set_option maxRecDepth 100000 in
theorem sReadVar (s : ByteArray) (hs : s.size ≤ 1048576) (w : World) :
    Calls Try.prog 7 #[.string s] w fun e w' => e = .returned (.tuple #[.int .i64 ((readVar s).1 : Int), .int .i64 ((readVar s).2 : Int)]) ∧ Below w.heap.size w w' := by
  go_enter Try.func7, Try.ntmps7
  go_wp2
  go_loopw [4] (fun i wr => ∃ k : Nat, 1 ≤ k ∧ k ≤ 8 ∧ k ≤ s.size + 1 ∧ i = .int .i64 k ∧ RVRest s k ∧ Below w.heap.size w wr) (fun i _ => 8 - (intOf i).toNat)
  case atStart => exact ⟨1, by omega, by omega, by omega, rfl, rfl, Below.refl _ _⟩
  case round =>
    obtain ⟨k, hk1, hk8, hks, rfl, hrest, hb⟩ := hrel
    by_cases hlt : k ≤ 7 ∧ k ≤ s.size
    · have h7 : (k : Int) ≤ 7 := by omega
      have hsz : (k : Int) ≤ (s.size : Int) := by omega
      obtain ⟨hl7, hls⟩ := hlt
      go_wp2
      go_loop [5, 6] (fun n i => ∃ j : Nat, j ≤ k ∧ i = .int .i64 ((j : Int) - 1) ∧ n = .int .i64 (leD s k j)) (fun _ i => ((intOf i) + 1).toNat)
      case atStart => exact ⟨k, by omega, rfl, by rw [leD_end]; rfl⟩
      case round =>
        obtain ⟨j, hj, rfl, rfl⟩ := hrel
        by_cases hj0 : j = 0
        · subst hj0
          go_wp2
          by_cases hc : chk s k = true
          · have HR : Hid (readVar s = (leD s k 0, k)) := by
              have h1 : readVar s = readVarF s (8 - k) k := hrest
              rw [show 8 - k = 7 - k + 1 from by omega, readVarF, if_pos hls, if_pos hc] at h1
              exact h1
            have hc' : ((bs (varOf ((leD s k 0 : Nat) : Int))).toList == (s.extract 0 k).toList) = true := hc
            go_region_held3 (fun _ => True) (trivial) ((go_at_call 5; refine (sVar _ _).mono ?_; rintro e w1 ⟨rfl, hb1⟩))
            have hb2 : Below w.heap.size w w1 := (hb.drew).trans (hb1.mono (by have := hb.size; simp; omega))
            go_wp2
            go_ret2
            exact ⟨by rw [HR.out]; rfl, hb2⟩
          · have HR : Hid (RVRest s (k + 1)) := by
              show readVar s = readVarF s (8 - (k + 1)) (k + 1)
              have h1 : readVar s = readVarF s (8 - k) k := hrest
              rw [show 8 - k = 7 - k + 1 from by omega, readVarF, if_pos hls, if_neg hc] at h1
              rw [h1, show 8 - (k + 1) = 7 - k from by omega]
            have hc' : ((bs (varOf ((leD s k 0 : Nat) : Int))).toList == (s.extract 0 k).toList) = false := by simpa [chk] using hc
            go_region_held3 (fun _ => True) (trivial) ((go_at_call 5; refine (sVar _ _).mono ?_; rintro e w1 ⟨rfl, hb1⟩))
            have hb2 : Below w.heap.size w w1 := (hb.drew).trans (hb1.mono (by have := hb.size; simp; omega))
            go_wp2
            go_roundw
            case rel => exact ⟨k + 1, by omega, by omega, by omega, by go_num, HR.out, hb2⟩
            case measure => simp [intOf]; omega
        · have hj1 : 0 < j := by omega
          clear hj0
          have HW : Hid _ := leD_walk s k j hj1 hj hls hl7
          go_wp2
          go_round
          case rel => exact ⟨j - 1, by omega, by congr 1; omega, by rw [HW.out]⟩
          case measure => simp [intOf]; omega
    · have HR : Hid (readVar s = (0, 0)) := by
        show readVar s = (0, 0)
        have h1 : readVar s = readVarF s (8 - k) k := hrest
        rw [h1]
        by_cases h8 : k = 8
        · subst h8; rfl
        · rw [show 8 - k = 7 - k + 1 from by omega, readVarF, if_neg (by omega)]
      by_cases h8 : k ≤ 7
      · have h7 : (k : Int) ≤ 7 := by omega
        have h9 : ¬ (k : Int) ≤ (s.size : Int) := by omega
        go_wp2
        go_ret2
        exact ⟨by rw [HR.out]; rfl, hb⟩
      · have h9 : ¬ (k : Int) ≤ 7 := by omega
        go_wp2
        go_ret2
        exact ⟨by rw [HR.out]; rfl, hb⟩
def High (s : ByteArray) (k : Nat) : Prop := ∀ j (hj : j < k) (hs : j < s.size), 128 ≤ (s[j]'hs).toNat
theorem ofInt_u8' (a : Nat) (ha : a < 256) : (BitVec.ofInt 8 (a : Int)).toNat = a := by
  rw [BitVec.ofInt_natCast, BitVec.toNat_ofNat]; exact Nat.mod_eq_of_lt (by omega)
theorem u8_and_nat' (a b : Nat) (ha : a < 256) (hb : b < 256) : bits .and .u8 (a : Int) (b : Int) = ((a &&& b : Nat) : Int) := by
  have hx : a &&& b < 2 ^ 8 := Nat.and_lt_two_pow _ (by omega)
  show IntKind.u8.wrap ((BitVec.ofInt 8 (a : Int) &&& BitVec.ofInt 8 (b : Int)).toNat : Int) = _
  rw [BitVec.toNat_and, ofInt_u8' a ha, ofInt_u8' b hb, IntKind.wrap_u8]
  omega
theorem u8and127 (b : UInt8) : bits .and .u8 (b.toNat : Int) 127 = (b.toNat : Int) % 128 := by
  have := u8_and_nat' b.toNat 127 (byte_lt b) (by omega)
  rw [show (127 : Nat) = 2 ^ 7 - 1 from rfl, Nat.and_two_pow_sub_one_eq_mod] at this
  simpa using this
theorem leD_or (s : ByteArray) (k : Nat) (hk : k < 7) (hs : k < s.size) : bits .or .i64 (leD s k 0 : Int) (wrap64 ((s[k].toNat : Int) % 128 * 2 ^ (7 * k))) = (leD s (k + 1) 0 : Int) := by
  have h1 := leD_lt' s k
  have h0 := leD_lt s (k + 1) 0 (by omega)
  rw [leD_snoc s k hs] at h0 ⊢
  have hp : (128 : Nat) ^ k = 2 ^ (7 * k) := by rw [Nat.pow_mul]
  rw [hp] at h1 h0 ⊢
  have hc : ((s[k].toNat : Int) % 128 * 2 ^ (7 * k)) = ((s[k].toNat % 128 * 2 ^ (7 * k) : Nat) : Int) := by
    rw [Int.natCast_mul, Int.natCast_pow]; rfl
  rw [hc, IntWalk.wrap64_in _ (by omega), i64_or_nat _ _ (by omega) (by omega)]
  have h2 := Nat.shiftLeft_add_eq_or_of_lt h1 (s[k].toNat % 128)
  rw [Nat.shiftLeft_eq] at h2
  rw [Nat.or_comm, ← h2, Nat.add_comm]
set_option maxRecDepth 100000 in
theorem iReadVar (s : ByteArray) (hs : s.size ≤ 1048576) (w : World) :
    Calls Try.prog 8 #[.string s] w fun e w' => e = .returned (.tuple #[.int .i64 ((readVar s).1 : Int), .int .i64 ((readVar s).2 : Int)]) ∧ Below w.heap.size w w' := by
  go_enter Try.func8, Try.ntmps8
  go_wp2
  go_loopw [4, 5] (fun n i wr => ∃ k : Nat, k ≤ 7 ∧ k ≤ s.size ∧ i = .int .i64 k ∧ n = .int .i64 (leD s k 0) ∧ High s k ∧ Below w.heap.size w wr) (fun _ i _ => 8 - (intOf i).toNat)
  case atStart => exact ⟨0, by omega, by omega, rfl, rfl, fun j hj => by omega, Below.refl _ _⟩
  case round =>
    obtain ⟨k, hk7, hks, rfl, rfl, hhigh, hb⟩ := hrel
    by_cases hlt : k < 7 ∧ k < s.size
    · obtain ⟨hl7, hls⟩ := hlt
      have h7 : (k : Int) < 7 := by omega
      have hsz : (k : Int) < (s.size : Int) := by omega
      have e1 := u8and127 s[k]
      have e2 := leD_or s k hl7 hls
      have e3 : IntKind.i64.wrap ((k : Int) + 1) = (k : Int) + 1 := IntWalk.i64_in _ (by omega)
      have e4 : (0 : Int) ≤ (k : Int) + 1 := by omega
      have e5 : (k : Int) + 1 ≤ (s.size : Int) := by omega
      have e6 : ((k : Int) + 1).toNat = k + 1 := by omega
      by_cases hlow : s[k].toNat < 128
      · have hlow' : (s[k].toNat : Int) < 128 := by omega
        by_cases hc : chk s (k + 1) = true
        · have HR : Hid (readVar s = (leD s (k + 1) 0, k + 1)) := by
            show _ = _
            rw [readVar_low s k hl7 hls hlow (fun j hj => hhigh j hj (by omega)), if_pos hc]
          have hc' : ((bs (varOf ((leD s (k + 1) 0 : Nat) : Int))).toList == (s.extract 0 (k + 1)).toList) = true := hc
          go_wp2
          go_region_held3 (fun _ => True) (trivial) ((go_at_call 6; refine (iVar _ _).mono ?_; rintro e w1 ⟨rfl, hb1⟩))
          have hb2 : Below w.heap.size w w1 := (hb.drew).trans (hb1.mono (by have := hb.size; simp; omega))
          clear e3 e4 e5 e6
          go_wp2
          go_ret2
          exact ⟨by rw [HR.out]; rfl, hb2⟩
        · have HR : Hid (readVar s = (0, 0)) := by
            show _ = _
            rw [readVar_low s k hl7 hls hlow (fun j hj => hhigh j hj (by omega)), if_neg hc]
          have hc' : ((bs (varOf ((leD s (k + 1) 0 : Nat) : Int))).toList == (s.extract 0 (k + 1)).toList) = false := by simpa [chk] using hc
          go_wp2
          go_region_held3 (fun _ => True) (trivial) ((go_at_call 6; refine (iVar _ _).mono ?_; rintro e w1 ⟨rfl, hb1⟩))
          have hb2 : Below w.heap.size w w1 := (hb.drew).trans (hb1.mono (by have := hb.size; simp; omega))
          clear e3 e4 e5 e6
          go_wp2
          go_ret2
          exact ⟨by rw [HR.out]; rfl, hb2⟩
      · have hlow' : ¬ (s[k].toNat : Int) < 128 := by omega
        have HH : Hid (High s (k + 1)) := by
          intro j hj hs
          by_cases e : j = k
          · subst e; omega
          · exact hhigh j (by omega) hs
        clear e3 e4 e5 e6
        go_wp2
        go_roundw
        case rel => exact ⟨k + 1, by omega, by omega, by go_num, rfl, HH.out, hb⟩
        case measure => simp [intOf]; omega
    · have HR : Hid (readVar s = (0, 0)) := by
        show _ = _
        exact readVar_none s k hk7 hks (by omega) (fun j hj => hhigh j hj (by omega))
      by_cases h8 : k < s.size
      · have h9 : (k : Int) < (s.size : Int) := by omega
        have h7 : ¬ (k : Int) < 7 := by omega
        go_wp2
        go_ret2
        exact ⟨by rw [HR.out]; rfl, hb⟩
      · have h9 : ¬ (k : Int) < (s.size : Int) := by omega
        go_wp2
        go_ret2
        exact ⟨by rw [HR.out]; rfl, hb⟩
end Go.Proofs.Ytoeajfhnbmpgeaa
