/-
  FnNumbers: each decoder returns the encoded value whatever bytes follow, and accepts nothing else; where the library's tables and errors hold what its text lays (the card ties it). No other condition.
-/
import Derived.Test.YtcoecgcjpeijmaaDoorNumLaw
import Derived.Test.YtcoecgcjpeijmaaDoorReadVar
import Derived.Test.YtcoecgcjpeijmaaDoorReadDec
import Derived.Test.YtcoecgcjpeijmaaDoorSpoil
import Derived.Test.YtcoecgcjpeijmaaDoorLawHelp
import Derived.Test.YtcoecgcjpeijmaaDoorDoor
namespace Go.Proofs.YtcoecgcjpeijmaaDoor.fnNumbers
open Go.ChangeShapes Go.WideShapes Go.ChangeAt Go.RowKit
set_option linter.unusedVariables false
theorem str_ne (s : ByteArray) (h : 0 < s.size) : (s.toList == []) = false := by
  rw [beq_eq_false_iff_ne, ByteArray.toList_eq]
  intro hh
  have := congrArg List.length hh
  rw [Array.length_toList] at this
  have e : s.data.size = s.size := rfl
  simp at this
  rw [this] at h
  exact absurd h (by decide)
theorem chk_same (r : ByteArray) (j : Nat) (n : Int) (h : ((bs (varOf n)).toList == (r.extract 0 j).toList) = true) : bs (varOf n) = r.extract 0 j := by
  have h1 := eq_of_beq h
  rw [ByteArray.toList_eq, ByteArray.toList_eq] at h1
  apply ByteArray.ext
  exact Array.toList_inj.1 h1
set_option maxRecDepth 100000 in
set_option maxHeartbeats 8000000 in
theorem walkIn (a0 : Option Addr) (len0 cap0 : Nat) (z0 : List Int) (w : World) (w0 : IsRow .u8 w a0 len0 cap0 z0) (hl : len0 ≤ 1048576) (hL : laidMetH Tryd.prog Rows.fnNumbersRow.laid w) :
    Calls Tryd.prog 4 #[.slice a0 len0 cap0] w fun e w' => e = .returned (.bool true) ∧ Below w.heap.size w w' := by
  have HRU := Lib.hid (RU.ofIsRow w0)
  have hT := Lib.hid (Lib.tabBelow_of_tabIs (pow_laid (r := _ :: _ :: []) hL))
  obtain ⟨p1, p2, h1, h2⟩ := errs_laid (r := []) hL
  have H1 := Lib.hid h1
  have H2 := Lib.hid h2
  clear hL h1 h2 w0
  obtain ⟨zs, hzs⟩ : ∃ zs, zs = z0.take len0 := ⟨_, rfl⟩
  rw [← hzs] at HRU
  clear hzs
  obtain ⟨r, hre⟩ : ∃ r, r = drv zs := ⟨_, rfl⟩
  have hr : r.size ≤ 100 := by rw [hre]; exact drv_size zs
  have HDR : Hid (∀ W, RU W a0 len0 zs → Calls Tryd.prog 18 #[.slice a0 len0 cap0] W fun e w' => e = .returned (.string r) ∧ Below W.heap.size W w') := by
    intro W hW
    rw [hre]
    exact sDrawReadVar a0 len0 cap0 zs W hW hl
  obtain ⟨z, hz⟩ : ∃ z, z = (readVar r).1 := ⟨_, rfl⟩
  obtain ⟨j, hj⟩ : ∃ j, j = (readVar r).2 := ⟨_, rfl⟩
  have HRR : Hid (∀ W, Calls Tryd.prog 12 #[.string r] W fun e w' => e = .returned (.tuple #[.int .i64 (z : Int), .int .i64 (j : Int)]) ∧ Below W.heap.size W w') := by
    intro W
    rw [hz, hj]
    exact iReadVar r (by omega) W
  have HJ : Hid (0 < j → j ≤ r.size ∧ ∀ W, Calls Tryd.prog 11 #[.int .i64 (z : Int)] W fun e w' => e = .returned (.string (r.extract 0 j)) ∧ Below W.heap.size W w') := by
    intro h0
    rw [hj] at h0
    obtain ⟨e1, e2, e3⟩ := readVar_back r h0
    rw [← hj] at e1 e2 e3
    refine ⟨e1, fun W => ?_⟩
    have e4 : bs (varOf (z : Int)) = r.extract 0 j := chk_same r j z (by rw [hz, e3]; exact e2)
    have := iVar (z : Int) W
    rw [e4] at this
    exact this
  clear hre hz hj
  go_enter Tryd.func4, Tryd.ntmps4
  go_wp2_with fail
  refine (big_no _ _ _ _ hl).mono ?_
  rintro e w' ⟨rfl, rfl⟩
  go_wp2_with fail
  refine (xDrawVar _ _ _ _ _ HRU.out hl).mono ?_
  rintro e W1 ⟨n, rfl, hn, b01⟩
  go_wp2_with fail
  refine (xDrawHex _ _ _ _ _ (HRU.out.below b01) hl).mono ?_
  rintro e W2 ⟨t, rfl, ht, b2⟩
  have b02 := b01.trans (b2.mono b01.size)
  clear b01 b2
  obtain ⟨X, hX⟩ : ∃ X, X = bs (hexL t.data.toList) := ⟨_, rfl⟩
  have hXs : X.size ≤ 1048576 := by rw [hX, bs_size, hexL_len, Array.length_toList]; have : t.data.size = t.size := rfl; omega
  have HHx : Hid (∀ W, Calls Tryd.prog 17 #[.string t] W fun e w' => e = .returned (.string X) ∧ Below W.heap.size W w') := by
    intro W
    rw [hX]
    exact iHex t (by omega) W
  have HUn : Hid (∀ W, Calls Tryd.prog 16 #[.string X] W fun e w' => e = .returned (.tuple #[.string t, .bool true]) ∧ Below W.heap.size W w') := by
    intro W
    have := iUnhex X hXs W
    rw [hX, (unhex_hex t).1, (unhex_hex t).2, ← hX] at this
    exact this
  have HDe := Lib.hid (fun W hW => iDec n hn.1 hn.2 W hW)
  clear hX hXs
  rcases (show n ≤ -1000000000 ∨ (-1000000000 < n ∧ n < 0) ∨ (0 ≤ n ∧ n < 1000000000) ∨ (1000000000 ≤ n ∧ n ≤ 562949953421311) ∨ (562949953421311 < n ∧ n < 72057594037927936) ∨ 72057594037927936 ≤ n from by omega) with hc | hc | hc | hc | hc | hc
  · -- n <= -10^9
    have hv : varOf n = [] := by unfold varOf; rw [if_neg (by omega)]
    have HVr : Hid (∀ W, Calls Tryd.prog 11 #[.int .i64 n] W fun e w' => e = .returned (.string ⟨#[]⟩) ∧ Below W.heap.size W w') := by
      intro W
      have := iVar n W
      rw [hv] at this
      exact this
    obtain ⟨P, hP⟩ : ∃ P, P = readVar (⟨#[]⟩ ++ t) := ⟨_, rfl⟩
    have HRV : Hid (∀ W, Calls Tryd.prog 12 #[.string (⟨#[]⟩ ++ t)] W fun e w' => e = .returned (.tuple #[.int .i64 ((P.1 : Nat) : Int), .int .i64 ((P.2 : Nat) : Int)]) ∧ Below W.heap.size W w') := by
      intro W
      rw [hP]
      exact iReadVar (⟨#[]⟩ ++ t) (by rw [ByteArray.size_append]; show 0 + t.size ≤ _; omega) W
    have hadd1 := fun W => run_add W ⟨#[]⟩ t (by show 0 + t.size ≤ _; omega)
    clear hv hP
    have hf : fixedOf n 7 = [] := by
      rcases fixedOf7 n with h | h
      · omega
      · exact h.1
    have HFx : Hid (∀ W, Calls Tryd.prog 13 #[.int .i64 n, .int .i64 7] W fun e w' => e = .returned (.string ⟨#[]⟩) ∧ Below W.heap.size W w') := by
      intro W
      have := iFixed n 7 (by omega) W
      rw [hf] at this
      exact this
    obtain ⟨P2, hP2⟩ : ∃ P2, P2 = readFixed (⟨#[]⟩ ++ t) 7 := ⟨_, rfl⟩
    have HRF : Hid (∀ W, Calls Tryd.prog 14 #[.string (⟨#[]⟩ ++ t), .int .i64 7] W fun e w' => e = .returned (.tuple #[.int .i64 P2.1, .bool P2.2]) ∧ W = w') := by
      intro W
      rw [hP2]
      exact iReadFixed (⟨#[]⟩ ++ t) 7 (by rw [ByteArray.size_append]; show 0 + t.size ≤ _; omega) W
    have hadd2 := fun W => run_add W ⟨#[]⟩ t (by show 0 + t.size ≤ _; omega)
    clear hf hP2
    have HDd : Hid (∀ W, Lib.TabIs Tryd.prog W "internal/strconv.uint64pow10" .u64 Lib.pow10Tab → W.var? Tryd.prog "strconv.ErrSyntax" = some #[.iface 77 p1] → W.var? Tryd.prog "strconv.ErrRange" = some #[.iface 77 p2] → Calls Tryd.prog 7 #[.string ⟨(Lib.itoa n).toArray⟩] W fun e w' => e = .returned (.tuple #[.int .i64 0, .bool false]) ∧ Below W.heap.size W w') := by
      intro W g1 g2 g3
      have := iReadDec ⟨(Lib.itoa n).toArray⟩ (by show (Lib.itoa n).toArray.size ≤ _; rw [List.size_toArray]; have := Lib.itoa_length_le n (by omega) (by omega); omega) W g1 77 77 p1 p2 g2 g3
      rw [show (⟨(Lib.itoa n).toArray⟩ : ByteArray).data.toList = Lib.itoa n from rfl, implRd_itoa n, if_neg (by omega)] at this
      exact this
    have g1 : decide (0 ≤ n) = false := by simp; omega
    have g2 : n < 0 := by omega
    have g3 : decide ((-1000000000 : Int) < n) = false := by simp; omega
    clear hc
    clear hn hr
    go_wp2_with fail
    refine (HVr.out _).mono ?_
    rintro e W3 ⟨rfl, b3⟩
    have b03 := b02.trans (b3.mono b02.size)
    clear b02 b3
    go_wp2_with fail
    refine (HRV.out _).mono ?_
    rintro e W4 ⟨rfl, b4⟩
    have b04 := b03.trans (b4.mono b03.size)
    clear b03 b4
    go_wp2_with fail
    refine (HFx.out _).mono ?_
    rintro e W5 ⟨rfl, b5⟩
    have b05 := b04.trans (b5.mono b04.size)
    clear b04 b5
    go_wp2_with fail
    refine (HRF.out _).mono ?_
    rintro e w' ⟨rfl, rfl⟩
    go_wp2_with fail
    refine (HDe.out _ (hT.out.on b05).here).mono ?_
    rintro e W6 ⟨rfl, b6⟩
    have b06 := b05.trans (b6.mono b05.size)
    clear b05 b6
    go_wp2_with fail
    refine (HDd.out _ (hT.out.on b06).here (var_below H1.out b06) (var_below H2.out b06)).mono ?_
    rintro e W7 ⟨rfl, b7⟩
    have b07 := b06.trans (b7.mono b06.size)
    clear b06 b7
    go_wp2_with fail
    refine (HHx.out _).mono ?_
    rintro e W8 ⟨rfl, b8⟩
    have b08 := b07.trans (b8.mono b07.size)
    clear b07 b8
    go_wp2_with fail
    refine (HUn.out _).mono ?_
    rintro e W9 ⟨rfl, b9⟩
    have b09 := b08.trans (b9.mono b08.size)
    clear b08 b9
    go_wp2_with fail
    refine (HDR.out _ (HRU.out.below b09)).mono ?_
    rintro e W10 ⟨rfl, b10⟩
    have b010 := b09.trans (b10.mono b09.size)
    clear b09 b10
    go_wp2_with fail
    refine (HRR.out _).mono ?_
    rintro e W11 ⟨rfl, b11⟩
    have b011 := b010.trans (b11.mono b010.size)
    clear b010 b11
    rcases Nat.eq_zero_or_pos j with hj0 | hj0
    · subst hj0
      go_wp2
      go_ret
      exact ⟨rfl, b011⟩
    · have hj1 : (0 : Int) < (j : Int) := by omega
      have hjn : ((j : Int) == 0) = false := by rw [beq_eq_false_iff_ne]; omega
      obtain ⟨hjs, HVz⟩ := HJ.out hj0
      have hji : (j : Int) ≤ (r.size : Int) := by omega
      have hj00 : (0 : Int) ≤ (j : Int) := by omega
      clear hj0 hjs
      go_wp2_with fail
      refine (HDR.out _ (HRU.out.below b011)).mono ?_
      rintro e W12 ⟨rfl, b12⟩
      have b012 := b011.trans (b12.mono b011.size)
      clear b011 b12
      go_wp2_with fail
      refine (HDR.out _ (HRU.out.below b012)).mono ?_
      rintro e W13 ⟨rfl, b13⟩
      have b013 := b012.trans (b13.mono b012.size)
      clear b012 b13
      go_wp2_with fail
      refine (HVz _).mono ?_
      rintro e W14 ⟨rfl, b14⟩
      have b014 := b013.trans (b14.mono b013.size)
      clear b013 b14
      go_wp2_with fail
      refine (HDR.out _ (HRU.out.below b014)).mono ?_
      rintro e W15 ⟨rfl, b15⟩
      have b015 := b014.trans (b15.mono b014.size)
      clear b014 b15
      go_wp2
      go_ret
      exact ⟨rfl, b015⟩
  · -- -10^9 < n < 0
    have hv : varOf n = [] := by unfold varOf; rw [if_neg (by omega)]
    have HVr : Hid (∀ W, Calls Tryd.prog 11 #[.int .i64 n] W fun e w' => e = .returned (.string ⟨#[]⟩) ∧ Below W.heap.size W w') := by
      intro W
      have := iVar n W
      rw [hv] at this
      exact this
    obtain ⟨P, hP⟩ : ∃ P, P = readVar (⟨#[]⟩ ++ t) := ⟨_, rfl⟩
    have HRV : Hid (∀ W, Calls Tryd.prog 12 #[.string (⟨#[]⟩ ++ t)] W fun e w' => e = .returned (.tuple #[.int .i64 ((P.1 : Nat) : Int), .int .i64 ((P.2 : Nat) : Int)]) ∧ Below W.heap.size W w') := by
      intro W
      rw [hP]
      exact iReadVar (⟨#[]⟩ ++ t) (by rw [ByteArray.size_append]; show 0 + t.size ≤ _; omega) W
    have hadd1 := fun W => run_add W ⟨#[]⟩ t (by show 0 + t.size ≤ _; omega)
    clear hv hP
    have hf : fixedOf n 7 = [] := by
      rcases fixedOf7 n with h | h
      · omega
      · exact h.1
    have HFx : Hid (∀ W, Calls Tryd.prog 13 #[.int .i64 n, .int .i64 7] W fun e w' => e = .returned (.string ⟨#[]⟩) ∧ Below W.heap.size W w') := by
      intro W
      have := iFixed n 7 (by omega) W
      rw [hf] at this
      exact this
    obtain ⟨P2, hP2⟩ : ∃ P2, P2 = readFixed (⟨#[]⟩ ++ t) 7 := ⟨_, rfl⟩
    have HRF : Hid (∀ W, Calls Tryd.prog 14 #[.string (⟨#[]⟩ ++ t), .int .i64 7] W fun e w' => e = .returned (.tuple #[.int .i64 P2.1, .bool P2.2]) ∧ W = w') := by
      intro W
      rw [hP2]
      exact iReadFixed (⟨#[]⟩ ++ t) 7 (by rw [ByteArray.size_append]; show 0 + t.size ≤ _; omega) W
    have hadd2 := fun W => run_add W ⟨#[]⟩ t (by show 0 + t.size ≤ _; omega)
    clear hf hP2
    have HDd : Hid (∀ W, Lib.TabIs Tryd.prog W "internal/strconv.uint64pow10" .u64 Lib.pow10Tab → W.var? Tryd.prog "strconv.ErrSyntax" = some #[.iface 77 p1] → W.var? Tryd.prog "strconv.ErrRange" = some #[.iface 77 p2] → Calls Tryd.prog 7 #[.string ⟨(Lib.itoa n).toArray⟩] W fun e w' => e = .returned (.tuple #[.int .i64 n, .bool true]) ∧ Below W.heap.size W w') := by
      intro W g1 g2 g3
      have := iReadDec ⟨(Lib.itoa n).toArray⟩ (by show (Lib.itoa n).toArray.size ≤ _; rw [List.size_toArray]; have := Lib.itoa_length_le n (by omega) (by omega); omega) W g1 77 77 p1 p2 g2 g3
      rw [show (⟨(Lib.itoa n).toArray⟩ : ByteArray).data.toList = Lib.itoa n from rfl, implRd_itoa n, if_pos (by omega)] at this
      exact this
    have g1 : decide (0 ≤ n) = false := by simp; omega
    have g2 : n < 0 := by omega
    have g3 : (-1000000000 : Int) < n := hc.1
    have g4 : n < 1000000000 := by omega
    clear hc
    clear hn hr
    go_wp2_with fail
    refine (HVr.out _).mono ?_
    rintro e W3 ⟨rfl, b3⟩
    have b03 := b02.trans (b3.mono b02.size)
    clear b02 b3
    go_wp2_with fail
    refine (HRV.out _).mono ?_
    rintro e W4 ⟨rfl, b4⟩
    have b04 := b03.trans (b4.mono b03.size)
    clear b03 b4
    go_wp2_with fail
    refine (HFx.out _).mono ?_
    rintro e W5 ⟨rfl, b5⟩
    have b05 := b04.trans (b5.mono b04.size)
    clear b04 b5
    go_wp2_with fail
    refine (HRF.out _).mono ?_
    rintro e w' ⟨rfl, rfl⟩
    go_wp2_with fail
    refine (HDe.out _ (hT.out.on b05).here).mono ?_
    rintro e W6 ⟨rfl, b6⟩
    have b06 := b05.trans (b6.mono b05.size)
    clear b05 b6
    go_wp2_with fail
    refine (HDd.out _ (hT.out.on b06).here (var_below H1.out b06) (var_below H2.out b06)).mono ?_
    rintro e W7 ⟨rfl, b7⟩
    have b07 := b06.trans (b7.mono b06.size)
    clear b06 b7
    go_wp2_with fail
    refine (HHx.out _).mono ?_
    rintro e W8 ⟨rfl, b8⟩
    have b08 := b07.trans (b8.mono b07.size)
    clear b07 b8
    go_wp2_with fail
    refine (HUn.out _).mono ?_
    rintro e W9 ⟨rfl, b9⟩
    have b09 := b08.trans (b9.mono b08.size)
    clear b08 b9
    go_wp2_with fail
    refine (HDR.out _ (HRU.out.below b09)).mono ?_
    rintro e W10 ⟨rfl, b10⟩
    have b010 := b09.trans (b10.mono b09.size)
    clear b09 b10
    go_wp2_with fail
    refine (HRR.out _).mono ?_
    rintro e W11 ⟨rfl, b11⟩
    have b011 := b010.trans (b11.mono b010.size)
    clear b010 b11
    rcases Nat.eq_zero_or_pos j with hj0 | hj0
    · subst hj0
      go_wp2
      go_ret
      exact ⟨rfl, b011⟩
    · have hj1 : (0 : Int) < (j : Int) := by omega
      have hjn : ((j : Int) == 0) = false := by rw [beq_eq_false_iff_ne]; omega
      obtain ⟨hjs, HVz⟩ := HJ.out hj0
      have hji : (j : Int) ≤ (r.size : Int) := by omega
      have hj00 : (0 : Int) ≤ (j : Int) := by omega
      clear hj0 hjs
      go_wp2_with fail
      refine (HDR.out _ (HRU.out.below b011)).mono ?_
      rintro e W12 ⟨rfl, b12⟩
      have b012 := b011.trans (b12.mono b011.size)
      clear b011 b12
      go_wp2_with fail
      refine (HDR.out _ (HRU.out.below b012)).mono ?_
      rintro e W13 ⟨rfl, b13⟩
      have b013 := b012.trans (b13.mono b012.size)
      clear b012 b13
      go_wp2_with fail
      refine (HVz _).mono ?_
      rintro e W14 ⟨rfl, b14⟩
      have b014 := b013.trans (b14.mono b013.size)
      clear b013 b14
      go_wp2_with fail
      refine (HDR.out _ (HRU.out.below b014)).mono ?_
      rintro e W15 ⟨rfl, b15⟩
      have b015 := b014.trans (b15.mono b014.size)
      clear b014 b15
      go_wp2
      go_ret
      exact ⟨rfl, b015⟩
  · -- 0 <= n < 10^9
    obtain ⟨S, hS⟩ : ∃ S, S = bs (varOf n) := ⟨_, rfl⟩
    have hv : varOf n = varL n.toNat := by unfold varOf; rw [if_pos (by omega)]
    have hSp : 0 < S.size := by rw [hS, bs_size, hv]; exact List.length_pos_iff.2 (varL_ne _)
    have hSsz : S.size ≤ 7 := by rw [hS, bs_size]; exact varOf_len n
    have HVr : Hid (∀ W, Calls Tryd.prog 11 #[.int .i64 n] W fun e w' => e = .returned (.string S) ∧ Below W.heap.size W w') := by
      show ∀ W, Calls Tryd.prog 11 #[.int .i64 n] W fun e w' => e = .returned (.string S) ∧ Below W.heap.size W w'
      rw [hS]; exact fun W => iVar n W
    have hrd : readVar (S ++ t) = (n.toNat, S.size) := by rw [hS, hv, bs_size]; exact readVar_var _ (by omega) t
    have HRV : Hid (∀ W, Calls Tryd.prog 12 #[.string (S ++ t)] W fun e w' => e = .returned (.tuple #[.int .i64 n, .int .i64 (S.size : Int)]) ∧ Below W.heap.size W w') := by
      intro W
      have := iReadVar (S ++ t) (by rw [ByteArray.size_append]; omega) W
      rw [hrd] at this
      have e : ((n.toNat : Nat) : Int) = n := Int.toNat_of_nonneg (by omega)
      simp only [e] at this
      exact this
    have hadd1 := fun W => run_add W S t (by omega)
    have hSn := str_ne S hSp
    clear hS hv hrd hSp hSsz
    obtain ⟨T, hT⟩ : ∃ T, T = bs (fixL n 7) := ⟨_, rfl⟩
    have hf : fixedOf n 7 = fixL n 7 := by
      rcases fixedOf7 n with h | h
      · exact h.1
      · omega
    have hTs : T.size = 7 := by rw [hT, bs_size, fixL_length]
    have HFx : Hid (∀ W, Calls Tryd.prog 13 #[.int .i64 n, .int .i64 7] W fun e w' => e = .returned (.string T) ∧ Below W.heap.size W w') := by
      intro W
      have := iFixed n 7 (by omega) W
      rw [hf, ← hT] at this
      exact this
    have HRF : Hid (∀ W, Calls Tryd.prog 14 #[.string (T ++ t), .int .i64 7] W fun e w' => e = .returned (.tuple #[.int .i64 n, .bool true]) ∧ W = w') := by
      intro W
      have := iReadFixed (T ++ t) 7 (by rw [ByteArray.size_append]; omega) W
      rw [hT, readFixed_fix n (by omega) (by omega) t, ← hT] at this
      exact this
    have hadd2 := fun W => run_add W T t (by omega)
    have hTn := str_ne T (by omega)
    clear hT hf
    have HDd : Hid (∀ W, Lib.TabIs Tryd.prog W "internal/strconv.uint64pow10" .u64 Lib.pow10Tab → W.var? Tryd.prog "strconv.ErrSyntax" = some #[.iface 77 p1] → W.var? Tryd.prog "strconv.ErrRange" = some #[.iface 77 p2] → Calls Tryd.prog 7 #[.string ⟨(Lib.itoa n).toArray⟩] W fun e w' => e = .returned (.tuple #[.int .i64 n, .bool true]) ∧ Below W.heap.size W w') := by
      intro W g1 g2 g3
      have := iReadDec ⟨(Lib.itoa n).toArray⟩ (by show (Lib.itoa n).toArray.size ≤ _; rw [List.size_toArray]; have := Lib.itoa_length_le n (by omega) (by omega); omega) W g1 77 77 p1 p2 g2 g3
      rw [show (⟨(Lib.itoa n).toArray⟩ : ByteArray).data.toList = Lib.itoa n from rfl, implRd_itoa n, if_pos (by omega)] at this
      exact this
    have g1 : 0 ≤ n := by omega
    have g2 : decide (n < 0) = false := by simp; omega
    have g3 : (-1000000000 : Int) < n := by omega
    have g4 : n < 1000000000 := by omega
    have g5 : n ≤ 562949953421311 := by omega
    have g6 : decide ((72057594037927936 : Int) ≤ n) = false := by simp; omega
    clear hc
    clear hn hr
    go_wp2_with fail
    refine (HVr.out _).mono ?_
    rintro e W3 ⟨rfl, b3⟩
    have b03 := b02.trans (b3.mono b02.size)
    clear b02 b3
    go_wp2_with fail
    refine (HRV.out _).mono ?_
    rintro e W4 ⟨rfl, b4⟩
    have b04 := b03.trans (b4.mono b03.size)
    clear b03 b4
    go_wp2_with fail
    refine (HFx.out _).mono ?_
    rintro e W5 ⟨rfl, b5⟩
    have b05 := b04.trans (b5.mono b04.size)
    clear b04 b5
    go_wp2_with fail
    refine (HRF.out _).mono ?_
    rintro e w' ⟨rfl, rfl⟩
    go_wp2_with fail
    refine (HDe.out _ (hT.out.on b05).here).mono ?_
    rintro e W6 ⟨rfl, b6⟩
    have b06 := b05.trans (b6.mono b05.size)
    clear b05 b6
    go_wp2_with fail
    refine (HDd.out _ (hT.out.on b06).here (var_below H1.out b06) (var_below H2.out b06)).mono ?_
    rintro e W7 ⟨rfl, b7⟩
    have b07 := b06.trans (b7.mono b06.size)
    clear b06 b7
    go_wp2_with fail
    refine (HHx.out _).mono ?_
    rintro e W8 ⟨rfl, b8⟩
    have b08 := b07.trans (b8.mono b07.size)
    clear b07 b8
    go_wp2_with fail
    refine (HUn.out _).mono ?_
    rintro e W9 ⟨rfl, b9⟩
    have b09 := b08.trans (b9.mono b08.size)
    clear b08 b9
    go_wp2_with fail
    refine (HDR.out _ (HRU.out.below b09)).mono ?_
    rintro e W10 ⟨rfl, b10⟩
    have b010 := b09.trans (b10.mono b09.size)
    clear b09 b10
    go_wp2_with fail
    refine (HRR.out _).mono ?_
    rintro e W11 ⟨rfl, b11⟩
    have b011 := b010.trans (b11.mono b010.size)
    clear b010 b11
    rcases Nat.eq_zero_or_pos j with hj0 | hj0
    · subst hj0
      go_wp2
      go_ret
      exact ⟨rfl, b011⟩
    · have hj1 : (0 : Int) < (j : Int) := by omega
      have hjn : ((j : Int) == 0) = false := by rw [beq_eq_false_iff_ne]; omega
      obtain ⟨hjs, HVz⟩ := HJ.out hj0
      have hji : (j : Int) ≤ (r.size : Int) := by omega
      have hj00 : (0 : Int) ≤ (j : Int) := by omega
      clear hj0 hjs
      go_wp2_with fail
      refine (HDR.out _ (HRU.out.below b011)).mono ?_
      rintro e W12 ⟨rfl, b12⟩
      have b012 := b011.trans (b12.mono b011.size)
      clear b011 b12
      go_wp2_with fail
      refine (HDR.out _ (HRU.out.below b012)).mono ?_
      rintro e W13 ⟨rfl, b13⟩
      have b013 := b012.trans (b13.mono b012.size)
      clear b012 b13
      go_wp2_with fail
      refine (HVz _).mono ?_
      rintro e W14 ⟨rfl, b14⟩
      have b014 := b013.trans (b14.mono b013.size)
      clear b013 b14
      go_wp2_with fail
      refine (HDR.out _ (HRU.out.below b014)).mono ?_
      rintro e W15 ⟨rfl, b15⟩
      have b015 := b014.trans (b15.mono b014.size)
      clear b014 b15
      go_wp2
      go_ret
      exact ⟨rfl, b015⟩
  · -- 10^9 <= n <= MaxVar
    obtain ⟨S, hS⟩ : ∃ S, S = bs (varOf n) := ⟨_, rfl⟩
    have hv : varOf n = varL n.toNat := by unfold varOf; rw [if_pos (by omega)]
    have hSp : 0 < S.size := by rw [hS, bs_size, hv]; exact List.length_pos_iff.2 (varL_ne _)
    have hSsz : S.size ≤ 7 := by rw [hS, bs_size]; exact varOf_len n
    have HVr : Hid (∀ W, Calls Tryd.prog 11 #[.int .i64 n] W fun e w' => e = .returned (.string S) ∧ Below W.heap.size W w') := by
      show ∀ W, Calls Tryd.prog 11 #[.int .i64 n] W fun e w' => e = .returned (.string S) ∧ Below W.heap.size W w'
      rw [hS]; exact fun W => iVar n W
    have hrd : readVar (S ++ t) = (n.toNat, S.size) := by rw [hS, hv, bs_size]; exact readVar_var _ (by omega) t
    have HRV : Hid (∀ W, Calls Tryd.prog 12 #[.string (S ++ t)] W fun e w' => e = .returned (.tuple #[.int .i64 n, .int .i64 (S.size : Int)]) ∧ Below W.heap.size W w') := by
      intro W
      have := iReadVar (S ++ t) (by rw [ByteArray.size_append]; omega) W
      rw [hrd] at this
      have e : ((n.toNat : Nat) : Int) = n := Int.toNat_of_nonneg (by omega)
      simp only [e] at this
      exact this
    have hadd1 := fun W => run_add W S t (by omega)
    have hSn := str_ne S hSp
    clear hS hv hrd hSp hSsz
    obtain ⟨T, hT⟩ : ∃ T, T = bs (fixL n 7) := ⟨_, rfl⟩
    have hf : fixedOf n 7 = fixL n 7 := by
      rcases fixedOf7 n with h | h
      · exact h.1
      · omega
    have hTs : T.size = 7 := by rw [hT, bs_size, fixL_length]
    have HFx : Hid (∀ W, Calls Tryd.prog 13 #[.int .i64 n, .int .i64 7] W fun e w' => e = .returned (.string T) ∧ Below W.heap.size W w') := by
      intro W
      have := iFixed n 7 (by omega) W
      rw [hf, ← hT] at this
      exact this
    have HRF : Hid (∀ W, Calls Tryd.prog 14 #[.string (T ++ t), .int .i64 7] W fun e w' => e = .returned (.tuple #[.int .i64 n, .bool true]) ∧ W = w') := by
      intro W
      have := iReadFixed (T ++ t) 7 (by rw [ByteArray.size_append]; omega) W
      rw [hT, readFixed_fix n (by omega) (by omega) t, ← hT] at this
      exact this
    have hadd2 := fun W => run_add W T t (by omega)
    have hTn := str_ne T (by omega)
    clear hT hf
    have HDd : Hid (∀ W, Lib.TabIs Tryd.prog W "internal/strconv.uint64pow10" .u64 Lib.pow10Tab → W.var? Tryd.prog "strconv.ErrSyntax" = some #[.iface 77 p1] → W.var? Tryd.prog "strconv.ErrRange" = some #[.iface 77 p2] → Calls Tryd.prog 7 #[.string ⟨(Lib.itoa n).toArray⟩] W fun e w' => e = .returned (.tuple #[.int .i64 0, .bool false]) ∧ Below W.heap.size W w') := by
      intro W g1 g2 g3
      have := iReadDec ⟨(Lib.itoa n).toArray⟩ (by show (Lib.itoa n).toArray.size ≤ _; rw [List.size_toArray]; have := Lib.itoa_length_le n (by omega) (by omega); omega) W g1 77 77 p1 p2 g2 g3
      rw [show (⟨(Lib.itoa n).toArray⟩ : ByteArray).data.toList = Lib.itoa n from rfl, implRd_itoa n, if_neg (by omega)] at this
      exact this
    have g1 : 0 ≤ n := by omega
    have g2 : decide (n < 0) = false := by simp; omega
    have g3 : (-1000000000 : Int) < n := by omega
    have g4 : decide (n < 1000000000) = false := by simp; omega
    have g5 : n ≤ 562949953421311 := by omega
    have g6 : decide ((72057594037927936 : Int) ≤ n) = false := by simp; omega
    clear hc
    clear hn hr
    go_wp2_with fail
    refine (HVr.out _).mono ?_
    rintro e W3 ⟨rfl, b3⟩
    have b03 := b02.trans (b3.mono b02.size)
    clear b02 b3
    go_wp2_with fail
    refine (HRV.out _).mono ?_
    rintro e W4 ⟨rfl, b4⟩
    have b04 := b03.trans (b4.mono b03.size)
    clear b03 b4
    go_wp2_with fail
    refine (HFx.out _).mono ?_
    rintro e W5 ⟨rfl, b5⟩
    have b05 := b04.trans (b5.mono b04.size)
    clear b04 b5
    go_wp2_with fail
    refine (HRF.out _).mono ?_
    rintro e w' ⟨rfl, rfl⟩
    go_wp2_with fail
    refine (HDe.out _ (hT.out.on b05).here).mono ?_
    rintro e W6 ⟨rfl, b6⟩
    have b06 := b05.trans (b6.mono b05.size)
    clear b05 b6
    go_wp2_with fail
    refine (HDd.out _ (hT.out.on b06).here (var_below H1.out b06) (var_below H2.out b06)).mono ?_
    rintro e W7 ⟨rfl, b7⟩
    have b07 := b06.trans (b7.mono b06.size)
    clear b06 b7
    go_wp2_with fail
    refine (HHx.out _).mono ?_
    rintro e W8 ⟨rfl, b8⟩
    have b08 := b07.trans (b8.mono b07.size)
    clear b07 b8
    go_wp2_with fail
    refine (HUn.out _).mono ?_
    rintro e W9 ⟨rfl, b9⟩
    have b09 := b08.trans (b9.mono b08.size)
    clear b08 b9
    go_wp2_with fail
    refine (HDR.out _ (HRU.out.below b09)).mono ?_
    rintro e W10 ⟨rfl, b10⟩
    have b010 := b09.trans (b10.mono b09.size)
    clear b09 b10
    go_wp2_with fail
    refine (HRR.out _).mono ?_
    rintro e W11 ⟨rfl, b11⟩
    have b011 := b010.trans (b11.mono b010.size)
    clear b010 b11
    rcases Nat.eq_zero_or_pos j with hj0 | hj0
    · subst hj0
      go_wp2
      go_ret
      exact ⟨rfl, b011⟩
    · have hj1 : (0 : Int) < (j : Int) := by omega
      have hjn : ((j : Int) == 0) = false := by rw [beq_eq_false_iff_ne]; omega
      obtain ⟨hjs, HVz⟩ := HJ.out hj0
      have hji : (j : Int) ≤ (r.size : Int) := by omega
      have hj00 : (0 : Int) ≤ (j : Int) := by omega
      clear hj0 hjs
      go_wp2_with fail
      refine (HDR.out _ (HRU.out.below b011)).mono ?_
      rintro e W12 ⟨rfl, b12⟩
      have b012 := b011.trans (b12.mono b011.size)
      clear b011 b12
      go_wp2_with fail
      refine (HDR.out _ (HRU.out.below b012)).mono ?_
      rintro e W13 ⟨rfl, b13⟩
      have b013 := b012.trans (b13.mono b012.size)
      clear b012 b13
      go_wp2_with fail
      refine (HVz _).mono ?_
      rintro e W14 ⟨rfl, b14⟩
      have b014 := b013.trans (b14.mono b013.size)
      clear b013 b14
      go_wp2_with fail
      refine (HDR.out _ (HRU.out.below b014)).mono ?_
      rintro e W15 ⟨rfl, b15⟩
      have b015 := b014.trans (b15.mono b014.size)
      clear b014 b15
      go_wp2
      go_ret
      exact ⟨rfl, b015⟩
  · -- MaxVar < n < 2^56
    have hv : varOf n = [] := by unfold varOf; rw [if_neg (by omega)]
    have HVr : Hid (∀ W, Calls Tryd.prog 11 #[.int .i64 n] W fun e w' => e = .returned (.string ⟨#[]⟩) ∧ Below W.heap.size W w') := by
      intro W
      have := iVar n W
      rw [hv] at this
      exact this
    obtain ⟨P, hP⟩ : ∃ P, P = readVar (⟨#[]⟩ ++ t) := ⟨_, rfl⟩
    have HRV : Hid (∀ W, Calls Tryd.prog 12 #[.string (⟨#[]⟩ ++ t)] W fun e w' => e = .returned (.tuple #[.int .i64 ((P.1 : Nat) : Int), .int .i64 ((P.2 : Nat) : Int)]) ∧ Below W.heap.size W w') := by
      intro W
      rw [hP]
      exact iReadVar (⟨#[]⟩ ++ t) (by rw [ByteArray.size_append]; show 0 + t.size ≤ _; omega) W
    have hadd1 := fun W => run_add W ⟨#[]⟩ t (by show 0 + t.size ≤ _; omega)
    clear hv hP
    obtain ⟨T, hT⟩ : ∃ T, T = bs (fixL n 7) := ⟨_, rfl⟩
    have hf : fixedOf n 7 = fixL n 7 := by
      rcases fixedOf7 n with h | h
      · exact h.1
      · omega
    have hTs : T.size = 7 := by rw [hT, bs_size, fixL_length]
    have HFx : Hid (∀ W, Calls Tryd.prog 13 #[.int .i64 n, .int .i64 7] W fun e w' => e = .returned (.string T) ∧ Below W.heap.size W w') := by
      intro W
      have := iFixed n 7 (by omega) W
      rw [hf, ← hT] at this
      exact this
    have HRF : Hid (∀ W, Calls Tryd.prog 14 #[.string (T ++ t), .int .i64 7] W fun e w' => e = .returned (.tuple #[.int .i64 n, .bool true]) ∧ W = w') := by
      intro W
      have := iReadFixed (T ++ t) 7 (by rw [ByteArray.size_append]; omega) W
      rw [hT, readFixed_fix n (by omega) (by omega) t, ← hT] at this
      exact this
    have hadd2 := fun W => run_add W T t (by omega)
    have hTn := str_ne T (by omega)
    clear hT hf
    have HDd : Hid (∀ W, Lib.TabIs Tryd.prog W "internal/strconv.uint64pow10" .u64 Lib.pow10Tab → W.var? Tryd.prog "strconv.ErrSyntax" = some #[.iface 77 p1] → W.var? Tryd.prog "strconv.ErrRange" = some #[.iface 77 p2] → Calls Tryd.prog 7 #[.string ⟨(Lib.itoa n).toArray⟩] W fun e w' => e = .returned (.tuple #[.int .i64 0, .bool false]) ∧ Below W.heap.size W w') := by
      intro W g1 g2 g3
      have := iReadDec ⟨(Lib.itoa n).toArray⟩ (by show (Lib.itoa n).toArray.size ≤ _; rw [List.size_toArray]; have := Lib.itoa_length_le n (by omega) (by omega); omega) W g1 77 77 p1 p2 g2 g3
      rw [show (⟨(Lib.itoa n).toArray⟩ : ByteArray).data.toList = Lib.itoa n from rfl, implRd_itoa n, if_neg (by omega)] at this
      exact this
    have g1 : 0 ≤ n := by omega
    have g2 : decide (n < 0) = false := by simp; omega
    have g3 : (-1000000000 : Int) < n := by omega
    have g4 : decide (n < 1000000000) = false := by simp; omega
    have g5 : decide (n ≤ 562949953421311) = false := by simp; omega
    have g6 : decide ((72057594037927936 : Int) ≤ n) = false := by simp; omega
    clear hc
    clear hn hr
    go_wp2_with fail
    refine (HVr.out _).mono ?_
    rintro e W3 ⟨rfl, b3⟩
    have b03 := b02.trans (b3.mono b02.size)
    clear b02 b3
    go_wp2_with fail
    refine (HRV.out _).mono ?_
    rintro e W4 ⟨rfl, b4⟩
    have b04 := b03.trans (b4.mono b03.size)
    clear b03 b4
    go_wp2_with fail
    refine (HFx.out _).mono ?_
    rintro e W5 ⟨rfl, b5⟩
    have b05 := b04.trans (b5.mono b04.size)
    clear b04 b5
    go_wp2_with fail
    refine (HRF.out _).mono ?_
    rintro e w' ⟨rfl, rfl⟩
    go_wp2_with fail
    refine (HDe.out _ (hT.out.on b05).here).mono ?_
    rintro e W6 ⟨rfl, b6⟩
    have b06 := b05.trans (b6.mono b05.size)
    clear b05 b6
    go_wp2_with fail
    refine (HDd.out _ (hT.out.on b06).here (var_below H1.out b06) (var_below H2.out b06)).mono ?_
    rintro e W7 ⟨rfl, b7⟩
    have b07 := b06.trans (b7.mono b06.size)
    clear b06 b7
    go_wp2_with fail
    refine (HHx.out _).mono ?_
    rintro e W8 ⟨rfl, b8⟩
    have b08 := b07.trans (b8.mono b07.size)
    clear b07 b8
    go_wp2_with fail
    refine (HUn.out _).mono ?_
    rintro e W9 ⟨rfl, b9⟩
    have b09 := b08.trans (b9.mono b08.size)
    clear b08 b9
    go_wp2_with fail
    refine (HDR.out _ (HRU.out.below b09)).mono ?_
    rintro e W10 ⟨rfl, b10⟩
    have b010 := b09.trans (b10.mono b09.size)
    clear b09 b10
    go_wp2_with fail
    refine (HRR.out _).mono ?_
    rintro e W11 ⟨rfl, b11⟩
    have b011 := b010.trans (b11.mono b010.size)
    clear b010 b11
    rcases Nat.eq_zero_or_pos j with hj0 | hj0
    · subst hj0
      go_wp2
      go_ret
      exact ⟨rfl, b011⟩
    · have hj1 : (0 : Int) < (j : Int) := by omega
      have hjn : ((j : Int) == 0) = false := by rw [beq_eq_false_iff_ne]; omega
      obtain ⟨hjs, HVz⟩ := HJ.out hj0
      have hji : (j : Int) ≤ (r.size : Int) := by omega
      have hj00 : (0 : Int) ≤ (j : Int) := by omega
      clear hj0 hjs
      go_wp2_with fail
      refine (HDR.out _ (HRU.out.below b011)).mono ?_
      rintro e W12 ⟨rfl, b12⟩
      have b012 := b011.trans (b12.mono b011.size)
      clear b011 b12
      go_wp2_with fail
      refine (HDR.out _ (HRU.out.below b012)).mono ?_
      rintro e W13 ⟨rfl, b13⟩
      have b013 := b012.trans (b13.mono b012.size)
      clear b012 b13
      go_wp2_with fail
      refine (HVz _).mono ?_
      rintro e W14 ⟨rfl, b14⟩
      have b014 := b013.trans (b14.mono b013.size)
      clear b013 b14
      go_wp2_with fail
      refine (HDR.out _ (HRU.out.below b014)).mono ?_
      rintro e W15 ⟨rfl, b15⟩
      have b015 := b014.trans (b15.mono b014.size)
      clear b014 b15
      go_wp2
      go_ret
      exact ⟨rfl, b015⟩
  · -- 2^56 <= n
    have hv : varOf n = [] := by unfold varOf; rw [if_neg (by omega)]
    have HVr : Hid (∀ W, Calls Tryd.prog 11 #[.int .i64 n] W fun e w' => e = .returned (.string ⟨#[]⟩) ∧ Below W.heap.size W w') := by
      intro W
      have := iVar n W
      rw [hv] at this
      exact this
    obtain ⟨P, hP⟩ : ∃ P, P = readVar (⟨#[]⟩ ++ t) := ⟨_, rfl⟩
    have HRV : Hid (∀ W, Calls Tryd.prog 12 #[.string (⟨#[]⟩ ++ t)] W fun e w' => e = .returned (.tuple #[.int .i64 ((P.1 : Nat) : Int), .int .i64 ((P.2 : Nat) : Int)]) ∧ Below W.heap.size W w') := by
      intro W
      rw [hP]
      exact iReadVar (⟨#[]⟩ ++ t) (by rw [ByteArray.size_append]; show 0 + t.size ≤ _; omega) W
    have hadd1 := fun W => run_add W ⟨#[]⟩ t (by show 0 + t.size ≤ _; omega)
    clear hv hP
    have hf : fixedOf n 7 = [] := by
      rcases fixedOf7 n with h | h
      · omega
      · exact h.1
    have HFx : Hid (∀ W, Calls Tryd.prog 13 #[.int .i64 n, .int .i64 7] W fun e w' => e = .returned (.string ⟨#[]⟩) ∧ Below W.heap.size W w') := by
      intro W
      have := iFixed n 7 (by omega) W
      rw [hf] at this
      exact this
    obtain ⟨P2, hP2⟩ : ∃ P2, P2 = readFixed (⟨#[]⟩ ++ t) 7 := ⟨_, rfl⟩
    have HRF : Hid (∀ W, Calls Tryd.prog 14 #[.string (⟨#[]⟩ ++ t), .int .i64 7] W fun e w' => e = .returned (.tuple #[.int .i64 P2.1, .bool P2.2]) ∧ W = w') := by
      intro W
      rw [hP2]
      exact iReadFixed (⟨#[]⟩ ++ t) 7 (by rw [ByteArray.size_append]; show 0 + t.size ≤ _; omega) W
    have hadd2 := fun W => run_add W ⟨#[]⟩ t (by show 0 + t.size ≤ _; omega)
    clear hf hP2
    have HDd : Hid (∀ W, Lib.TabIs Tryd.prog W "internal/strconv.uint64pow10" .u64 Lib.pow10Tab → W.var? Tryd.prog "strconv.ErrSyntax" = some #[.iface 77 p1] → W.var? Tryd.prog "strconv.ErrRange" = some #[.iface 77 p2] → Calls Tryd.prog 7 #[.string ⟨(Lib.itoa n).toArray⟩] W fun e w' => e = .returned (.tuple #[.int .i64 0, .bool false]) ∧ Below W.heap.size W w') := by
      intro W g1 g2 g3
      have := iReadDec ⟨(Lib.itoa n).toArray⟩ (by show (Lib.itoa n).toArray.size ≤ _; rw [List.size_toArray]; have := Lib.itoa_length_le n (by omega) (by omega); omega) W g1 77 77 p1 p2 g2 g3
      rw [show (⟨(Lib.itoa n).toArray⟩ : ByteArray).data.toList = Lib.itoa n from rfl, implRd_itoa n, if_neg (by omega)] at this
      exact this
    have g1 : 0 ≤ n := by omega
    have g2 : decide (n < 0) = false := by simp; omega
    have g3 : (-1000000000 : Int) < n := by omega
    have g4 : decide (n < 1000000000) = false := by simp; omega
    have g5 : decide (n ≤ 562949953421311) = false := by simp; omega
    have g6 : (72057594037927936 : Int) ≤ n := hc
    clear hc
    clear hn hr
    go_wp2_with fail
    refine (HVr.out _).mono ?_
    rintro e W3 ⟨rfl, b3⟩
    have b03 := b02.trans (b3.mono b02.size)
    clear b02 b3
    go_wp2_with fail
    refine (HRV.out _).mono ?_
    rintro e W4 ⟨rfl, b4⟩
    have b04 := b03.trans (b4.mono b03.size)
    clear b03 b4
    go_wp2_with fail
    refine (HFx.out _).mono ?_
    rintro e W5 ⟨rfl, b5⟩
    have b05 := b04.trans (b5.mono b04.size)
    clear b04 b5
    go_wp2_with fail
    refine (HRF.out _).mono ?_
    rintro e w' ⟨rfl, rfl⟩
    go_wp2_with fail
    refine (HDe.out _ (hT.out.on b05).here).mono ?_
    rintro e W6 ⟨rfl, b6⟩
    have b06 := b05.trans (b6.mono b05.size)
    clear b05 b6
    go_wp2_with fail
    refine (HDd.out _ (hT.out.on b06).here (var_below H1.out b06) (var_below H2.out b06)).mono ?_
    rintro e W7 ⟨rfl, b7⟩
    have b07 := b06.trans (b7.mono b06.size)
    clear b06 b7
    go_wp2_with fail
    refine (HHx.out _).mono ?_
    rintro e W8 ⟨rfl, b8⟩
    have b08 := b07.trans (b8.mono b07.size)
    clear b07 b8
    go_wp2_with fail
    refine (HUn.out _).mono ?_
    rintro e W9 ⟨rfl, b9⟩
    have b09 := b08.trans (b9.mono b08.size)
    clear b08 b9
    go_wp2_with fail
    refine (HDR.out _ (HRU.out.below b09)).mono ?_
    rintro e W10 ⟨rfl, b10⟩
    have b010 := b09.trans (b10.mono b09.size)
    clear b09 b10
    go_wp2_with fail
    refine (HRR.out _).mono ?_
    rintro e W11 ⟨rfl, b11⟩
    have b011 := b010.trans (b11.mono b010.size)
    clear b010 b11
    rcases Nat.eq_zero_or_pos j with hj0 | hj0
    · subst hj0
      go_wp2
      go_ret
      exact ⟨rfl, b011⟩
    · have hj1 : (0 : Int) < (j : Int) := by omega
      have hjn : ((j : Int) == 0) = false := by rw [beq_eq_false_iff_ne]; omega
      obtain ⟨hjs, HVz⟩ := HJ.out hj0
      have hji : (j : Int) ≤ (r.size : Int) := by omega
      have hj00 : (0 : Int) ≤ (j : Int) := by omega
      clear hj0 hjs
      go_wp2_with fail
      refine (HDR.out _ (HRU.out.below b011)).mono ?_
      rintro e W12 ⟨rfl, b12⟩
      have b012 := b011.trans (b12.mono b011.size)
      clear b011 b12
      go_wp2_with fail
      refine (HDR.out _ (HRU.out.below b012)).mono ?_
      rintro e W13 ⟨rfl, b13⟩
      have b013 := b012.trans (b13.mono b012.size)
      clear b012 b13
      go_wp2_with fail
      refine (HVz _).mono ?_
      rintro e W14 ⟨rfl, b14⟩
      have b014 := b013.trans (b14.mono b013.size)
      clear b013 b14
      go_wp2_with fail
      refine (HDR.out _ (HRU.out.below b014)).mono ?_
      rintro e W15 ⟨rfl, b15⟩
      have b015 := b014.trans (b15.mono b014.size)
      clear b014 b15
      go_wp2
      go_ret
      exact ⟨rfl, b015⟩
set_option maxRecDepth 100000 in
theorem walk (a0 : Option Addr) (len0 cap0 : Nat) (z0 : List Int) (w : World) (w0 : IsRow .u8 w a0 len0 cap0 z0) (hL : laidMetH Tryd.prog Rows.fnNumbersRow.laid w) :
    Calls Tryd.prog 4 #[.slice a0 len0 cap0] w fun e w' => e = .returned (.bool true) ∧ Below w.heap.size w w' := by
  by_cases hl : len0 ≤ 1048576
  · exact walkIn a0 len0 cap0 z0 w w0 hl hL
  · go_enter Tryd.func4, Tryd.ntmps4
    go_wp2_with fail
    refine (big_yes _ _ _ _ hl).mono ?_
    rintro e w' ⟨rfl, rfl⟩
    go_wp2
    go_ret
    exact ⟨rfl, Below.refl _ _⟩

set_option maxRecDepth 100000 in
theorem contract (H : Type) (enc : TypeId × Value → H) (W : World) (base : Nat) (args : Array Value) (ds gs : List (DataW H)) (before : List MemPlace)
    (hval0 : ∀ (j : Nat) t v, Tryd.f4.params[j]? = some t → args[j]? = some v → Value.okWide Tryd.prog W .any base t v)
    (hW : DataW.Whole enc Tryd.prog Tryd.f4.params.toList Rows.fnNumbersSpec.vars false W args.toList ds gs before) (hL : laidMetH Tryd.prog Rows.fnNumbersRow.laid W) :
    Calls Tryd.prog 4 args W fun e W' => ∃ v, e = .returned v ∧ Rows.fnNumbersSpec.post enc Tryd.prog Tryd.f4 false true false false W args v W' := by
  have hval : ∀ (j : Nat) t v, Tryd.f4.params[j]? = some t → args[j]? = some v → Value.okWide Tryd.prog W .any base t v := hval0
  have hW' := hW
  obtain ⟨p, q, hA0, hV, rfl, hfz, hnd⟩ := hW
  have hA : DataW.TrodAll enc Tryd.prog W 0 (fun _ => true) true Tryd.f4.params.toList args.toList ds p := hA0
  rw [Tryd.params4] at hA hval
  obtain ⟨v0, vs0, d0, ds0, p0, q0, hargs, rfl, rfl, h0, r0⟩ := trodAll_cons hA
  obtain ⟨rfl, rfl, rfl⟩ := trodAll_nil r0
  obtain rfl : args = #[v0] := by cases args; simp_all
  obtain ⟨rfl, rfl⟩ := trodVars_none hV
  obtain ⟨a0, len0, cap0, rfl⟩ := okWide_slice Tryd.underlying25 (hval 0 25 v0 rfl rfl)
  have k0 := h0
  have lt0 : ∀ x ∈ p0, x.block < W.heap.size := by obtain ⟨m, hm⟩ := k0; exact DataW.trod_lt m _ _ _ hm
  obtain ⟨z0, w0⟩ : ∃ zs, IsRow .u8 W a0 len0 cap0 zs := by
    obtain ⟨fuel, hf⟩ := h0
    rcases open_ints Tryd.underlying25 Tryd.underlying5 (by kernel_rfl) hf with ⟨hcs, _⟩ | ⟨x, l, c, zs, hcs, _, hl, hm, hz, _, hcell, hwz⟩
    · simp [Value.cells] at hcs
      obtain ⟨rfl, rfl, rfl⟩ := hcs
      exact ⟨[], .inl ⟨rfl, rfl, rfl, rfl⟩⟩
    · simp [Value.cells] at hcs
      obtain ⟨rfl, rfl, rfl⟩ := hcs
      exact ⟨zs, .inr ⟨_, rfl, hl, hm, by simpa using hz, hcell, hwz⟩⟩
  clear hA0 hval0
  refine (walk a0 len0 cap0 z0 W w0 hL).mono fun e W' ⟨he, bel⟩ => ?_
  subst he
  simp only [List.append_nil] at hW'
  exact ⟨_, rfl, _, _, _, [], _, [], hW', trodAll_mk1 (shut_bool Tryd.underlying4 _), (trodAll_cons_mk (Below.trod laidOut (by kernel_rfl) (of_decide_eq_true (by kernel_rfl)) k0 bel lt0) trodAll_mk0), rfl, bel.frame _, fun h => by cases h⟩

theorem laid_here (os : Os) : laidMet Tryd.prog Rows.fnNumbersRow.laid ((laidWorld os).forCall (fun _ _ => 0) ⟨#[], #[.slice none 0 0], []⟩).memory :=
  laidMet_of_run' 8 (by kernel_rfl) (by kernel_rfl)
theorem reads (os : Os) {H : Type} (enc : TypeId × Value → H) : ∃ places, DataW.whole enc Tryd.prog ((laidWorld os).forCall (fun _ _ => 0) ⟨#[], #[.slice none 0 0], []⟩).memory Tryd.f4.params.toList Rows.fnNumbersSpec.vars false (#[.slice none 0 0] : Array Value).toList 8 = some ([.nil], [], places) :=
  ⟨[], by kernel_rfl⟩
set_option maxRecDepth 100000 in
theorem lifted (os : Os) (started : os.Started) (H : Type) (enc : TypeId × Value → H) (F : Stop.Interp) :
    ReturnsInHanded {} Tryd.checked os 4 .any ((OpenSpec.ofChange Rows.fnNumbersSpec).preRow enc Tryd.prog Tryd.f4 Rows.fnNumbersRow.domain false Rows.fnNumbersRow.laid) (((OpenSpec.ofChange Rows.fnNumbersSpec).at F).post enc Tryd.prog Tryd.f4 false true false false) := by
  obtain ⟨places, hx⟩ := reads os enc
  refine returnsInHanded_of_row (C := Tryd.checked) (s := OpenSpec.ofChange Rows.fnNumbersSpec) own started (by kernel_rfl) Tryd.func4
    (witness_row_at (enc := enc) (C := Tryd.checked) false (laidWorld os) #[.slice none 0 0] rfl (by kernel_rfl) (by kernel_rfl) (by kernel_rfl)
      (OpenSpec.preRow_of_cond 8 hx (by kernel_rfl) (fun k hk => by cases hk) (by kernel_rfl) (laid_here os))) ?_
  intro W base args ds gs before hval hW _ _ _ hL _ _
  exact contract H enc W base args ds gs before hval hW hL
theorem said : Rows.FnNumbersSaid :=
  OpenClaim.holds_of_cond 4 Tryd.f4 rfl rfl rfl rfl rfl rfl rfl ⟨rfl, rfl, rfl, rfl, rfl⟩ rfl rfl rfl rfl rfl (by kernel_rfl) Tryd.func4 (by kernel_rfl)
    (of_decide_eq_true (by kernel_rfl)) (by unfold Func.isWrapper; first | (rw [if_pos (by decide +kernel)]; kernel_rfl) | (rw [if_neg (by decide +kernel)]; exact ⟨rfl, rfl⟩))
    (fun os started H enc _ F => by rw [OpenClaim.pre_eq_preRow]; exact lifted os started H enc F)
theorem plain (f : FuncId) (fn : Func) (hf : Tryd.pinned.checked.prog.funcNamed "loop.example/g01613/laws.FnNumbers" = some f) (hfn : Tryd.pinned.checked.prog.funcs[f]? = some fn) :
    true = Tryd.pinned.checked.prog.looks [] ∧ ∀ (j : Nat) t, fn.params[j]? = some t → Tryd.pinned.checked.prog.wantsStandIn t = false := by
  obtain rfl : f = 4 := Option.some.inj ((show Tryd.prog.funcNamed "loop.example/g01613/laws.FnNumbers" = some 4 by kernel_rfl).symm.trans hf) |>.symm
  obtain rfl : fn = Tryd.f4 := (Option.some.inj (Tryd.func4.symm.trans hfn)).symm
  refine ⟨by kernel_rfl, fun j t ht => ?_⟩
  rw [Tryd.params4] at ht
  obtain rfl : t = 25 := by simpa using Array.mem_of_getElem? ht
  exact (show Tryd.prog.wantsStandIn 25 = false by kernel_rfl)
theorem proved : Rows.FnNumbersCardSaid :=
  Claim7.holds_tied_plain_at .later [] _ _ _ _ said (fun _ h => by cases h) (by kernel_rfl) (fun _ h => by cases h) fnNumbers_row_tie rfl ⟨rfl, rfl⟩ (by kernel_rfl) rfl plain (by kernel_rfl)

end Go.Proofs.YtcoecgcjpeijmaaDoor.fnNumbers
