/-
  The draw that spoils a text, and the draws of texts to read a number from: told to the letter. No condition.
-/
import Derived.Test.YtcoecgcjpeijmaaDoorDrawNum
import Derived.Test.YtcoecgcjpeijmaaDoorVar
import Derived.Test.YtcoecgcjpeijmaaDoorFixed
namespace Go.Proofs.YtcoecgcjpeijmaaDoor
open Go.ChangeShapes Go.WideShapes Go.ChangeAt Go.RowKit
set_option linter.unusedVariables false
def spx (zs : List Int) (i h : Int) (s : ByteArray) (q : Nat) : Int := (bits .xor .i64 (((s.data.toList.getD q 0).toNat : Nat) : Int) (1 + belV zs i h 255)) % 256
def spoilT (zs : List Int) (i h : Int) (s : ByteArray) (q : Nat) (t : Int) : ByteArray :=
  if t = 0 then s.extract 0 q ++ s.extract (q + 1) s.size
  else if t = 1 then s.extract 0 q ++ bs [byteV zs i h] ++ s.extract q s.size
  else if t = 2 then s.extract 0 q
  else s.extract 0 q ++ bs [spx zs i h s q] ++ s.extract (q + 1) s.size
def spoilV (zs : List Int) (i h : Int) (s : ByteArray) : ByteArray :=
  if s.size = 0 then bs (txtA zs i h 3).1
  else spoilT zs (belI zs (belI zs i (s.size : Int)) 4) (belH (belH h (s.size : Int)) 4) s (belV zs i h (s.size : Int)).toNat (belV zs (belI zs i (s.size : Int)) (belH h (s.size : Int)) 4)
theorem spoilT_size (zs : List Int) (i h : Int) (s : ByteArray) (q : Nat) (t : Int) : (spoilT zs i h s q t).size ≤ s.size + s.size + 1 := by
  unfold spoilT
  have e1 : (s.extract 0 q).size ≤ s.size := by rw [ByteArray.size_extract]; omega
  have e2 : (s.extract (q + 1) s.size).size ≤ s.size := by rw [ByteArray.size_extract]; omega
  have e3 : (s.extract q s.size).size ≤ s.size := by rw [ByteArray.size_extract]; omega
  split
  · rw [ByteArray.size_append]; omega
  · split
    · rw [ByteArray.size_append, ByteArray.size_append, bs_size]; simp only [List.length_singleton]; omega
    · split
      · omega
      · rw [ByteArray.size_append, ByteArray.size_append, bs_size]; simp only [List.length_singleton]; omega
theorem spoilV_size (zs : List Int) (i h : Int) (s : ByteArray) : (spoilV zs i h s).size ≤ s.size + s.size + 3 := by
  unfold spoilV
  split
  · rw [bs_size]; have := txtA_len zs i h 3; simp only [Int.cast_ofNat_Int] at this; omega
  · have := spoilT_size zs (belI zs (belI zs i (s.size : Int)) 4) (belH (belH h (s.size : Int)) 4) s (belV zs i h (s.size : Int)).toNat (belV zs (belI zs i (s.size : Int)) (belH h (s.size : Int)) 4)
    omega
theorem run_add (w : World) (a b : ByteArray) (h : a.size + b.size ≤ 1000000) : (Op.stringOp .add a b).run Tryd.prog w = .ok (.string (a ++ b)) w := run_string_add_sum w _ _ (by omega)
set_option maxRecDepth 100000 in
set_option maxHeartbeats 4000000 in
theorem sSpoil_some (g n c : Nat) (A : Option Addr) (zs : List Int) (i h : Int) (s : ByteArray) (hs : s.size ≤ 1000) (hp : 0 < s.size) (w : World) (k : Cur w g A n c zs i h) :
    Calls Tryd.prog 29 #[.pointer (some ⟨g, 0, none⟩), .string s] w fun e w' => e = .returned (.string (spoilV zs i h s)) ∧ Only g (g + 1) w w' := by
  have hpi : ((s.size : Int) == 0) = false := by rw [beq_eq_false_iff_ne]; omega
  have hkb := belV_bd zs i h (s.size : Int) (by omega)
  have HB := Lib.hid (sBelow g n c A zs i h (s.size : Int) w k)
  have hE : spoilV zs i h s = spoilT zs (belI zs (belI zs i (s.size : Int)) 4) (belH (belH h (s.size : Int)) 4) s (belV zs i h (s.size : Int)).toNat (belV zs (belI zs i (s.size : Int)) (belH h (s.size : Int)) 4) := by
    unfold spoilV; rw [if_neg (by omega)]
  obtain ⟨q, hqe⟩ : ∃ q : Nat, (q : Int) = belV zs i h (s.size : Int) := ⟨_, Int.toNat_of_nonneg hkb.1⟩
  rw [← hqe] at hkb HB hE
  rw [Int.toNat_natCast] at hE
  have hk1 : (q : Int) < (s.size : Int) := hkb.2
  have hk2 : (q : Int) + 1 ≤ (s.size : Int) := hkb.2
  have hk0 : (0 : Int) ≤ (q : Int) := by omega
  have hk01 : (0 : Int) ≤ (q : Int) + 1 := by omega
  have hkl : (q : Int) ≤ (s.size : Int) := by omega
  have hw : IntKind.i64.wrap ((q : Int) + 1) = (q : Int) + 1 := IntWalk.i64_in _ (by omega)
  have HB4 := Lib.hid (fun W hW => sBelow g n c A zs (belI zs i (s.size : Int)) (belH h (s.size : Int)) 4 W hW)
  have htb := belV_bd zs (belI zs i (s.size : Int)) (belH h (s.size : Int)) 4 (by omega)
  obtain ⟨i2, hi2⟩ : ∃ i2, i2 = belI zs (belI zs i (s.size : Int)) 4 := ⟨_, rfl⟩
  obtain ⟨h2, hh2⟩ : ∃ h2, h2 = belH (belH h (s.size : Int)) 4 := ⟨_, rfl⟩
  obtain ⟨t, hte⟩ : ∃ t, t = belV zs (belI zs i (s.size : Int)) (belH h (s.size : Int)) 4 := ⟨_, rfl⟩
  rw [← hi2, ← hh2, ← hte] at HB4
  rw [← hi2, ← hh2, ← hte] at hE
  rw [← hte] at htb
  rw [hE]
  clear hqe hkb k hi2 hh2 hte hE
  have hts : t = 0 ∨ t = 1 ∨ t = 2 ∨ (t = 3 ∧ (t == 0) = false ∧ (t == 1) = false ∧ (t == 2) = false) := by
    rcases (show t = 0 ∨ t = 1 ∨ t = 2 ∨ t = 3 from by omega) with h | h | h | h
    · exact .inl h
    · exact .inr (.inl h)
    · exact .inr (.inr (.inl h))
    · subst h; exact .inr (.inr (.inr ⟨rfl, rfl, rfl, rfl⟩))
  clear htb
  rcases hts with rfl | rfl | rfl | ⟨rfl, hs0, hs1, hs2⟩
  · go_enter Tryd.func29, Tryd.ntmps29
    go_wp2_with fail
    refine HB.out.mono ?_
    rintro e w1 ⟨rfl, k1, o1⟩
    go_wp2_with fail
    refine (HB4.out _ k1).mono ?_
    rintro e w2 ⟨rfl, k2, o2⟩
    have o12 := o1.trans o2
    clear k1 o1 o2 HB HB4
    clear k2
    go_wp2
    go_quiet (fail)
    go_wp2
    go_ret
    exact ⟨rfl, o12.drewN _⟩
  · have hx := byteV_bd zs i2 h2
    have HX : Hid (spoilT zs i2 h2 s q 1 = s.extract 0 q ++ bs [byteV zs i2 h2] ++ s.extract q s.size) := rfl
    have HBy := Lib.hid (fun W hW => sByte g n c A zs i2 h2 W hW)
    obtain ⟨x, hxe⟩ : ∃ x, x = byteV zs i2 h2 := ⟨_, rfl⟩
    rw [← hxe] at hx HX HBy
    have hm : x % 256 = x := by omega
    have e1 : (s.extract 0 q).size ≤ 1000 := by rw [ByteArray.size_extract]; omega
    have e2 : (s.extract q s.size).size ≤ 1000 := by rw [ByteArray.size_extract]; omega
    have e4 : (bs [x]).size = 1 := by rw [bs_size]; rfl
    have ha1 := fun W => run_add W (s.extract 0 q) (bs [x]) (by rw [e4]; omega)
    have ha2 := fun W => run_add W (s.extract 0 q ++ bs [x]) (s.extract q s.size) (by rw [ByteArray.size_append, e4]; omega)
    have hcv := fun W => conv_one W x
    have hwr : IntKind.u8.wrap x = x := by rw [IntKind.wrap_u8]; exact hm
    clear hxe e1 e2 e4
    go_enter Tryd.func29, Tryd.ntmps29
    go_wp2_with fail
    refine HB.out.mono ?_
    rintro e w1 ⟨rfl, k1, o1⟩
    go_wp2_with fail
    refine (HB4.out _ k1).mono ?_
    rintro e w2 ⟨rfl, k2, o2⟩
    have o12 := o1.trans o2
    clear k1 o1 o2 HB HB4
    go_wp2
    have k2d := k2.drewN 1
    have o2d := o12.drewN 1
    go_region_with ((go_at_call 34; refine (HBy.out _ k2d).mono ?_; rintro e w3 ⟨rfl, k3, o3⟩))
    all_goals
      have o4 := (o2d.trans o3).alloc (.cells #[.int .u8 x] 5)
      clear k2 k2d k3 o12 o2d o3
      go_wp2
      go_ret
      exact ⟨by rw [HX.out]; rfl, o4⟩
  · go_enter Tryd.func29, Tryd.ntmps29
    go_wp2_with fail
    refine HB.out.mono ?_
    rintro e w1 ⟨rfl, k1, o1⟩
    go_wp2_with fail
    refine (HB4.out _ k1).mono ?_
    rintro e w2 ⟨rfl, k2, o2⟩
    have o12 := o1.trans o2
    clear k1 o1 o2 HB HB4
    clear k2
    go_wp2
    go_ret
    exact ⟨rfl, o12⟩
  · have hx := belV_bd zs i2 h2 255 (by omega)
    have HX : Hid (spoilT zs i2 h2 s q 3 = s.extract 0 q ++ bs [spx zs i2 h2 s q] ++ s.extract (q + 1) s.size) := rfl
    have HBy := Lib.hid (fun W hW => sBelow g n c A zs i2 h2 255 W hW)
    have hq : q < s.size := by omega
    have hsx : spx zs i2 h2 s q = (bits .xor .i64 ((s[q].toNat : Nat) : Int) (1 + belV zs i2 h2 255)) % 256 := by
      unfold spx
      rw [List.getD_eq_getElem?_getD, List.getElem?_eq_getElem (by rw [Array.length_toList]; exact hq)]
      rfl
    obtain ⟨y, hye⟩ : ∃ y, y = belV zs i2 h2 255 := ⟨_, rfl⟩
    rw [← hye] at hx HBy hsx
    have hw2 : IntKind.i64.wrap (1 + y) = 1 + y := IntWalk.i64_in _ (by omega)
    have hwb : IntKind.i64.wrap ((s[q].toNat : Nat) : Int) = ((s[q].toNat : Nat) : Int) := IntWalk.i64_in _ (by have := byte_lt s[q]; omega)
    obtain ⟨z, hz⟩ : ∃ z, bits .xor .i64 ((s[q].toNat : Nat) : Int) (1 + y) = z := ⟨_, rfl⟩
    rw [hz] at hsx
    obtain ⟨x, hxe⟩ : ∃ x, x = z % 256 := ⟨_, rfl⟩
    rw [hsx, ← hxe] at HX
    have hzx : z % 256 = x := hxe.symm
    have hwr : IntKind.u8.wrap z = x := by rw [IntKind.wrap_u8]; exact hzx
    have e1 : (s.extract 0 q).size ≤ 1000 := by rw [ByteArray.size_extract]; omega
    have e2 : (s.extract (q + 1) s.size).size ≤ 1000 := by rw [ByteArray.size_extract]; omega
    have e4 : (bs [x]).size = 1 := by rw [bs_size]; rfl
    have ha1 := fun W => run_add W (s.extract 0 q) (bs [x]) (by rw [e4]; omega)
    have ha2 := fun W => run_add W (s.extract 0 q ++ bs [x]) (s.extract (q + 1) s.size) (by rw [ByteArray.size_append, e4]; omega)
    have hcv := fun W => conv_one W x
    clear hxe e1 e2 e4 hye hsx
    go_enter Tryd.func29, Tryd.ntmps29
    go_wp2_with fail
    refine HB.out.mono ?_
    rintro e w1 ⟨rfl, k1, o1⟩
    go_wp2_with fail
    refine (HB4.out _ k1).mono ?_
    rintro e w2 ⟨rfl, k2, o2⟩
    have o12 := o1.trans o2
    clear k1 o1 o2 HB HB4
    go_wp2
    have k2d := k2.drewN 1
    have o2d := o12.drewN 1
    go_region_with ((go_at_call 32; refine (HBy.out _ k2d).mono ?_; rintro e w3 ⟨rfl, k3, o3⟩))
    all_goals
      have o4 := (o2d.trans o3).alloc (.cells #[.int .u8 x] 5)
      clear k2 k2d k3 o12 o2d o3
      go_wp2
      go_ret
      exact ⟨by rw [HX.out]; rfl, o4⟩
theorem sSpoil (g n c : Nat) (A : Option Addr) (zs : List Int) (i h : Int) (s : ByteArray) (hs : s.size ≤ 1000) (w : World) (k : Cur w g A n c zs i h) :
    Calls Tryd.prog 29 #[.pointer (some ⟨g, 0, none⟩), .string s] w fun e w' => e = .returned (.string (spoilV zs i h s)) ∧ Only g (g + 1) w w' := by
  rcases Nat.eq_zero_or_pos s.size with h0 | hp
  · have hE : Hid (spoilV zs i h s = bs (txtA zs i h 3).1) := by show spoilV zs i h s = _; unfold spoilV; rw [if_pos h0]
    have h0i : ((s.size : Int) == 0) = true := by rw [h0]; rfl
    have HT := Lib.hid (sText g n c 3 A zs i h (by omega) w k)
    clear h0 k
    go_enter Tryd.func29, Tryd.ntmps29
    go_wp2_with fail
    refine HT.out.mono ?_
    rintro e w1 ⟨rfl, k1, o1⟩
    clear k1
    go_wp2
    go_ret
    exact ⟨by rw [hE.out]; rfl, o1⟩
  · exact sSpoil_some g n c A zs i h s hs hp w k
def drvS (zs : List Int) : ByteArray := bs (varOf (numV zs 0 (h0 zs))) ++ bs (txtA zs (numI zs 0 (h0 zs)) (numH zs 0 (h0 zs)) 4).1
def drv (zs : List Int) : ByteArray :=
  if belV zs (txtA zs (numI zs 0 (h0 zs)) (numH zs 0 (h0 zs)) 4).2.1 (txtA zs (numI zs 0 (h0 zs)) (numH zs 0 (h0 zs)) 4).2.2 4 = 0
  then spoilV zs (belI zs (txtA zs (numI zs 0 (h0 zs)) (numH zs 0 (h0 zs)) 4).2.1 4) (belH (txtA zs (numI zs 0 (h0 zs)) (numH zs 0 (h0 zs)) 4).2.2 4) (drvS zs)
  else drvS zs
theorem varOf_len (n : Int) : (varOf n).length ≤ 7 := by
  unfold varOf
  split
  · exact varL_len7 _ (by omega)
  · simp
theorem drvS_size (zs : List Int) : (drvS zs).size ≤ 11 := by
  unfold drvS
  rw [ByteArray.size_append, bs_size, bs_size]
  have h1 := varOf_len (numV zs 0 (h0 zs))
  have h2 := txtA_len zs (numI zs 0 (h0 zs)) (numH zs 0 (h0 zs)) 4
  simp only [Int.cast_ofNat_Int] at h2
  omega
theorem drv_size (zs : List Int) : (drv zs).size ≤ 100 := by
  unfold drv
  have h1 := drvS_size zs
  split
  · have := spoilV_size zs (belI zs (txtA zs (numI zs 0 (h0 zs)) (numH zs 0 (h0 zs)) 4).2.1 4) (belH (txtA zs (numI zs 0 (h0 zs)) (numH zs 0 (h0 zs)) 4).2.2 4) (drvS zs)
    omega
  · omega
set_option maxRecDepth 100000 in
set_option maxHeartbeats 1000000 in
theorem sDrawReadVar (A : Option Addr) (n c : Nat) (zs : List Int) (w : World) (h : RU w A n zs) (hn : n ≤ 1048576) :
    Calls Tryd.prog 18 #[.slice A n c] w fun e w' => e = .returned (.string (drv zs)) ∧ Below w.heap.size w w' := by
  obtain ⟨r, hr⟩ : ∃ r, r = drv zs := ⟨_, rfl⟩
  rw [← hr]
  unfold drv at hr
  have hss := drvS_size zs
  have hbd := numV_bd zs 0 (h0 zs)
  have hadd := fun W => run_add W (bs (varOf (numV zs 0 (h0 zs)))) (bs (txtA zs (numI zs 0 (h0 zs)) (numH zs 0 (h0 zs)) 4).1) (by
    unfold drvS at hss; rw [ByteArray.size_append] at hss; omega)
  have HN := Lib.hid (fun g W hW => sNum g n c A zs 0 (h0 zs) W hW)
  have HT := Lib.hid (fun g W hW => sText g n c 4 A zs (numI zs 0 (h0 zs)) (numH zs 0 (h0 zs)) (by omega) W hW)
  have hSe : bs (varOf (numV zs 0 (h0 zs))) ++ bs (txtA zs (numI zs 0 (h0 zs)) (numH zs 0 (h0 zs)) 4).1 = drvS zs := rfl
  obtain ⟨V, hV⟩ : ∃ V, V = numV zs 0 (h0 zs) := ⟨_, rfl⟩
  obtain ⟨R, hR⟩ : ∃ R, R = txtA zs (numI zs 0 (h0 zs)) (numH zs 0 (h0 zs)) 4 := ⟨_, rfl⟩
  obtain ⟨S, hS⟩ : ∃ S, S = drvS zs := ⟨_, rfl⟩
  simp only [Int.cast_ofNat_Int] at HT
  rw [← hV] at hbd hadd HN hSe
  rw [← hR] at hadd HT hSe hr
  rw [← hS] at hSe hr hss
  rw [hSe] at hadd
  clear hV hR hS hSe
  have HO := Lib.hid (fun g W hW => sOnce g n c A zs R.2.1 R.2.2 4 W hW)
  have HP := Lib.hid (fun g W hW => sSpoil g n c A zs (belI zs R.2.1 4) (belH R.2.2 4) S (by omega) W hW)
  have HVar := Lib.hid (fun W => sVar V W)
  obtain ⟨T, hT⟩ : ∃ T, T = R.1 := ⟨_, rfl⟩
  rw [← hT] at hadd HT
  clear hT
  go_enter Tryd.func18, Tryd.ntmps18
  go_wp2_with fail
  refine (sNew A n c zs w h hn).mono ?_
  rintro e w1 ⟨g, rfl, hg, hgl, k, b1⟩
  go_wp2_with fail
  refine (HN.out g _ k).mono ?_
  rintro e w2 ⟨rfl, k2, o2⟩
  go_wp2_with fail
  refine (HVar.out _).mono ?_
  rintro e w3 ⟨rfl, b3⟩
  have k3 := k2.below b3
  have o3 := o2.below b3
  clear k k2 o2 b3
  go_wp2_with fail
  refine (HT.out g _ k3).mono ?_
  rintro e w4 ⟨rfl, k4, o4⟩
  have o4 := o3.trans o4
  clear k3 o3
  go_wp2_with fail
  refine (HO.out g _ k4).mono ?_
  rintro e w5 ⟨rfl, k5, o5⟩
  have o5 := o4.trans o5
  clear k4 o4
  by_cases hz : belV zs R.2.1 R.2.2 4 = 0
  · rw [if_pos hz] at hr
    have hz2 : (belV zs R.2.1 R.2.2 4 == 0) = true := by simpa using hz
    rw [hz2]
    have Hr := Lib.hid hr
    clear hr hz hz2
    go_wp2_with fail
    refine (HP.out g _ k5).mono ?_
    rintro e w6 ⟨rfl, o6⟩
    go_wp2
    go_ret
    exact ⟨by rw [Hr.out]; rfl, below_onl b1 hg (o5.trans o6)⟩
  · rw [if_neg hz] at hr
    have hz2 : (belV zs R.2.1 R.2.2 4 == 0) = false := by simpa using hz
    rw [hz2]
    have Hr := Lib.hid hr
    clear hr hz hz2
    go_wp2
    go_ret
    exact ⟨by rw [Hr.out]; rfl, below_onl b1 hg o5⟩
theorem xDrawVar (A : Option Addr) (n c : Nat) (zs : List Int) (w : World) (h : RU w A n zs) (hn : n ≤ 1048576) :
    Calls Tryd.prog 9 #[.slice A n c] w fun e w' => ∃ x : Int, e = .returned (.int .i64 x) ∧ (-9223372036854775808 ≤ x ∧ x ≤ 9223372036854775807) ∧ Below w.heap.size w w' := by
  go_enter Tryd.func9, Tryd.ntmps9
  go_wp2_with fail
  refine (sNew A n c zs w h hn).mono ?_
  rintro e w1 ⟨g, rfl, hg, hgl, k, b1⟩
  go_wp2_with fail
  refine (sNum g n c A zs 0 (h0 zs) _ k).mono ?_
  rintro e w2 ⟨rfl, k2, o2⟩
  clear k k2
  go_wp2
  go_ret
  exact ⟨_, rfl, numV_bd _ _ _, below_onl b1 hg o2⟩
theorem xDrawHex (A : Option Addr) (n c : Nat) (zs : List Int) (w : World) (h : RU w A n zs) (hn : n ≤ 1048576) :
    Calls Tryd.prog 10 #[.slice A n c] w fun e w' => ∃ t : ByteArray, e = .returned (.string t) ∧ t.size ≤ 40 ∧ Below w.heap.size w w' := by
  go_enter Tryd.func10, Tryd.ntmps10
  go_wp2_with fail
  refine (sNew A n c zs w h hn).mono ?_
  rintro e w1 ⟨g, rfl, hg, hgl, k, b1⟩
  go_wp2_with fail
  refine (sText g n c 40 A zs 0 (h0 zs) (by omega) _ k).mono ?_
  rintro e w2 ⟨rfl, k2, o2⟩
  clear k k2
  go_wp2
  go_ret
  exact ⟨_, rfl, by rw [bs_size]; exact txtA_len zs 0 (h0 zs) 40, below_onl b1 hg o2⟩
end Go.Proofs.YtcoecgcjpeijmaaDoor
