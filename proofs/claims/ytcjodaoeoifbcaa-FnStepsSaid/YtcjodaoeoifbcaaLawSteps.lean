/-
  FnSteps: quantization steps never decrease, and a quantized number is within half a step. No condition.
-/
import Derived.Test.YtcjodaoeoifbcaaQuant
import Derived.Test.YtcjodaoeoifbcaaScaled
import Derived.Test.YtcjodaoeoifbcaaDrawLevels
import Derived.Test.YtcjodaoeoifbcaaLawHelp
namespace Go.Proofs.Ytcjodaoeoifbcaa.fnSteps
open Go.ChangeShapes Go.WideShapes Go.ChangeAt Go.RowKit
set_option linter.unusedVariables false
theorem step_mono_ : ∀ n : Fin 51, stepOf n.val ≤ stepOf (n.val + 1) := by decide +kernel
theorem step_mono (q : Int) (h : 0 < q ∧ q ≤ 51) : stepOf (q - 1) ≤ stepOf q := by
  obtain ⟨n, rfl⟩ : ∃ n : Nat, q = (n : Int) + 1 := ⟨(q - 1).toNat, by omega⟩
  have := step_mono_ ⟨n, by omega⟩
  rw [show (n : Int) + 1 - 1 = (n : Int) from by omega]
  exact this
theorem step_even_ : ∀ n : Fin 52, stepOf n.val ≤ 13 ∨ stepOf n.val % 2 = 0 := by decide +kernel
theorem step_even (q : Int) : stepOf q ≤ 13 ∨ stepOf q % 2 = 0 := by
  by_cases h : 0 ≤ q ∧ q ≤ 51
  · obtain ⟨n, rfl⟩ := Int.eq_ofNat_of_zero_le h.1
    exact step_even_ ⟨n, by omega⟩
  · rw [stepOf_out q (by omega)]; omega
theorem quant_bd (s v : Int) : -16383 ≤ quant s v ∧ quant s v ≤ 16383 := by unfold quant; omega
theorem mul_bdq (a b : Int) (h : -16383 ≤ a ∧ a ≤ 16383) (k : 0 ≤ b ∧ b ≤ 352) : -5766816 ≤ a * b ∧ a * b ≤ 5766816 := mul_bd1 a b h k
theorem norm_pos (n k : Nat) (hk : k < n) (h : n = 16 ∧ side n = 4 ∨ n = 64 ∧ side n = 8) : 0 < normAt (side n) k := by
  rcases h with ⟨rfl, h⟩ | ⟨rfl, h⟩
  · rw [h]
    unfold normAt norm4
    rw [if_neg (by omega), if_pos (by omega)]
    split
    · omega
    · split <;> omega
  · rw [h]; unfold normAt; rw [if_pos (by omega)]; omega
theorem map_getD_q (st : Int) (l : List Int) (k : Nat) (h : k < l.length) : (l.map (quant st)).getD k 0 = quant st (l.getD k 0) := by
  rw [List.getD_eq_getElem?_getD, List.getD_eq_getElem?_getD, List.getElem?_map, List.getElem?_eq_getElem h]; rfl
theorem scl_getD (st sd : Int) (l : List Int) (n k : Nat) (h : k < n) : (sclTo st sd l n).getD k 0 = l.getD k 0 * st * normAt sd k := by
  rw [List.getD_eq_getElem?_getD, List.getElem?_eq_getElem (by rw [sclTo_len]; exact h)]; simp [sclTo, scl]
theorem tmod_zero (y s m : Int) : (y * s * m).tmod y = 0 := by rw [Int.mul_assoc]; exact Int.mul_tmod_right y (s * m)
theorem qu_cases (ws : List Int) (n : Nat) (st : Int) (hl : ws.length = n) : (quantized ws st (side n) = ws.map (quant st) ∧ (n = 16 ∧ side n = 4 ∨ n = 64 ∧ side n = 8) ∧ 0 < st) ∨ quantized ws st (side n) = [] := by
  unfold quantized
  rcases side_splitQ n with h | h
  · by_cases hs : 0 < st
    · left; rw [if_pos ⟨by omega, hs⟩]; exact ⟨rfl, h, hs⟩
    · right; rw [if_neg (fun e => hs e.2)]
  · right; rw [if_neg (fun e => by omega)]
theorem sc_cases (ws : List Int) (st : Int) : (scaled ws st (side ws.length) = sclTo st (side ws.length) ws ws.length ∧ levelsOk ws = true ∧ 0 < st) ∨ scaled ws st (side ws.length) = [] := by
  unfold scaled
  by_cases h : levelsOk ws = true ∧ 0 < st
  · left; rw [if_pos h]; exact ⟨rfl, h.1, h.2⟩
  · right; rw [if_neg h]
set_option maxRecDepth 100000 in
set_option maxHeartbeats 16000000 in
theorem walkIn (a0 : Option Addr) (len0 cap0 : Nat) (z0 : List Int) (w : World) (w0 : IsRow .u8 w a0 len0 cap0 z0) (hl : len0 ≤ 1048576) :
    Calls Try.prog 14 #[.slice a0 len0 cap0] w fun e w' => e = .returned (.bool true) ∧ Below w.heap.size w w' := by
  have HRU := Lib.hid (RU.ofIsRow w0)
  clear w0
  go_enter Try.func14, Try.ntmps14
  go_wp2_with fail
  refine (big_no _ _ _ _ hl).mono ?_
  rintro e w' ⟨rfl, rfl⟩
  go_wp2_with fail
  refine (xDrawStepOf _ _ _ _ _ HRU.out hl).mono ?_
  rintro e W1 ⟨q, rfl, hq, b01⟩
  go_wp2_with fail
  refine (iStepOf q _).mono ?_
  rintro e W2 ⟨rfl, b2⟩
  have b02 := b01.trans (b2.mono b01.size)
  clear b01 b2
  go_wp2_with fail
  refine (sStepOf q _).mono ?_
  rintro e W3 ⟨rfl, b3⟩
  have b03 := b02.trans (b3.mono b02.size)
  clear b02 b3
  have hS : ∃ W4, W4 = W3 := ⟨_, rfl⟩
  rcases (show q ≤ 0 ∨ (0 < q ∧ q ≤ 51) ∨ 51 < q by omega) with hq2 | hq2 | hq2
  rotate_left
  · have hmono := step_mono q hq2
    obtain ⟨hq3, hq4⟩ := hq2
    go_wp2_with fail
    refine (iStepOf _ _).mono ?_
    rintro e W4 ⟨rfl, b4⟩
    have b04 := b03.trans (b4.mono b03.size)
    clear b03 b4
    go_wp2_with fail
    refine (iStepOf _ _).mono ?_
    rintro e W5 ⟨rfl, b5⟩
    have b03 := b04.trans (b5.mono b04.size)
    clear b04 b5
    obtain ⟨W3, rfl⟩ : ∃ W, W = W5 := ⟨_, rfl⟩
    have hru := HRU.out.below b03
    go_wp2_with fail
    refine (xDrawQuantized _ _ _ _ _ hru hl).mono ?_
    rintro e W6 ⟨A6, n6, c6, ws, kq, rfl, o6, hs6, hqb, hkw, b6⟩
    have b06 := b03.trans (b6.mono b03.size)
    have hl6 := o6.len
    have hn6 : n6 ≤ 64 := by unfold SqLen at hs6; omega
    have HQB := Lib.hid hqb
    clear hru b03 b6 hs6 hqb
    go_wp2_with fail
    refine (iQuantized _ _ _ ws kq _ o6.read (by omega) hkw).mono ?_
    rintro e W7 ⟨A7, n7, c7, rfl, o7, b7⟩
    have o6 := o6.below b7
    have b07 := b06.trans (b7.mono b06.size)
    clear b06 b7
    rw [hl6] at o7
    rcases qu_cases ws n6 (stepOf kq) hl6 with ⟨he, hnn, hst0⟩ | he
    rotate_left
    · rw [he] at o7
      obtain rfl : n7 = 0 := by have e7 := o7.len; simpa using e7.symm
      go_wp2_with fail
      refine (sQuantized _ _ _ ws kq _ o6.read (by omega) hkw).mono ?_
      rintro e W8 ⟨A8, n8, c8, rfl, o8, b8⟩
      have b08 := b07.trans (b8.mono b07.size)
      rw [hl6, he] at o8
      obtain rfl : n8 = 0 := by have e7 := o8.len; simpa using e7.symm
      clear o6 o7 o8 b07 b8 he hl6 hkw
      go_wp2
      go_ret
      exact ⟨rfl, b08⟩
    · rw [he] at o7
      obtain rfl : n7 = n6 := by have e7 := o7.len; rw [List.length_map] at e7; omega
      have hn0 : ((n7 : Int) == 0) = false := by simp; omega
      have HL6 := Lib.hid hl6
      clear he hl6 hkw
      go_wp2_with fail
      refine (iStepOf kq _).mono ?_
      rintro e W8 ⟨rfl, b8⟩
      have r6 := (o6.below b8).read
      have r7 := (o7.below b8).read
      have b08 := b07.trans (b8.mono b07.size)
      clear o6 o7 b07 b8
      obtain ⟨st, hst⟩ : ∃ st, st = stepOf kq := ⟨_, rfl⟩
      have hstb := stepOf_range kq
      have hse := step_even kq
      rw [← hst] at hstb hse hst0 r7 ⊢
      clear hst
      go_wp2
      go_loopw [8, 9] (fun i d wr => ∃ k : Nat, k ≤ n7 ∧ i = .int .i64 (k : Int) ∧ Below W8.heap.size W8 wr) (fun i _ _ => n7 - (intOf i).toNat)
      case atStart => exact ⟨0, Nat.zero_le _, rfl, Below.refl _ _⟩
      case round =>
        obtain ⟨k, hk, rfl, hb⟩ := hrel
        by_cases hlt : k < n7
        · have hlti : (k : Int) < (n7 : Int) := by omega
          have hk0 : (0 : Int) ≤ (k : Int) := by omega
          obtain ⟨b, off, e1, hbl, hc⟩ := (r6.below hb).at_ hlt
          obtain ⟨b', off', e2, hbl', hc'⟩ := (r7.below hb).at_ hlt
          have hc1 := hc k hlt
          have hc2 := hc' k hlt
          rw [map_getD_q st ws k (by rw [HL6.out]; exact hlt)] at hc2
          have hv := HQB.out (ws.getD k 0) (by rw [List.getD_eq_getElem?_getD, List.getElem?_eq_getElem (by rw [HL6.out]; exact hlt)]; exact List.getElem_mem (by rw [HL6.out]; exact hlt))
          obtain ⟨v, hvv⟩ : ∃ v, v = ws.getD k 0 := ⟨_, rfl⟩
          rw [← hvv] at hc1 hc2 hv
          have hqk := fun c1 c2 => quant_ok st v (by omega) (by omega) hse hv c1 c2
          have hqq := quant_bd st v
          obtain ⟨x, hx⟩ : ∃ x, x = quant st v := ⟨_, rfl⟩
          rw [← hx] at hc2 hqk hqq
          have hm := mul_bdq x st hqq hstb
          subst e1
          subst e2
          have HB := Lib.hid hb
          have H6 := Lib.hid r6
          have H7 := Lib.hid r7
          clear hb hc hc' r6 r7 hvv hx
          rcases (show 16383 ≤ x ∨ (x < 16383 ∧ x ≤ -16383) ∨ (x < 16383 ∧ -16383 < x) by omega) with c1 | ⟨c1, c2⟩ | ⟨c1, c2⟩
          · clear hqk
            go_wp2
            go_quiet (fail)
            go_wp2
            go_roundw
            case rel => exact ⟨k + 1, by omega, by go_num, below_drewN HB.out _⟩
            case measure => simp [intOf]; omega
          · clear hqk
            go_wp2
            go_quiet (fail)
            go_wp2
            go_roundw
            case rel => exact ⟨k + 1, by omega, by go_num, below_drewN HB.out _⟩
            case measure => simp [intOf]; omega
          · obtain ⟨d1, d2⟩ := hqk c1 c2
            clear hqk
            go_wp2
            go_quiet (fail)
            go_wp2
            go_roundw
            case rel => exact ⟨k + 1, by omega, by go_num, below_drewN HB.out _⟩
            case measure => simp [intOf]; omega
        · obtain rfl : k = n7 := by omega
          have b09 := b08.trans (hb.mono b08.size)
          clear b08 hb r6 r7 hnn
          have hru := HRU.out.below b09
          go_wp2_with fail
          refine (xDrawScaled _ _ _ _ _ hru hl).mono ?_
          rintro e W10 ⟨A10, n10, c10, ys, mq, rfl, o10, hs10, hmw, b10⟩
          have b010 := b09.trans (b10.mono b09.size)
          have hl10 := o10.len
          have hn10 : n10 ≤ 64 := by unfold SqLen at hs10; omega
          clear hru b09 b10 hs10
          go_wp2_with fail
          refine (iScaled _ _ _ ys mq _ o10.read (by omega) hmw).mono ?_
          rintro e W11 ⟨A11, n11, c11, rfl, o11, b11⟩
          have r10 := (o10.below b11).read
          have r11 := o11.read
          have b011 := b010.trans (b11.mono b010.size)
          clear o10 o11 b010 b11
          have hn11 : n11 ≤ 1000 := by have e1 := r11.len; have e2 := scaled_len ys (stepOf mq) (side ys.length) (by omega); rcases sc_cases ys (stepOf mq) with ⟨e3, _⟩ | e3 <;> rw [e3] at e1 <;> simp [sclTo_len] at e1 <;> omega
          have HMW := Lib.hid hmw
          have HL10 := Lib.hid hl10
          clear hmw hl10
          go_wp2
          go_loopw [13] (fun i wr => ∃ k : Nat, k ≤ n11 ∧ i = .int .i64 (k : Int) ∧ Below W11.heap.size W11 wr) (fun i _ => n11 - (intOf i).toNat)
          case atStart => exact ⟨0, Nat.zero_le _, rfl, Below.refl _ _⟩
          case round =>
            obtain ⟨j, hj, rfl, hb⟩ := hrel
            by_cases hlt : j < n11
            · rcases sc_cases ys (stepOf mq) with ⟨e3, hok, hst1⟩ | e3
              · have hsd := levelsOk_side hok
                have hat := levelsOk_at hok j
                have e11 := r11.len
                rw [e3] at e11 r11
                rw [sclTo_len] at e11
                obtain rfl : n11 = n10 := by have := HL10.out; omega
                have hlti : (j : Int) < (n11 : Int) := by omega
                have hk0 : (0 : Int) ≤ (j : Int) := by omega
                obtain ⟨b, off, e1, hbl, hc⟩ := (r10.below hb).at_ hlt
                obtain ⟨b', off', e2, hbl', hc'⟩ := (r11.below hb).at_ hlt
                have hc1 := hc j hlt
                have hc2 := hc' j hlt
                rw [scl_getD _ _ _ _ _ (by rw [HL10.out]; exact hlt)] at hc2
                have hnp := norm_pos ys.length j (by rw [HL10.out]; exact hlt) hsd
                have htm := tmod_zero (ys.getD j 0) (stepOf mq) (normAt (side ys.length) j)
                have hzz : ¬ ys.getD j 0 = 0 → ¬ ys.getD j 0 * stepOf mq * normAt (side ys.length) j = 0 := fun h e => by
                  rcases Int.mul_eq_zero.1 e with e | e
                  · rcases Int.mul_eq_zero.1 e with e | e
                    · exact h e
                    · omega
                  · omega
                by_cases hy : ys.getD j 0 = 0
                · rw [hy] at hc1 hc2
                  simp only [Int.zero_mul] at hc2
                  subst e1
                  subst e2
                  have HB := Lib.hid hb
                  have H6 := Lib.hid r10
                  have H7 := Lib.hid r11
                  clear hb hc hc' r10 r11 htm hzz hy hnp hat hsd e11 hok e3
                  go_wp2
                  go_quiet (fail)
                  go_wp2
                  go_roundw
                  case rel => exact ⟨j + 1, by omega, by go_num, below_drewN HB.out _⟩
                  case measure => simp [intOf]; omega
                · have hz := hzz hy
                  obtain ⟨z, hzd⟩ : ∃ z, z = ys.getD j 0 * stepOf mq * normAt (side ys.length) j := ⟨_, rfl⟩
                  rw [← hzd] at hc2 htm hz
                  obtain ⟨y, hyd⟩ : ∃ y, y = ys.getD j 0 := ⟨_, rfl⟩
                  rw [← hyd] at hc1 htm hy
                  have hy' : (y == 0) = false := by rw [beq_eq_false_iff_ne]; exact hy
                  have hz' : (z == 0) = false := by rw [beq_eq_false_iff_ne]; exact hz
                  have hy2 : (y != 0) = true := by simpa using hy
                  subst e1
                  subst e2
                  have HB := Lib.hid hb
                  have H6 := Lib.hid r10
                  have H7 := Lib.hid r11
                  clear hb hc hc' r10 r11 hzz hz hnp hat hsd e11 hok e3 hzd hyd
                  go_wp2
                  go_quiet (fail)
                  go_wp2
                  go_roundw
                  case rel => exact ⟨j + 1, by omega, by go_num, below_drewN HB.out _⟩
                  case measure => simp [intOf]; omega
              · exfalso
                have e11 := r11.len
                rw [e3] at e11
                simp at e11
                omega
            · obtain rfl : j = n11 := by omega
              have b012 := b011.trans (hb.mono b011.size)
              have r10 := r10.below hb
              have r11 := r11.below hb
              clear b011 hb
              go_wp2_with fail
              refine (sScaled _ _ _ ys mq _ r10 (by omega) HMW.out).mono ?_
              rintro e W13 ⟨A13, n13, c13, rfl, o13, b13⟩
              have r11 := r11.below b13
              have b013 := b012.trans (b13.mono b012.size)
              obtain rfl : n13 = j := o13.len.symm.trans r11.len
              clear r10 b012 b13
              go_wp2_with fail
              refine (sameInts_yes _ _ _ _ _ _ _ r11 o13.read (by omega)).mono ?_
              rintro e W14 ⟨rfl, b14⟩
              have b014 := b013.trans (b14.mono b013.size)
              clear r11 o13 b013 b14
              go_wp2
              go_ret
              exact ⟨rfl, b014⟩
  · have hq0 : 0 < q := by omega
    have hru := HRU.out.below b03
    go_wp2_with fail
    refine (xDrawQuantized _ _ _ _ _ hru hl).mono ?_
    rintro e W6 ⟨A6, n6, c6, ws, kq, rfl, o6, hs6, hqb, hkw, b6⟩
    have b06 := b03.trans (b6.mono b03.size)
    have hl6 := o6.len
    have hn6 : n6 ≤ 64 := by unfold SqLen at hs6; omega
    have HQB := Lib.hid hqb
    clear hru b03 b6 hs6 hqb
    go_wp2_with fail
    refine (iQuantized _ _ _ ws kq _ o6.read (by omega) hkw).mono ?_
    rintro e W7 ⟨A7, n7, c7, rfl, o7, b7⟩
    have o6 := o6.below b7
    have b07 := b06.trans (b7.mono b06.size)
    clear b06 b7
    rw [hl6] at o7
    rcases qu_cases ws n6 (stepOf kq) hl6 with ⟨he, hnn, hst0⟩ | he
    rotate_left
    · rw [he] at o7
      obtain rfl : n7 = 0 := by have e7 := o7.len; simpa using e7.symm
      go_wp2_with fail
      refine (sQuantized _ _ _ ws kq _ o6.read (by omega) hkw).mono ?_
      rintro e W8 ⟨A8, n8, c8, rfl, o8, b8⟩
      have b08 := b07.trans (b8.mono b07.size)
      rw [hl6, he] at o8
      obtain rfl : n8 = 0 := by have e7 := o8.len; simpa using e7.symm
      clear o6 o7 o8 b07 b8 he hl6 hkw
      go_wp2
      go_ret
      exact ⟨rfl, b08⟩
    · rw [he] at o7
      obtain rfl : n7 = n6 := by have e7 := o7.len; rw [List.length_map] at e7; omega
      have hn0 : ((n7 : Int) == 0) = false := by simp; omega
      have HL6 := Lib.hid hl6
      clear he hl6 hkw
      go_wp2_with fail
      refine (iStepOf kq _).mono ?_
      rintro e W8 ⟨rfl, b8⟩
      have r6 := (o6.below b8).read
      have r7 := (o7.below b8).read
      have b08 := b07.trans (b8.mono b07.size)
      clear o6 o7 b07 b8
      obtain ⟨st, hst⟩ : ∃ st, st = stepOf kq := ⟨_, rfl⟩
      have hstb := stepOf_range kq
      have hse := step_even kq
      rw [← hst] at hstb hse hst0 r7 ⊢
      clear hst
      go_wp2
      go_loopw [8, 9] (fun i d wr => ∃ k : Nat, k ≤ n7 ∧ i = .int .i64 (k : Int) ∧ Below W8.heap.size W8 wr) (fun i _ _ => n7 - (intOf i).toNat)
      case atStart => exact ⟨0, Nat.zero_le _, rfl, Below.refl _ _⟩
      case round =>
        obtain ⟨k, hk, rfl, hb⟩ := hrel
        by_cases hlt : k < n7
        · have hlti : (k : Int) < (n7 : Int) := by omega
          have hk0 : (0 : Int) ≤ (k : Int) := by omega
          obtain ⟨b, off, e1, hbl, hc⟩ := (r6.below hb).at_ hlt
          obtain ⟨b', off', e2, hbl', hc'⟩ := (r7.below hb).at_ hlt
          have hc1 := hc k hlt
          have hc2 := hc' k hlt
          rw [map_getD_q st ws k (by rw [HL6.out]; exact hlt)] at hc2
          have hv := HQB.out (ws.getD k 0) (by rw [List.getD_eq_getElem?_getD, List.getElem?_eq_getElem (by rw [HL6.out]; exact hlt)]; exact List.getElem_mem (by rw [HL6.out]; exact hlt))
          obtain ⟨v, hvv⟩ : ∃ v, v = ws.getD k 0 := ⟨_, rfl⟩
          rw [← hvv] at hc1 hc2 hv
          have hqk := fun c1 c2 => quant_ok st v (by omega) (by omega) hse hv c1 c2
          have hqq := quant_bd st v
          obtain ⟨x, hx⟩ : ∃ x, x = quant st v := ⟨_, rfl⟩
          rw [← hx] at hc2 hqk hqq
          have hm := mul_bdq x st hqq hstb
          subst e1
          subst e2
          have HB := Lib.hid hb
          have H6 := Lib.hid r6
          have H7 := Lib.hid r7
          clear hb hc hc' r6 r7 hvv hx
          rcases (show 16383 ≤ x ∨ (x < 16383 ∧ x ≤ -16383) ∨ (x < 16383 ∧ -16383 < x) by omega) with c1 | ⟨c1, c2⟩ | ⟨c1, c2⟩
          · clear hqk
            go_wp2
            go_quiet (fail)
            go_wp2
            go_roundw
            case rel => exact ⟨k + 1, by omega, by go_num, below_drewN HB.out _⟩
            case measure => simp [intOf]; omega
          · clear hqk
            go_wp2
            go_quiet (fail)
            go_wp2
            go_roundw
            case rel => exact ⟨k + 1, by omega, by go_num, below_drewN HB.out _⟩
            case measure => simp [intOf]; omega
          · obtain ⟨d1, d2⟩ := hqk c1 c2
            clear hqk
            go_wp2
            go_quiet (fail)
            go_wp2
            go_roundw
            case rel => exact ⟨k + 1, by omega, by go_num, below_drewN HB.out _⟩
            case measure => simp [intOf]; omega
        · obtain rfl : k = n7 := by omega
          have b09 := b08.trans (hb.mono b08.size)
          clear b08 hb r6 r7 hnn
          have hru := HRU.out.below b09
          go_wp2_with fail
          refine (xDrawScaled _ _ _ _ _ hru hl).mono ?_
          rintro e W10 ⟨A10, n10, c10, ys, mq, rfl, o10, hs10, hmw, b10⟩
          have b010 := b09.trans (b10.mono b09.size)
          have hl10 := o10.len
          have hn10 : n10 ≤ 64 := by unfold SqLen at hs10; omega
          clear hru b09 b10 hs10
          go_wp2_with fail
          refine (iScaled _ _ _ ys mq _ o10.read (by omega) hmw).mono ?_
          rintro e W11 ⟨A11, n11, c11, rfl, o11, b11⟩
          have r10 := (o10.below b11).read
          have r11 := o11.read
          have b011 := b010.trans (b11.mono b010.size)
          clear o10 o11 b010 b11
          have hn11 : n11 ≤ 1000 := by have e1 := r11.len; have e2 := scaled_len ys (stepOf mq) (side ys.length) (by omega); rcases sc_cases ys (stepOf mq) with ⟨e3, _⟩ | e3 <;> rw [e3] at e1 <;> simp [sclTo_len] at e1 <;> omega
          have HMW := Lib.hid hmw
          have HL10 := Lib.hid hl10
          clear hmw hl10
          go_wp2
          go_loopw [13] (fun i wr => ∃ k : Nat, k ≤ n11 ∧ i = .int .i64 (k : Int) ∧ Below W11.heap.size W11 wr) (fun i _ => n11 - (intOf i).toNat)
          case atStart => exact ⟨0, Nat.zero_le _, rfl, Below.refl _ _⟩
          case round =>
            obtain ⟨j, hj, rfl, hb⟩ := hrel
            by_cases hlt : j < n11
            · rcases sc_cases ys (stepOf mq) with ⟨e3, hok, hst1⟩ | e3
              · have hsd := levelsOk_side hok
                have hat := levelsOk_at hok j
                have e11 := r11.len
                rw [e3] at e11 r11
                rw [sclTo_len] at e11
                obtain rfl : n11 = n10 := by have := HL10.out; omega
                have hlti : (j : Int) < (n11 : Int) := by omega
                have hk0 : (0 : Int) ≤ (j : Int) := by omega
                obtain ⟨b, off, e1, hbl, hc⟩ := (r10.below hb).at_ hlt
                obtain ⟨b', off', e2, hbl', hc'⟩ := (r11.below hb).at_ hlt
                have hc1 := hc j hlt
                have hc2 := hc' j hlt
                rw [scl_getD _ _ _ _ _ (by rw [HL10.out]; exact hlt)] at hc2
                have hnp := norm_pos ys.length j (by rw [HL10.out]; exact hlt) hsd
                have htm := tmod_zero (ys.getD j 0) (stepOf mq) (normAt (side ys.length) j)
                have hzz : ¬ ys.getD j 0 = 0 → ¬ ys.getD j 0 * stepOf mq * normAt (side ys.length) j = 0 := fun h e => by
                  rcases Int.mul_eq_zero.1 e with e | e
                  · rcases Int.mul_eq_zero.1 e with e | e
                    · exact h e
                    · omega
                  · omega
                by_cases hy : ys.getD j 0 = 0
                · rw [hy] at hc1 hc2
                  simp only [Int.zero_mul] at hc2
                  subst e1
                  subst e2
                  have HB := Lib.hid hb
                  have H6 := Lib.hid r10
                  have H7 := Lib.hid r11
                  clear hb hc hc' r10 r11 htm hzz hy hnp hat hsd e11 hok e3
                  go_wp2
                  go_quiet (fail)
                  go_wp2
                  go_roundw
                  case rel => exact ⟨j + 1, by omega, by go_num, below_drewN HB.out _⟩
                  case measure => simp [intOf]; omega
                · have hz := hzz hy
                  obtain ⟨z, hzd⟩ : ∃ z, z = ys.getD j 0 * stepOf mq * normAt (side ys.length) j := ⟨_, rfl⟩
                  rw [← hzd] at hc2 htm hz
                  obtain ⟨y, hyd⟩ : ∃ y, y = ys.getD j 0 := ⟨_, rfl⟩
                  rw [← hyd] at hc1 htm hy
                  have hy' : (y == 0) = false := by rw [beq_eq_false_iff_ne]; exact hy
                  have hz' : (z == 0) = false := by rw [beq_eq_false_iff_ne]; exact hz
                  have hy2 : (y != 0) = true := by simpa using hy
                  subst e1
                  subst e2
                  have HB := Lib.hid hb
                  have H6 := Lib.hid r10
                  have H7 := Lib.hid r11
                  clear hb hc hc' r10 r11 hzz hz hnp hat hsd e11 hok e3 hzd hyd
                  go_wp2
                  go_quiet (fail)
                  go_wp2
                  go_roundw
                  case rel => exact ⟨j + 1, by omega, by go_num, below_drewN HB.out _⟩
                  case measure => simp [intOf]; omega
              · exfalso
                have e11 := r11.len
                rw [e3] at e11
                simp at e11
                omega
            · obtain rfl : j = n11 := by omega
              have b012 := b011.trans (hb.mono b011.size)
              have r10 := r10.below hb
              have r11 := r11.below hb
              clear b011 hb
              go_wp2_with fail
              refine (sScaled _ _ _ ys mq _ r10 (by omega) HMW.out).mono ?_
              rintro e W13 ⟨A13, n13, c13, rfl, o13, b13⟩
              have r11 := r11.below b13
              have b013 := b012.trans (b13.mono b012.size)
              obtain rfl : n13 = j := o13.len.symm.trans r11.len
              clear r10 b012 b13
              go_wp2_with fail
              refine (sameInts_yes _ _ _ _ _ _ _ r11 o13.read (by omega)).mono ?_
              rintro e W14 ⟨rfl, b14⟩
              have b014 := b013.trans (b14.mono b013.size)
              clear r11 o13 b013 b14
              go_wp2
              go_ret
              exact ⟨rfl, b014⟩
  · have hru := HRU.out.below b03
    go_wp2_with fail
    refine (xDrawQuantized _ _ _ _ _ hru hl).mono ?_
    rintro e W6 ⟨A6, n6, c6, ws, kq, rfl, o6, hs6, hqb, hkw, b6⟩
    have b06 := b03.trans (b6.mono b03.size)
    have hl6 := o6.len
    have hn6 : n6 ≤ 64 := by unfold SqLen at hs6; omega
    have HQB := Lib.hid hqb
    clear hru b03 b6 hs6 hqb
    go_wp2_with fail
    refine (iQuantized _ _ _ ws kq _ o6.read (by omega) hkw).mono ?_
    rintro e W7 ⟨A7, n7, c7, rfl, o7, b7⟩
    have o6 := o6.below b7
    have b07 := b06.trans (b7.mono b06.size)
    clear b06 b7
    rw [hl6] at o7
    rcases qu_cases ws n6 (stepOf kq) hl6 with ⟨he, hnn, hst0⟩ | he
    rotate_left
    · rw [he] at o7
      obtain rfl : n7 = 0 := by have e7 := o7.len; simpa using e7.symm
      go_wp2_with fail
      refine (sQuantized _ _ _ ws kq _ o6.read (by omega) hkw).mono ?_
      rintro e W8 ⟨A8, n8, c8, rfl, o8, b8⟩
      have b08 := b07.trans (b8.mono b07.size)
      rw [hl6, he] at o8
      obtain rfl : n8 = 0 := by have e7 := o8.len; simpa using e7.symm
      clear o6 o7 o8 b07 b8 he hl6 hkw
      go_wp2
      go_ret
      exact ⟨rfl, b08⟩
    · rw [he] at o7
      obtain rfl : n7 = n6 := by have e7 := o7.len; rw [List.length_map] at e7; omega
      have hn0 : ((n7 : Int) == 0) = false := by simp; omega
      have HL6 := Lib.hid hl6
      clear he hl6 hkw
      go_wp2_with fail
      refine (iStepOf kq _).mono ?_
      rintro e W8 ⟨rfl, b8⟩
      have r6 := (o6.below b8).read
      have r7 := (o7.below b8).read
      have b08 := b07.trans (b8.mono b07.size)
      clear o6 o7 b07 b8
      obtain ⟨st, hst⟩ : ∃ st, st = stepOf kq := ⟨_, rfl⟩
      have hstb := stepOf_range kq
      have hse := step_even kq
      rw [← hst] at hstb hse hst0 r7 ⊢
      clear hst
      go_wp2
      go_loopw [8, 9] (fun i d wr => ∃ k : Nat, k ≤ n7 ∧ i = .int .i64 (k : Int) ∧ Below W8.heap.size W8 wr) (fun i _ _ => n7 - (intOf i).toNat)
      case atStart => exact ⟨0, Nat.zero_le _, rfl, Below.refl _ _⟩
      case round =>
        obtain ⟨k, hk, rfl, hb⟩ := hrel
        by_cases hlt : k < n7
        · have hlti : (k : Int) < (n7 : Int) := by omega
          have hk0 : (0 : Int) ≤ (k : Int) := by omega
          obtain ⟨b, off, e1, hbl, hc⟩ := (r6.below hb).at_ hlt
          obtain ⟨b', off', e2, hbl', hc'⟩ := (r7.below hb).at_ hlt
          have hc1 := hc k hlt
          have hc2 := hc' k hlt
          rw [map_getD_q st ws k (by rw [HL6.out]; exact hlt)] at hc2
          have hv := HQB.out (ws.getD k 0) (by rw [List.getD_eq_getElem?_getD, List.getElem?_eq_getElem (by rw [HL6.out]; exact hlt)]; exact List.getElem_mem (by rw [HL6.out]; exact hlt))
          obtain ⟨v, hvv⟩ : ∃ v, v = ws.getD k 0 := ⟨_, rfl⟩
          rw [← hvv] at hc1 hc2 hv
          have hqk := fun c1 c2 => quant_ok st v (by omega) (by omega) hse hv c1 c2
          have hqq := quant_bd st v
          obtain ⟨x, hx⟩ : ∃ x, x = quant st v := ⟨_, rfl⟩
          rw [← hx] at hc2 hqk hqq
          have hm := mul_bdq x st hqq hstb
          subst e1
          subst e2
          have HB := Lib.hid hb
          have H6 := Lib.hid r6
          have H7 := Lib.hid r7
          clear hb hc hc' r6 r7 hvv hx
          rcases (show 16383 ≤ x ∨ (x < 16383 ∧ x ≤ -16383) ∨ (x < 16383 ∧ -16383 < x) by omega) with c1 | ⟨c1, c2⟩ | ⟨c1, c2⟩
          · clear hqk
            go_wp2
            go_quiet (fail)
            go_wp2
            go_roundw
            case rel => exact ⟨k + 1, by omega, by go_num, below_drewN HB.out _⟩
            case measure => simp [intOf]; omega
          · clear hqk
            go_wp2
            go_quiet (fail)
            go_wp2
            go_roundw
            case rel => exact ⟨k + 1, by omega, by go_num, below_drewN HB.out _⟩
            case measure => simp [intOf]; omega
          · obtain ⟨d1, d2⟩ := hqk c1 c2
            clear hqk
            go_wp2
            go_quiet (fail)
            go_wp2
            go_roundw
            case rel => exact ⟨k + 1, by omega, by go_num, below_drewN HB.out _⟩
            case measure => simp [intOf]; omega
        · obtain rfl : k = n7 := by omega
          have b09 := b08.trans (hb.mono b08.size)
          clear b08 hb r6 r7 hnn
          have hru := HRU.out.below b09
          go_wp2_with fail
          refine (xDrawScaled _ _ _ _ _ hru hl).mono ?_
          rintro e W10 ⟨A10, n10, c10, ys, mq, rfl, o10, hs10, hmw, b10⟩
          have b010 := b09.trans (b10.mono b09.size)
          have hl10 := o10.len
          have hn10 : n10 ≤ 64 := by unfold SqLen at hs10; omega
          clear hru b09 b10 hs10
          go_wp2_with fail
          refine (iScaled _ _ _ ys mq _ o10.read (by omega) hmw).mono ?_
          rintro e W11 ⟨A11, n11, c11, rfl, o11, b11⟩
          have r10 := (o10.below b11).read
          have r11 := o11.read
          have b011 := b010.trans (b11.mono b010.size)
          clear o10 o11 b010 b11
          have hn11 : n11 ≤ 1000 := by have e1 := r11.len; have e2 := scaled_len ys (stepOf mq) (side ys.length) (by omega); rcases sc_cases ys (stepOf mq) with ⟨e3, _⟩ | e3 <;> rw [e3] at e1 <;> simp [sclTo_len] at e1 <;> omega
          have HMW := Lib.hid hmw
          have HL10 := Lib.hid hl10
          clear hmw hl10
          go_wp2
          go_loopw [13] (fun i wr => ∃ k : Nat, k ≤ n11 ∧ i = .int .i64 (k : Int) ∧ Below W11.heap.size W11 wr) (fun i _ => n11 - (intOf i).toNat)
          case atStart => exact ⟨0, Nat.zero_le _, rfl, Below.refl _ _⟩
          case round =>
            obtain ⟨j, hj, rfl, hb⟩ := hrel
            by_cases hlt : j < n11
            · rcases sc_cases ys (stepOf mq) with ⟨e3, hok, hst1⟩ | e3
              · have hsd := levelsOk_side hok
                have hat := levelsOk_at hok j
                have e11 := r11.len
                rw [e3] at e11 r11
                rw [sclTo_len] at e11
                obtain rfl : n11 = n10 := by have := HL10.out; omega
                have hlti : (j : Int) < (n11 : Int) := by omega
                have hk0 : (0 : Int) ≤ (j : Int) := by omega
                obtain ⟨b, off, e1, hbl, hc⟩ := (r10.below hb).at_ hlt
                obtain ⟨b', off', e2, hbl', hc'⟩ := (r11.below hb).at_ hlt
                have hc1 := hc j hlt
                have hc2 := hc' j hlt
                rw [scl_getD _ _ _ _ _ (by rw [HL10.out]; exact hlt)] at hc2
                have hnp := norm_pos ys.length j (by rw [HL10.out]; exact hlt) hsd
                have htm := tmod_zero (ys.getD j 0) (stepOf mq) (normAt (side ys.length) j)
                have hzz : ¬ ys.getD j 0 = 0 → ¬ ys.getD j 0 * stepOf mq * normAt (side ys.length) j = 0 := fun h e => by
                  rcases Int.mul_eq_zero.1 e with e | e
                  · rcases Int.mul_eq_zero.1 e with e | e
                    · exact h e
                    · omega
                  · omega
                by_cases hy : ys.getD j 0 = 0
                · rw [hy] at hc1 hc2
                  simp only [Int.zero_mul] at hc2
                  subst e1
                  subst e2
                  have HB := Lib.hid hb
                  have H6 := Lib.hid r10
                  have H7 := Lib.hid r11
                  clear hb hc hc' r10 r11 htm hzz hy hnp hat hsd e11 hok e3
                  go_wp2
                  go_quiet (fail)
                  go_wp2
                  go_roundw
                  case rel => exact ⟨j + 1, by omega, by go_num, below_drewN HB.out _⟩
                  case measure => simp [intOf]; omega
                · have hz := hzz hy
                  obtain ⟨z, hzd⟩ : ∃ z, z = ys.getD j 0 * stepOf mq * normAt (side ys.length) j := ⟨_, rfl⟩
                  rw [← hzd] at hc2 htm hz
                  obtain ⟨y, hyd⟩ : ∃ y, y = ys.getD j 0 := ⟨_, rfl⟩
                  rw [← hyd] at hc1 htm hy
                  have hy' : (y == 0) = false := by rw [beq_eq_false_iff_ne]; exact hy
                  have hz' : (z == 0) = false := by rw [beq_eq_false_iff_ne]; exact hz
                  have hy2 : (y != 0) = true := by simpa using hy
                  subst e1
                  subst e2
                  have HB := Lib.hid hb
                  have H6 := Lib.hid r10
                  have H7 := Lib.hid r11
                  clear hb hc hc' r10 r11 hzz hz hnp hat hsd e11 hok e3 hzd hyd
                  go_wp2
                  go_quiet (fail)
                  go_wp2
                  go_roundw
                  case rel => exact ⟨j + 1, by omega, by go_num, below_drewN HB.out _⟩
                  case measure => simp [intOf]; omega
              · exfalso
                have e11 := r11.len
                rw [e3] at e11
                simp at e11
                omega
            · obtain rfl : j = n11 := by omega
              have b012 := b011.trans (hb.mono b011.size)
              have r10 := r10.below hb
              have r11 := r11.below hb
              clear b011 hb
              go_wp2_with fail
              refine (sScaled _ _ _ ys mq _ r10 (by omega) HMW.out).mono ?_
              rintro e W13 ⟨A13, n13, c13, rfl, o13, b13⟩
              have r11 := r11.below b13
              have b013 := b012.trans (b13.mono b012.size)
              obtain rfl : n13 = j := o13.len.symm.trans r11.len
              clear r10 b012 b13
              go_wp2_with fail
              refine (sameInts_yes _ _ _ _ _ _ _ r11 o13.read (by omega)).mono ?_
              rintro e W14 ⟨rfl, b14⟩
              have b014 := b013.trans (b14.mono b013.size)
              clear r11 o13 b013 b14
              go_wp2
              go_ret
              exact ⟨rfl, b014⟩
theorem walk (a0 : Option Addr) (len0 cap0 : Nat) (z0 : List Int) (w : World) (w0 : IsRow .u8 w a0 len0 cap0 z0) :
    Calls Try.prog 14 #[.slice a0 len0 cap0] w fun e w' => e = .returned (.bool true) ∧ Below w.heap.size w w' := by
  by_cases hl : len0 ≤ 1048576
  · exact walkIn a0 len0 cap0 z0 w w0 hl
  · go_enter Try.func14, Try.ntmps14
    go_wp2_with fail
    refine (big_yes _ _ _ _ hl).mono ?_
    rintro e w' ⟨rfl, rfl⟩
    go_wp2
    go_ret
    exact ⟨rfl, Below.refl _ _⟩

set_option maxRecDepth 100000 in
theorem lifted (os : Os) (started : os.Started) (H : Type) (enc : TypeId × Value → H) :
    ReturnsInHanded {} Try.checked os 14 .any (Rows.fnStepsSpec.pre6 enc Try.prog Try.f14 Rows.fnStepsRow.domain false) (Rows.fnStepsSpec.post enc Try.prog Try.f14 false true false false) := by
  refine returnsInHanded_of_change (C := Try.checked) own started (by kernel_rfl) Try.func14
    (ChangeSpec.witness6 (enc := enc) (C := Try.checked) false ⟨#[], #[.slice none 0 0], []⟩ 8 (by kernel_rfl) (by kernel_rfl) (by kernel_rfl) (by kernel_rfl)) ?_
  intro W base args ds gs before hval0 hW hcnd _
  have hval : ∀ (j : Nat) t v, Try.f14.params[j]? = some t → args[j]? = some v → Value.okWide Try.prog W .any base t v := hval0
  have hW' := hW
  obtain ⟨p, q, hA0, hV, rfl, hfz, hnd⟩ := hW
  have hA : DataW.TrodAll enc Try.prog W 0 (fun _ => true) true Try.f14.params.toList args.toList ds p := hA0
  rw [Try.params14] at hA hval
  obtain ⟨v0, vs0, d0, ds0, p0, q0, hargs, rfl, rfl, h0, r0⟩ := trodAll_cons hA
  obtain ⟨rfl, rfl, rfl⟩ := trodAll_nil r0
  obtain rfl : args = #[v0] := by cases args; simp_all
  obtain ⟨rfl, rfl⟩ := trodVars_none hV
  obtain ⟨a0, len0, cap0, rfl⟩ := okWide_slice Try.underlying41 (hval 0 41 v0 rfl rfl)
  have k0 := h0
  have lt0 : ∀ x ∈ p0, x.block < W.heap.size := by obtain ⟨m, hm⟩ := k0; exact DataW.trod_lt m _ _ _ hm
  obtain ⟨z0, w0⟩ : ∃ zs, IsRow .u8 W a0 len0 cap0 zs := by
    obtain ⟨fuel, hf⟩ := h0
    rcases open_ints Try.underlying41 Try.underlying5 (by kernel_rfl) hf with ⟨hcs, _⟩ | ⟨x, l, c, zs, hcs, _, hl, hm, hz, _, hcell, hwz⟩
    · simp [Value.cells] at hcs
      obtain ⟨rfl, rfl, rfl⟩ := hcs
      exact ⟨[], .inl ⟨rfl, rfl, rfl, rfl⟩⟩
    · simp [Value.cells] at hcs
      obtain ⟨rfl, rfl, rfl⟩ := hcs
      exact ⟨zs, .inr ⟨_, rfl, hl, hm, by simpa using hz, hcell, hwz⟩⟩
  clear hA0 hval0
  refine (walk a0 len0 cap0 z0 W w0).mono fun e W' ⟨he, bel⟩ => ?_
  subst he
  simp only [List.append_nil] at hW'
  exact ⟨_, rfl, _, _, _, [], _, [], hW', trodAll_mk1 (shut_bool Try.underlying4 _), (trodAll_cons_mk (Below.trod laidOut (by kernel_rfl) (of_decide_eq_true (by kernel_rfl)) k0 bel lt0) trodAll_mk0), rfl, bel.frame _, fun h => by cases h⟩

theorem proved : Rows.FnStepsSaid :=
  OpenClaim.holds_of_wide 14 Try.f14 rfl rfl rfl rfl rfl rfl rfl ⟨rfl, rfl, rfl, rfl, rfl⟩ rfl rfl rfl rfl rfl (by kernel_rfl) Try.func14 (by kernel_rfl)
    (of_decide_eq_true (by kernel_rfl)) (by unfold Func.isWrapper; first | (rw [if_pos (by decide +kernel)]; kernel_rfl) | (rw [if_neg (by decide +kernel)]; exact ⟨rfl, rfl⟩))
    (fun os started H enc _ => lifted os started H enc)

end Go.Proofs.Ytcjodaoeoifbcaa.fnSteps
