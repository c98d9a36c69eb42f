/-
  The draws of numbers and of texts, told to the letter: what is drawn hangs on the code's bytes alone. No condition.
-/
import Derived.Test.YtcoecgcjpeijmaaDoorText
namespace Go.Proofs.YtcoecgcjpeijmaaDoor
open Go.ChangeShapes Go.WideShapes Go.ChangeAt Go.RowKit
set_option linter.unusedVariables false
def numList : List Int := [-1, 0, 127, 128, 255, 256, 16383, 16384, 65535, 65536, 562949953421311, 562949953421312, 999999999, 1000000000, -999999999, 9223372036854775807, -9223372036854775808]
def numV' (zs : List Int) (q i h : Int) : Int :=
  if q = 0 then numList.getD (belV zs i h 17).toNat 0 else if q = 1 then belV zs i h 1000000000 * belV zs (belI zs i 1000000000) (belH h 1000000000) 1000000000 else if q = 2 then -(belV zs i h 100000) else belV zs i h 70000
def numI' (zs : List Int) (q i : Int) : Int :=
  if q = 0 then belI zs i 17 else if q = 1 then belI zs (belI zs i 1000000000) 1000000000 else if q = 2 then belI zs i 100000 else belI zs i 70000
def numH' (q h : Int) : Int :=
  if q = 0 then belH h 17 else if q = 1 then belH (belH h 1000000000) 1000000000 else if q = 2 then belH h 100000 else belH h 70000
def numV (zs : List Int) (i h : Int) : Int := numV' zs (belV zs i h 8) (belI zs i 8) (belH h 8)
def numI (zs : List Int) (i h : Int) : Int := numI' zs (belV zs i h 8) (belI zs i 8)
def numH (zs : List Int) (i h : Int) : Int := numH' (belV zs i h 8) (belH h 8)
theorem numList_wf : ∀ x ∈ numList, -9223372036854775808 ≤ x ∧ x ≤ 9223372036854775807 := by decide
theorem mul_bd9 (a b : Int) (ha : 0 ≤ a ∧ a < 1000000000) (hb : 0 ≤ b ∧ b < 1000000000) : 0 ≤ a * b ∧ a * b ≤ 1000000000000000000 := by
  have h1 := Int.mul_nonneg ha.1 hb.1
  have h2 : a * b ≤ 1000000000 * b := Int.mul_le_mul_of_nonneg_right (by omega) hb.1
  omega
theorem numV_bd (zs : List Int) (i h : Int) : -9223372036854775808 ≤ numV zs i h ∧ numV zs i h ≤ 9223372036854775807 := by
  unfold numV numV'
  split
  · have hb := belV_bd zs (belI zs i 8) (belH h 8) 17 (by omega)
    exact numList_wf _ (by rw [List.getD_eq_getElem?_getD, List.getElem?_eq_getElem (by show _ < 17; omega)]; exact List.getElem_mem _)
  · split
    · have := mul_bd9 _ _ (belV_bd zs (belI zs i 8) (belH h 8) 1000000000 (by omega)) (belV_bd zs (belI zs (belI zs i 8) 1000000000) (belH (belH h 8) 1000000000) 1000000000 (by omega))
      omega
    · split
      · have := belV_bd zs (belI zs i 8) (belH h 8) 100000 (by omega); omega
      · have := belV_bd zs (belI zs i 8) (belH h 8) 70000 (by omega); omega
set_option maxRecDepth 100000 in
set_option maxHeartbeats 1000000 in
theorem sNum (g n c : Nat) (A : Option Addr) (zs : List Int) (i h : Int) (w : World) (k : Cur w g A n c zs i h) :
    Calls Tryd.prog 23 #[.pointer (some ⟨g, 0, none⟩)] w fun e w' => e = .returned (.int .i64 (numV zs i h)) ∧ Cur w' g A n c zs (numI zs i h) (numH zs i h) ∧ Only g (g + 1) w w' := by
  unfold numV numI numH
  have hb := belV_bd zs i h 8 (by omega)
  have HB8 := Lib.hid (sBelow g n c A zs i h 8 w k)
  obtain ⟨q, hq⟩ : ∃ q, q = belV zs i h 8 := ⟨_, rfl⟩
  obtain ⟨i1, hi1⟩ : ∃ i1, i1 = belI zs i 8 := ⟨_, rfl⟩
  obtain ⟨h1, hh1⟩ : ∃ h1, h1 = belH h 8 := ⟨_, rfl⟩
  rw [← hq, ← hi1, ← hh1] at HB8 ⊢
  rw [← hq] at hb
  clear hq hi1 hh1 k
  have hs : q = 0 ∨ q = 1 ∨ q = 2 ∨ ((q == 0) = false ∧ (q == 1) = false ∧ (q == 2) = false) := by
    rcases (show q = 0 ∨ q = 1 ∨ q = 2 ∨ (q ≠ 0 ∧ q ≠ 1 ∧ q ≠ 2) from by omega) with h | h | h | ⟨h1, h2, h3⟩
    · exact .inl h
    · exact .inr (.inl h)
    · exact .inr (.inr (.inl h))
    · exact .inr (.inr (.inr ⟨by simpa using h1, by simpa using h2, by simpa using h3⟩))
  clear hb
  rcases hs with rfl | rfl | rfl | ⟨hs0, hs1, hs2⟩
  · go_enter Tryd.func23, Tryd.ntmps23
    go_wp2_with fail
    refine HB8.out.mono ?_
    rintro e w1 ⟨rfl, k1, o1⟩
    go_wp2_with fail
    refine (sPickInt g n c A zs i1 h1 _ _ _ _ _ numList _ (k1.below ((Below.refl _ _).alloc (Nat.le_refl _) _)) (OB.lit w1 numList 17 rfl (by unfold maxLen; omega)) k1.lt (by omega)).mono ?_
    rintro e w2 ⟨rfl, k2, o2⟩
    have o3 := (o1.alloc (.cells (numList.map (Value.int .i64)).toArray 3)).trans o2
    have HK := Lib.hid k2
    clear k1 o1 o2 k2
    go_wp2
    go_ret
    exact ⟨rfl, HK.out, o3⟩
  · have hm := mul_bd9 _ _ (belV_bd zs i1 h1 1000000000 (by omega)) (belV_bd zs (belI zs i1 1000000000) (belH h1 1000000000) 1000000000 (by omega))
    have hm2 := Lib.hid hm
    go_enter Tryd.func23, Tryd.ntmps23
    go_wp2_with fail
    refine HB8.out.mono ?_
    rintro e w1 ⟨rfl, k1, o1⟩
    go_wp2_with fail
    refine (sBelow g n c A zs i1 h1 1000000000 _ k1).mono ?_
    rintro e w2 ⟨rfl, k2, o2⟩
    go_wp2_with fail
    refine (sBelow g n c A zs _ _ 1000000000 _ k2).mono ?_
    rintro e w3 ⟨rfl, k3, o3⟩
    have o4 := (o1.trans o2).trans o3
    have HK := Lib.hid k3
    have hw : IntKind.i64.wrap (belV zs i1 h1 1000000000 * belV zs (belI zs i1 1000000000) (belH h1 1000000000) 1000000000) = belV zs i1 h1 1000000000 * belV zs (belI zs i1 1000000000) (belH h1 1000000000) 1000000000 := IntWalk.i64_in _ (by omega)
    clear k1 k2 k3 o1 o2 o3 hm
    go_wp2
    go_ret
    exact ⟨rfl, HK.out, o4⟩
  · have hb := belV_bd zs i1 h1 100000 (by omega)
    go_enter Tryd.func23, Tryd.ntmps23
    go_wp2_with fail
    refine HB8.out.mono ?_
    rintro e w1 ⟨rfl, k1, o1⟩
    go_wp2_with fail
    refine (sBelow g n c A zs i1 h1 100000 _ k1).mono ?_
    rintro e w2 ⟨rfl, k2, o2⟩
    have o3 := o1.trans o2
    have HK := Lib.hid k2
    clear k1 k2 o1 o2
    go_wp2
    go_ret
    exact ⟨rfl, HK.out, o3⟩
  · have e0 : ¬ q = 0 := by simpa using hs0
    have e1 : ¬ q = 1 := by simpa using hs1
    have e2 : ¬ q = 2 := by simpa using hs2
    unfold numV' numI' numH'
    rw [if_neg e0, if_neg e1, if_neg e2, if_neg e0, if_neg e1, if_neg e2, if_neg e0, if_neg e1, if_neg e2]
    clear e0 e1 e2
    go_enter Tryd.func23, Tryd.ntmps23
    go_wp2_with fail
    refine HB8.out.mono ?_
    rintro e w1 ⟨rfl, k1, o1⟩
    go_wp2_with fail
    refine (sBelow g n c A zs i1 h1 70000 _ k1).mono ?_
    rintro e w2 ⟨rfl, k2, o2⟩
    have o3 := o1.trans o2
    have HK := Lib.hid k2
    clear k1 k2 o1 o2
    go_wp2
    go_ret
    exact ⟨rfl, HK.out, o3⟩
def sty (st x : Int) : Int := if st = 1 then x % 2 else if st = 2 then 97 + x % 4 else x
def txt (zs : List Int) (st : Int) : Nat → Int → Int → List Int → List Int × Int × Int
  | 0, i, h, acc => (acc, i, h)
  | n + 1, i, h, acc => txt zs st n (byteI zs i) (hNext h) (acc ++ [sty st (byteV zs i h)])
theorem txt_len (zs : List Int) (st : Int) : ∀ (n : Nat) (i h : Int) (acc : List Int), (txt zs st n i h acc).1.length = acc.length + n
  | 0, i, h, acc => rfl
  | n + 1, i, h, acc => by
    show (txt zs st n _ _ _).1.length = _
    rw [txt_len zs st n, List.length_append, List.length_singleton]
    omega
def txtA (zs : List Int) (i h : Int) (most : Int) : List Int × Int × Int :=
  txt zs (belV zs i h 4) (belV zs (belI zs i 4) (belH h 4) (most + 1)).toNat (belI zs (belI zs i 4) (most + 1)) (belH (belH h 4) (most + 1)) []
theorem txtA_len (zs : List Int) (i h : Int) (most : Nat) : (txtA zs i h (most : Int)).1.length ≤ most := by
  unfold txtA
  rw [txt_len, List.length_nil]
  have := belV_bd zs (belI zs i 4) (belH h 4) ((most : Int) + 1) (by omega)
  omega
set_option maxRecDepth 100000 in
set_option maxHeartbeats 2000000 in
theorem sText (g n c most : Nat) (A : Option Addr) (zs : List Int) (i h : Int) (hmo : most ≤ 255) (w : World) (k : Cur w g A n c zs i h) :
    Calls Tryd.prog 24 #[.pointer (some ⟨g, 0, none⟩), .int .i64 (most : Int)] w fun e w' => e = .returned (.string (bs (txtA zs i h (most : Int)).1)) ∧ Cur w' g A n c zs (txtA zs i h (most : Int)).2.1 (txtA zs i h (most : Int)).2.2 ∧ Only g (g + 1) w w' := by
  obtain ⟨R, hR⟩ : ∃ R, R = txtA zs i h (most : Int) := ⟨_, rfl⟩
  rw [← hR]
  unfold txtA at hR
  have hgw := k.lt
  have hst := belV_bd zs i h 4 (by omega)
  have hqb := belV_bd zs (belI zs i 4) (belH h 4) ((most : Int) + 1) (by omega)
  have HB4 := Lib.hid (fun W hW => sBelow g n c A zs i h 4 W hW)
  have HBm := Lib.hid (fun W hW => sBelow g n c A zs (belI zs i 4) (belH h 4) ((most : Int) + 1) W hW)
  have HBy := Lib.hid (fun i' h' W hW => sByte g n c A zs i' h' W hW)
  obtain ⟨st, hste⟩ : ∃ st, st = belV zs i h 4 := ⟨_, rfl⟩
  obtain ⟨q, hqe⟩ : ∃ q : Nat, (q : Int) = belV zs (belI zs i 4) (belH h 4) ((most : Int) + 1) := ⟨_, Int.toNat_of_nonneg hqb.1⟩
  rw [← hste] at hst hR HB4
  rw [← hqe] at hqb hR HBm
  rw [Int.toNat_natCast] at hR
  have HR := Lib.hid hR
  have hnm : q ≤ most := by omega
  have hm0 : (most : Int) ≤ 255 := by omega
  clear hR hste hqe hqb
  go_enter Tryd.func24, Tryd.ntmps24
  go_wp2_with fail
  refine (HB4.out _ (k.below ((Below.refl _ _).alloc (Nat.le_refl _) _))).mono ?_
  rintro e w1 ⟨rfl, k1, o1⟩
  have own1 := owns_only (World.ownsRow_made w #[] 0 (Nat.le_refl _) (by decide) rfl : (w.alloc (.cells #[] 5)).ownsRow w.heap.size 5 1 (.slice (some ⟨w.heap.size, 0, none⟩) 0 0) 0 []) o1 hgw
  have ox1 := ((Only.refl g (g + 1) w).alloc (.cells #[] 5)).trans o1
  clear k o1
  go_wp2_with fail
  refine (HBm.out _ k1).mono ?_
  rintro e w2 ⟨rfl, k2, o2⟩
  have own2 := owns_only own1 o2 hgw
  have ox2 := ox1.trans o2
  clear k1 own1 ox1 o2
  have hs : st = 1 ∨ st = 2 ∨ ((st == 1) = false ∧ (st == 2) = false) := by
    rcases (show st = 1 ∨ st = 2 ∨ (st ≠ 1 ∧ st ≠ 2) from by omega) with h | h | ⟨h1, h2⟩
    · exact .inl h
    · exact .inr (.inl h)
    · exact .inr (.inr ⟨by simpa using h1, by simpa using h2⟩)
  clear hst
  rcases hs with rfl | rfl | ⟨hs1, hs2⟩
  · go_wp2
    go_loopw [5, 7] (fun v r wr => ∃ (j : Nat) (L : List Int) (i' h' : Int), r = .int .i64 (j : Int) ∧ R = txt zs 1 j i' h' L ∧ j + L.length ≤ most ∧ wr.ownsRow w.heap.size 5 1 v L.length (L.map (Value.int .u8)) ∧ Cur wr g A n c zs i' h' ∧ Only g (g + 1) w wr) (fun _ r _ => (intOf r).toNat)
    case atStart => exact ⟨q, [], _, _, rfl, HR.out, by simpa using hnm, own2, k2, ox2⟩
    case round =>
      clear k2 ox2 own2 HR
      obtain ⟨j, L, i', h', rfl, hR, hjl, hown, kx, ox⟩ := hrel
      have hB0 := ox.size
      have HR := Lib.hid hR
      have hl2 : Small L.length := small_of (by omega)
      clear hR
      rcases Nat.eq_zero_or_pos j with h0 | h0
      · subst h0
        obtain ⟨a, cc, hv⟩ := owns_shape hown
        subst hv
        have hcv := conv_owned Tryd.underlying25 Tryd.underlying9 hown
        clear hjl
        go_wp2
        go_ret
        refine ⟨by rw [HR.out]; rfl, ?_, ox⟩
        rw [HR.out]
        exact kx
      · have hji : (0 : Int) < (j : Int) := by omega
        have hjm : (j : Int) ≤ 255 := by omega
        have HJ := Lib.hid hjl
        have hx := byteV_bd zs i' h'
        have HN : Hid (R = txt zs 1 (j - 1) (byteI zs i') (hNext h') (L ++ [sty 1 (byteV zs i' h')])) := by
          show R = _
          rw [HR.out]
          obtain ⟨j', rfl⟩ : ∃ j', j = j' + 1 := ⟨j - 1, by omega⟩
          rfl
        clear hjl h0
        go_wp2_with fail
        refine (HBy.out _ _ _ kx).mono ?_
        rintro e w3 ⟨rfl, k3, o3⟩
        have hown3 := owns_only hown o3 hgw
        have ox3 := ox.trans o3
        have hB3 := ox3.size
        obtain ⟨x, hxe⟩ : ∃ x, x = byteV zs i' h' := ⟨_, rfl⟩
        rw [← hxe] at hx HN ⊢
        clear hown kx ox o3 hxe HR
        have ht : x.tmod 2 = x % 2 := Int.tmod_eq_emod_of_nonneg hx.1
        have hm : x % 2 % 256 = x % 2 := by omega
        have HX := Lib.hid hx
        go_wp2_with (first
          | (at_builtin; refine wpList_app_g8 rfl (.tmp 31) (.tmp 34) rfl _ L.length L rfl hown3 hB3 rfl hl2 ?_; intro gg cap w4 hown4 hg4 hp4))
        go_roundw
        case rel => exact ⟨j - 1, L ++ [x % 2], _, _, by go_num, HN.out, by have := HJ.out; rw [List.length_append, List.length_singleton]; omega, by rw [List.length_append]; exact hown4, k3.grown hg4 (fun r hr => Nat.lt_of_lt_of_le hgw (hown3.lt r hr).1), ox3.grown hg4 (fun r hr => (hown3.lt r hr).1)⟩
        case measure => simp [intOf]; omega
  · go_wp2
    go_loopw [5, 7] (fun v r wr => ∃ (j : Nat) (L : List Int) (i' h' : Int), r = .int .i64 (j : Int) ∧ R = txt zs 2 j i' h' L ∧ j + L.length ≤ most ∧ wr.ownsRow w.heap.size 5 1 v L.length (L.map (Value.int .u8)) ∧ Cur wr g A n c zs i' h' ∧ Only g (g + 1) w wr) (fun _ r _ => (intOf r).toNat)
    case atStart => exact ⟨q, [], _, _, rfl, HR.out, by simpa using hnm, own2, k2, ox2⟩
    case round =>
      clear k2 ox2 own2 HR
      obtain ⟨j, L, i', h', rfl, hR, hjl, hown, kx, ox⟩ := hrel
      have hB0 := ox.size
      have HR := Lib.hid hR
      have hl2 : Small L.length := small_of (by omega)
      clear hR
      rcases Nat.eq_zero_or_pos j with h0 | h0
      · subst h0
        obtain ⟨a, cc, hv⟩ := owns_shape hown
        subst hv
        have hcv := conv_owned Tryd.underlying25 Tryd.underlying9 hown
        clear hjl
        go_wp2
        go_ret
        refine ⟨by rw [HR.out]; rfl, ?_, ox⟩
        rw [HR.out]
        exact kx
      · have hji : (0 : Int) < (j : Int) := by omega
        have hjm : (j : Int) ≤ 255 := by omega
        have HJ := Lib.hid hjl
        have hx := byteV_bd zs i' h'
        have HN : Hid (R = txt zs 2 (j - 1) (byteI zs i') (hNext h') (L ++ [sty 2 (byteV zs i' h')])) := by
          show R = _
          rw [HR.out]
          obtain ⟨j', rfl⟩ : ∃ j', j = j' + 1 := ⟨j - 1, by omega⟩
          rfl
        clear hjl h0
        go_wp2_with fail
        refine (HBy.out _ _ _ kx).mono ?_
        rintro e w3 ⟨rfl, k3, o3⟩
        have hown3 := owns_only hown o3 hgw
        have ox3 := ox.trans o3
        have hB3 := ox3.size
        obtain ⟨x, hxe⟩ : ∃ x, x = byteV zs i' h' := ⟨_, rfl⟩
        rw [← hxe] at hx HN ⊢
        clear hown kx ox o3 hxe HR
        have ht : x.tmod 4 = x % 4 := Int.tmod_eq_emod_of_nonneg hx.1
        have hm : (97 + x % 4) % 256 = 97 + x % 4 := by omega
        have HX := Lib.hid hx
        go_wp2_with (first
          | (at_builtin; refine wpList_app_g8 rfl (.tmp 31) (.tmp 34) rfl _ L.length L rfl hown3 hB3 rfl hl2 ?_; intro gg cap w4 hown4 hg4 hp4))
        go_roundw
        case rel => exact ⟨j - 1, L ++ [97 + x % 4], _, _, by go_num, HN.out, by have := HJ.out; rw [List.length_append, List.length_singleton]; omega, by rw [List.length_append]; exact hown4, k3.grown hg4 (fun r hr => Nat.lt_of_lt_of_le hgw (hown3.lt r hr).1), ox3.grown hg4 (fun r hr => (hown3.lt r hr).1)⟩
        case measure => simp [intOf]; omega
  · go_wp2
    go_loopw [5, 7] (fun v r wr => ∃ (j : Nat) (L : List Int) (i' h' : Int), r = .int .i64 (j : Int) ∧ R = txt zs st j i' h' L ∧ j + L.length ≤ most ∧ wr.ownsRow w.heap.size 5 1 v L.length (L.map (Value.int .u8)) ∧ Cur wr g A n c zs i' h' ∧ Only g (g + 1) w wr) (fun _ r _ => (intOf r).toNat)
    case atStart => exact ⟨q, [], _, _, rfl, HR.out, by simpa using hnm, own2, k2, ox2⟩
    case round =>
      clear k2 ox2 own2 HR
      obtain ⟨j, L, i', h', rfl, hR, hjl, hown, kx, ox⟩ := hrel
      have hB0 := ox.size
      have HR := Lib.hid hR
      have hl2 : Small L.length := small_of (by omega)
      clear hR
      rcases Nat.eq_zero_or_pos j with h0 | h0
      · subst h0
        obtain ⟨a, cc, hv⟩ := owns_shape hown
        subst hv
        have hcv := conv_owned Tryd.underlying25 Tryd.underlying9 hown
        clear hjl
        go_wp2
        go_ret
        refine ⟨by rw [HR.out]; rfl, ?_, ox⟩
        rw [HR.out]
        exact kx
      · have hji : (0 : Int) < (j : Int) := by omega
        have hjm : (j : Int) ≤ 255 := by omega
        have HJ := Lib.hid hjl
        have hx := byteV_bd zs i' h'
        have HN : Hid (R = txt zs st (j - 1) (byteI zs i') (hNext h') (L ++ [sty st (byteV zs i' h')])) := by
          show R = _
          rw [HR.out]
          obtain ⟨j', rfl⟩ : ∃ j', j = j' + 1 := ⟨j - 1, by omega⟩
          rfl
        clear hjl h0
        go_wp2_with fail
        refine (HBy.out _ _ _ kx).mono ?_
        rintro e w3 ⟨rfl, k3, o3⟩
        have hown3 := owns_only hown o3 hgw
        have ox3 := ox.trans o3
        have hB3 := ox3.size
        obtain ⟨x, hxe⟩ : ∃ x, x = byteV zs i' h' := ⟨_, rfl⟩
        rw [← hxe] at hx HN ⊢
        clear hown kx ox o3 hxe HR
        have hm : x % 256 = x := by omega
        have HX := Lib.hid hx
        have HN2 : Hid (R = txt zs st (j - 1) (byteI zs i') (hNext h') (L ++ [x])) := by
          have hh := HN.out
          unfold sty at hh
          rw [if_neg (by simpa using hs1), if_neg (by simpa using hs2)] at hh
          exact hh
        go_wp2_with (first
          | (at_builtin; refine wpList_app_g8 rfl (.tmp 31) (.tmp 34) rfl _ L.length L rfl hown3 hB3 rfl hl2 ?_; intro gg cap w4 hown4 hg4 hp4))
        go_roundw
        case rel => exact ⟨j - 1, L ++ [x], _, _, by go_num, HN2.out, by have := HJ.out; rw [List.length_append, List.length_singleton]; omega, by rw [List.length_append]; exact hown4, k3.grown hg4 (fun r hr => Nat.lt_of_lt_of_le hgw (hown3.lt r hr).1), ox3.grown hg4 (fun r hr => (hown3.lt r hr).1)⟩
        case measure => simp [intOf]; omega
end Go.Proofs.YtcoecgcjpeijmaaDoor
