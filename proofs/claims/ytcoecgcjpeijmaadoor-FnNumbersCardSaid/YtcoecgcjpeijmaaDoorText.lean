/-
  The draws of texts. No condition.
-/
import Derived.Test.YtcoecgcjpeijmaaDoorDrawScan
namespace Go.Proofs.YtcoecgcjpeijmaaDoor
open Go.ChangeShapes Go.WideShapes Go.ChangeAt Go.RowKit
set_option linter.unusedVariables false
def ByL (l : List Int) : Prop := ∀ x ∈ l, 0 ≤ x ∧ x ≤ 255
theorem ByL.nil : ByL [] := fun x h => absurd h (by simp)
theorem ByL.snoc {l : List Int} {x : Int} (h : ByL l) (hx : 0 ≤ x ∧ x ≤ 255) : ByL (l ++ [x]) := fun y hy => by
  rcases List.mem_append.1 hy with hy | hy
  · exact h y hy
  · rw [List.mem_singleton.1 hy]; exact hx
theorem wpList_app_g8 {ops : Array Oper} {rest : List Oper} {o : Oper} {a : Act} {Q : Exit → Act → World → Prop} {wr : World} {B : Nat} {x : Int} (hgd : o.guard = none) (s y : Operand)
    (ho : o.op = .call { callee := .builtin .append, args := #[s, y], argTypes := #[25, 25] }) (v : Value) (n : Nat) (xs : List Int) (hs : a.eval s = v)
    (hown : wr.ownsRow B 5 1 v n (xs.map (Value.int .u8))) (hB : B ≤ wr.heap.size) (hx : a.eval y = .slice (some ⟨wr.heap.size, 0, none⟩) 1 1) (hn : Small n)
    (h : ∀ g cap w', w'.ownsRow B 5 1 (.slice (some ⟨g, 0, none⟩) (n + 1) cap) (n + 1) ((xs ++ [x]).map (Value.int .u8)) → wr.grownBy w' v.ownBlock → (v.ownBlock = some g ∨ wr.heap.size ≤ g) →
      wpList Tryd.prog ops Q rest (a.put o.dst (.slice (some ⟨g, 0, none⟩) (n + 1) cap)) w') : wpList Tryd.prog ops Q (o :: rest) a (wr.alloc (.cells #[.int .u8 x] 5)) := by
  obtain ⟨i0, hi, hz0, hz1, hz2⟩ := info_parts info_u8
  refine wpList_append_lies _ hgd s y 25 ho B 5 i0 (.int .u8 0) 1 1 Tryd.underlying25 hi hz0 hz1 hz2 rfl Nat.one_pos v n _ hs (hown.alloc _) ⟨wr.heap.size, 0, none⟩ 1 1 [.int .u8 x] hx rfl
    (World.news_of_block (cs := #[.int .u8 x]) (t := 5) (fr := (0, 0)) (heap_alloc_new wr _)) (ints_oneCell .u8 [x]) Nat.one_pos (by have := hn.out; unfold maxLen; omega) (by have := hn.out; omega) (by simp; omega) (wr.heap.size + 1) (by simp) ?_
  intro g cap w' h1 h2 h3 h4
  refine h g cap w' ?_ (grown_alloc h2) (h3.imp id (fun e => by omega))
  rw [List.map_append]; exact h1
set_option maxRecDepth 100000 in
set_option maxHeartbeats 2000000 in
theorem xText (g most : Nat) (hmo : most ≤ 255) (w : World) (k : CX w g) :
    Calls Tryd.prog 24 #[.pointer (some ⟨g, 0, none⟩), .int .i64 (most : Int)] w fun e w' => ∃ acc : List Int, e = .returned (.string (bs acc)) ∧ acc.length ≤ most ∧ ByL acc ∧ CX w' g ∧ Only g (g + 1) w w' := by
  have hgw := k.lt
  have hmi : (0 : Int) < (most : Int) + 1 ∧ (most : Int) + 1 ≤ 256 := by omega
  have HBm := Lib.hid (fun W hW => xBelow g ((most : Int) + 1) hmi.1 W hW)
  have HBy := Lib.hid (fun W hW => xByte g W hW)
  have hm0 : (most : Int) ≤ 255 := by omega
  clear hmi
  go_enter Tryd.func24, Tryd.ntmps24
  go_wp2_with fail
  refine (xBelow g 4 (by omega) _ (k.alloc _)).mono ?_
  rintro e w1 ⟨st, hst, rfl, k1, o1⟩
  have own1 := owns_only (World.ownsRow_made w #[] 0 (Nat.le_refl _) (by decide) rfl : (w.alloc (.cells #[] 5)).ownsRow w.heap.size 5 1 (.slice (some ⟨w.heap.size, 0, none⟩) 0 0) 0 []) o1 hgw
  have ox1 := ((Only.refl g (g + 1) w).alloc (.cells #[] 5)).trans o1
  clear k o1
  go_wp2_with fail
  refine (HBm.out _ k1).mono ?_
  rintro e w2 ⟨n, hn, rfl, k2, o2⟩
  have own2 := owns_only own1 o2 hgw
  have ox2 := ox1.trans o2
  obtain ⟨n, rfl⟩ := Int.eq_ofNat_of_zero_le hn.1
  have hnm : n ≤ most := by omega
  clear hn k1 own1 ox1 o2
  have hs : st = 1 ∨ st = 2 ∨ ((st == 1) = false ∧ (st == 2) = false) := by
    rcases (show st = 1 ∨ st = 2 ∨ (st ≠ 1 ∧ st ≠ 2) from by omega) with h | h | ⟨h1, h2⟩
    · exact .inl h
    · exact .inr (.inl h)
    · exact .inr (.inr ⟨by simpa using h1, by simpa using h2⟩)
  clear hst
  rcases hs with rfl | rfl | ⟨hs1, hs2⟩
  · go_wp2
    go_loopw [5, 7] (fun v i wr => ∃ (j : Nat) (L : List Int), i = .int .i64 (j : Int) ∧ j + L.length ≤ most ∧ ByL L ∧ wr.ownsRow w.heap.size 5 1 v L.length (L.map (Value.int .u8)) ∧ CX wr g ∧ Only g (g + 1) w wr) (fun _ i _ => (intOf i).toNat)
    case atStart => exact ⟨n, [], rfl, by simpa using hnm, ByL.nil, own2, k2, ox2⟩
    case round =>
      clear k2 ox2 own2
      obtain ⟨j, L, rfl, hjl, hby, hown, kx, ox⟩ := hrel
      have hB0 := ox.size
      have HL := Lib.hid hby
      have hl2 : Small L.length := small_of (by omega)
      clear hby
      rcases Nat.eq_zero_or_pos j with h0 | h0
      · subst h0
        have HJ := Lib.hid (show L.length ≤ most by omega)
        obtain ⟨a, cc, hv⟩ := owns_shape hown
        subst hv
        have hcv := conv_owned Tryd.underlying25 Tryd.underlying9 hown
        clear hjl
        go_wp2
        go_ret
        exact ⟨L, rfl, HJ.out, HL.out, kx, ox⟩
      · have hji : (0 : Int) < (j : Int) := by omega
        have hjm : (j : Int) ≤ 255 := by omega
        have HJ := Lib.hid hjl
        clear hjl h0
        go_wp2_with fail
        refine (HBy.out _ kx).mono ?_
        rintro e w3 ⟨x, hx, rfl, k3, o3⟩
        have hown3 := owns_only hown o3 hgw
        have ox3 := ox.trans o3
        have hB3 := ox3.size
        clear hown kx ox o3
        have ht : x.tmod 2 = x % 2 := Int.tmod_eq_emod_of_nonneg hx.1
        have hm : x % 2 % 256 = x % 2 := by omega
        have HX := Lib.hid hx
        go_wp2_with (first
          | (at_builtin; refine wpList_app_g8 rfl (.tmp 31) (.tmp 34) rfl _ L.length L rfl hown3 hB3 rfl hl2 ?_; intro gg cap w4 hown4 hg4 hp4))
        go_roundw
        case rel => exact ⟨j - 1, L ++ [x % 2], by go_num, by have := HJ.out; rw [List.length_append, List.length_singleton]; omega, HL.out.snoc (by have := HX.out; omega), by rw [List.length_append]; exact hown4, k3.grown hg4 (fun r hr => Nat.lt_of_lt_of_le hgw (hown3.lt r hr).1), ox3.grown hg4 (fun r hr => (hown3.lt r hr).1)⟩
        case measure => simp [intOf]; omega
  · go_wp2
    go_loopw [5, 7] (fun v i wr => ∃ (j : Nat) (L : List Int), i = .int .i64 (j : Int) ∧ j + L.length ≤ most ∧ ByL L ∧ wr.ownsRow w.heap.size 5 1 v L.length (L.map (Value.int .u8)) ∧ CX wr g ∧ Only g (g + 1) w wr) (fun _ i _ => (intOf i).toNat)
    case atStart => exact ⟨n, [], rfl, by simpa using hnm, ByL.nil, own2, k2, ox2⟩
    case round =>
      clear k2 ox2 own2
      obtain ⟨j, L, rfl, hjl, hby, hown, kx, ox⟩ := hrel
      have hB0 := ox.size
      have HL := Lib.hid hby
      have hl2 : Small L.length := small_of (by omega)
      clear hby
      rcases Nat.eq_zero_or_pos j with h0 | h0
      · subst h0
        have HJ := Lib.hid (show L.length ≤ most by omega)
        obtain ⟨a, cc, hv⟩ := owns_shape hown
        subst hv
        have hcv := conv_owned Tryd.underlying25 Tryd.underlying9 hown
        clear hjl
        go_wp2
        go_ret
        exact ⟨L, rfl, HJ.out, HL.out, kx, ox⟩
      · have hji : (0 : Int) < (j : Int) := by omega
        have hjm : (j : Int) ≤ 255 := by omega
        have HJ := Lib.hid hjl
        clear hjl h0
        go_wp2_with fail
        refine (HBy.out _ kx).mono ?_
        rintro e w3 ⟨x, hx, rfl, k3, o3⟩
        have hown3 := owns_only hown o3 hgw
        have ox3 := ox.trans o3
        have hB3 := ox3.size
        clear hown kx ox o3
        have ht : x.tmod 4 = x % 4 := Int.tmod_eq_emod_of_nonneg hx.1
        have hm : (97 + x % 4) % 256 = 97 + x % 4 := by omega
        have HX := Lib.hid hx
        go_wp2_with (first
          | (at_builtin; refine wpList_app_g8 rfl (.tmp 31) (.tmp 34) rfl _ L.length L rfl hown3 hB3 rfl hl2 ?_; intro gg cap w4 hown4 hg4 hp4))
        go_roundw
        case rel => exact ⟨j - 1, L ++ [97 + x % 4], by go_num, by have := HJ.out; rw [List.length_append, List.length_singleton]; omega, HL.out.snoc (by have := HX.out; omega), by rw [List.length_append]; exact hown4, k3.grown hg4 (fun r hr => Nat.lt_of_lt_of_le hgw (hown3.lt r hr).1), ox3.grown hg4 (fun r hr => (hown3.lt r hr).1)⟩
        case measure => simp [intOf]; omega
  · go_wp2
    go_loopw [5, 7] (fun v i wr => ∃ (j : Nat) (L : List Int), i = .int .i64 (j : Int) ∧ j + L.length ≤ most ∧ ByL L ∧ wr.ownsRow w.heap.size 5 1 v L.length (L.map (Value.int .u8)) ∧ CX wr g ∧ Only g (g + 1) w wr) (fun _ i _ => (intOf i).toNat)
    case atStart => exact ⟨n, [], rfl, by simpa using hnm, ByL.nil, own2, k2, ox2⟩
    case round =>
      clear k2 ox2 own2
      obtain ⟨j, L, rfl, hjl, hby, hown, kx, ox⟩ := hrel
      have hB0 := ox.size
      have HL := Lib.hid hby
      have hl2 : Small L.length := small_of (by omega)
      clear hby
      rcases Nat.eq_zero_or_pos j with h0 | h0
      · subst h0
        have HJ := Lib.hid (show L.length ≤ most by omega)
        obtain ⟨a, cc, hv⟩ := owns_shape hown
        subst hv
        have hcv := conv_owned Tryd.underlying25 Tryd.underlying9 hown
        clear hjl
        go_wp2
        go_ret
        exact ⟨L, rfl, HJ.out, HL.out, kx, ox⟩
      · have hji : (0 : Int) < (j : Int) := by omega
        have hjm : (j : Int) ≤ 255 := by omega
        have HJ := Lib.hid hjl
        clear hjl h0
        go_wp2_with fail
        refine (HBy.out _ kx).mono ?_
        rintro e w3 ⟨x, hx, rfl, k3, o3⟩
        have hown3 := owns_only hown o3 hgw
        have ox3 := ox.trans o3
        have hB3 := ox3.size
        clear hown kx ox o3
        have hm : x % 256 = x := by omega
        have HX := Lib.hid hx
        go_wp2_with (first
          | (at_builtin; refine wpList_app_g8 rfl (.tmp 31) (.tmp 34) rfl _ L.length L rfl hown3 hB3 rfl hl2 ?_; intro gg cap w4 hown4 hg4 hp4))
        go_roundw
        case rel => exact ⟨j - 1, L ++ [x], by go_num, by have := HJ.out; rw [List.length_append, List.length_singleton]; omega, HL.out.snoc HX.out, by rw [List.length_append]; exact hown4, k3.grown hg4 (fun r hr => Nat.lt_of_lt_of_le hgw (hown3.lt r hr).1), ox3.grown hg4 (fun r hr => (hown3.lt r hr).1)⟩
        case measure => simp [intOf]; omega
end Go.Proofs.YtcoecgcjpeijmaaDoor
