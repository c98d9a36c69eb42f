/-
  PairsOf, the reference's and the program's: both return 'pairsF'. No condition but at most 2^20 numbers.
-/
import Derived.Test.YtcjodaoeoifbcaaPairs
import Derived.Test.YtcjodaoeoifbcaaPairLaw
import Derived.Test.YtcjodaoeoifbcaaGrow
namespace Go.Proofs.Ytcjodaoeoifbcaa
open Go.ChangeShapes Go.WideShapes Go.ChangeAt Go.RowKit
set_option linter.unusedVariables false
theorem wpList_app_pair {ops : Array Oper} {rest : List Oper} {o : Oper} {a : Act} {Q : Exit → Act → World → Prop} {wr : World} {B : Nat} {x y : Int} (hgd : o.guard = none) (s z : Operand)
    (ho : o.op = .call { callee := .builtin .append, args := #[s, z], argTypes := #[35, 35] }) (v : Value) (n : Nat) (xs : List Int) (hs : a.eval s = v)
    (hown : wr.ownsRow B 54 2 v n (xs.map (Value.int .i64))) (hB : B ≤ wr.heap.size) (hx : a.eval z = .slice (some ⟨wr.heap.size, 0, none⟩) 1 1) (hn : Small n)
    (h : ∀ g cap w', w'.ownsRow B 54 2 (.slice (some ⟨g, 0, none⟩) (n + 1) cap) (n + 1) ((xs ++ [x, y]).map (Value.int .i64)) → wr.grownBy w' v.ownBlock → (v.ownBlock = some g ∨ wr.heap.size ≤ g) →
      wpList Try.prog ops Q rest (a.put o.dst (.slice (some ⟨g, 0, none⟩) (n + 1) cap)) w') : wpList Try.prog ops Q (o :: rest) a (wr.alloc (.cells #[.int .i64 x, .int .i64 y] 54)) := by
  obtain ⟨i0, hi, hz0, hz1, hz2⟩ := info_parts info_pair
  refine wpList_append_lies _ hgd s z 35 ho B 54 i0 _ 2 16 Try.underlying35 hi hz0 hz1 hz2 rfl Nat.two_pos v n _ hs (hown.alloc _) ⟨wr.heap.size, 0, none⟩ 1 1 [.int .i64 x, .int .i64 y] hx rfl
    (World.news_of_block (cs := #[.int .i64 x, .int .i64 y]) (t := 54) (fr := (0, 0)) (heap_alloc_new wr _)) (ints_oneCell .i64 [x, y]) Nat.one_pos (by have := hn.out; unfold maxLen; omega) (by have := hn.out; omega) (by simp; omega) (wr.heap.size + 1) (by simp) ?_
  intro g cap w' h1 h2 h3 h4
  refine h g cap w' ?_ (grown_alloc h2) (h3.imp id (fun e => by omega))
  rw [List.map_append]; exact h1
set_option maxRecDepth 100000 in
theorem sPairsOf_in (A : Option Addr) (n c : Nat) (zs : List Int) (w : World) (h : RI w A n zs) (hok : levelsOk zs = true) (hn : n ≤ 1048576) :
    Calls Try.prog 39 #[.slice A n c] w fun e w' => ∃ A' n' c', e = .returned (.slice A' n' c') ∧ O2 w' w.heap.size w'.heap.size A' n' c' (fl (pairsL zs)) ∧ Below w.heap.size w w' := by
  have hlen := h.len
  have hL : Hid (∀ W, RI W A n zs → Calls Try.prog 15 #[.slice A n c] W fun e w' => e = .returned (.bool true) ∧ Below W.heap.size W w') := by
    intro W hW; have := sLevelsOk A n c zs W hW (by omega); rw [hok] at this; exact this
  have hE : Hid (pairsL zs = (prTo zs n).1) := by show pairsL zs = _; unfold pairsL; rw [hlen]
  clear hok
  go_enter Try.func39, Try.ntmps39
  go_wp2
  go_loopw [3, 4, 5] (fun v r i wr => ∃ k m : Nat, k ≤ n ∧ m ≤ k ∧ i = .int .i64 (k : Int) ∧ r = .int .i64 (prTo zs k).2 ∧ wr.ownsRow w.heap.size 54 2 v m ((fl (prTo zs k).1).map (Value.int .i64)) ∧ Below w.heap.size w wr) (fun _ _ i _ => (n - intOf i).toNat)
  case atStart => exact ⟨0, 0, Nat.zero_le _, Nat.le_refl _, rfl, rfl, World.ownsRow_made _ #[] 0 (Nat.le_refl _) (by decide) rfl, (Below.refl _ _).alloc (Nat.le_refl _) _⟩
  case round =>
    obtain ⟨k, m, hk, hm, rfl, rfl, hown, hb⟩ := hrel
    by_cases hlt : k < n
    · have hlti : (k : Int) < (n : Int) := by omega
      obtain ⟨b, off, rfl, hbl, hc⟩ := h.at_ hlt
      have hc1 := hc k hlt
      have hr1 := h.below hb
      have hbd := prTo_bd zs k (by omega)
      have hl2 : Small m := small_of (by omega)
      obtain ⟨r, hr⟩ : ∃ r, r = (prTo zs k).2 := ⟨_, rfl⟩
      obtain ⟨L, hL'⟩ : ∃ L, L = (prTo zs k).1 := ⟨_, rfl⟩
      rw [← hr] at hbd ⊢
      have hrb : 0 ≤ r ∧ r ≤ k := hbd.2
      by_cases h0 : zs.getD k 0 = 0
      · have hT := prTo_miss zs k (by omega) h0
        rw [← hr] at hT
        have hT1 := Lib.hid hT.1
        have hT2 := Lib.hid hT.2
        rw [h0] at hc1
        have H := Lib.hid h
        have HL := Lib.hid hlen
        clear hr hL' hbd hT h hlen hc h0
        go_wp2_with fail
        refine (hL.out _ hr1).mono ?_
        rintro e w1 ⟨rfl, b1⟩
        have hb1 := hb.trans (b1.mono hb.size)
        have hown1 := owns_below hown b1
        have hsrc := (hb1.cell (p := ⟨b, off + k, none⟩) hbl).trans hc1
        clear hb hown b1 hr1
        go_wp2
        go_roundw
        case rel => exact ⟨k + 1, m, by omega, by omega, by go_num, by rw [hT2.out], by rw [hT1.out]; exact hown1, hb1⟩
        case measure => simp [intOf]; omega
      · have hT := prTo_hit zs k (by omega) h0
        rw [← hr, ← hL'] at hT
        rw [← hL'] at hown
        have hT1 : Hid (fl (prTo zs (k + 1)).1 = fl L ++ [r, zs.getD k 0]) := by show _ = _; rw [hT.1, fl_snoc]
        have hT2 := Lib.hid hT.2
        obtain ⟨x, hx⟩ : ∃ x, x = zs.getD k 0 := ⟨_, rfl⟩
        rw [← hx] at hc1 hT1 h0
        have h0' : (x == 0) = false := by rw [beq_eq_false_iff_ne]; exact h0
        have H := Lib.hid h
        have HL := Lib.hid hlen
        clear hr hL' hbd hT h hlen hc h0 hx
        go_wp2_with fail
        refine (hL.out _ hr1).mono ?_
        rintro e w1 ⟨rfl, b1⟩
        have hb1 := hb.trans (b1.mono hb.size)
        have hown1 := owns_below hown b1
        have hsrc := (hb1.cell (p := ⟨b, off + k, none⟩) hbl).trans hc1
        have hB1 := hb1.size
        clear hb hown b1 hr1
        go_wp2_with (first
          | (at_builtin; refine wpList_app_pair rfl (.tmp 24) (.tmp 31) rfl _ m (fl L) rfl hown1 hB1 rfl hl2 ?_; intro g cap w2 hown2 hg2 hp2))
        go_roundw
        case rel => exact ⟨k + 1, m + 1, by omega, by omega, by go_num, by rw [hT2.out], by rw [hT1.out]; exact hown2, hb1.grown hg2 hB1 (fun g hg => (hown1.lt g hg).1)⟩
        case measure => simp [intOf]; omega
    · obtain rfl : k = n := by omega
      obtain ⟨a, c', hv⟩ := owns_shape hown
      subst hv
      rw [← hE.out] at hown
      go_wp2
      go_ret
      exact ⟨a, m, c', rfl, O2.new hown, hb⟩
set_option maxRecDepth 100000 in
theorem sPairsOf_out (A : Option Addr) (n c : Nat) (zs : List Int) (w : World) (h : RI w A n zs) (hok : levelsOk zs = false) (hn : n ≤ 1048576) :
    Calls Try.prog 39 #[.slice A n c] w fun e w' => ∃ A' n' c', e = .returned (.slice A' n' c') ∧ O2 w' w.heap.size w'.heap.size A' n' c' [] ∧ Below w.heap.size w w' := by
  have hL : Hid (∀ W, RI W A n zs → Calls Try.prog 15 #[.slice A n c] W fun e w' => e = .returned (.bool false) ∧ Below W.heap.size W w') := by
    intro W hW; have := sLevelsOk A n c zs W hW hn; rw [hok] at this; exact this
  have ow : O2 (w.alloc (.cells #[] 54)) w.heap.size (w.alloc (.cells #[] 54)).heap.size (some ⟨w.heap.size, 0, none⟩) 0 0 [] := O2.new (World.ownsRow_made w #[] 0 (Nat.le_refl _) (by decide) rfl)
  have b0 : Below w.heap.size w (w.alloc (.cells #[] 54)) := (Below.refl _ _).alloc (Nat.le_refl _) _
  have hr1 := h.below b0
  clear hok h
  rcases (show n = 0 ∨ 0 < n from by omega) with h0 | h0
  · subst h0
    clear hL hr1
    go_enter Try.func39, Try.ntmps39
    go_wp2
    refine wp_loop_rounds 1 ?_
    rw [rounds_succ]
    go_wp2
    go_ret
    exact ⟨_, _, _, rfl, ow, b0⟩
  · have hni : (0 : Int) < (n : Int) := by omega
    go_enter Try.func39, Try.ntmps39
    go_wp2
    refine wp_loop_rounds 1 ?_
    rw [rounds_succ]
    go_wp2_with (first
      | (go_at_call 15; refine (hL.out _ hr1).mono ?_; rintro e w1 ⟨rfl, b1⟩))
    go_ret
    exact ⟨_, _, _, rfl, O2.mono (O2.below ow b1) (Nat.le_refl _) b1.size, b0.trans (b1.mono b0.size)⟩
theorem sPairsOf (A : Option Addr) (n c : Nat) (zs : List Int) (w : World) (h : RI w A n zs) (hn : n ≤ 1048576) :
    Calls Try.prog 39 #[.slice A n c] w fun e w' => ∃ A' n' c', e = .returned (.slice A' n' c') ∧ O2 w' w.heap.size w'.heap.size A' n' c' (pairsF zs) ∧ Below w.heap.size w w' := by
  unfold pairsF
  by_cases hok : levelsOk zs = true
  · rw [if_pos hok]; exact sPairsOf_in A n c zs w h hok hn
  · rw [if_neg hok]; exact sPairsOf_out A n c zs w h (by simpa using hok) hn
set_option maxRecDepth 100000 in
theorem iPairsOf_in (A : Option Addr) (n c : Nat) (zs : List Int) (w : World) (h : RI w A n zs) (hok : levelsOk zs = true) (hn : n ≤ 1048576) :
    Calls Try.prog 40 #[.slice A n c] w fun e w' => ∃ A' n' c', e = .returned (.slice A' n' c') ∧ O2 w' w.heap.size w'.heap.size A' n' c' (fl (pairsL zs)) ∧ Below w.heap.size w w' := by
  have hlen := h.len
  have hL : Hid (∀ W, RI W A n zs → Calls Try.prog 17 #[.slice A n c] W fun e w' => e = .returned (.bool true) ∧ Below W.heap.size W w') := by
    intro W hW; have := iLevelsOk A n c zs W hW (by omega); rw [hok] at this; exact this
  have hE : Hid (pairsL zs = (prTo zs n).1) := by show pairsL zs = _; unfold pairsL; rw [hlen]
  clear hok
  go_enter Try.func40, Try.ntmps40
  go_wp2_with fail
  refine (hL.out _ h).mono ?_
  rintro e w1 ⟨rfl, b1⟩
  go_wp2
  go_loopw [3, 4, 13] (fun v r i wr => ∃ k m : Nat, k ≤ n ∧ m ≤ k ∧ i = .int .i64 (k : Int) ∧ r = .int .i64 (prTo zs k).2 ∧ wr.ownsRow w.heap.size 54 2 v m ((fl (prTo zs k).1).map (Value.int .i64)) ∧ Below w.heap.size w wr) (fun _ _ i _ => (n - intOf i).toNat)
  case atStart => exact ⟨0, 0, Nat.zero_le _, Nat.le_refl _, rfl, rfl, World.ownsRow_made _ #[] 0 b1.size (by decide) rfl, b1.alloc b1.size _⟩
  case round =>
    clear b1
    obtain ⟨k, m, hk, hm, rfl, rfl, hown, hb⟩ := hrel
    by_cases hlt : k < n
    · have hlti : (k : Int) < (n : Int) := by omega
      obtain ⟨b, off, rfl, hbl, hc⟩ := h.at_ hlt
      have hc1 := hc k hlt
      have hbd := prTo_bd zs k (by omega)
      have hl2 : Small m := small_of (by omega)
      obtain ⟨r, hr⟩ : ∃ r, r = (prTo zs k).2 := ⟨_, rfl⟩
      obtain ⟨L, hL'⟩ : ∃ L, L = (prTo zs k).1 := ⟨_, rfl⟩
      rw [← hr] at hbd ⊢
      have hrb : 0 ≤ r ∧ r ≤ k := hbd.2
      by_cases h0 : zs.getD k 0 = 0
      · have hT := prTo_miss zs k (by omega) h0
        rw [← hr] at hT
        have hT1 := Lib.hid hT.1
        have hT2 := Lib.hid hT.2
        rw [h0] at hc1
        have hsrc := (hb.cell (p := ⟨b, off + k, none⟩) hbl).trans hc1
        have H := Lib.hid h
        have HL := Lib.hid hlen
        clear hr hL' hbd hT h hlen hc h0 hc1
        go_wp2
        go_roundw
        case rel => exact ⟨k + 1, m, by omega, by omega, by go_num, by rw [hT2.out], by rw [hT1.out]; exact hown, hb⟩
        case measure => simp [intOf]; omega
      · have hT := prTo_hit zs k (by omega) h0
        rw [← hr, ← hL'] at hT
        rw [← hL'] at hown
        have hT1 : Hid (fl (prTo zs (k + 1)).1 = fl L ++ [r, zs.getD k 0]) := by show _ = _; rw [hT.1, fl_snoc]
        have hT2 := Lib.hid hT.2
        obtain ⟨x, hx⟩ : ∃ x, x = zs.getD k 0 := ⟨_, rfl⟩
        rw [← hx] at hc1 hT1 h0
        have h0' : (x == 0) = false := by rw [beq_eq_false_iff_ne]; exact h0
        have hsrc := (hb.cell (p := ⟨b, off + k, none⟩) hbl).trans hc1
        have hB1 := hb.size
        have H := Lib.hid h
        have HL := Lib.hid hlen
        clear hr hL' hbd hT h hlen hc h0 hx hc1
        go_wp2_with (first
          | (at_builtin; refine wpList_app_pair rfl (.tmp 21) (.tmp 25) rfl _ m (fl L) rfl hown hB1 rfl hl2 ?_; intro g cap w2 hown2 hg2 hp2))
        go_roundw
        case rel => exact ⟨k + 1, m + 1, by omega, by omega, by go_num, by rw [hT2.out], by rw [hT1.out]; exact hown2, hb.grown hg2 hB1 (fun g hg => (hown.lt g hg).1)⟩
        case measure => simp [intOf]; omega
    · obtain rfl : k = n := by omega
      obtain ⟨a, c', hv⟩ := owns_shape hown
      subst hv
      rw [← hE.out] at hown
      go_wp2
      go_ret
      exact ⟨a, m, c', rfl, O2.new hown, hb⟩
set_option maxRecDepth 100000 in
theorem iPairsOf_out (A : Option Addr) (n c : Nat) (zs : List Int) (w : World) (h : RI w A n zs) (hok : levelsOk zs = false) (hn : n ≤ 1048576) :
    Calls Try.prog 40 #[.slice A n c] w fun e w' => ∃ A' n' c', e = .returned (.slice A' n' c') ∧ O2 w' w.heap.size w'.heap.size A' n' c' [] ∧ Below w.heap.size w w' := by
  have hL : Hid (∀ W, RI W A n zs → Calls Try.prog 17 #[.slice A n c] W fun e w' => e = .returned (.bool false) ∧ Below W.heap.size W w') := by
    intro W hW; have := iLevelsOk A n c zs W hW hn; rw [hok] at this; exact this
  clear hok
  go_enter Try.func40, Try.ntmps40
  go_wp2_with (first
    | (go_at_call 17; refine (hL.out _ h).mono ?_; rintro e w1 ⟨rfl, b1⟩))
  go_ret
  exact ⟨_, _, _, rfl, ⟨World.ownsRow_nil _ _ _ _, fun k hk => by simp [Value.ownBlock] at hk⟩, b1⟩
theorem iPairsOf (A : Option Addr) (n c : Nat) (zs : List Int) (w : World) (h : RI w A n zs) (hn : n ≤ 1048576) :
    Calls Try.prog 40 #[.slice A n c] w fun e w' => ∃ A' n' c', e = .returned (.slice A' n' c') ∧ O2 w' w.heap.size w'.heap.size A' n' c' (pairsF zs) ∧ Below w.heap.size w w' := by
  unfold pairsF
  by_cases hok : levelsOk zs = true
  · rw [if_pos hok]; exact iPairsOf_in A n c zs w h hok hn
  · rw [if_neg hok]; exact iPairsOf_out A n c zs w h (by simpa using hok) hn
end Go.Proofs.Ytcjodaoeoifbcaa
