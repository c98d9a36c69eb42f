/-
  The draw of pairs to read levels from. No condition.
-/
import Derived.Test.YtcjodaoeoifbcaaDrawLevels
import Derived.Test.YtcjodaoeoifbcaaPairsOf
import Derived.Test.YtcjodaoeoifbcaaRunsLaw
namespace Go.Proofs.Ytcjodaoeoifbcaa
open Go.ChangeShapes Go.WideShapes Go.ChangeAt Go.RowKit
set_option linter.unusedVariables false
/-- The cursor stands, nothing of w1 but it has turned, and the pairs are owned. -/
def ST (w1 : World) (B g gp m c : Nat) (ps : List Int) (W : World) : Prop := CX W g ∧ Only g (g + 1) w1 W ∧ W.ownsRow B 54 2 (.slice (some ⟨gp, 0, none⟩) m c) m (ps.map (Value.int .i64))
section
variable {w1 W W' : World} {B g gp m c : Nat} {ps : List Int}
theorem CX.drew {W : World} {g : Nat} (k : CX W g) : CX W.drew g := by obtain ⟨A, n, c, zs, i, h, k⟩ := k; exact ⟨A, n, c, zs, i, h, k.drewN 1⟩
theorem ST.alloc (h : ST w1 B g gp m c ps W) (o : Obj) : ST w1 B g gp m c ps (W.alloc o) := ⟨h.1.alloc o, h.2.1.alloc o, h.2.2.alloc o⟩
theorem ST.drew (h : ST w1 B g gp m c ps W) : ST w1 B g gp m c ps W.drew := ⟨h.1.drew, h.2.1.drewN 1, h.2.2.drew⟩
theorem ST.step (h : ST w1 B g gp m c ps W) (o : Only g (g + 1) W W') (k : CX W' g) (hg : g < B) : ST w1 B g gp m c ps W' := ⟨k, h.2.1.trans o, owns_only h.2.2 o hg⟩
theorem ST.cell (h : ST w1 B g gp m c ps W) {j : Nat} (hj : j < m * 2) (hl : ps.length = m * 2) : W.cell? ⟨gp, j, none⟩ = some (.int .i64 (ps.getD j 0)) := by
  rw [h.2.2.cellAt j hj, List.getElem?_map, List.getElem?_eq_getElem (by omega), List.getD_eq_getElem?_getD, List.getElem?_eq_getElem (by omega)]
  rfl
theorem ST.frz (h : ST w1 B g gp m c ps W) (j : Nat) : W.frozen? ⟨gp, j, none⟩ = false := h.2.2.frozenAt j
theorem ST.lt (h : ST w1 B g gp m c ps W) : gp < W.heap.size := (h.2.2.lt gp rfl).2
theorem ST.hi (h : ST w1 B g gp m c ps W) : W.heap.size ≤ W.heap.size := Nat.le_refl _
theorem ST.o2 (h : ST w1 B g gp m c ps W) : O2 W B W.heap.size (some ⟨gp, 0, none⟩) m c ps := O2.new h.2.2
theorem ST.store (h : ST w1 B g gp m c ps W) (j : Nat) (x y : Int) (hg : g < gp) (hw : w1.heap.size ≤ gp) : ST w1 B g gp m c ((ps.set (j * 2) x).set (j * 2 + 1) y) ((W.setCell ⟨gp, j * 2, none⟩ (.int .i64 x)).setCell ⟨gp, j * 2 + 1, none⟩ (.int .i64 y)) := by
  have s1 := h.2.2.stored (j * 2) (.int .i64 x)
  have s2 := s1.1.stored (j * 2 + 1) (.int .i64 y)
  have k1 := h.1.grown s1.2 (fun r hr => by cases hr; exact hg)
  have k2 := k1.grown s2.2 (fun r hr => by cases hr; exact hg)
  have x1 := h.2.1.grown s1.2 (fun r hr => by cases hr; exact hw)
  have x2 := x1.grown s2.2 (fun r hr => by cases hr; exact hw)
  refine ⟨k2, x2, ?_⟩
  have s3 := s2.1
  rw [List.map_set, List.map_set]
  exact s3
/-- A written-out list of numbers, made by the call. -/
def PL (g : Nat) (W : World) (b k : Nat) (ws : List Int) : Prop := ∃ lo hi, g < lo ∧ OB W lo hi (some ⟨b, 0, none⟩) k k ws
theorem PL.lit {V : World} {k : Nat} (h : ST w1 B g gp m c ps V) (hg : g < B) (ws : List Int) (hl : ws.length = k) (hm : k ≤ maxLen) : PL g (V.alloc (.cells (ws.map (Value.int .i64)).toArray 3)) V.heap.size k ws :=
  ⟨_, _, h.1.lt, OB.lit V ws k hl hm⟩
theorem PL.drew {b k : Nat} {ws : List Int} (h : PL g W b k ws) : PL g W.drew b k ws := by obtain ⟨lo, hi, h1, h2⟩ := h; exact ⟨lo, hi, h1, h2.1.drew, h2.2⟩
theorem PL.alloc {b k : Nat} {ws : List Int} (h : PL g W b k ws) (o : Obj) : PL g (W.alloc o) b k ws := by obtain ⟨lo, hi, h1, h2⟩ := h; exact ⟨lo, hi, h1, h2.1.alloc o, h2.2⟩
theorem xPick {b k : Nat} (ws : List Int) (h : ST w1 B g gp m c ps W) (hg : g < B) (hp : PL g W b k ws) (hk : 0 < k) :
    Calls Try.prog ((68 : Nat)) #[.pointer (some ⟨g, 0, none⟩), .slice (some ⟨b, 0, none⟩) k k] W fun e w' => ∃ x, e = .returned (.int .i64 x) ∧ ST w1 B g gp m c ps w' := by
  obtain ⟨lo, hi, h1, h2⟩ := hp
  refine (xPickInt g _ k k lo hi ws W h.1 h2 h1 hk).mono ?_
  rintro e w' ⟨x, _, rfl, k', o'⟩
  exact ⟨x, rfl, h.step o' k' hg⟩
theorem PL.lit1 {V : World} {k s : Nat} (h : ST w1 B g gp m c ps V) (hg : g < B) (ws : List Int) (hs : V.heap.size = s) (hl : ws.length = k) (hm : k ≤ maxLen) : PL g (V.alloc (.cells (ws.map (Value.int .i64)).toArray 3)) s k ws := by
  subst hs; exact PL.lit h hg ws hl hm
theorem PL.only {b k : Nat} {ws : List Int} (h : PL g W b k ws) (o : Only g (g + 1) W W') : PL g W' b k ws := by
  obtain ⟨lo, hi, h1, h2⟩ := h
  exact ⟨lo, hi, h1, h2.only o (Or.inr h1)⟩
theorem xPickK {b k b' k' : Nat} (ws vs : List Int) (h : ST w1 B g gp m c ps W) (hg : g < B) (hp : PL g W b k ws) (hq : PL g W b' k' vs) (hk : 0 < k) :
    Calls Try.prog ((68 : Nat)) #[.pointer (some ⟨g, 0, none⟩), .slice (some ⟨b, 0, none⟩) k k] W fun e w' => ∃ x, e = .returned (.int .i64 x) ∧ ST w1 B g gp m c ps w' ∧ PL g w' b' k' vs := by
  obtain ⟨lo, hi, h1, h2⟩ := hp
  refine (xPickInt g _ k k lo hi ws W h.1 h2 h1 hk).mono ?_
  rintro e w' ⟨x, _, rfl, k', o'⟩
  exact ⟨x, rfl, h.step o' k' hg, hq.only o'⟩
end
set_option maxRecDepth 100000 in
set_option maxHeartbeats 8000000 in
theorem xDrawLevelsFrom (A : Option Addr) (n c : Nat) (zs : List Int) (w : World) (h : RU w A n zs) (hn : n ≤ 1048576) :
    Calls Try.prog 49 #[.slice A n c] w fun e w' => ∃ A' m c' ps x, e = .returned (.tuple #[.slice A' m c', .int .i64 x]) ∧ O2 w' w.heap.size w'.heap.size A' m c' ps ∧ m ≤ 64 ∧ Below w.heap.size w w' := by
  go_enter Try.func49, Try.ntmps49
  go_wp2_with fail
  refine (sNew A n c zs w h hn).mono ?_
  rintro e w1 ⟨g, rfl, hg, hgl, k, b1⟩
  have kx := cx_new (w := w) k
  clear k
  go_wp2_with fail
  refine (xLevels g _ kx).mono ?_
  rintro e w2 ⟨A2, n2, c2, l, rfl, o2, hs2, k2, x2⟩
  have hl2 := o2.len
  have hn64 : n2 ≤ 64 := by unfold SqLen at hs2; omega
  clear kx hs2
  go_wp2_with fail
  refine (sPairsOf _ _ _ l _ o2.read (by omega)).mono ?_
  rintro e w3 ⟨A3, m, c3, rfl, p3, b3⟩
  have k3 := k2.below b3
  have x3 := x2.below b3
  have hpl := p3.len
  have hm : m ≤ 64 := by have e1 := pairsF_half l; omega
  have hw2 : w.heap.size ≤ w2.heap.size := Nat.le_trans b1.size x2.size
  have hgB : g < w2.heap.size := k2.lt
  have hw12 : w1.heap.size ≤ w2.heap.size := x2.size
  have hg2 : g + 1 ≤ w2.heap.size := hgB
  have hlh := Lib.hid hl2
  clear h o2 k2 x2 b3
  obtain ⟨ps, hps⟩ : ∃ ps, ps = pairsF l := ⟨_, rfl⟩
  rw [← hps] at p3 hpl
  clear hps hl2
  rcases Nat.eq_zero_or_pos m with h0 | h0
  · subst h0
    have p3hi : w3.heap.size ≤ w3.heap.size := Nat.le_refl _
    go_wp2_with fail
    refine (xOnce g 12 _ k3).mono ?_
    rintro e w8 ⟨b, rfl, k8, o8⟩
    have x8 := x3.trans o8
    have p8 := p3.only o8 (Or.inr hg2)
    cases b
    · go_wp2
      go_ret2
      exact ⟨_, _, c3, _, _, rfl, p8.mono hw2 (Nat.le_trans p3hi o8.size), by omega, below_onl b1 hg x8⟩
    · go_wp2_with fail
      refine (xPickInt g _ _ _ _ _ [0, 15, 64, 16] _ (k8.alloc _) (OB.lit w8 [0, 15, 64, 16] 4 rfl (by unfold maxLen; omega)) k8.lt (by omega)).mono ?_
      rintro e w9 ⟨x, hx, rfl, k9, o9⟩
      have x9 := (x8.alloc (.cells #[.int .i64 0, .int .i64 15, .int .i64 64, .int .i64 16] 3)).trans o9
      have p9 := (p8.below ((Below.refl _ _).alloc (Nat.le_refl _) (.cells #[.int .i64 0, .int .i64 15, .int .i64 64, .int .i64 16] 3))).only o9 (Or.inr hg2)
      have hs9 := o9.size
      have hs8 := o8.size
      clear hx
      go_wp2
      go_ret2
      exact ⟨_, _, c3, _, _, rfl, p9.mono hw2 (by have := p3hi; simp at hs9; omega), by omega, below_onl b1 hg x9⟩
  · obtain ⟨gp, rfl, hgp1, hgp2, hgp3⟩ := p3.form h0
    have hmi : (0 : Int) < (m : Int) := by omega
    have hwp : w1.heap.size ≤ gp := Nat.le_trans hw12 hgp1
    have hggp : g < gp := Nat.lt_of_lt_of_le hgB hgp1
    go_wp2_with fail
    refine (xOnce g 4 _ k3).mono ?_
    rintro e w4 ⟨b, rfl, k4, o4⟩
    have st4 : ST w1 w2.heap.size g gp m c3 ps w4 := ⟨k4, x3.trans o4, owns_only p3.1 o4 hgB⟩
    clear p3 k3 x3 o4 k4
    cases b
    · have k4 := st4.1
      have x4 := st4.2.1
      have p4 := st4.o2
      have p4hi : w4.heap.size ≤ w4.heap.size := Nat.le_refl _
      go_wp2_with fail
      refine (xOnce g 12 _ k4).mono ?_
      rintro e w8 ⟨b, rfl, k8, o8⟩
      have x8 := x4.trans o8
      have p8 := p4.only o8 (Or.inr hg2)
      cases b
      · go_wp2
        go_ret2
        exact ⟨_, _, c3, _, _, rfl, p8.mono hw2 (Nat.le_trans p4hi o8.size), by omega, below_onl b1 hg x8⟩
      · go_wp2_with fail
        refine (xPickInt g _ _ _ _ _ [0, 15, 64, 16] _ (k8.alloc _) (OB.lit w8 [0, 15, 64, 16] 4 rfl (by unfold maxLen; omega)) k8.lt (by omega)).mono ?_
        rintro e w9 ⟨x, hx, rfl, k9, o9⟩
        have x9 := (x8.alloc (.cells #[.int .i64 0, .int .i64 15, .int .i64 64, .int .i64 16] 3)).trans o9
        have p9 := (p8.below ((Below.refl _ _).alloc (Nat.le_refl _) (.cells #[.int .i64 0, .int .i64 15, .int .i64 64, .int .i64 16] 3))).only o9 (Or.inr hg2)
        have hs9 := o9.size
        have hs8 := o8.size
        clear hx
        go_wp2
        go_ret2
        exact ⟨_, _, c3, _, _, rfl, p9.mono hw2 (by have := p4hi; simp at hs9; omega), by omega, below_onl b1 hg x9⟩
    · go_wp2_with fail
      refine (xBelow g (m : Int) hmi _ st4.1).mono ?_
      rintro e w5 ⟨j, hj, rfl, k5, o5⟩
      have st5 := st4.step o5 k5 hgB
      obtain ⟨j, rfl⟩ := Int.eq_ofNat_of_zero_le hj.1
      have hjm : j < m := by omega
      have hji : (j : Int) < (m : Int) := by omega
      have hj0 : (0 : Int) ≤ (j : Int) := by omega
      obtain ⟨x, hx⟩ : ∃ x, x = ps.getD (j * 2) 0 := ⟨_, rfl⟩
      obtain ⟨y, hy⟩ : ∃ y, y = ps.getD (j * 2 + 1) 0 := ⟨_, rfl⟩
      have HC0 : Hid (∀ W, ST w1 w2.heap.size g gp m c3 ps W → W.cell? ⟨gp, j * 2, none⟩ = some (.int .i64 x)) := by
        intro W hW; rw [hx]; exact hW.cell (by omega) hpl
      have HC1 : Hid (∀ W, ST w1 w2.heap.size g gp m c3 ps W → W.cell? ⟨gp, j * 2 + 1, none⟩ = some (.int .i64 y)) := by
        intro W hW; rw [hy]; exact hW.cell (by omega) hpl
      clear hx hy hj st4 k5 o5
      have hc0 := HC0.out _ st5
      have hc1 := HC1.out _ st5
      have hf0 := st5.frz (j * 2)
      have hf1 := st5.frz (j * 2 + 1)
      have hgl5 := st5.lt
      obtain ⟨x1, hx1⟩ : ∃ x1, IntKind.i64.wrap (x + 1) = x1 := ⟨_, rfl⟩
      go_wp2
      have hH := Lib.hid (And.intro b1 (And.intro hn64 hlh))
      have hs1 : ∀ o, (w5.alloc o).heap.size = w5.heap.size + 1 := fun o => Array.size_push ..
      have CA := Lib.hid (xPick (W := (w5.alloc (.cells #[.int .i64 (-1), .int .i64 0, .int .i64 15, .int .i64 63, .int .i64 x1] (3 : Nat))).drew) (b := w5.heap.size) (k := 5) [-1, 0, 15, 63, x1] (st5.alloc _).drew hgB (PL.drew (PL.lit (k := 5) st5 hgB [-1, 0, 15, 63, x1] rfl (by unfold maxLen; omega))) (by omega))
      have CAB := Lib.hid (xPickK (W := ((w5.alloc (.cells #[.int .i64 (-1), .int .i64 0, .int .i64 15, .int .i64 63, .int .i64 x1] (3 : Nat))).alloc (.cells #[.int .i64 0, .int .i64 1, .int .i64 16384, .int .i64 y] (3 : Nat))).drew) (b := w5.heap.size) (k := 5) (b' := w5.heap.size + 1) (k' := 4) [-1, 0, 15, 63, x1] [0, 1, 16384, y] ((st5.alloc _).alloc _).drew hgB (PL.drew (PL.alloc (PL.lit (k := 5) st5 hgB [-1, 0, 15, 63, x1] rfl (by unfold maxLen; omega)) _)) (PL.drew (PL.lit1 (k := 4) (st5.alloc _) hgB [0, 1, 16384, y] (hs1 _) rfl (by unfold maxLen; omega))) (by omega))
      have CBA := Lib.hid (xPickK (W := ((w5.alloc (.cells #[.int .i64 0, .int .i64 1, .int .i64 16384, .int .i64 y] (3 : Nat))).alloc (.cells #[.int .i64 (-1), .int .i64 0, .int .i64 15, .int .i64 63, .int .i64 x1] (3 : Nat))).drew) (b := w5.heap.size + 1) (k := 5) (b' := w5.heap.size) (k' := 4) [-1, 0, 15, 63, x1] [0, 1, 16384, y] ((st5.alloc _).alloc _).drew hgB (PL.drew (PL.lit1 (k := 5) (st5.alloc _) hgB [-1, 0, 15, 63, x1] (hs1 _) rfl (by unfold maxLen; omega))) (PL.drew (PL.alloc (PL.lit (k := 4) st5 hgB [0, 1, 16384, y] rfl (by unfold maxLen; omega)) _)) (by omega))
      have HJ := Lib.hid hjm
      have HM := Lib.hid hm
      clear b1 hn64 hlh hm hjm st5 hs1
      go_region_with (first
        | (go_at_call 68; (with_reducible refine CB.out.mono ?_); rintro e w7 ⟨u, rfl, st6⟩; have hc0 := HC0.out _ st6; have hc1 := HC1.out _ st6; have hf0 := st6.frz (j * 2); have hf1 := st6.frz (j * 2 + 1); have hgl6 := st6.lt)
        | (go_at_call 68; (with_reducible refine (xPick _ st6 hgB q6 (by omega)).mono ?_); rintro e w7 ⟨u, rfl, st6⟩; have hc0 := HC0.out _ st6; have hc1 := HC1.out _ st6; have hf0 := st6.frz (j * 2); have hf1 := st6.frz (j * 2 + 1); have hgl6 := st6.lt)
        | (go_at_call 68; (with_reducible refine CA.out.mono ?_); rintro e w6 ⟨v, rfl, st6⟩; have hc0 := HC0.out _ st6; have hc1 := HC1.out _ st6; have hf0 := st6.frz (j * 2); have hf1 := st6.frz (j * 2 + 1); have hgl6 := st6.lt; have CB := Lib.hid (xPick (W := w6.alloc (.cells #[.int .i64 0, .int .i64 1, .int .i64 16384, .int .i64 y] (3 : Nat))) (b := w6.heap.size) (k := 4) [0, 1, 16384, y] (st6.alloc _) hgB (PL.lit (k := 4) st6 hgB [0, 1, 16384, y] rfl (by unfold maxLen; omega)) (by omega)))
        | (go_at_call 68; (with_reducible refine CAB.out.mono ?_); rintro e w6 ⟨v, rfl, st6, q6⟩; have hc0 := HC0.out _ st6; have hc1 := HC1.out _ st6; have hf0 := st6.frz (j * 2); have hf1 := st6.frz (j * 2 + 1); have hgl6 := st6.lt)
        | (go_at_call 68; (with_reducible refine CBA.out.mono ?_); rintro e w6 ⟨v, rfl, st6, q6⟩; have hc0 := HC0.out _ st6; have hc1 := HC1.out _ st6; have hf0 := st6.frz (j * 2); have hf1 := st6.frz (j * 2 + 1); have hgl6 := st6.lt))
      all_goals
        have stF := st6.store j v u hggp hwp
        have kF := stF.1
        have xF := stF.2.1
        have pF := stF.o2
        obtain ⟨b1, hn64, hlh⟩ := hH.out
        have hm := HM.out
        have pFhi := stF.hi
        clear hc0 hc1 hf0 hf1 hgl6 hgl5 HC0 HC1 CA CAB CBA hx1 st6 stF
        go_wp2_with fail
        refine (xOnce g 12 _ kF).mono ?_
        rintro e w8 ⟨b, rfl, k8, o8⟩
        have x8 := xF.trans o8
        have p8 := pF.only o8 (Or.inr hg2)
        cases b
        · go_wp2
          go_ret2
          exact ⟨_, _, c3, _, _, rfl, p8.mono hw2 (Nat.le_trans pFhi o8.size), by omega, below_onl b1 hg x8⟩
        · go_wp2_with fail
          refine (xPickInt g _ _ _ _ _ [0, 15, 64, 16] _ (k8.alloc _) (OB.lit w8 [0, 15, 64, 16] 4 rfl (by unfold maxLen; omega)) k8.lt (by omega)).mono ?_
          rintro e w9 ⟨x, hx, rfl, k9, o9⟩
          have x9 := (x8.alloc (.cells #[.int .i64 0, .int .i64 15, .int .i64 64, .int .i64 16] 3)).trans o9
          have p9 := (p8.below ((Below.refl _ _).alloc (Nat.le_refl _) (.cells #[.int .i64 0, .int .i64 15, .int .i64 64, .int .i64 16] 3))).only o9 (Or.inr hg2)
          have hs9 := o9.size
          have hs8 := o8.size
          clear hx
          go_wp2
          go_ret2
          exact ⟨_, _, c3, _, _, rfl, p9.mono hw2 (by have := pFhi; simp at hs9; omega), by omega, below_onl b1 hg x9⟩
end Go.Proofs.Ytcjodaoeoifbcaa
