/-
  A MATRIX THAT IS BUILT ROW BY ROW BY append: the program's turned matrix, and its matrix of eight. No condition.
-/
import Derived.Test.YtilfekkgoooefaaFwd
import Derived.Test.YtilfekkgoooefaaGrow
import Derived.Test.YtilfekkgoooefaaOnes
import Derived.Deep.RegionLaw
namespace Go.Proofs.Ytilfekkgoooefaa
open Go.ChangeShapes Go.WideShapes Go.ChangeAt Go.RowKit
set_option linter.unusedVariables false
/-- Row r of the matrix in block ob is being built: v holds its first k numbers, in a block from hi on; the rows ahead are done, the rows behind are nil. -/
def TurnO (n : Nat) (M : Nat → Nat → Int) (B ob : Nat) (W : World) (hi r : Nat) (v : Value) (k : Nat) : Prop :=
  ∃ vs : List Value, W.ownsRow B 31 1 (.slice (some ⟨ob, 0, none⟩) n n) n vs ∧ vs[r]? = some v ∧
    (∀ q, q < r → ∃ rb rc, vs[q]? = some (.slice (some ⟨rb, 0, none⟩) n rc) ∧ rb < hi ∧ rb ≠ ob ∧ W.ownsRow B 3 1 (.slice (some ⟨rb, 0, none⟩) n rc) n ((rowL n M q).map (Value.int .i64))) ∧
    (∀ q, r < q → q < n → vs[q]? = some (.slice none 0 0)) ∧ W.ownsRow hi 3 1 v k ((rowL k M r).map (Value.int .i64)) ∧ ob < hi ∧ hi ≤ W.heap.size ∧ B ≤ hi
section
variable {n : Nat} {M : Nat → Nat → Int} {B ob : Nat} {W : World} {hi r k : Nat} {v : Value}
theorem TurnO.own (h : TurnO n M B ob W hi r v k) : W.ownsRow hi 3 1 v k ((rowL k M r).map (Value.int .i64)) := by obtain ⟨vs, a, b, c, d, e, f⟩ := h; exact e
theorem TurnO.size (h : TurnO n M B ob W hi r v k) : hi ≤ W.heap.size := by obtain ⟨vs, a, b, c, d, e, f, g, i⟩ := h; exact g
theorem TurnO.ob_lt (h : TurnO n M B ob W hi r v k) : ob < W.heap.size := by obtain ⟨vs, a, b, c, d, e, f, g, i⟩ := h; omega
theorem TurnO.base (h : TurnO n M B ob W hi r v k) : B ≤ hi := by obtain ⟨vs, a, b, c, d, e, f, g, i⟩ := h; exact i
theorem TurnO.cell (h : TurnO n M B ob W hi r v k) (hr : r < n) : W.cell? ⟨ob, r, none⟩ = some v := by obtain ⟨vs, a, b, _⟩ := h; rw [a.cellAt r (by omega)]; exact b
theorem TurnO.far {w1 : World} (h : TurnO n M B ob W hi r v k) (hg : W.grownBy w1 v.ownBlock) (hr : r < n) : w1.cell? ⟨ob, r, none⟩ = some v ∧ w1.frozen? ⟨ob, r, none⟩ = false := by
  obtain ⟨vs, a, b, c, d, e, f, g, i⟩ := h
  have a1 := a.kept hg (Or.inr (fun e2 => by have := (e.lt ob e2.symm).1; omega))
  exact ⟨by rw [a1.cellAt r (by omega)]; exact b, a1.frozenAt r⟩
theorem TurnO.step {w1 : World} {gg cap : Nat} (h : TurnO n M B ob W hi r v k) (hr : r < n) (hg : W.grownBy w1 v.ownBlock) (hown : w1.ownsRow hi 3 1 (.slice (some ⟨gg, 0, none⟩) (k + 1) cap) (k + 1) ((rowL (k + 1) M r).map (Value.int .i64))) :
    TurnO n M B ob (w1.setCell ⟨ob, r, none⟩ (.slice (some ⟨gg, 0, none⟩) (k + 1) cap)) hi r (.slice (some ⟨gg, 0, none⟩) (k + 1) cap) (k + 1) := by
  obtain ⟨vs, a, b, c, d, e, f, g, i⟩ := h
  have a1 := a.kept hg (Or.inr (fun e2 => by have := (e.lt ob e2.symm).1; omega))
  have st := a1.stored r (.slice (some ⟨gg, 0, none⟩) (k + 1) cap)
  have hgg := (hown.lt gg rfl).1
  refine ⟨vs.set r (.slice (some ⟨gg, 0, none⟩) (k + 1) cap), st.1, ?_, ?_, ?_, ?_, f, by have := hg.size; have := st.2.size; omega, i⟩
  · rw [List.getElem?_set_self (by have := a.1; omega)]
  · intro q hq
    obtain ⟨rb, rc, c1, c2, c3, c4⟩ := c q hq
    refine ⟨rb, rc, by rw [List.getElem?_set_ne (by omega)]; exact c1, c2, c3, ?_⟩
    exact (c4.kept hg (Or.inr (fun e2 => by have := (e.lt rb e2.symm).1; omega))).kept st.2 (Or.inr (fun e2 => by simp [Value.ownBlock] at e2; exact c3 e2))
  · intro q hq hqn
    rw [List.getElem?_set_ne (by omega)]
    exact d q hq hqn
  · exact hown.kept st.2 (Or.inr (fun e2 => by simp [Value.ownBlock] at e2; omega))
theorem TurnO.next (h : TurnO n M B ob W hi r v n) (hn : 0 < n) (hr : r + 1 < n) : TurnO n M B ob W W.heap.size (r + 1) (.slice none 0 0) 0 := by
  obtain ⟨vs, a, b, c, d, e, f, g, i⟩ := h
  obtain ⟨gg, cap, hv, hlo, hlt⟩ := e.form hn
  subst hv
  refine ⟨vs, a, d (r + 1) (by omega) hr, ?_, fun q hq hqn => d q (by omega) hqn, World.ownsRow_nil _ _ _ _, by omega, Nat.le_refl _, by omega⟩
  intro q hq
  by_cases hqr : q = r
  · subst hqr
    exact ⟨gg, cap, b, hlt, by omega, owns_base e i⟩
  · obtain ⟨rb, rc, c1, c2, c3, c4⟩ := c q (by omega)
    exact ⟨rb, rc, c1, by omega, c3, c4⟩
theorem TurnO.done (h : TurnO n M B ob W hi r v n) (hn : 0 < n) (hr : r + 1 = n) : MX W (some ⟨ob, 0, none⟩) n M := by
  obtain ⟨vs, a, b, c, d, e, f, g, i⟩ := h
  obtain ⟨gg, cap, hv, hlo, hlt⟩ := e.form hn
  subst hv
  refine MX.of_owns (B' := B) hn a (fun q hq => ?_)
  by_cases hqr : q = r
  · subst hqr
    exact ⟨gg, cap, b, owns_base e i⟩
  · obtain ⟨rb, rc, c1, c2, c3, c4⟩ := c q (by omega)
    exact ⟨rb, rc, c1, c4⟩
end
theorem make_rows4 (u : World) : (Instr.makeSlice 43 (.int .i64 4) (.int .i64 4)).run Try.prog u = .ok (.slice (some ⟨u.heap.size, 0, none⟩) 4 4) (u.alloc (.cells #[.slice none 0 0, .slice none 0 0, .slice none 0 0, .slice none 0 0] 31)) := by kernel_rfl
theorem turn0_4 (M : Nat → Nat → Int) (w : World) : TurnO 4 M w.heap.size w.heap.size (w.alloc (.cells #[.slice none 0 0, .slice none 0 0, .slice none 0 0, .slice none 0 0] 31)) (w.heap.size + 1) 0 (.slice none 0 0) 0 :=
  ⟨[.slice none 0 0, .slice none 0 0, .slice none 0 0, .slice none 0 0], World.ownsRow_lit w _ 4 (Nat.le_refl _) (by decide) rfl, rfl, fun q hq => by omega, fun q h1 h2 => by rcases (show q = 1 ∨ q = 2 ∨ q = 3 by omega) with rfl | rfl | rfl <;> rfl, World.ownsRow_nil _ _ _ _, by omega, by simp, by omega⟩
set_option maxRecDepth 100000 in
set_option maxHeartbeats 4000000 in
theorem iTurned (Am : Option Addr) (cm : Nat) (M : Nat → Nat → Int) (w : World) (hX : MX w Am 4 M) :
    Calls Try.prog 39 #[.slice Am 4 cm] w fun e w' => ∃ A', e = .returned (.slice A' 4 4) ∧ MX w' A' 4 (fun r i => M i r) ∧ Below w.heap.size w w' := by
  have hMX := Lib.hid hX
  have hmk := fun u => make_rows4 u
  have ht0 := Lib.hid (turn0_4 (fun r i => M i r) w)
  clear hX
  go_enter Try.func39, Try.ntmps39
  go_wp2
  go_loopw [11] (fun i wr => ∃ r : Nat, i = .int .i64 (r : Int) ∧ ((∃ hi, r < 4 ∧ TurnO 4 (fun r i => M i r) w.heap.size w.heap.size wr hi r (.slice none 0 0) 0) ∨ (r = 4 ∧ MX wr (some ⟨w.heap.size, 0, none⟩) 4 (fun r i => M i r))) ∧ Below w.heap.size w wr) (fun i _ => 4 - (intOf i).toNat)
  case atStart => exact ⟨0, rfl, Or.inl ⟨_, by omega, ht0.out⟩, (Below.refl _ _).alloc (Nat.le_refl _) _⟩
  case round =>
    clear hmk
    obtain ⟨r, rfl, hst, hb⟩ := hrel
    rcases hst with ⟨hi, hr, hT⟩ | ⟨rfl, hmx⟩
    · have hri : (r : Int) < 4 := by omega
      have HT := Lib.hid hT
      clear hT
      go_wp2
      go_loopw [16] (fun i wr => ∃ (k : Nat) (v : Value), k ≤ 4 ∧ i = .int .i64 (k : Int) ∧ TurnO 4 (fun r i => M i r) w.heap.size w.heap.size wr hi r v k ∧ Below w.heap.size w wr) (fun i _ => 4 - (intOf i).toNat)
      case atStart => exact ⟨0, _, by omega, rfl, HT.out, hb⟩
      case round =>
        clear hb
        obtain ⟨k, v, hk, rfl, hT, hb⟩ := hrel
        by_cases hlk : k < 4
        · have hki : (k : Int) < 4 := by omega
          have hr0 : (0 : Int) ≤ (r : Int) := by omega
          have hk0 : (0 : Int) ≤ (k : Int) := by omega
          obtain ⟨mb, mo, e2, mbl, hmr⟩ := hMX.out
          obtain ⟨rb, ro, rc, g1, g2, g3⟩ := hmr k hlk
          have c1 := (hb.cell (p := ⟨mb, mo + k, none⟩) mbl).trans g1
          have c2 := (hb.cell (p := ⟨rb, ro + r, none⟩) g2).trans (g3 r hr)
          have c3 := hT.cell hr
          have HT := Lib.hid hT
          have hown := hT.own
          have hsz := hT.size
          have hbz := hT.ob_lt
          have hbh := hT.base
          have hl2 : Small k := small_of (by omega)
          have hE : Hid ((rowL k (fun r i => M i r) r) ++ [M k r] = rowL (k + 1) (fun r i => M i r) r) := by show _ = _; rw [rowL_succ]
          obtain ⟨x, hx⟩ : ∃ x, x = M k r := ⟨_, rfl⟩
          rw [← hx] at c2 hE
          subst e2
          have hB := Lib.hid hb
          have HO := Lib.hid hown
          clear hT hmr g1 g3 hx hb hown
          go_wp2
          go_region_law (first
            | (refine step_app_g rfl (.tmp 24) (.tmp 32) rfl v k _ rfl HO.out hsz rfl hl2 ?_; intro gg cap w1 hown1 hg1 hp1; have hf1 := (HT.out.far hg1 hr).1; have hf2 := (HT.out.far hg1 hr).2))
          all_goals
            have own2 := hown1
            rw [hE.out] at own2
            have HS := Lib.hid (HT.out.step hr hg1 own2)
            have HB2 := Lib.hid ((hB.out.grown hg1 hB.out.size (fun g hg => by have := (HO.out.lt g hg).1; have := hB.out.size; omega)).setCell (p := ⟨w.heap.size, r, none⟩) (Nat.le_refl _) (.slice (some ⟨gg, 0, none⟩) (k + 1) cap))
            clear own2 hown1 hg1 hp1 hf1 hf2
            go_wp2
            go_roundw
            case rel => exact ⟨k + 1, _, by omega, by go_num, HS.out, HB2.out⟩
            case measure => simp [intOf]; omega
        · obtain rfl : k = 4 := by omega
          rcases (show r + 1 < 4 ∨ r + 1 = 4 by omega) with h4 | h4
          · have HN := Lib.hid (hT.next (by omega) h4)
            clear hT
            go_wp2
            go_roundw
            case rel => exact ⟨r + 1, by go_num, Or.inl ⟨_, h4, HN.out⟩, hb⟩
            case measure => simp [intOf]; omega
          · have HN := Lib.hid (hT.done (by omega) h4)
            clear hT
            go_wp2
            go_roundw
            case rel => exact ⟨r + 1, by go_num, Or.inr ⟨h4, HN.out⟩, hb⟩
            case measure => simp [intOf]; omega
    · have HM := Lib.hid hmx
      clear hmx
      go_wp2
      go_ret
      exact ⟨_, rfl, HM.out, hb⟩
theorem make_rows8 (u : World) : (Instr.makeSlice 43 (.int .i64 8) (.int .i64 8)).run Try.prog u = .ok (.slice (some ⟨u.heap.size, 0, none⟩) 8 8) (u.alloc (.cells #[.slice none 0 0, .slice none 0 0, .slice none 0 0, .slice none 0 0, .slice none 0 0, .slice none 0 0, .slice none 0 0, .slice none 0 0] 31)) := by kernel_rfl
theorem turn0_8 (M : Nat → Nat → Int) (w : World) : TurnO 8 M w.heap.size w.heap.size (w.alloc (.cells #[.slice none 0 0, .slice none 0 0, .slice none 0 0, .slice none 0 0, .slice none 0 0, .slice none 0 0, .slice none 0 0, .slice none 0 0] 31)) (w.heap.size + 1) 0 (.slice none 0 0) 0 :=
  ⟨[.slice none 0 0, .slice none 0 0, .slice none 0 0, .slice none 0 0, .slice none 0 0, .slice none 0 0, .slice none 0 0, .slice none 0 0], World.ownsRow_lit w _ 8 (Nat.le_refl _) (by decide) rfl, rfl, fun q hq => by omega, fun q h1 h2 => by rcases (show q = 1 ∨ q = 2 ∨ q = 3 ∨ q = 4 ∨ q = 5 ∨ q = 6 ∨ q = 7 by omega) with rfl | rfl | rfl | rfl | rfl | rfl | rfl <;> rfl, World.ownsRow_nil _ _ _ _, by omega, by simp, by omega⟩
theorem and_lt8 (r k : Nat) (hk : k < 8) : r &&& k < 8 := Nat.lt_of_le_of_lt Nat.and_le_right hk
theorem pop3_bd (b : Nat) : pop3 b ≤ 3 := by unfold pop3; omega
set_option maxRecDepth 100000 in
set_option maxHeartbeats 4000000 in
theorem iMatrixH (w : World) :
    Calls Try.prog 40 #[] w fun e w' => ∃ A', e = .returned (.slice A' 8 8) ∧ MX w' A' 8 mH ∧ Below w.heap.size w w' := by
  have hmk := fun u => make_rows8 u
  have ht0 := Lib.hid (turn0_8 mH w)
  have hOne := Lib.hid (fun b hb W => ones b hb W)
  go_enter Try.func40, Try.ntmps40
  go_wp2
  go_loopw [5] (fun i wr => ∃ r : Nat, i = .int .i64 (r : Int) ∧ ((∃ hi, r < 8 ∧ TurnO 8 mH w.heap.size w.heap.size wr hi r (.slice none 0 0) 0) ∨ (r = 8 ∧ MX wr (some ⟨w.heap.size, 0, none⟩) 8 mH)) ∧ Below w.heap.size w wr) (fun i _ => 8 - (intOf i).toNat)
  case atStart => exact ⟨0, rfl, Or.inl ⟨_, by omega, ht0.out⟩, (Below.refl _ _).alloc (Nat.le_refl _) _⟩
  case round =>
    clear hmk
    obtain ⟨r, rfl, hst, hb⟩ := hrel
    rcases hst with ⟨hi, hr, hT⟩ | ⟨rfl, hmx⟩
    · have hri : (r : Int) < 8 := by omega
      have HT := Lib.hid hT
      clear hT
      go_wp2
      go_loopw [8] (fun i wr => ∃ (k : Nat) (v : Value), k ≤ 8 ∧ i = .int .i64 (k : Int) ∧ TurnO 8 mH w.heap.size w.heap.size wr hi r v k ∧ Below w.heap.size w wr) (fun i _ => 8 - (intOf i).toNat)
      case atStart => exact ⟨0, _, by omega, rfl, HT.out, hb⟩
      case round =>
        clear hb
        obtain ⟨k, v, hk, rfl, hT, hb⟩ := hrel
        by_cases hlk : k < 8
        · have hki : (k : Int) < 8 := by omega
          have hr0 : (0 : Int) ≤ (r : Int) := by omega
          have hk0 : (0 : Int) ≤ (k : Int) := by omega
          have c3 := hT.cell hr
          have HT := Lib.hid hT
          have hown := hT.own
          have hsz := hT.size
          have hbz := hT.ob_lt
          have hbh := hT.base
          have hl2 : Small k := small_of (by omega)
          have hE : Hid ((rowL k mH r) ++ [mH r k] = rowL (k + 1) mH r) := by show _ = _; rw [rowL_succ]
          have hand := i64_and_nat r k (by omega) (by omega)
          have hb8 := and_lt8 r k hlk
          obtain ⟨b, hbd⟩ : ∃ b, b = r &&& k := ⟨_, rfl⟩
          rw [← hbd] at hand hb8
          have hu : IntKind.u64.wrap (b : Int) = (b : Int) := by rw [IntKind.wrap_u64]; omega
          have hON := Lib.hid (fun W => hOne.out b hb8 W)
          have hp := pop3_bd b
          obtain ⟨p, hpd⟩ : ∃ p, p = pop3 b := ⟨_, rfl⟩
          have hX : Hid (mH r k = 1 - 2 * ((p : Int) % 2)) := by show mH r k = _; unfold mH; rw [← hbd, ← hpd]; omega
          rw [← hpd] at hON hp
          have x0 : (0 : Int) ≤ (p : Int) := by omega
          have x1 : (p : Int).tmod 2 = (p : Int) % 2 := Int.tmod_eq_emod_of_nonneg (by omega)
          have x2 : IntKind.i64.wrap ((p : Int) % 2) = (p : Int) % 2 := IntWalk.i64_in _ (by omega)
          have x3 : IntKind.i64.wrap (2 * ((p : Int) % 2)) = 2 * ((p : Int) % 2) := IntWalk.i64_in _ (by omega)
          have x4 : IntKind.i64.wrap (1 - 2 * ((p : Int) % 2)) = 1 - 2 * ((p : Int) % 2) := IntWalk.i64_in _ (by omega)
          have hB := Lib.hid hb
          have HO := Lib.hid hown
          clear hT hb hown hbd hpd
          go_wp2
          go_region_law (first
            | (refine step_app_g rfl (.tmp 16) (.tmp 25) rfl v k _ rfl HO.out hsz rfl hl2 ?_; intro gg cap w1 hown1 hg1 hp1; have hf1 := (HT.out.far hg1 hr).1; have hf2 := (HT.out.far hg1 hr).2)
            | (go_simp; go_at_call 46; refine (hON.out _).mono ?_; rintro e w' ⟨rfl, rfl⟩))
          all_goals
            have own2 := hown1
            rw [← hX.out, hE.out] at own2
            have HS := Lib.hid (HT.out.step hr hg1 own2)
            have HB2 := Lib.hid ((hB.out.grown hg1 hB.out.size (fun g hg => by have := (HO.out.lt g hg).1; have := hB.out.size; omega)).setCell (p := ⟨w.heap.size, r, none⟩) (Nat.le_refl _) (.slice (some ⟨gg, 0, none⟩) (k + 1) cap))
            clear own2 hown1 hg1 hp1 hf1 hf2 x1 x2 x3 x4
            go_wp2
            go_roundw
            case rel => exact ⟨k + 1, _, by omega, by go_num, HS.out, HB2.out⟩
            case measure => simp [intOf]; omega
        · obtain rfl : k = 8 := by omega
          rcases (show r + 1 < 8 ∨ r + 1 = 8 by omega) with h4 | h4
          · have HN := Lib.hid (hT.next (by omega) h4)
            clear hT
            go_wp2
            go_roundw
            case rel => exact ⟨r + 1, by go_num, Or.inl ⟨_, h4, HN.out⟩, hb⟩
            case measure => simp [intOf]; omega
          · have HN := Lib.hid (hT.done (by omega) h4)
            clear hT
            go_wp2
            go_roundw
            case rel => exact ⟨r + 1, by go_num, Or.inr ⟨h4, HN.out⟩, hb⟩
            case measure => simp [intOf]; omega
    · have HM := Lib.hid hmx
      clear hmx
      go_wp2
      go_ret
      exact ⟨_, rfl, HM.out, hb⟩
theorem iInverse4 (A : Option Addr) (n c : Nat) (zs : List Int) (w : World) (h : RI w A n zs) (hn : n ≤ 1048576) :
    Calls Try.prog 23 #[.slice A n c] w fun e w' => ∃ A' n' c', e = .returned (.slice A' n' c') ∧ OB w' w.heap.size w'.heap.size A' n' c' (trans 4 mAT zs) ∧ Below w.heap.size w w' := by
  go_enter Try.func23, Try.ntmps23
  go_wp2_with fail
  refine (iMatrixA _).mono ?_
  rintro e w1 ⟨A1, rfl, mx, b1⟩
  go_wp2_with fail
  refine (iTurned A1 4 mA _ mx).mono ?_
  rintro e w2 ⟨A2, rfl, mx2, b2⟩
  have b02 := b1.trans (b2.mono b1.size)
  have h1 := h.below b02
  go_wp2_with fail
  refine (iProduct 4 (by omega) A2 A 4 n c mAT zs _ mx2 mAT_2 h1 hn).mono ?_
  rintro e w3 ⟨A3, n3, c3, rfl, o3, b3⟩
  go_wp2
  go_ret
  exact ⟨A3, n3, c3, rfl, o3.mono b02.size (Nat.le_refl _), b02.trans (b3.mono b02.size)⟩
theorem iForward8 (A : Option Addr) (n c : Nat) (zs : List Int) (w : World) (h : RI w A n zs) (hn : n ≤ 1048576) :
    Calls Try.prog 25 #[.slice A n c] w fun e w' => ∃ A' n' c', e = .returned (.slice A' n' c') ∧ OB w' w.heap.size w'.heap.size A' n' c' (trans 8 mH zs) ∧ Below w.heap.size w w' := by
  go_enter Try.func25, Try.ntmps25
  go_wp2_with fail
  refine (iMatrixH _).mono ?_
  rintro e w1 ⟨A1, rfl, mx, b1⟩
  have h1 := h.below b1
  go_wp2_with fail
  refine (iProduct 8 (by omega) A1 A 8 n c mH zs _ mx mH_2 h1 hn).mono ?_
  rintro e w2 ⟨A2, n2, c2, rfl, o2, b2⟩
  go_wp2
  go_ret
  exact ⟨A2, n2, c2, rfl, o2.mono b1.size (Nat.le_refl _), b1.trans (b2.mono b1.size)⟩
theorem iInverse8 (A : Option Addr) (n c : Nat) (zs : List Int) (w : World) (h : RI w A n zs) (hn : n ≤ 1048576) :
    Calls Try.prog 26 #[.slice A n c] w fun e w' => ∃ A' n' c', e = .returned (.slice A' n' c') ∧ OB w' w.heap.size w'.heap.size A' n' c' (trans 8 mH zs) ∧ Below w.heap.size w w' := by
  go_enter Try.func26, Try.ntmps26
  go_wp2_with fail
  refine (iMatrixH _).mono ?_
  rintro e w1 ⟨A1, rfl, mx, b1⟩
  have h1 := h.below b1
  go_wp2_with fail
  refine (iProduct 8 (by omega) A1 A 8 n c mH zs _ mx mH_2 h1 hn).mono ?_
  rintro e w2 ⟨A2, n2, c2, rfl, o2, b2⟩
  go_wp2
  go_ret
  exact ⟨A2, n2, c2, rfl, o2.mono b1.size (Nat.le_refl _), b1.trans (b2.mono b1.size)⟩
end Go.Proofs.Ytilfekkgoooefaa
