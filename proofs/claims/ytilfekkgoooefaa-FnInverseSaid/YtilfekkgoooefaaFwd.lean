/-
  The transforms of four and of eight, forward and back, the reference's: each returns 'trans'. The program's matrix of four. No condition but at most 2^20 numbers.
-/
import Derived.Test.YtilfekkgoooefaaSpec12
namespace Go.Proofs.Ytilfekkgoooefaa
open Go.ChangeShapes Go.WideShapes Go.ChangeAt Go.RowKit
set_option linter.unusedVariables false
def trans (n : Nat) (M : Nat → Nat → Int) (zs : List Int) : List Int := if fitsB zs n = true then mulL n M zs else []
theorem trans_len (n : Nat) (M : Nat → Nat → Int) (zs : List Int) (hn : n ≤ 8) : (trans n M zs).length ≤ 1000000000 := by
  unfold trans
  split
  · rw [mulL_len]
    exact Nat.le_trans (Nat.mul_le_mul hn hn) (by decide)
  · simp
theorem MX.of_owns {w : World} {B B' b n c : Nat} {T : TypeId} {vs : List Value} {M : Nat → Nat → Int} (hn : 0 < n) (ho : w.ownsRow B T 1 (.slice (some ⟨b, 0, none⟩) n c) n vs)
    (h : ∀ r, r < n → ∃ rb rc, vs[r]? = some (.slice (some ⟨rb, 0, none⟩) n rc) ∧ w.ownsRow B' 3 1 (.slice (some ⟨rb, 0, none⟩) n rc) n ((rowL n M r).map (Value.int .i64))) : MX w (some ⟨b, 0, none⟩) n M := by
  refine ⟨b, 0, rfl, (ho.lt b rfl).2, fun r hr => ?_⟩
  obtain ⟨rb, rc, h1, h2⟩ := h r hr
  refine ⟨rb, 0, rc, by rw [Nat.zero_add, ho.cellAt r (by omega)]; exact h1, (h2.lt rb rfl).2, fun i hi => ?_⟩
  rw [Nat.zero_add, h2.cellAt i (by omega), List.getElem?_map, List.getElem?_eq_getElem (by rw [rowL_len]; exact hi)]
  simp [rowL]
set_option maxRecDepth 100000 in
set_option maxHeartbeats 4000000 in
theorem iMatrixA (w : World) :
    Calls Try.prog 34 #[] w fun e w' => ∃ A', e = .returned (.slice A' 4 4) ∧ MX w' A' 4 mA ∧ Below w.heap.size w w' := by
  go_enter Try.func34, Try.ntmps34
  go_wp2
  go_ret
  refine ⟨_, rfl, ?_, by go_grown⟩
  have h0 := ((((World.ownsRow_lit (e := 3) (size := 1) (base := w.heap.size) w #[.int .i64 1, .int .i64 1, .int .i64 1, .int .i64 1] 4 (Nat.le_refl _) (by decide) rfl).alloc (.cells #[.int .i64 2, .int .i64 1, .int .i64 (-1), .int .i64 (-2)] 3)).alloc (.cells #[.int .i64 1, .int .i64 (-1), .int .i64 (-1), .int .i64 1] 3)).alloc (.cells #[.int .i64 1, .int .i64 (-2), .int .i64 2, .int .i64 (-1)] 3)).alloc (.cells #[.slice (some ⟨w.heap.size, 0, none⟩) 4 4, .slice (some ⟨w.heap.size + 1, 0, none⟩) 4 4, .slice (some ⟨w.heap.size + 2, 0, none⟩) 4 4, .slice (some ⟨w.heap.size + 3, 0, none⟩) 4 4] 31)
  have h1 := (((World.ownsRow_lit (e := 3) (size := 1) (base := w.heap.size) (w.alloc (.cells #[.int .i64 1, .int .i64 1, .int .i64 1, .int .i64 1] 3)) #[.int .i64 2, .int .i64 1, .int .i64 (-1), .int .i64 (-2)] 4 (by simp) (by decide) rfl).alloc (.cells #[.int .i64 1, .int .i64 (-1), .int .i64 (-1), .int .i64 1] 3)).alloc (.cells #[.int .i64 1, .int .i64 (-2), .int .i64 2, .int .i64 (-1)] 3)).alloc (.cells #[.slice (some ⟨w.heap.size, 0, none⟩) 4 4, .slice (some ⟨w.heap.size + 1, 0, none⟩) 4 4, .slice (some ⟨w.heap.size + 2, 0, none⟩) 4 4, .slice (some ⟨w.heap.size + 3, 0, none⟩) 4 4] 31)
  have h2 := ((World.ownsRow_lit (e := 3) (size := 1) (base := w.heap.size) ((w.alloc (.cells #[.int .i64 1, .int .i64 1, .int .i64 1, .int .i64 1] 3)).alloc (.cells #[.int .i64 2, .int .i64 1, .int .i64 (-1), .int .i64 (-2)] 3)) #[.int .i64 1, .int .i64 (-1), .int .i64 (-1), .int .i64 1] 4 (by simp; omega) (by decide) rfl).alloc (.cells #[.int .i64 1, .int .i64 (-2), .int .i64 2, .int .i64 (-1)] 3)).alloc (.cells #[.slice (some ⟨w.heap.size, 0, none⟩) 4 4, .slice (some ⟨w.heap.size + 1, 0, none⟩) 4 4, .slice (some ⟨w.heap.size + 2, 0, none⟩) 4 4, .slice (some ⟨w.heap.size + 3, 0, none⟩) 4 4] 31)
  have h3 := (World.ownsRow_lit (e := 3) (size := 1) (base := w.heap.size) (((w.alloc (.cells #[.int .i64 1, .int .i64 1, .int .i64 1, .int .i64 1] 3)).alloc (.cells #[.int .i64 2, .int .i64 1, .int .i64 (-1), .int .i64 (-2)] 3)).alloc (.cells #[.int .i64 1, .int .i64 (-1), .int .i64 (-1), .int .i64 1] 3)) #[.int .i64 1, .int .i64 (-2), .int .i64 2, .int .i64 (-1)] 4 (by simp; omega) (by decide) rfl).alloc (.cells #[.slice (some ⟨w.heap.size, 0, none⟩) 4 4, .slice (some ⟨w.heap.size + 1, 0, none⟩) 4 4, .slice (some ⟨w.heap.size + 2, 0, none⟩) 4 4, .slice (some ⟨w.heap.size + 3, 0, none⟩) 4 4] 31)
  have h4 := (World.ownsRow_lit (e := 31) (size := 1) (base := w.heap.size) ((((w.alloc (.cells #[.int .i64 1, .int .i64 1, .int .i64 1, .int .i64 1] 3)).alloc (.cells #[.int .i64 2, .int .i64 1, .int .i64 (-1), .int .i64 (-2)] 3)).alloc (.cells #[.int .i64 1, .int .i64 (-1), .int .i64 (-1), .int .i64 1] 3)).alloc (.cells #[.int .i64 1, .int .i64 (-2), .int .i64 2, .int .i64 (-1)] 3)) #[.slice (some ⟨w.heap.size, 0, none⟩) 4 4, .slice (some ⟨w.heap.size + 1, 0, none⟩) 4 4, .slice (some ⟨w.heap.size + 2, 0, none⟩) 4 4, .slice (some ⟨w.heap.size + 3, 0, none⟩) 4 4] 4 (by simp; omega) (by decide) rfl)
  simp [Nat.add_assoc] at h1 h2 h3 h4
  have e0 : (rowL 4 mA 0).map (Value.int .i64) = [.int .i64 1, .int .i64 1, .int .i64 1, .int .i64 1] := rfl
  have e1 : (rowL 4 mA 1).map (Value.int .i64) = [.int .i64 2, .int .i64 1, .int .i64 (-1), .int .i64 (-2)] := rfl
  have e2 : (rowL 4 mA 2).map (Value.int .i64) = [.int .i64 1, .int .i64 (-1), .int .i64 (-1), .int .i64 1] := rfl
  have e3 : (rowL 4 mA 3).map (Value.int .i64) = [.int .i64 1, .int .i64 (-2), .int .i64 2, .int .i64 (-1)] := rfl
  simp only [Nat.add_assoc, Nat.reduceAdd]
  refine MX.of_owns (B' := w.heap.size) (by omega) h4 (fun r hr => ?_)
  rcases (show r = 0 ∨ r = 1 ∨ r = 2 ∨ r = 3 by omega) with rfl | rfl | rfl | rfl
  · exact ⟨_, _, rfl, by rw [e0]; exact h0⟩
  · exact ⟨_, _, rfl, by rw [e1]; exact h1⟩
  · exact ⟨_, _, rfl, by rw [e2]; exact h2⟩
  · exact ⟨_, _, rfl, by rw [e3]; exact h3⟩
set_option maxRecDepth 100000 in
theorem sFits (q : Nat) (hq : q = 4 ∨ q = 8) (A : Option Addr) (n c : Nat) (zs : List Int) (w : World) (h : RI w A n zs) (hn : n ≤ 1048576) :
    Calls Try.prog 44 #[.slice A n c, .int .i64 (q : Int)] w fun e w' => e = .returned (.bool (fitsB zs q)) ∧ w = w' := by
  have hlen := h.len
  rcases hq with rfl | rfl
  all_goals
    first
      | rw [show ((4 : Nat) : Int) = 4 from rfl]
      | rw [show ((8 : Nat) : Int) = 8 from rfl]
    go_enter Try.func44, Try.ntmps44
    go_wp2
    go_loop [5] (fun i => ∃ k : Nat, k ≤ n ∧ i = .int .i64 k ∧ ∀ x ∈ zs.take k, okBig x = true) (fun i => n - (intOf i).toNat)
    case atStart => exact ⟨0, Nat.zero_le _, rfl, fun x hx => by simp at hx⟩
    case round =>
      obtain ⟨k, hk, rfl, hok⟩ := hrel
      by_cases hlt : k < n
      · obtain ⟨b, off, rfl, hbl, hc⟩ := h.at_ hlt
        have h1 := hc k hlt
        have hts : zs.take (k + 1) = zs.take k ++ [zs.getD k 0] := by
          rw [List.take_add_one, List.getElem?_eq_getElem (by omega), List.getD_eq_getElem?_getD, List.getElem?_eq_getElem (by omega)]; rfl
        have hmem : zs.getD k 0 ∈ zs := by rw [List.getD_eq_getElem?_getD, List.getElem?_eq_getElem (by omega)]; exact List.getElem_mem (by omega)
        obtain ⟨x, hx⟩ : ∃ x, x = zs.getD k 0 := ⟨_, rfl⟩
        rw [← hx] at h1 hts hmem
        by_cases hr : -1000000000 ≤ x ∧ x ≤ 1000000000
        · have hG : Hid (∀ y ∈ zs.take (k + 1), okBig y = true) := by
            show ∀ y ∈ zs.take (k + 1), okBig y = true
            intro y hy
            rw [hts] at hy
            rcases List.mem_append.1 hy with hy | hy
            · exact hok y hy
            · simp at hy; subst hy; simp [okBig, hr.1, hr.2]
          clear hok hlen hts hmem hx hc h
          go_wp2_with (first
            | (go_at_call 28; refine (sIn_yes _ _ _ _ hr).mono ?_; rintro e w' ⟨rfl, rfl⟩))
          go_round
          case rel => exact ⟨k + 1, by omega, by go_num, hG.out⟩
          case measure => simp [intOf]; omega
        · have hB : Hid (zs.all okBig = false) := by
            show zs.all okBig = false
            rw [List.all_eq_false]
            exact ⟨x, hmem, by simp [okBig]; omega⟩
          have hr' : x < -1000000000 ∨ 1000000000 < x := by omega
          clear hok hlen hts hmem hx hc h hr
          go_wp2_with (first
            | (go_at_call 28; refine (sIn_no _ _ _ _ hr').mono ?_; rintro e w' ⟨rfl, rfl⟩))
          go_ret
          exact ⟨ret_bool (by unfold fitsB; rw [hB.out]; rfl), rfl⟩
      · obtain rfl : k = n := by omega
        have hE : zs.all okBig = true := by
          rw [List.all_eq_true]
          rw [List.take_of_length_le (by omega)] at hok
          exact hok
        have hF : Hid (∀ q, fitsB zs q = decide (k = q * q)) := by
          show ∀ q, fitsB zs q = decide (k = q * q)
          intro q
          unfold fitsB
          rw [hE, hlen, Bool.true_and]
        clear hok hlen hE
        by_cases hk2 : k = 16
        · subst hk2
          go_wp2
          go_ret
          exact ⟨ret_bool (by rw [hF.out]; rfl), rfl⟩
        · by_cases hk3 : k = 64
          · subst hk3
            go_wp2
            go_ret
            exact ⟨ret_bool (by rw [hF.out]; rfl), rfl⟩
          · have e1 : ((k : Int) == 16) = false := by simp; omega
            have e2 : ((k : Int) == 64) = false := by simp; omega
            go_wp2
            go_ret
            refine ⟨ret_bool ?_, rfl⟩
            rw [hF.out]
            symm
            simp
            omega
theorem sSome (q : Nat) (hq : q = 4 ∨ q = 8) (M : Nat → Nat → Int) (back : Bool) (A : Option Addr) (n c : Nat) (zs : List Int) (w : World) (h : RI w A n zs) (hn : n ≤ 1048576)
    (hmul : ∀ W, RI W A (q * q) zs → fitsB zs q = true → Calls Try.prog 45 #[.slice A (q * q) c, .int .i64 (q : Int), .bool back] W fun e w' => ∃ A', e = .returned (.slice A' (q * q) (q * q)) ∧ OB w' W.heap.size w'.heap.size A' (q * q) (q * q) (mulL q M zs) ∧ Below W.heap.size W w') :
    Calls Try.prog 35 #[.slice A n c, .int .i64 (q : Int), .bool back] w fun e w' => ∃ A' n' c', e = .returned (.slice A' n' c') ∧ OB w' w.heap.size w'.heap.size A' n' c' (trans q M zs) ∧ Below w.heap.size w w' := by
  have hF := Lib.hid (sFits q hq A n c zs w h hn)
  have hT : Hid (trans q M zs = if fitsB zs q = true then mulL q M zs else []) := rfl
  cases hf : fitsB zs q with
  | false =>
    rw [hf] at hF hT
    clear hf hmul
    go_enter Try.func35, Try.ntmps35
    go_wp2_with fail
    refine hF.out.mono ?_
    rintro e w' ⟨rfl, rfl⟩
    go_wp2
    go_ret
    exact ⟨_, _, _, rfl, by rw [hT.out]; exact OB.new (World.ownsRow_made w #[] 0 (Nat.le_refl _) (by decide) rfl), by go_grown⟩
  | true =>
    have hl : n = q * q := by
      have := h.len
      unfold fitsB at hf
      simp only [Bool.and_eq_true, decide_eq_true_eq] at hf
      omega
    have hM := Lib.hid (hmul w (hl ▸ h) hf)
    rw [hf] at hF hT
    clear hf hmul
    subst hl
    go_enter Try.func35, Try.ntmps35
    go_wp2_with fail
    refine hF.out.mono ?_
    rintro e w' ⟨rfl, rfl⟩
    go_wp2_with fail
    refine hM.out.mono ?_
    rintro e w1 ⟨A1, rfl, o1, b1⟩
    go_wp2
    go_ret
    exact ⟨A1, _, _, rfl, by rw [hT.out]; exact o1, b1⟩
theorem sForward4 (A : Option Addr) (n c : Nat) (zs : List Int) (w : World) (h : RI w A n zs) (hn : n ≤ 1048576) :
    Calls Try.prog 20 #[.slice A n c] w fun e w' => ∃ A' n' c', e = .returned (.slice A' n' c') ∧ OB w' w.heap.size w'.heap.size A' n' c' (trans 4 mA zs) ∧ Below w.heap.size w w' := by
  have hS := Lib.hid (sSome 4 (by omega) mA false A n c zs w h hn (fun W hW hf => sMul4N A c zs W hW hf))
  go_enter Try.func20, Try.ntmps20
  go_wp2_with fail
  refine hS.out.mono ?_
  rintro e w1 ⟨A1, n1, c1, rfl, o1, b1⟩
  go_wp2
  go_ret
  exact ⟨A1, n1, c1, rfl, o1, b1⟩
theorem iProduct_out (q : Nat) (hq : q = 4 ∨ q = 8) (Am A : Option Addr) (cm n c : Nat) (zs : List Int) (w : World) (h : RI w A n zs) (hn : n ≤ 1048576) (hf : fitsB zs q = false) :
    Calls Try.prog 33 #[.slice Am q cm, .slice A n c] w fun e w' => e = .returned (.slice none 0 0) ∧ w = w' := by
  have hA := Lib.hid (iAllWithin A n c zs w h hn)
  have hlen := h.len
  unfold fitsB at hf
  rw [hlen] at hf
  rcases hq with rfl | rfl
  · by_cases hk : n = 16
    · subst hk
      have ha : zs.all okBig = false := by simpa using hf
      rw [ha] at hA
      clear hf ha hlen
      go_enter Try.func33, Try.ntmps33
      go_wp2_with fail
      refine hA.out.mono ?_
      rintro e w' ⟨rfl, rfl⟩
      go_wp2
      go_ret
      exact ⟨rfl, rfl⟩
    · have e1 : ((n : Int) != 16) = true := by simp; omega
      clear hf hlen
      go_enter Try.func33, Try.ntmps33
      go_wp2
      go_ret
      exact ⟨rfl, rfl⟩
  · by_cases hk : n = 64
    · subst hk
      have ha : zs.all okBig = false := by simpa using hf
      rw [ha] at hA
      clear hf ha hlen
      go_enter Try.func33, Try.ntmps33
      go_wp2_with fail
      refine hA.out.mono ?_
      rintro e w' ⟨rfl, rfl⟩
      go_wp2
      go_ret
      exact ⟨rfl, rfl⟩
    · have e1 : ((n : Int) != 64) = true := by simp; omega
      clear hf hlen
      go_enter Try.func33, Try.ntmps33
      go_wp2
      go_ret
      exact ⟨rfl, rfl⟩
theorem iProduct (q : Nat) (hq : q = 4 ∨ q = 8) (Am A : Option Addr) (cm n c : Nat) (M : Nat → Nat → Int) (zs : List Int) (w : World) (hX : MX w Am q M) (hM2 : M2 q M) (h : RI w A n zs) (hn : n ≤ 1048576) :
    Calls Try.prog 33 #[.slice Am q cm, .slice A n c] w fun e w' => ∃ A' n' c', e = .returned (.slice A' n' c') ∧ OB w' w.heap.size w'.heap.size A' n' c' (trans q M zs) ∧ Below w.heap.size w w' := by
  unfold trans
  cases hf : fitsB zs q with
  | false =>
    rw [if_neg (by simp)]
    exact (iProduct_out q hq Am A cm n c zs w h hn hf).mono fun e w' ⟨he, hw⟩ => ⟨none, 0, 0, he, by subst hw; exact ⟨World.ownsRow_nil _ _ _ _, fun k hk => by simp [Value.ownBlock] at hk⟩, by subst hw; exact Below.refl _ _⟩
  | true =>
    rw [if_pos rfl]
    have hl : n = q * q := by
      have := h.len
      unfold fitsB at hf
      simp only [Bool.and_eq_true, decide_eq_true_eq] at hf
      omega
    have ha : zs.all okBig = true := by
      unfold fitsB at hf
      simp only [Bool.and_eq_true, decide_eq_true_eq] at hf
      exact hf.1
    subst hl
    rcases hq with rfl | rfl
    · exact (iProduct4_in Am A cm c M zs w hX hM2 h ha).mono fun e w' ⟨A', he, o, b⟩ => ⟨A', _, _, he, o, b⟩
    · exact (iProduct8_in Am A cm c M zs w hX hM2 h ha).mono fun e w' ⟨A', he, o, b⟩ => ⟨A', _, _, he, o, b⟩
theorem iForward4 (A : Option Addr) (n c : Nat) (zs : List Int) (w : World) (h : RI w A n zs) (hn : n ≤ 1048576) :
    Calls Try.prog 19 #[.slice A n c] w fun e w' => ∃ A' n' c', e = .returned (.slice A' n' c') ∧ OB w' w.heap.size w'.heap.size A' n' c' (trans 4 mA zs) ∧ Below w.heap.size w w' := by
  go_enter Try.func19, Try.ntmps19
  go_wp2_with fail
  refine (iMatrixA _).mono ?_
  rintro e w1 ⟨A1, rfl, mx, b1⟩
  have h1 := h.below b1
  go_wp2_with fail
  refine (iProduct 4 (by omega) A1 A 4 n c mA zs _ mx mA_2 h1 hn).mono ?_
  rintro e w2 ⟨A2, n2, c2, rfl, o2, b2⟩
  go_wp2
  go_ret
  exact ⟨A2, n2, c2, rfl, o2.mono b1.size (Nat.le_refl _), b1.trans (b2.mono b1.size)⟩
end Go.Proofs.Ytilfekkgoooefaa
