/-
  THE SCAN'S PLAIN LAW: the order of the places by diagonals, that it takes each place once, and that placing undoes scanning. No program here. No condition.
-/
import Derived.Test.YtcjodaoeoifbcaaBase
namespace Go.Proofs.Ytcjodaoeoifbcaa
set_option linter.unusedVariables false
def spot (n d i : Nat) : List Int :=
  let x : Int := if d % 2 = 0 then (d : Int) - i else i
  let y : Int := (d : Int) - x
  if x < n ∧ y < n then [y * n + x] else []
def diag (n d k : Nat) : List Int := (List.range k).flatMap (spot n d)
def scanTo (n d : Nat) : List Int := (List.range d).flatMap (fun e => diag n e (e + 1))
def scan (s : Int) : List Int := if s = 4 then scanTo 4 7 else if s = 8 then scanTo 8 15 else []
/-- The number at place k of the scan, as a natural number. -/
def scanAt (s : Int) (k : Nat) : Nat := ((scan s).getD k 0).toNat
theorem scan4_len : (scan 4).length = 16 := by decide +kernel
theorem scan8_len : (scan 8).length = 64 := by decide +kernel
theorem scanAt4 : ∀ k : Fin 16, (scan 4).getD k.val 0 = (scanAt 4 k.val : Nat) ∧ scanAt 4 k.val < 16 := by decide +kernel
theorem scanAt8 : ∀ k : Fin 64, (scan 8).getD k.val 0 = (scanAt 8 k.val : Nat) ∧ scanAt 8 k.val < 64 := by decide +kernel
theorem scanInj4 : ∀ k j : Fin 16, scanAt 4 k.val = scanAt 4 j.val → k = j := by decide +kernel
theorem scanInj8 : ∀ k j : Fin 64, scanAt 8 k.val = scanAt 8 j.val → k = j := by decide +kernel
theorem scanOn4 : ∀ j : Fin 16, ∃ k : Fin 16, scanAt 4 k.val = j.val := by decide +kernel
theorem scanOn8 : ∀ j : Fin 64, ∃ k : Fin 64, scanAt 8 k.val = j.val := by decide +kernel
theorem scan_out (s : Int) (h4 : ¬ s = 4) (h8 : ¬ s = 8) : scan s = [] := by unfold scan; rw [if_neg h4, if_neg h8]
/-- What a square of m places with scan places p must have. -/
structure Perm (m : Nat) (p : Nat → Nat) : Prop where
  lt : ∀ k, k < m → p k < m
  inj : ∀ k j, k < m → j < m → p k = p j → k = j
  on : ∀ j, j < m → ∃ k, k < m ∧ p k = j
theorem perm4 : Perm 16 (scanAt 4) := ⟨fun k h => (scanAt4 ⟨k, h⟩).2, fun k j h1 h2 e => by have := scanInj4 ⟨k, h1⟩ ⟨j, h2⟩ e; exact Fin.mk.inj this, fun j h => by obtain ⟨k, e⟩ := scanOn4 ⟨j, h⟩; exact ⟨k.val, k.isLt, e⟩⟩
theorem perm8 : Perm 64 (scanAt 8) := ⟨fun k h => (scanAt8 ⟨k, h⟩).2, fun k j h1 h2 e => by have := scanInj8 ⟨k, h1⟩ ⟨j, h2⟩ e; exact Fin.mk.inj this, fun j h => by obtain ⟨k, e⟩ := scanOn8 ⟨j, h⟩; exact ⟨k.val, k.isLt, e⟩⟩
def scnTo (zs : List Int) (p : Nat → Nat) (k : Nat) : List Int := (List.range k).map (fun j => zs.getD (p j) 0)
theorem scnTo_succ (zs : List Int) (p : Nat → Nat) (k : Nat) : scnTo zs p (k + 1) = scnTo zs p k ++ [zs.getD (p k) 0] := by
  unfold scnTo; rw [List.range_succ, List.map_append]; rfl
theorem scnTo_len (zs : List Int) (p : Nat → Nat) (k : Nat) : (scnTo zs p k).length = k := by simp [scnTo]
def plcTo (zs : List Int) (p : Nat → Nat) (m : Nat) : Nat → List Int
  | 0 => List.replicate m 0
  | k + 1 => (plcTo zs p m k).set (p k) (zs.getD k 0)
theorem plcTo_len (zs : List Int) (p : Nat → Nat) (m : Nat) : ∀ k, (plcTo zs p m k).length = m
  | 0 => by simp [plcTo]
  | k + 1 => by rw [plcTo, List.length_set]; exact plcTo_len zs p m k
theorem scnTo_at (zs : List Int) (p : Nat → Nat) (m k : Nat) (h : k < m) : (scnTo zs p m).getD k 0 = zs.getD (p k) 0 := by
  rw [List.getD_eq_getElem?_getD, List.getElem?_eq_getElem (by rw [scnTo_len]; exact h)]; simp [scnTo]
theorem plcTo_at (zs : List Int) (p : Nat → Nat) (m : Nat) (hp : Perm m p) (j : Nat) (hj : j < m) : ∀ k, k ≤ m → j < k → (plcTo zs p m k).getD (p j) 0 = zs.getD j 0
  | 0, _, h => by omega
  | k + 1, hk, h => by
    rw [plcTo, List.getD_eq_getElem?_getD]
    by_cases e : k = j
    · subst e; rw [List.getElem?_set_self (by rw [plcTo_len]; exact hp.lt k hj)]; rfl
    · rw [List.getElem?_set_ne (fun e2 => e (hp.inj k j (by omega) hj e2)), ← List.getD_eq_getElem?_getD]
      exact plcTo_at zs p m hp j hj k (by omega) (by omega)
theorem ext_getD (a b : List Int) (m : Nat) (ha : a.length = m) (hb : b.length = m) (h : ∀ j, j < m → a.getD j 0 = b.getD j 0) : a = b := by
  apply List.ext_getElem (by omega)
  intro j h1 h2
  have := h j (by omega)
  rw [List.getD_eq_getElem?_getD, List.getD_eq_getElem?_getD, List.getElem?_eq_getElem h1, List.getElem?_eq_getElem h2] at this
  exact this
theorem plc_scn (zs : List Int) (p : Nat → Nat) (m : Nat) (hp : Perm m p) (hz : zs.length = m) : plcTo (scnTo zs p m) p m m = zs := by
  apply ext_getD _ _ m (plcTo_len _ _ _ _) hz
  intro j hj
  obtain ⟨k, hk, rfl⟩ := hp.on j hj
  rw [plcTo_at _ p m hp k hk m (Nat.le_refl _) hk, scnTo_at _ _ _ _ hk]
theorem scn_plc (zs : List Int) (p : Nat → Nat) (m : Nat) (hp : Perm m p) (hz : zs.length = m) : scnTo (plcTo zs p m m) p m = zs := by
  apply ext_getD _ _ m (scnTo_len _ _ _) hz
  intro j hj
  rw [scnTo_at _ _ _ _ hj, plcTo_at _ p m hp j hj m (Nat.le_refl _) hj]
theorem diag_succ (n d k : Nat) : diag n d (k + 1) = diag n d k ++ spot n d k := by
  unfold diag; rw [List.range_succ, List.flatMap_append]; simp
theorem scanTo_succ (n d : Nat) : scanTo n (d + 1) = scanTo n d ++ diag n d (d + 1) := by
  unfold scanTo; rw [List.range_succ, List.flatMap_append]; simp
theorem spot_hit (n d k : Nat) (x y : Int) (hx : x = if d % 2 = 0 then (d : Int) - k else k) (hy : y = d - x) (h1 : x < n) (h2 : y < n) : spot n d k = [y * n + x] := by
  subst hx hy; unfold spot; simp only; rw [if_pos ⟨h1, h2⟩]
theorem spot_miss (n d k : Nat) (x y : Int) (hx : x = if d % 2 = 0 then (d : Int) - k else k) (hy : y = d - x) (h : ¬ (x < n ∧ y < n)) : spot n d k = [] := by
  subst hx hy; unfold spot; simp only; rw [if_neg h]
theorem scan_of (n : Nat) (h : n = 4 ∨ n = 8) : scan (n : Int) = scanTo n (2 * n - 1) := by
  rcases h with rfl | rfl <;> rfl
theorem mul_bd8 (a b : Int) (h0 : 0 ≤ a) (h1 : a ≤ 8) (k0 : 0 ≤ b) (k1 : b ≤ 8) : 0 ≤ a * b ∧ a * b ≤ 64 := by
  refine ⟨Int.mul_nonneg h0 k0, ?_⟩
  exact Int.le_trans (Int.mul_le_mul_of_nonneg_right h1 k0) (by omega)
theorem scan_le (s : Int) : (scan s).length ≤ 1000000000 := by
  by_cases h4 : s = 4
  · subst h4; rw [scan4_len]; omega
  · by_cases h8 : s = 8
    · subst h8; rw [scan8_len]; omega
    · rw [scan_out s h4 h8]; simp
end Go.Proofs.Ytcjodaoeoifbcaa
