/-
  THE PLAIN LAW OF PAIRS: levels to pairs of a run and a level, and back. No program here. No condition.
-/
import Derived.Test.YtcjodaoeoifbcaaSide
namespace Go.Proofs.Ytcjodaoeoifbcaa
set_option linter.unusedVariables false
def prStep (st : List (Int × Int) × Int) (v : Int) : List (Int × Int) × Int := if v = 0 then (st.1, st.2 + 1) else (st.1 ++ [(st.2, v)], 0)
def prTo (zs : List Int) (k : Nat) : List (Int × Int) × Int := (zs.take k).foldl prStep ([], 0)
theorem prTo_zero (zs : List Int) : prTo zs 0 = ([], 0) := rfl
theorem prTo_succ (zs : List Int) (k : Nat) (h : k < zs.length) : prTo zs (k + 1) = prStep (prTo zs k) (zs.getD k 0) := by
  unfold prTo; rw [take_snoc_l zs k h, List.foldl_append]; rfl
theorem prTo_bd (zs : List Int) : ∀ k : Nat, k ≤ zs.length → (prTo zs k).1.length ≤ k ∧ 0 ≤ (prTo zs k).2 ∧ (prTo zs k).2 ≤ k
  | 0, _ => by simp [prTo]
  | k + 1, h => by
    have := prTo_bd zs k (by omega)
    rw [prTo_succ zs k (by omega)]
    unfold prStep
    split
    · simp only; omega
    · simp only [List.length_append, List.length_singleton]; omega
def pairsL (zs : List Int) : List (Int × Int) := (prTo zs zs.length).1
def lvOk (n at_ : Nat) (p : Int × Int) : Bool := decide (0 ≤ p.1) && decide (p.1 < (n : Int) - at_) && decide (p.2 ≠ 0) && okLev p.2
def lvRun (n : Nat) : List (Int × Int) → List Int → Nat → Option (List Int)
  | [], out, _ => some out
  | p :: ps, out, at_ => if lvOk n at_ p = true then lvRun n ps (out.set (at_ + p.1.toNat) p.2) (at_ + p.1.toNat + 1) else none

/-- Where the reading stands behind some pairs. -/
def lvAt : List (Int × Int) → Nat → Nat
  | [], a => a
  | p :: ps, a => lvAt ps (a + p.1.toNat + 1)
theorem lvRun_app (n : Nat) : ∀ (ps qs : List (Int × Int)) (out : List Int) (a : Nat), lvRun n (ps ++ qs) out a = match lvRun n ps out a with | none => none | some o => lvRun n qs o (lvAt ps a)
  | [], qs, out, a => rfl
  | p :: ps, qs, out, a => by
    simp only [List.cons_append, lvRun]
    by_cases h : lvOk n a p = true
    · rw [if_pos h, if_pos h]; exact lvRun_app n ps qs _ _
    · rw [if_neg h, if_neg h]
theorem lvAt_app : ∀ (ps qs : List (Int × Int)) (a : Nat), lvAt (ps ++ qs) a = lvAt qs (lvAt ps a)
  | [], _, _ => rfl
  | p :: ps, qs, a => by simp only [List.cons_append, lvAt]; exact lvAt_app ps qs _
/-- Reading back the pairs of the first k levels gives the first k levels, and 0 behind. -/
theorem back_to (zs : List Int) (hz : ∀ x ∈ zs, okLev x = true) : ∀ k : Nat, k ≤ zs.length →
    lvRun zs.length (prTo zs k).1 (List.replicate zs.length 0) 0 = some (zs.take k ++ List.replicate (zs.length - k) 0) ∧ (lvAt (prTo zs k).1 0 : Int) + (prTo zs k).2 = k ∧ 0 ≤ (prTo zs k).2
  | 0, _ => by simp [prTo, lvRun, lvAt]
  | k + 1, h => by
    obtain ⟨h1, h2, h3⟩ := back_to zs hz k (by omega)
    rw [prTo_succ zs k (by omega)]
    unfold prStep
    by_cases h0 : zs.getD k 0 = 0
    · rw [if_pos h0]
      simp only
      refine ⟨?_, by omega, by omega⟩
      rw [h1, take_snoc_l zs k (by omega), h0, List.append_assoc]
      congr 2
      rw [show zs.length - k = (zs.length - (k + 1)) + 1 from by omega, List.replicate_succ]; rfl
    · rw [if_neg h0]
      simp only
      have hok : okLev (zs.getD k 0) = true := hz _ (by rw [List.getD_eq_getElem?_getD, List.getElem?_eq_getElem (by omega)]; exact List.getElem_mem (by omega))
      have hlv : lvOk zs.length (lvAt (prTo zs k).1 0) ((prTo zs k).2, zs.getD k 0) = true := by
        unfold lvOk
        simp only [hok, Bool.and_true, Bool.and_eq_true, decide_eq_true_eq]
        exact ⟨⟨h3, by omega⟩, h0⟩
      have hat : lvAt (prTo zs k).1 0 + (prTo zs k).2.toNat = k := by omega
      refine ⟨?_, ?_, by omega⟩
      · rw [lvRun_app, h1]
        simp only [lvRun]
        rw [if_pos hlv, hat, take_snoc_l zs k (by omega)]
        congr 1
        rw [List.set_append_right _ _ (by rw [List.length_take]; omega), List.length_take, show k - min k zs.length = 0 from by omega, show zs.length - k = (zs.length - (k + 1)) + 1 from by omega, List.replicate_succ, List.set_cons_zero, List.append_assoc]
        rfl
      · rw [lvAt_app]
        simp only [lvAt]
        omega
theorem back (zs : List Int) (hz : ∀ x ∈ zs, okLev x = true) : lvRun zs.length (pairsL zs) (List.replicate zs.length 0) 0 = some zs := by
  have := (back_to zs hz zs.length (Nat.le_refl _)).1
  rw [List.take_length, Nat.sub_self, List.replicate_zero, List.append_nil] at this
  exact this
/-- How many levels are not 0. -/
def nz (l : List Int) : Nat := (l.filter (fun x => decide (x ≠ 0))).length
theorem pairs_len (zs : List Int) : ∀ k : Nat, k ≤ zs.length → (prTo zs k).1.length = nz (zs.take k)
  | 0, _ => by simp [prTo, nz]
  | k + 1, h => by
    have := pairs_len zs k (by omega)
    rw [prTo_succ zs k (by omega), take_snoc_l zs k (by omega)]
    unfold prStep nz at *
    rw [List.filter_append, List.length_append]
    by_cases h0 : zs.getD k 0 = 0
    · rw [if_pos h0, h0]; simpa using this
    · rw [if_neg h0]; simp only [List.length_append, this]; congr 1; rw [List.filter_cons_of_pos (by simpa using h0)]; rfl
theorem nz_set (out : List Int) (i : Nat) (v : Int) (hi : i < out.length) (h0 : out.getD i 0 = 0) (hv : v ≠ 0) : nz (out.set i v) = nz out + 1 := by
  unfold nz
  induction out generalizing i with
  | nil => simp at hi
  | cons x l ih =>
    cases i with
    | zero => 
      simp at h0; subst h0
      rw [List.set_cons_zero, List.filter_cons_of_pos (by simpa using hv), List.filter_cons_of_neg (by simp)]; rfl
    | succ i =>
      rw [List.set_cons_succ]
      have := ih i (by simpa using hi) (by simpa using h0)
      by_cases hx : x = 0
      · rw [List.filter_cons_of_neg (by simp [hx]), List.filter_cons_of_neg (by simp [hx])]; exact this
      · rw [List.filter_cons_of_pos (by simpa using hx), List.filter_cons_of_pos (by simpa using hx)]; simp only [List.length_cons, this]
/-- What is read from pairs: as many levels are not 0 as there are pairs, all in range, of the same length. -/
theorem run_nz (n : Nat) : ∀ (ps : List (Int × Int)) (out res : List Int) (a : Nat), out.length = n → (∀ j, a ≤ j → out.getD j 0 = 0) → (∀ x ∈ out, okLev x = true) → lvRun n ps out a = some res →
    res.length = n ∧ nz res = nz out + ps.length ∧ ∀ x ∈ res, okLev x = true
  | [], out, res, a, hl, hz, ho, h => by
    simp only [lvRun, Option.some.injEq] at h
    subst h
    exact ⟨hl, rfl, ho⟩
  | p :: ps, out, res, a, hl, hz, ho, h => by
    simp only [lvRun] at h
    by_cases hok : lvOk n a p = true
    · rw [if_pos hok] at h
      simp only [lvOk, Bool.and_eq_true, decide_eq_true_eq] at hok
      obtain ⟨⟨⟨o1, o2⟩, o3⟩, o4⟩ := hok
      have hi : a + p.1.toNat < out.length := by omega
      have := run_nz n ps _ res _ (by rw [List.length_set]; exact hl) (fun j hj => ?_) (fun x hx => ?_) h
      · rw [nz_set _ _ _ hi (hz _ (by omega)) o3] at this
        refine ⟨this.1, by rw [this.2.1, List.length_cons]; omega, this.2.2⟩
      · rw [List.getD_eq_getElem?_getD, List.getElem?_set_ne (by omega), ← List.getD_eq_getElem?_getD]
        exact hz j (by omega)
      · rcases List.mem_or_eq_of_mem_set hx with hx | rfl
        · exact ho x hx
        · exact o4
    · rw [if_neg hok] at h; cases h
/-- Pairs as one row of numbers. -/
def fl (ps : List (Int × Int)) : List Int := ps.flatMap (fun p => [p.1, p.2])
theorem fl_snoc (ps : List (Int × Int)) (r l : Int) : fl (ps ++ [(r, l)]) = fl ps ++ [r, l] := by unfold fl; rw [List.flatMap_append]; rfl
theorem fl_len (ps : List (Int × Int)) : (fl ps).length = ps.length * 2 := by
  induction ps with
  | nil => rfl
  | cons p ps ih => unfold fl at *; rw [List.flatMap_cons, List.length_append, ih, List.length_cons]; simp; omega
theorem prTo_hit (zs : List Int) (k : Nat) (h : k < zs.length) (h0 : ¬ zs.getD k 0 = 0) : (prTo zs (k + 1)).1 = (prTo zs k).1 ++ [((prTo zs k).2, zs.getD k 0)] ∧ (prTo zs (k + 1)).2 = 0 := by
  rw [prTo_succ zs k h]; unfold prStep; rw [if_neg h0]; exact ⟨rfl, rfl⟩
theorem prTo_miss (zs : List Int) (k : Nat) (h : k < zs.length) (h0 : zs.getD k 0 = 0) : (prTo zs (k + 1)).1 = (prTo zs k).1 ∧ (prTo zs (k + 1)).2 = (prTo zs k).2 + 1 := by
  rw [prTo_succ zs k h]; unfold prStep; rw [if_pos h0]; exact ⟨rfl, rfl⟩
def pairsF (zs : List Int) : List Int := if levelsOk zs = true then fl (pairsL zs) else []
theorem pairsF_len (zs : List Int) (h : zs.length ≤ 1000000000) : (pairsF zs).length ≤ 2000000000 := by
  unfold pairsF
  split
  · rw [fl_len]; have := (prTo_bd zs zs.length (Nat.le_refl _)).1; unfold pairsL; omega
  · simp
end Go.Proofs.Ytcjodaoeoifbcaa
