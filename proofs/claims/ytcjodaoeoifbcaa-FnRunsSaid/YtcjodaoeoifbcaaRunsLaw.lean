/-
  THE PLAIN LAW OF RUNS: levels come back from their pairs; from pairs as many levels that are not 0 as there are pairs. No program here. No condition.
-/
import Derived.Test.YtcjodaoeoifbcaaLevelsFrom
namespace Go.Proofs.Ytcjodaoeoifbcaa
set_option linter.unusedVariables false
theorem fl_cons (p : Int × Int) (ps : List (Int × Int)) : fl (p :: ps) = p.1 :: p.2 :: fl ps := by unfold fl; rw [List.flatMap_cons]; rfl
theorem fl_get : ∀ (ps : List (Int × Int)) (i : Nat) (h : i < ps.length), (fl ps).getD (i * 2) 0 = (ps[i]'h).1 ∧ (fl ps).getD (i * 2 + 1) 0 = (ps[i]'h).2
  | p :: ps, 0, h => by rw [fl_cons]; exact ⟨rfl, rfl⟩
  | p :: ps, i + 1, h => by
    have := fl_get ps i (by simpa using h)
    rw [fl_cons, show (i + 1) * 2 = i * 2 + 1 + 1 from by omega]
    simp only [List.getD_cons_succ, List.getElem_cons_succ]
    exact this
theorem un_fl (ps : List (Int × Int)) : un (fl ps) ps.length = ps := by
  apply List.ext_getElem
  · rw [un_len]
  · intro i h1 h2
    obtain ⟨e1, e2⟩ := fl_get ps i h2
    simp only [un, List.getElem_map, List.getElem_range]
    rw [e1, e2]
theorem levelsOk_parts {zs : List Int} (h : levelsOk zs = true) : (∀ x ∈ zs, okLev x = true) ∧ (zs.length = 16 ∨ zs.length = 64) := by
  unfold levelsOk at h
  simp only [Bool.and_eq_true, decide_eq_true_eq, List.all_eq_true] at h
  refine ⟨h.1, ?_⟩
  have h2 := h.2
  unfold side at h2
  split at h2
  · omega
  · split at h2
    · omega
    · omega
theorem pairsF_half (zs : List Int) : (pairsF zs).length ≤ zs.length * 2 := by
  unfold pairsF
  split
  · rw [fl_len]; have := (prTo_bd zs zs.length (Nat.le_refl _)).1; unfold pairsL; omega
  · simp
theorem runs_back (zs : List Int) (m : Nat) (h : levelsOk zs = true) (hm : (pairsF zs).length = m * 2) : lvRes (pairsF zs) m (zs.length : Int) = some zs := by
  obtain ⟨h1, h2⟩ := levelsOk_parts h
  unfold pairsF at hm ⊢
  rw [if_pos h] at hm ⊢
  rw [fl_len] at hm
  obtain rfl : m = (pairsL zs).length := by omega
  unfold lvRes
  rw [if_pos (by omega), Int.toNat_natCast, un_fl]
  exact back zs h1
theorem runs_none (zs : List Int) (m : Nat) (h : levelsOk zs = false) (hm : (pairsF zs).length = m * 2) : m = 0 := by
  unfold pairsF at hm
  rw [h] at hm
  simp at hm; omega
theorem runs_len (ps l : List Int) (m k : Nat) (n : Int) (h : lvRes ps m n = some l) (hk : (pairsF l).length = k * 2) : k = m := by
  unfold lvRes at h
  split at h
  · rename_i hn
    have := run_nz n.toNat _ _ _ _ (by simp) (fun j _ => ?_) (fun x hx => ?_) h
    · obtain ⟨h1, h2, h3⟩ := this
      have h0 : nz (List.replicate n.toNat 0) = 0 := by unfold nz; rw [List.filter_replicate]; simp
      rw [un_len, h0] at h2
      have hok : levelsOk l = true := by
        unfold levelsOk
        simp only [Bool.and_eq_true, decide_eq_true_eq, List.all_eq_true]
        refine ⟨h3, ?_⟩
        rw [h1]
        unfold side
        rcases hn with rfl | rfl <;> decide
      unfold pairsF at hk
      rw [if_pos hok, fl_len] at hk
      have := pairs_len l l.length (Nat.le_refl _)
      rw [List.take_length] at this
      have e : (pairsL l).length = nz l := this
      omega
    · rw [List.getD_eq_getElem?_getD, List.getElem?_replicate]; split <;> rfl
    · rw [List.eq_of_mem_replicate hx]; decide
  · cases h
theorem lvRes_len (ps l : List Int) (m : Nat) (n : Int) (h : lvRes ps m n = some l) : l.length ≤ 64 := by
  unfold lvRes at h
  split at h
  · rename_i hn
    have := lvRun_len _ _ _ _ _ h
    rw [List.length_replicate] at this
    omega
  · cases h
end Go.Proofs.Ytcjodaoeoifbcaa
