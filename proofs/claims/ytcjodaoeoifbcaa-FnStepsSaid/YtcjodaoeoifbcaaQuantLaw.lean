/-
  THE QUANTIZER'S PLAIN LAW. No program here. No condition.
-/
import Derived.Test.YtcjodaoeoifbcaaBase
namespace Go.Proofs.Ytcjodaoeoifbcaa
set_option linter.unusedVariables false
def clampM (v : Int) : Int := max (-1000000) (min v 1000000)
def nearP (u s : Int) : Int := (2 * u + s) / (2 * s)
def near (v s : Int) : Int := if v < 0 then -(nearP (-v) s) else nearP v s
def quant (s v : Int) : Int := max (-16383) (min (near (clampM v) s) 16383)
theorem nearP_bd (u s : Int) (hu : 0 ≤ u) (hu1 : u ≤ 1000000) (hs : 1 ≤ s) (hs1 : s ≤ 1000) : 0 ≤ nearP u s ∧ nearP u s ≤ 2000000000 := by
  unfold nearP
  refine ⟨Int.ediv_nonneg (by omega) (by omega), ?_⟩
  exact Int.le_trans (Int.ediv_le_self _ (by omega)) (by omega)
theorem nearP_mul (u s : Int) (hs : 1 ≤ s) : 2 * (nearP u s * s) ≤ 2 * u + s ∧ 2 * u + s < 2 * (nearP u s * s) + 2 * s := by
  have h1 := Int.mul_ediv_add_emod (2 * u + s) (2 * s)
  have h2 := Int.emod_nonneg (2 * u + s) (show 2 * s ≠ 0 by omega)
  have h3 := Int.emod_lt_of_pos (2 * u + s) (show 0 < 2 * s by omega)
  have h4 : 2 * s * ((2 * u + s) / (2 * s)) = 2 * (nearP u s * s) := by unfold nearP; rw [Int.mul_assoc, Int.mul_comm s]
  omega
theorem near_mul (v s : Int) (hs : 1 ≤ s) : -s ≤ 2 * (near v s * s) - 2 * v ∧ 2 * (near v s * s) - 2 * v ≤ s ∧ (0 ≤ v → -s < 2 * (near v s * s) - 2 * v) ∧ (v < 0 → 2 * (near v s * s) - 2 * v < s) := by
  unfold near
  split
  · have := nearP_mul (-v) s hs
    rw [Int.neg_mul]
    omega
  · have := nearP_mul v s hs
    omega
/-- What the law asks of one quantized number. -/
theorem quant_ok (s v : Int) (hs : 1 ≤ s) (hs1 : s ≤ 1000) (he : s ≤ 13 ∨ s % 2 = 0) (hv : -1000001 ≤ v ∧ v ≤ 1000001) (h1 : quant s v < 16383) (h2 : -16383 < quant s v) :
    ¬ (s < 2 * (quant s v * s - v)) ∧ ¬ (2 * (quant s v * s - v) < -s) := by
  have hq : quant s v = near (clampM v) s := by unfold quant at *; omega
  have hm := near_mul (clampM v) s hs
  rw [hq] at h1 h2 ⊢
  by_cases hb : -1000000 ≤ v ∧ v ≤ 1000000
  · have hc : clampM v = v := by unfold clampM; omega
    rw [hc] at hm ⊢
    omega
  · have h3 : 13 < s := by
      rcases Int.lt_or_le 13 s with h | h
      · exact h
      · exfalso
        have hp : near (clampM v) s * s ≤ 16382 * 13 ∧ -(16382 * 13) ≤ near (clampM v) s * s := by
          have a1 : near (clampM v) s ≤ 16382 := by omega
          have a2 : -16382 ≤ near (clampM v) s := by omega
          constructor
          · calc near (clampM v) s * s ≤ 16382 * s := Int.mul_le_mul_of_nonneg_right a1 (by omega)
              _ ≤ 16382 * 13 := by omega
          · have : -16382 * s ≤ near (clampM v) s * s := Int.mul_le_mul_of_nonneg_right a2 (by omega)
            omega
        have : clampM v = 1000000 ∨ clampM v = -1000000 := by unfold clampM; omega
        omega
    have he2 : s % 2 = 0 := by omega
    have : clampM v = 1000000 ∧ v = 1000001 ∨ clampM v = -1000000 ∧ v = -1000001 := by unfold clampM; omega
    obtain ⟨p, hp⟩ : ∃ p, p = near (clampM v) s * s := ⟨_, rfl⟩
    rw [← hp] at hm ⊢
    omega
def quantized (zs : List Int) (st side : Int) : List Int := if 0 < side ∧ 0 < st then zs.map (quant st) else []
theorem quantized_len (zs : List Int) (st side : Int) (h : zs.length ≤ 1000000000) : (quantized zs st side).length ≤ 1000000000 := by
  unfold quantized
  split
  · rw [List.length_map]; exact h
  · simp
theorem near_bd (v s : Int) (hv : -1000000 ≤ v ∧ v ≤ 1000000) (hs : 1 ≤ s) (hs1 : s ≤ 1000) : -2000000000 ≤ near v s ∧ near v s ≤ 2000000000 := by
  unfold near
  split
  · have := nearP_bd (-v) s (by omega) (by omega) hs hs1; omega
  · have := nearP_bd v s (by omega) (by omega) hs hs1; omega
theorem clamp_if (x : Int) : (if -1000000 < (if x < 1000000 then x else 1000000) then (if x < 1000000 then x else 1000000) else -1000000) = clampM x := by unfold clampM; omega
theorem lim_if3 (y : Int) : (if -16383 < (if y < 16383 then y else 16383) then (if y < 16383 then y else 16383) else -16383) = max (-16383) (min y 16383) := by omega
end Go.Proofs.Ytcjodaoeoifbcaa
