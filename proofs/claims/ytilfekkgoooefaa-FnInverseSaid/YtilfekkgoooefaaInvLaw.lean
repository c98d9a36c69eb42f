/-
  THE PLAIN LAW OF THE INVERSE TRANSFORM: a square goes there and back, up to its norms. No program here. No condition but the numbers' bounds.
-/
import Derived.Test.YtilfekkgoooefaaFwd
import Derived.Test.YtilfekkgoooefaaNormAt
import Derived.Test.YtilfekkgoooefaaRounded
namespace Go.Proofs.Ytilfekkgoooefaa
set_option linter.unusedVariables false
theorem mul_at (n : Nat) (M : Nat → Nat → Int) (zs : List Int) (r k : Nat) (hr : r < n) (hk : k < n) :
    (mulL n M zs).getD (r * n + k) 0 = sumTo (fun i => sumTo (fun j => M r j * zs.getD (j * n + i) 0) n * M k i) n := by
  unfold mulL
  rw [sq_at n _ r k hr hk]
  apply sumTo_congr
  intro i hi
  show (sq n (hf n M zs)).getD (r * n + i) 0 * M k i = _
  rw [sq_at n _ r i hr hi]
  rfl
theorem mul_bd (n : Nat) (M : Nat → Nat → Int) (zs : List Int) (B : Int) (hM : M2 n M) (hz : ∀ j, j < n * n → -B ≤ zs.getD j 0 ∧ zs.getD j 0 ≤ B) (r k : Nat) (hr : r < n) (hk : k < n) :
    -((n : Int) * (2 * ((n : Int) * (2 * B)))) ≤ (mulL n M zs).getD (r * n + k) 0 ∧ (mulL n M zs).getD (r * n + k) 0 ≤ (n : Int) * (2 * ((n : Int) * (2 * B))) := by
  rw [mul_at n M zs r k hr hk]
  refine sumTo_bd _ _ n (fun i hi => ?_) n (Nat.le_refl n)
  show -(2 * ((n : Int) * (2 * B))) ≤ sumTo (fun j => M r j * zs.getD (j * n + i) 0) n * M k i ∧ sumTo (fun j => M r j * zs.getD (j * n + i) 0) n * M k i ≤ 2 * ((n : Int) * (2 * B))
  rw [Int.mul_comm (sumTo _ n) (M k i)]
  refine mul_2 _ _ _ (hM k i hk hi) ?_
  exact sumTo_bd (fun j => M r j * zs.getD (j * n + i) 0) (2 * B) n (fun j hj => mul_2 _ _ _ (hM r j hr hj) (hz _ (idx_lt n j i hj hi))) n (Nat.le_refl n)
/-- The place of a number of a square. -/
theorem idx_split (n j : Nat) (h : j < n * n) : j / n < n ∧ j % n < n ∧ j / n * n + j % n = j := by
  have hn : 0 < n := by
    rcases Nat.eq_zero_or_pos n with h0 | h0
    · subst h0; omega
    · exact h0
  exact ⟨(Nat.div_lt_iff_lt_mul hn).2 h, Nat.mod_lt _ hn, by rw [Nat.mul_comm]; exact Nat.div_add_mod j n⟩
theorem back_sq (n : Nat) (P M : Nat → Nat → Int) (d : Nat → Int) (c : Int) (hI : ∀ r b, r < n → b < n → sumTo (fun j => P r j * (d j * M j b)) n = if b = r then c else 0) (zs fs : List Int)
    (hf : ∀ j i, j < n → i < n → fs.getD (j * n + i) 0 = (mulL n M zs).getD (j * n + i) 0 * (d j * d i)) (r k : Nat) (hr : r < n) (hk : k < n) :
    (mulL n P fs).getD (r * n + k) 0 = c * c * zs.getD (r * n + k) 0 := by
  rw [mul_at n P fs r k hr hk, ← two_d n P M d c hI (fun b a => zs.getD (b * n + a) 0) r k hr hk]
  apply sumTo_congr
  intro i hi
  show sumTo (fun j => P r j * fs.getD (j * n + i) 0) n * P k i = _
  congr 1
  apply sumTo_congr
  intro j hj
  show P r j * fs.getD (j * n + i) 0 = _
  rw [hf j i hj hi, mul_at n M zs j i hj hi]
/-- The numbers of a square of four, each by its norm. -/
def nrm4 (f : List Int) (m : Nat) : List Int := (List.range m).map (fun j => f.getD j 0 * normAt 4 (j : Int))
theorem nrm4_succ (f : List Int) (m : Nat) : nrm4 f (m + 1) = nrm4 f m ++ [f.getD m 0 * normAt 4 (m : Int)] := by unfold nrm4; rw [List.range_succ, List.map_append]; rfl
theorem nrm4_len (f : List Int) (m : Nat) : (nrm4 f m).length = m := by simp [nrm4]
theorem nrm4_at (f : List Int) (m j : Nat) (h : j < m) : (nrm4 f m).getD j 0 = f.getD j 0 * normAt 4 (j : Int) := by
  rw [List.getD_eq_getElem?_getD, List.getElem?_eq_getElem (by rw [nrm4_len]; exact h)]; simp [nrm4]
theorem norm_d_ : ∀ j i : Fin 4, normAt 4 ((j.val * 4 + i.val : Nat) : Int) = dA j.val * dA i.val := by decide +kernel
theorem norm_d (j i : Nat) (hj : j < 4) (hi : i < 4) : normAt 4 ((j * 4 + i : Nat) : Int) = dA j * dA i := norm_d_ ⟨j, hj⟩ ⟨i, hi⟩
theorem norm_cases_ : ∀ j : Fin 16, normAt 4 (j.val : Int) = 100 ∨ normAt 4 (j.val : Int) = 40 ∨ normAt 4 (j.val : Int) = 16 := by decide +kernel
theorem norm_cases (j : Nat) (h : j < 16) : normAt 4 (j : Int) = 100 ∨ normAt 4 (j : Int) = 40 ∨ normAt 4 (j : Int) = 16 := norm_cases_ ⟨j, h⟩
theorem mul_norm (x y B : Int) (hx : -B ≤ x ∧ x ≤ B) (hy : y = 100 ∨ y = 40 ∨ y = 16) : -(100 * B) ≤ x * y ∧ x * y ≤ 100 * B := by
  rcases hy with rfl | rfl | rfl <;> omega
def Tiny (zs : List Int) (n : Nat) : Prop := ∀ j, j < n → -100000 < zs.getD j 0 ∧ zs.getD j 0 < 100000
theorem fits_of (zs : List Int) (n : Nat) (hl : zs.length = n * n) (h : ∀ j, j < n * n → -1000000000 ≤ zs.getD j 0 ∧ zs.getD j 0 ≤ 1000000000) : fitsB zs n = true := by
  unfold fitsB
  simp only [Bool.and_eq_true, decide_eq_true_eq, List.all_eq_true]
  refine ⟨fun x hx => ?_, hl⟩
  obtain ⟨j, hj, rfl⟩ := List.mem_iff_getElem.1 hx
  have := h j (by omega)
  rw [List.getD_eq_getElem?_getD, List.getElem?_eq_getElem hj] at this
  simp only [okBig, Bool.and_eq_true, decide_eq_true_eq]
  exact this
theorem rounded_back (d : Int) (zs fs : List Int) (hl : zs.length = fs.length) (hs : 0 < side fs.length) (hd : rndD fs.length = d) (hd2 : d = 1600 ∨ d = 64) (hz : Tiny zs fs.length) (h : ∀ j, j < fs.length → fs.getD j 0 = d * zs.getD j 0) : rounded fs = zs := by
  unfold rounded
  rw [if_pos hs, hd]
  apply List.ext_getElem
  · rw [List.length_map, hl]
  · intro j h1 h2
    rw [List.length_map] at h1
    rw [List.getElem_map]
    have e := h j h1
    have t := hz j h1
    rw [List.getD_eq_getElem?_getD, List.getD_eq_getElem?_getD, List.getElem?_eq_getElem h1, List.getElem?_eq_getElem h2] at e
    rw [List.getD_eq_getElem?_getD, List.getElem?_eq_getElem h2] at t
    simp only [Option.getD_some] at e t
    rw [e]
    unfold rnd
    rcases hd2 with rfl | rfl <;> omega
theorem inv4 (zs : List Int) (hl : zs.length = 16) (hz : Tiny zs 16) :
    fitsB (nrm4 (mulL 4 mA zs) 16) 4 = true ∧ rounded (mulL 4 mAT (nrm4 (mulL 4 mA zs) 16)) = zs := by
  have hb : ∀ j, j < 16 → -(6400000 : Int) ≤ (mulL 4 mA zs).getD j 0 ∧ (mulL 4 mA zs).getD j 0 ≤ 6400000 := by
    intro j hj
    obtain ⟨h1, h2, h3⟩ := idx_split 4 j hj
    have := mul_bd 4 mA zs 100000 mA_2 (fun j hj => by have := hz j hj; omega) (j / 4) (j % 4) h1 h2
    rw [h3] at this
    omega
  refine ⟨fits_of _ 4 (nrm4_len _ _) (fun j hj => ?_), ?_⟩
  · rw [nrm4_at _ 16 j hj]
    have := mul_norm _ _ 6400000 (hb j hj) (norm_cases j hj)
    omega
  · have hlen : (mulL 4 mAT (nrm4 (mulL 4 mA zs) 16)).length = 16 := mulL_len _ _ _
    refine rounded_back 1600 zs _ (by rw [hl, hlen]) (by rw [hlen]; decide +kernel) (by rw [hlen]; rfl) (Or.inl rfl) (by rw [hlen]; exact hz) (fun j hj => ?_)
    rw [hlen] at hj
    obtain ⟨h1, h2, h3⟩ := idx_split 4 j hj
    have := back_sq 4 mAT mA dA 40 (fun r b hr hb => idA ⟨r, hr⟩ ⟨b, hb⟩) zs (nrm4 (mulL 4 mA zs) 16) (fun a i ha hi => by rw [nrm4_at _ 16 _ (by omega), norm_d a i ha hi]) (j / 4) (j % 4) h1 h2
    rw [h3] at this
    rw [this]
    omega
theorem inv8 (zs : List Int) (hl : zs.length = 64) (hz : Tiny zs 64) :
    fitsB (mulL 8 mH zs) 8 = true ∧ rounded (mulL 8 mH (mulL 8 mH zs)) = zs := by
  have hb : ∀ j, j < 64 → -(25600000 : Int) ≤ (mulL 8 mH zs).getD j 0 ∧ (mulL 8 mH zs).getD j 0 ≤ 25600000 := by
    intro j hj
    obtain ⟨h1, h2, h3⟩ := idx_split 8 j hj
    have := mul_bd 8 mH zs 100000 mH_2 (fun j hj => by have := hz j hj; omega) (j / 8) (j % 8) h1 h2
    rw [h3] at this
    omega
  refine ⟨fits_of _ 8 (mulL_len _ _ _) (fun j hj => by have := hb j hj; omega), ?_⟩
  have hlen : (mulL 8 mH (mulL 8 mH zs)).length = 64 := mulL_len _ _ _
  refine rounded_back 64 zs _ (by rw [hl, hlen]) (by rw [hlen]; decide +kernel) (by rw [hlen]; rfl) (Or.inr rfl) (by rw [hlen]; exact hz) (fun j hj => ?_)
  rw [hlen] at hj
  obtain ⟨h1, h2, h3⟩ := idx_split 8 j hj
  have := back_sq 8 mH mH (fun _ => 1) 8 (fun r b hr hb => idH ⟨r, hr⟩ ⟨b, hb⟩) zs (mulL 8 mH zs) (fun a i ha hi => by rw [Int.mul_one, Int.mul_one]) (j / 8) (j % 8) h1 h2
  rw [h3] at this
  rw [this]
  omega
theorem trans_len4 (X : List Int) : (trans 4 mAT X).length ≤ 16 := by
  unfold trans
  split
  · rw [mulL_len]; omega
  · simp
theorem trans_len8 (X : List Int) : (trans 8 mH X).length ≤ 64 := by
  unfold trans
  split
  · rw [mulL_len]; omega
  · simp
theorem rounded_len4 (X : List Int) : (rounded (trans 4 mAT X)).length ≤ 16 := by
  have := trans_len4 X
  unfold rounded
  split
  · rw [List.length_map]; exact this
  · simp
theorem mul_big (zs : List Int) (j : Nat) (hj : j < 16) (h : trans 4 mA zs = mulL 4 mA zs) : -256000000000 ≤ (mulL 4 mA zs).getD j 0 ∧ (mulL 4 mA zs).getD j 0 ≤ 256000000000 := by
  rw [← h]
  unfold trans
  cases hf : fitsB zs 4
  · rw [if_neg (by simp), List.getD_eq_getElem?_getD]; simp
  · rw [if_pos rfl]
    obtain ⟨h1, h2, h3⟩ := idx_split 4 j hj
    have := mul_bd 4 mA zs 1000000000 mA_2 (fun j hj => fits_at hf j hj) (j / 4) (j % 4) h1 h2
    rw [h3] at this
    omega
end Go.Proofs.Ytilfekkgoooefaa
