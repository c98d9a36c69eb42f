/-
  SUMS OVER SQUARES, and that a forward and an inverse transform undo each other. No program here. No condition.
-/
import Derived.Test.YtilfekkgoooefaaBase
namespace Go.Proofs.Ytilfekkgoooefaa
set_option linter.unusedVariables false
set_option linter.unusedSimpArgs false
def sumTo (f : Nat → Int) : Nat → Int
  | 0 => 0
  | k + 1 => sumTo f k + f k
theorem sumTo_bd (f : Nat → Int) (B : Int) (n : Nat) (h : ∀ i, i < n → -B ≤ f i ∧ f i ≤ B) : ∀ k : Nat, k ≤ n → -((k : Int) * B) ≤ sumTo f k ∧ sumTo f k ≤ (k : Int) * B
  | 0, _ => by simp [sumTo]
  | k + 1, hk => by
    have h1 := sumTo_bd f B n h k (by omega)
    have h2 := h k (by omega)
    have e : ((k + 1 : Nat) : Int) * B = (k : Int) * B + B := by rw [Int.natCast_succ, Int.add_mul, Int.one_mul]
    rw [sumTo, e]
    omega
/-- The cells of a square under the summing, at row r, place k, behind i terms. -/
def accL (n : Nat) (f : Nat → Nat → Nat → Int) (r k i : Nat) : List Int :=
  (List.range (n * n)).map (fun j => if j < r * n + k then sumTo (f (j / n) (j % n)) n else if j = r * n + k then sumTo (f r k) i else 0)
theorem accL_len (n : Nat) (f : Nat → Nat → Nat → Int) (r k i : Nat) : (accL n f r k i).length = n * n := by simp [accL]
theorem accL_zero (n : Nat) (f : Nat → Nat → Nat → Int) : accL n f 0 0 0 = List.replicate (n * n) 0 := by
  unfold accL
  rw [List.eq_replicate_iff]
  refine ⟨by simp, fun b hb => ?_⟩
  obtain ⟨j, _, rfl⟩ := List.mem_map.1 hb
  rw [if_neg (by omega)]
  split <;> rfl
theorem accL_at (n : Nat) (f : Nat → Nat → Nat → Int) (r k i j : Nat) (h : j < n * n) : (accL n f r k i).getD j 0 = if j < r * n + k then sumTo (f (j / n) (j % n)) n else if j = r * n + k then sumTo (f r k) i else 0 := by
  rw [List.getD_eq_getElem?_getD, List.getElem?_eq_getElem (by rw [accL_len]; exact h)]
  simp [accL]
theorem accL_cur (n : Nat) (f : Nat → Nat → Nat → Int) (r k i : Nat) (h : r * n + k < n * n) : (accL n f r k i).getD (r * n + k) 0 = sumTo (f r k) i := by
  rw [accL_at _ _ _ _ _ _ h, if_neg (by omega), if_pos rfl]
theorem accL_step (n : Nat) (f : Nat → Nat → Nat → Int) (r k i : Nat) : (accL n f r k i).set (r * n + k) (sumTo (f r k) i + f r k i) = accL n f r k (i + 1) := by
  apply List.ext_getElem
  · rw [List.length_set, accL_len, accL_len]
  · intro j h1 h2
    rw [List.getElem_set]
    simp only [accL, List.getElem_map, List.getElem_range]
    by_cases e : r * n + k = j
    · subst e
      rw [if_pos rfl, if_neg (by omega), if_pos rfl]; rfl
    · rw [if_neg e]
      by_cases e2 : j < r * n + k
      · rw [if_pos e2, if_pos e2]
      · rw [if_neg e2, if_neg e2, if_neg (by omega), if_neg (by omega)]
theorem accL_next (n : Nat) (f : Nat → Nat → Nat → Int) (r k : Nat) (hk : k < n) : accL n f r k n = accL n f r (k + 1) 0 := by
  have e1 : (r * n + k) / n = r := by rw [Nat.add_comm, Nat.add_mul_div_right _ _ (by omega), Nat.div_eq_of_lt hk]; omega
  have e2 : (r * n + k) % n = k := by rw [Nat.add_comm, Nat.add_mul_mod_self_right, Nat.mod_eq_of_lt hk]
  unfold accL
  apply List.map_congr_left
  intro j _
  by_cases e : j < r * n + k
  · rw [if_pos e, if_pos (by omega)]
  · by_cases e3 : j = r * n + k
    · subst e3
      rw [if_neg (by omega), if_pos rfl, if_pos (by omega), e1, e2]
    · rw [if_neg e, if_neg e3, if_neg (by omega)]
      split <;> rfl
theorem accL_row (n : Nat) (f : Nat → Nat → Nat → Int) (r : Nat) : accL n f r n 0 = accL n f (r + 1) 0 0 := by
  unfold accL
  rw [show (r + 1) * n + 0 = r * n + n from by rw [Nat.add_mul]; omega]
  apply List.map_congr_left
  intro j _
  split
  · rfl
  · split <;> rfl
def sq (n : Nat) (f : Nat → Nat → Nat → Int) : List Int := accL n f n 0 0
theorem sq_at (n : Nat) (f : Nat → Nat → Nat → Int) (r k : Nat) (hr : r < n) (hk : k < n) : (sq n f).getD (r * n + k) 0 = sumTo (f r k) n := by
  have h : r * n + k < n * n := by
    have h1 : (r + 1) * n ≤ n * n := Nat.mul_le_mul_right n (by omega)
    have h2 : (r + 1) * n = r * n + n := by rw [Nat.add_mul]; omega
    omega
  have e1 : (r * n + k) / n = r := by rw [Nat.add_comm, Nat.add_mul_div_right _ _ (by omega), Nat.div_eq_of_lt hk]; omega
  have e2 : (r * n + k) % n = k := by rw [Nat.add_comm, Nat.add_mul_mod_self_right, Nat.mod_eq_of_lt hk]
  unfold sq
  rw [accL_at _ _ _ _ _ _ h, if_pos (by omega), e1, e2]
theorem sumTo_congr (f g : Nat → Int) : ∀ (n : Nat), (∀ i, i < n → f i = g i) → sumTo f n = sumTo g n
  | 0, _ => rfl
  | n + 1, h => by rw [sumTo, sumTo, sumTo_congr f g n (fun i hi => h i (by omega)), h n (by omega)]
theorem sumTo_zero : ∀ n : Nat, sumTo (fun _ => 0) n = 0
  | 0 => rfl
  | n + 1 => by rw [sumTo, sumTo_zero n]; rfl
theorem sumTo_add (f g : Nat → Int) : ∀ n : Nat, sumTo (fun i => f i + g i) n = sumTo f n + sumTo g n
  | 0 => rfl
  | n + 1 => by rw [sumTo, sumTo, sumTo, sumTo_add f g n]; omega
theorem sumTo_mul (c : Int) (f : Nat → Int) : ∀ n : Nat, sumTo (fun i => c * f i) n = c * sumTo f n
  | 0 => by simp [sumTo]
  | n + 1 => by rw [sumTo, sumTo, sumTo_mul c f n, Int.mul_add]
theorem sumTo_mulr (c : Int) (f : Nat → Int) (n : Nat) : sumTo (fun i => f i * c) n = sumTo f n * c := by
  rw [Int.mul_comm, ← sumTo_mul]; exact sumTo_congr _ _ n (fun i _ => Int.mul_comm _ _)
theorem sumTo_swap (f : Nat → Nat → Int) (m : Nat) : ∀ n : Nat, sumTo (fun i => sumTo (fun j => f i j) m) n = sumTo (fun j => sumTo (fun i => f i j) n) m
  | 0 => by simp only [sumTo]; rw [sumTo_zero]
  | n + 1 => by simp only [sumTo]; rw [sumTo_add, sumTo_swap f m n]
theorem sumTo_delta (c : Int) (v : Nat → Int) (r : Nat) : ∀ n : Nat, sumTo (fun b => (if b = r then c else 0) * v b) n = if r < n then c * v r else 0
  | 0 => by simp [sumTo]
  | n + 1 => by
    rw [sumTo, sumTo_delta c v r n]
    by_cases h : n = r
    · subst h; rw [if_neg (by omega), if_pos rfl, if_pos (by omega)]; omega
    · rw [if_neg h]
      by_cases h2 : r < n
      · rw [if_pos h2, if_pos (by omega)]; omega
      · rw [if_neg h2, if_neg (by omega)]; omega
/-- From the entries of P D M = c I: there and back on a column. -/
theorem one_d (n : Nat) (P M : Nat → Nat → Int) (d : Nat → Int) (c : Int) (hI : ∀ r b, r < n → b < n → sumTo (fun j => P r j * (d j * M j b)) n = if b = r then c else 0) (v : Nat → Int) (r : Nat) (hr : r < n) :
    sumTo (fun j => P r j * (d j * sumTo (fun b => M j b * v b) n)) n = c * v r := by
  have e1 : sumTo (fun j => P r j * (d j * sumTo (fun b => M j b * v b) n)) n = sumTo (fun j => sumTo (fun b => P r j * (d j * M j b) * v b) n) n := by
    apply sumTo_congr
    intro j _
    show P r j * (d j * sumTo (fun b => M j b * v b) n) = sumTo (fun b => P r j * (d j * M j b) * v b) n
    rw [← sumTo_mul, ← sumTo_mul]
    apply sumTo_congr
    intro b _
    simp only [Int.mul_assoc]
  rw [e1, sumTo_swap]
  have e2 : sumTo (fun b => sumTo (fun j => P r j * (d j * M j b) * v b) n) n = sumTo (fun b => (if b = r then c else 0) * v b) n := by
    apply sumTo_congr
    intro b hb
    show sumTo (fun j => P r j * (d j * M j b) * v b) n = _
    rw [sumTo_mulr (v b) (fun j => P r j * (d j * M j b)) n, hI r b hr hb]
  rw [e2, sumTo_delta, if_pos hr]
/-- There and back on a square. -/
theorem two_d (n : Nat) (P M : Nat → Nat → Int) (d : Nat → Int) (c : Int) (hI : ∀ r b, r < n → b < n → sumTo (fun j => P r j * (d j * M j b)) n = if b = r then c else 0) (X : Nat → Nat → Int) (r k : Nat) (hr : r < n) (hk : k < n) :
    sumTo (fun i => sumTo (fun j => P r j * (sumTo (fun a => sumTo (fun b => M j b * X b a) n * M i a) n * (d j * d i))) n * P k i) n = c * c * X r k := by
  have e1 : ∀ i, sumTo (fun j => P r j * (sumTo (fun a => sumTo (fun b => M j b * X b a) n * M i a) n * (d j * d i))) n = d i * sumTo (fun a => M i a * (c * X r a)) n := by
    intro i
    have s1 : sumTo (fun j => P r j * (sumTo (fun a => sumTo (fun b => M j b * X b a) n * M i a) n * (d j * d i))) n = sumTo (fun j => sumTo (fun a => (P r j * (d j * sumTo (fun b => M j b * X b a) n)) * (M i a * d i)) n) n := by
      apply sumTo_congr
      intro j _
      show P r j * (sumTo (fun a => sumTo (fun b => M j b * X b a) n * M i a) n * (d j * d i)) = _
      rw [← sumTo_mulr, ← sumTo_mul]
      apply sumTo_congr
      intro a _
      show P r j * (sumTo (fun b => M j b * X b a) n * M i a * (d j * d i)) = (P r j * (d j * sumTo (fun b => M j b * X b a) n)) * (M i a * d i)
      simp only [Int.mul_assoc, Int.mul_left_comm, Int.mul_comm]
    rw [s1, sumTo_swap, ← sumTo_mul]
    apply sumTo_congr
    intro a _
    show sumTo (fun j => (P r j * (d j * sumTo (fun b => M j b * X b a) n)) * (M i a * d i)) n = _
    rw [sumTo_mulr (M i a * d i) (fun j => P r j * (d j * sumTo (fun b => M j b * X b a) n)) n, one_d n P M d c hI (fun b => X b a) r hr]
    simp only [Int.mul_assoc, Int.mul_left_comm, Int.mul_comm]
  have e2 : sumTo (fun i => sumTo (fun j => P r j * (sumTo (fun a => sumTo (fun b => M j b * X b a) n * M i a) n * (d j * d i))) n * P k i) n = sumTo (fun i => P k i * (d i * sumTo (fun a => M i a * (c * X r a)) n)) n := by
    apply sumTo_congr
    intro i _
    show sumTo (fun j => P r j * (sumTo (fun a => sumTo (fun b => M j b * X b a) n * M i a) n * (d j * d i))) n * P k i = _
    rw [e1 i, Int.mul_comm]
  rw [e2, one_d n P M d c hI (fun a => c * X r a) k hk, Int.mul_assoc]
def mA (r i : Nat) : Int := ([[1, 1, 1, 1], [2, 1, -1, -2], [1, -1, -1, 1], [1, -2, 2, -1]].getD r []).getD i 0
def mAT (r i : Nat) : Int := mA i r
def pop3 (b : Nat) : Nat := b % 2 + b / 2 % 2 + b / 4 % 2
def mH (r k : Nat) : Int := 1 - 2 * ((pop3 (r &&& k) % 2 : Nat) : Int)
def dA (j : Nat) : Int := if j % 2 = 0 then 10 else 4
theorem idA : ∀ r b : Fin 4, sumTo (fun j => mAT r.val j * (dA j * mA j b.val)) 4 = if b.val = r.val then 40 else 0 := by decide +kernel
theorem idH : ∀ r b : Fin 8, sumTo (fun j => mH r.val j * (1 * mH j b.val)) 8 = if b.val = r.val then 8 else 0 := by decide +kernel
/-- A square times a matrix from the left, then times the matrix turned. -/
def hf (n : Nat) (M : Nat → Nat → Int) (zs : List Int) (r k i : Nat) : Int := M r i * zs.getD (i * n + k) 0
def gf (n : Nat) (M : Nat → Nat → Int) (zs : List Int) (r k i : Nat) : Int := (sq n (hf n M zs)).getD (r * n + i) 0 * M k i
def mulL (n : Nat) (M : Nat → Nat → Int) (zs : List Int) : List Int := sq n (gf n M zs)
theorem mulL_len (n : Nat) (M : Nat → Nat → Int) (zs : List Int) : (mulL n M zs).length = n * n := accL_len _ _ _ _ _
def okBig (x : Int) : Bool := decide (-1000000000 ≤ x) && decide (x ≤ 1000000000)
def fitsB (zs : List Int) (n : Nat) : Bool := zs.all okBig && decide (zs.length = n * n)
def M2 (n : Nat) (M : Nat → Nat → Int) : Prop := ∀ r i, r < n → i < n → -2 ≤ M r i ∧ M r i ≤ 2
theorem mul_2 (m x B : Int) (hm : -2 ≤ m ∧ m ≤ 2) (hx : -B ≤ x ∧ x ≤ B) : -(2 * B) ≤ m * x ∧ m * x ≤ 2 * B := by
  have hB : 0 ≤ B := by omega
  rcases (show m = -2 ∨ m = -1 ∨ m = 0 ∨ m = 1 ∨ m = 2 by omega) with rfl | rfl | rfl | rfl | rfl <;> omega
theorem idx_lt (n a b : Nat) (ha : a < n) (hb : b < n) : a * n + b < n * n := by
  have h1 : (a + 1) * n ≤ n * n := Nat.mul_le_mul_right n (by omega)
  have h2 : (a + 1) * n = a * n + n := by rw [Nat.add_mul]; omega
  omega
theorem hf_bd (n : Nat) (M : Nat → Nat → Int) (zs : List Int) (hM : M2 n M) (hz : ∀ j, j < n * n → -1000000000 ≤ zs.getD j 0 ∧ zs.getD j 0 ≤ 1000000000) (r k i : Nat) (hr : r < n) (hk : k < n) (hi : i < n) :
    -2000000000 ≤ hf n M zs r k i ∧ hf n M zs r k i ≤ 2000000000 := by
  have := mul_2 (M r i) (zs.getD (i * n + k) 0) 1000000000 (hM r i hr hi) (hz _ (idx_lt n i k hi hk))
  unfold hf
  omega
theorem hs_bd (n : Nat) (hn : n ≤ 8) (M : Nat → Nat → Int) (zs : List Int) (hM : M2 n M) (hz : ∀ j, j < n * n → -1000000000 ≤ zs.getD j 0 ∧ zs.getD j 0 ≤ 1000000000) (r k i : Nat) (hr : r < n) (hk : k < n) (hi : i ≤ n) :
    -16000000000 ≤ sumTo (hf n M zs r k) i ∧ sumTo (hf n M zs r k) i ≤ 16000000000 := by
  have := sumTo_bd (hf n M zs r k) 2000000000 n (fun j hj => hf_bd n M zs hM hz r k j hr hk hj) i hi
  have h2 : (i : Int) * 2000000000 ≤ 16000000000 := by omega
  omega
theorem gf_bd (n : Nat) (hn : n ≤ 8) (M : Nat → Nat → Int) (zs : List Int) (hM : M2 n M) (hz : ∀ j, j < n * n → -1000000000 ≤ zs.getD j 0 ∧ zs.getD j 0 ≤ 1000000000) (r k i : Nat) (hr : r < n) (hk : k < n) (hi : i < n) :
    -32000000000 ≤ gf n M zs r k i ∧ gf n M zs r k i ≤ 32000000000 := by
  have h1 := hs_bd n hn M zs hM hz r i n hr hi (Nat.le_refl n)
  have := mul_2 (M k i) (sumTo (hf n M zs r i) n) 16000000000 (hM k i hk hi) h1
  unfold gf
  rw [sq_at n _ r i hr hi, Int.mul_comm]
  omega
theorem gs_bd (n : Nat) (hn : n ≤ 8) (M : Nat → Nat → Int) (zs : List Int) (hM : M2 n M) (hz : ∀ j, j < n * n → -1000000000 ≤ zs.getD j 0 ∧ zs.getD j 0 ≤ 1000000000) (r k i : Nat) (hr : r < n) (hk : k < n) (hi : i ≤ n) :
    -256000000000 ≤ sumTo (gf n M zs r k) i ∧ sumTo (gf n M zs r k) i ≤ 256000000000 := by
  have := sumTo_bd (gf n M zs r k) 32000000000 n (fun j hj => gf_bd n hn M zs hM hz r k j hr hk hj) i hi
  have h2 : (i : Int) * 32000000000 ≤ 256000000000 := by omega
  omega
theorem fits_at {zs : List Int} {n : Nat} (h : fitsB zs n = true) (j : Nat) (hj : j < n * n) : -1000000000 ≤ zs.getD j 0 ∧ zs.getD j 0 ≤ 1000000000 := by
  unfold fitsB at h
  simp only [Bool.and_eq_true, decide_eq_true_eq] at h
  have h1 := List.all_eq_true.1 h.1 (zs.getD j 0) (by rw [List.getD_eq_getElem?_getD, List.getElem?_eq_getElem (by omega)]; exact List.getElem_mem (by omega))
  simpa [okBig] using h1
theorem mA_2 : M2 4 mA := by
  have h : ∀ r i : Fin 4, -2 ≤ mA r.val i.val ∧ mA r.val i.val ≤ 2 := by decide +kernel
  exact fun r i hr hi => h ⟨r, hr⟩ ⟨i, hi⟩
theorem mAT_2 : M2 4 mAT := fun r i hr hi => mA_2 i r hi hr
theorem mH_2 : M2 8 mH := by
  have h : ∀ r i : Fin 8, -2 ≤ mH r.val i.val ∧ mH r.val i.val ≤ 2 := by decide +kernel
  exact fun r i hr hi => h ⟨r, hr⟩ ⟨i, hi⟩
end Go.Proofs.Ytilfekkgoooefaa
