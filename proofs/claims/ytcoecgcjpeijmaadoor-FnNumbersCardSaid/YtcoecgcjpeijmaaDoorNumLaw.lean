/-
  THE PLAIN LAW OF NUMBERS: what is made of a number is read as it, whatever stands behind. No program here. No condition.
-/
import Derived.Test.YtcoecgcjpeijmaaDoorReadVarPlain
import Derived.Test.YtcoecgcjpeijmaaDoorFixed
import Derived.Test.YtcoecgcjpeijmaaDoorUnhex
namespace Go.Proofs.YtcoecgcjpeijmaaDoor
set_option linter.unusedVariables false
theorem at_toList (s : ByteArray) (i : Nat) (h : i < s.size) (l : List UInt8) (e : s.data.toList = l) (hl : i < l.length) : s[i]'h = l[i]'hl := by subst e; rfl
theorem bs_data (l : List Int) : (bs l).data.toList = l.map (fun n => UInt8.ofNat n.toNat) := by simp [bs]
theorem bs_app_data (l : List Int) (t : ByteArray) : (bs l ++ t).data.toList = l.map (fun n => UInt8.ofNat n.toNat) ++ t.data.toList := by
  rw [show (bs l ++ t).data = (bs l).data ++ t.data from ByteArray.data_append .., Array.toList_append, bs_data]
theorem leN_varL : ∀ m n : Nat, n ≤ m → leN ((varL n).map (fun n => UInt8.ofNat n.toNat)) = n
  | m, n, h => by
    by_cases h1 : n < 128
    · rw [varL_low n h1]
      simp only [List.map_cons, List.map_nil, leN, Int.toNat_natCast, UInt8.toNat_ofNat']
      omega
    · cases m with
      | zero => omega
      | succ m =>
        rw [varL_high n h1]
        simp only [List.map_cons, leN]
        rw [leN_varL m (n / 128) (by omega), UInt8.toNat_ofNat']
        omega
theorem u8_of (x : Int) (h0 : 0 ≤ x) (h1 : x ≤ 255) : ((UInt8.ofNat x.toNat).toNat : Int) = x := by rw [UInt8.toNat_ofNat']; omega
theorem readVar_var (n : Nat) (hn : n ≤ 562949953421311) (t : ByteArray) : readVar (bs (varL n) ++ t) = (n, (varL n).length) := by
  obtain ⟨pre, last, e, hp, hl0, hl1⟩ := varL_shape n n (Nat.le_refl _)
  have h7 := varL_len7 n hn
  have hlen : (varL n).length = pre.length + 1 := by rw [e]; simp
  have hd := bs_app_data (varL n) t
  have hsz : (bs (varL n) ++ t).size = (varL n).length + t.size := by
    have := congrArg List.length hd
    simp only [List.length_append, List.length_map, Array.length_toList] at this
    exact this
  have hel : ∀ j (hj : j < (varL n).length) (hj2 : j < (bs (varL n) ++ t).size), ((bs (varL n) ++ t)[j]'hj2) = UInt8.ofNat (((varL n)[j]'hj).toNat) := by
    intro j hj hj2
    rw [at_toList _ j hj2 _ hd (by simp; omega), List.getElem_append_left (by simpa using hj), List.getElem_map]
  have hle : leD (bs (varL n) ++ t) (pre.length + 1) 0 = n := by
    unfold leD
    rw [hd, List.drop_zero, List.take_left' (by simp [hlen]), leN_varL n n (Nat.le_refl _)]
  have hchk : chk (bs (varL n) ++ t) (pre.length + 1) = true := by
    rw [chk_iff _ _ (by omega), hle, hd, List.take_left' (by simp [hlen])]
  rw [readVar_low (bs (varL n) ++ t) pre.length (by omega) (by omega) ?_ ?_, if_pos hchk, hle, hlen]
  · rw [hel pre.length (by omega) _]
    have : (varL n)[pre.length]'(by omega) = last := by simp [e]
    rw [this, UInt8.toNat_ofNat']
    omega
  · intro j hj
    rw [hel j (by omega) _]
    have h1 : (varL n)[j]'(by omega) = pre[j]'hj := by simp [e, List.getElem_append_left hj]
    rw [h1, UInt8.toNat_ofNat']
    have := hp _ (List.getElem_mem hj)
    omega
theorem readVarF_back (s : ByteArray) : ∀ (f k : Nat), 0 < k → 0 < (readVarF s f k).2 → k ≤ (readVarF s f k).2 ∧ (readVarF s f k).2 < k + f ∧ (readVarF s f k).2 ≤ s.size ∧ chk s (readVarF s f k).2 = true ∧ (readVarF s f k).1 = leD s (readVarF s f k).2 0
  | 0, k, _, h => by simp [readVarF] at h
  | f + 1, k, h0, h => by
    unfold readVarF at h ⊢
    by_cases hk : k ≤ s.size
    · rw [if_pos hk] at h ⊢
      by_cases hc : chk s k = true
      · rw [if_pos hc] at h ⊢; exact ⟨Nat.le_refl _, by simp only; omega, hk, hc, rfl⟩
      · rw [if_neg hc] at h ⊢
        obtain ⟨h1, h2, h3⟩ := readVarF_back s f (k + 1) (by omega) h
        exact ⟨by omega, by omega, h3⟩
    · rw [if_neg hk] at h; simp at h
theorem readVar_back (s : ByteArray) (h : 0 < (readVar s).2) : (readVar s).2 ≤ s.size ∧ chk s (readVar s).2 = true ∧ (readVar s).1 = leD s (readVar s).2 0 := by
  have := readVarF_back s 7 1 (by omega) h
  exact ⟨this.2.2.1, this.2.2.2.1, this.2.2.2.2⟩
/-- Fixed at seven bytes. -/
theorem readN_fix (n : Int) (h0 : 0 ≤ n) (h1 : n < 72057594037927936) : readN ((fixL n 7).map (fun n => UInt8.ofNat n.toNat)) = n := by
  have hb : ∀ i, ((UInt8.ofNat (fixB n i).toNat).toNat : Int) = fixB n i := fun i => by
    have h1 := Int.emod_nonneg (n / 256 ^ i) (b := 256) (by omega)
    have h2 := Int.emod_lt_of_pos (n / 256 ^ i) (b := 256) (by omega)
    exact u8_of _ h1 (by unfold fixB; omega)
  simp only [fixL_succ, List.map_cons, readN, List.foldl_cons, hb]
  have e0 : fixL n 0 = [] := rfl
  rw [e0]
  simp only [List.map_nil, List.foldl_nil]
  unfold fixB
  rw [show (256 : Int) ^ 6 = 281474976710656 from by decide, show (256 : Int) ^ 5 = 1099511627776 from by decide, show (256 : Int) ^ 4 = 4294967296 from by decide, show (256 : Int) ^ 3 = 16777216 from by decide, show (256 : Int) ^ 2 = 65536 from by decide, show (256 : Int) ^ 1 = 256 from by decide, show (256 : Int) ^ 0 = 1 from by decide]
  omega
theorem readFixed_fix (n : Int) (h0 : 0 ≤ n) (h1 : n < 72057594037927936) (t : ByteArray) : readFixed (bs (fixL n 7) ++ t) 7 = (n, true) := by
  have hd := bs_app_data (fixL n 7) t
  have hsz : (bs (fixL n 7) ++ t).size = 7 + t.size := by
    have := congrArg List.length hd
    simp only [List.length_append, List.length_map, Array.length_toList, fixL_length] at this
    exact this
  unfold readFixed
  rw [if_pos ⟨by omega, by omega, by rw [hsz]; omega⟩, hd]
  rw [show (7 : Int).toNat = 7 from rfl, List.take_left' (by simp [fixL_length]), readN_fix n h0 h1]
theorem fixedOf7 (n : Int) : (fixedOf n 7 = fixL n 7 ∧ 0 ≤ n ∧ n < 72057594037927936) ∨ (fixedOf n 7 = [] ∧ (n < 0 ∨ 72057594037927936 ≤ n)) := by
  unfold fixedOf
  have e : (256 : Int) ^ (7 : Int).toNat = 72057594037927936 := by decide
  rw [e]
  by_cases h : 0 ≤ n ∧ n < 72057594037927936
  · left
    rw [if_pos ⟨by omega, by omega, h.1, by omega⟩]
    exact ⟨rfl, h⟩
  · right
    rw [if_neg (by omega)]
    exact ⟨rfl, by omega⟩
/-! ### hexadecimal -/
theorem hexL_len (l : List UInt8) : (hexL l).length = 2 * l.length := by
  induction l with
  | nil => rfl
  | cons b l ih => simp only [hexL, List.length_cons, ih]; omega
theorem hexL_get : ∀ (l : List UInt8) (k : Nat) (h : k < l.length), (hexL l).getD (2 * k) 0 = hexd ((l[k]'h).toNat / 16) ∧ (hexL l).getD (2 * k + 1) 0 = hexd ((l[k]'h).toNat % 16)
  | b :: l, 0, h => ⟨rfl, rfl⟩
  | b :: l, k + 1, h => by
    have := hexL_get l k (by simpa using h)
    rw [show 2 * (k + 1) = 2 * k + 1 + 1 from by omega]
    simp only [hexL, List.getD_cons_succ, List.getElem_cons_succ]
    exact this
theorem hexd_u8_ : ∀ k : Fin 16, ((UInt8.ofNat (hexd k.val).toNat).toNat : Int) = hexd k.val := by decide +kernel
theorem hexd_u8 (k : Nat) (h : k < 16) : ((UInt8.ofNat (hexd k).toNat).toNat : Int) = hexd k := hexd_u8_ ⟨k, h⟩
theorem bs_getD (l : List Int) (i : Nat) (h : i < l.length) : (bs l).data.toList.getD i 0 = UInt8.ofNat (l.getD i 0).toNat := by
  rw [bs_data, List.getD_eq_getElem?_getD, List.getElem?_map, List.getElem?_eq_getElem h, List.getD_eq_getElem?_getD, List.getElem?_eq_getElem h]
  rfl
theorem unhTo_hex (l : List UInt8) : ∀ k : Nat, k ≤ l.length → unhTo (bs (hexL l)) k = some ((l.take k).map (fun b => (b.toNat : Int)))
  | 0, _ => rfl
  | k + 1, h => by
    obtain ⟨e1, e2⟩ := hexL_get l k (by omega)
    have hl := hexL_len l
    have hb := (l[k]'(by omega)).toNat_lt
    unfold unhTo
    rw [unhTo_hex l k (by omega)]
    simp only
    rw [bs_getD _ _ (by omega), bs_getD _ _ (by omega), e1, e2, hexd_u8 _ (by omega), hexd_u8 _ (by omega), dig_hexd _ (by omega), dig_hexd _ (by omega), if_neg (by omega), List.take_add_one, List.getElem?_eq_getElem (by omega), List.map_append]
    congr 2
    simp only [Option.toList_some, List.map_cons, List.map_nil, List.cons.injEq, and_true]
    omega
theorem unhex_hex (s : ByteArray) : unhS (unhex (bs (hexL s.data.toList))) = s ∧ (unhex (bs (hexL s.data.toList))).isSome = true := by
  have hsz : (bs (hexL s.data.toList)).size = 2 * s.data.toList.length := by rw [bs_size, hexL_len]
  have e : unhex (bs (hexL s.data.toList)) = some (s.data.toList.map (fun b => (b.toNat : Int))) := by
    unfold unhex
    rw [if_neg (by omega), hsz, show 2 * s.data.toList.length / 2 = s.data.toList.length from by omega, unhTo_hex _ _ (Nat.le_refl _), List.take_length]
  rw [e]
  refine ⟨?_, rfl⟩
  obtain ⟨d⟩ := s
  show bs _ = _
  unfold bs
  congr 1
  apply Array.ext
  · simp
  · intro i h1 h2
    simp
end Go.Proofs.YtcoecgcjpeijmaaDoor
