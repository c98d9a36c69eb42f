/-
  BytesOf, the reference's and the program's: both return the bytes of the bits. No condition but at most 2^20 bits.
-/
import Derived.Test.YteojnjcoamcigaaNumOf
import Derived.RegionTactic
namespace Go.Proofs.Yteojnjcoamcigaa
open Go.ChangeShapes Go.WideShapes Go.ChangeAt Go.RowKit
set_option linter.unusedVariables false
/-- Chunk j of eight bits. -/
def chunk (zs : List Int) (j : Nat) : List Int := (zs.drop (8 * j)).take 8
/-- The first k bytes of some bits. -/
def bytesTo (zs : List Int) (k : Nat) : List Int := (List.range k).map (fun j => numL (chunk zs j))
theorem bytesTo_succ (zs : List Int) (k : Nat) : bytesTo zs (k + 1) = bytesTo zs k ++ [numL (chunk zs k)] := by simp [bytesTo, List.range_succ]
theorem bytesTo_length (zs : List Int) (k : Nat) : (bytesTo zs k).length = k := by simp [bytesTo]
def bytesL (zs : List Int) : List Int := bytesTo zs (zs.length / 8)
def bytesOk (zs : List Int) : Bool := zs.all isBit && decide (zs.length % 8 = 0)
/-- What BytesOf gives. -/
def bytesOf (zs : List Int) : List Int × Bool := if bytesOk zs = true then (bytesL zs, true) else ([], false)
theorem chunk_len (zs : List Int) (j n : Nat) (h : zs.length = n) (hj : 8 * j + 8 ≤ n) : (chunk zs j).length = 8 := by
  unfold chunk; rw [List.length_take, List.length_drop]; omega
theorem chunk_getD (zs : List Int) (j t : Nat) (ht : t < 8) : (chunk zs j).getD t 0 = zs.getD (8 * j + t) 0 := by
  unfold chunk
  rw [List.getD_eq_getElem?_getD, List.getD_eq_getElem?_getD, List.getElem?_take, if_pos ht, List.getElem?_drop]
theorem RI.sub {w : World} {b off n : Nat} {zs : List Int} (hbl : b < w.heap.size) (hl : zs.length = n) (hc : ∀ j, j < n → w.cell? ⟨b, off + j, none⟩ = some (.int .i64 (zs.getD j 0))) (j : Nat) (hj : 8 * j + 8 ≤ n) : RI w (some ⟨b, off + 8 * j, none⟩) 8 (chunk zs j) := by
  refine ⟨chunk_len zs j n hl hj, fun _ => ⟨b, off + 8 * j, rfl, hbl, fun t ht => ?_⟩⟩
  rw [chunk_getD zs j t ht, Nat.add_assoc]
  exact hc _ (by omega)
theorem bitsTo_chunk {zs : List Int} {j : Nat} (h : BitsTo zs (8 * j)) (hc : (chunk zs j).all isBit = true) : BitsTo zs (8 * (j + 1)) := by
  intro x hx
  have e : zs.take (8 * (j + 1)) = zs.take (8 * j) ++ chunk zs j := by
    unfold chunk
    rw [show 8 * (j + 1) = 8 * j + 8 from by omega, List.take_add]
  rw [e] at hx
  rcases List.mem_append.1 hx with hx | hx
  · exact h x hx
  · exact List.all_eq_true.1 hc x hx
theorem chunk_bad {zs : List Int} {j : Nat} (hc : (chunk zs j).all isBit = false) : zs.all isBit = false := by
  rw [List.all_eq_false] at hc ⊢
  obtain ⟨x, hx, hb⟩ := hc
  exact ⟨x, List.mem_of_mem_drop (List.mem_of_mem_take hx), hb⟩
theorem numOf_chunk (zs : List Int) (j n : Nat) (h : zs.length = n) (hj : 8 * j + 8 ≤ n) : numOf (chunk zs j) = if (chunk zs j).all isBit then (numL (chunk zs j), true) else (0, false) := by
  unfold numOf
  rw [chunk_len zs j n h hj]
  cases (chunk zs j).all isBit <;> rfl
theorem numL_chunk_bd (zs : List Int) (j n : Nat) (h : zs.length = n) (hj : 8 * j + 8 ≤ n) (hc : (chunk zs j).all isBit = true) : 0 ≤ numL (chunk zs j) ∧ numL (chunk zs j) < 256 := by
  have := numL_bd (chunk zs j) (List.all_eq_true.1 hc)
  rw [chunk_len zs j n h hj] at this
  exact this

set_option maxRecDepth 100000 in
theorem sBytesOf8 (A : Option Addr) (q c : Nat) (zs : List Int) (w : World) (h : RI w A (8 * q) zs) (hn : 8 * q ≤ 1100000) (hcap : 8 * q ≤ c) (hcm : c ≤ maxLen) :
    Calls Try.prog 31 #[.slice A (8 * q) c] w fun e w' => e = .returned (.tuple #[.string (bs (bytesOf zs).1), .bool (bytesOf zs).2]) ∧ Below w.heap.size w w' := by
  have hlen := h.len
  have h8 : ((8 * q : Nat) : Int) % 8 = 0 := by omega
  unfold maxLen at hcm
  go_enter Try.func31, Try.ntmps31
  go_wp2
  go_loopw [4, 5] (fun v i wr => ∃ j : Nat, j ≤ q ∧ i = .int .i64 (8 * (j : Int)) ∧ BitsTo zs (8 * j) ∧ wr.ownsRow w.heap.size 5 1 v j ((bytesTo zs j).map (Value.int .u8)) ∧ Below w.heap.size w wr) (fun _ i _ => 8 * q - (intOf i).toNat)
  case atStart => exact ⟨0, Nat.zero_le _, rfl, fun x hx => by simp at hx, World.ownsRow_made _ #[] 0 (Nat.le_refl _) (by decide) rfl, (Below.refl _ _).alloc (Nat.le_refl _) _⟩
  case round =>
    obtain ⟨j, hj, rfl, hok, hown, hb⟩ := hrel
    by_cases hlt : j < q
    · obtain ⟨b, off, rfl, hbl, hc⟩ := h.at_ (k := 8 * j) (by omega)
      have hsub := RI.sub hbl hlen hc j (by omega)
      have hsubW := hsub.below hb
      have hno := numOf_chunk zs j _ hlen (by omega)
      have hsmall : Small j := small_of (by omega)
      have hcall : ∀ W, RI W (some ⟨b, off + 8 * j, none⟩) 8 (chunk zs j) → Calls Try.prog 19 #[.slice (some ⟨b, off + 8 * j, none⟩) 8 (c - 8 * j)] W fun e w' => e = .returned (.tuple #[.int .i64 (numOf (chunk zs j)).1, .bool (numOf (chunk zs j)).2]) ∧ Below W.heap.size W w' := fun W hW => sNumOf _ 8 _ (chunk zs j) W hW (by omega)
      cases hcb : (chunk zs j).all isBit with
      | true =>
        rw [hno, hcb] at hcall
        have hcall := Lib.hid hcall
        have hbd := numL_chunk_bd zs j _ hlen (by omega) hcb
        have hmod : numL (chunk zs j) % 256 = numL (chunk zs j) := by omega
        have hB := Lib.hid (bitsTo_chunk hok hcb)
        have hsc := Lib.hid (bytesTo_succ zs j)
        clear hno hcb hok hc h hsub
        go_wp2_with (first
          | (go_at_call 19; refine (hcall.out _ hsubW).mono ?_; rintro e w1 ⟨rfl, b1⟩)
          | (at_builtin; refine wpList_app_u8 (w0 := w) rfl (.tmp 30) (.tmp 33) rfl _ j (bytesTo zs j) rfl (owns_below hown b1) (hb.trans (b1.mono hb.size)) rfl hsmall ?_; intro g cap w2 hown2 hb2 _))
        go_roundw
        case rel => exact ⟨j + 1, by omega, by go_num, hB.out, by rw [hsc.out]; exact hown2, hb2⟩
        case measure => simp [intOf]; omega
      | false =>
        rw [hno, hcb] at hcall
        have hcall := Lib.hid hcall
        have hE : Hid (bytesOf zs = ([], false)) := by
          show bytesOf zs = ([], false)
          unfold bytesOf bytesOk
          rw [chunk_bad hcb]; rfl
        clear hno hcb hok hc h hsub
        go_wp2_with (first
          | (go_at_call 19; refine (hcall.out _ hsubW).mono ?_; rintro e w1 ⟨rfl, b1⟩))
        go_ret2
        exact ⟨by rw [hE.out]; rfl, hb.trans (b1.mono hb.size)⟩
    · have hke : j = q := by omega
      subst hke
      have hE : Hid (bytesOf zs = (bytesTo zs j, true)) := by
        show bytesOf zs = (bytesTo zs j, true)
        unfold bytesOf bytesOk bytesL
        rw [all_good hok hlen, hlen, show 8 * j / 8 = j from by omega, if_pos (by simp)]
      obtain ⟨a, c', hv⟩ := owns_shape hown
      subst hv
      have hcv := conv_owned Try.underlying50 Try.underlying9 hown
      clear hok h
      go_wp2
      go_ret2
      exact ⟨by rw [hE.out]; rfl, hb⟩
theorem bytesOf_odd (zs : List Int) (n : Nat) (h : zs.length = n) (hn : ¬ n % 8 = 0) : bytesOf zs = ([], false) := by
  unfold bytesOf bytesOk
  rw [h, if_neg (by simp; intro _; exact hn)]
theorem sBytesOf_odd (A : Option Addr) (n c : Nat) (zs : List Int) (w : World) (h : zs.length = n) (hn : n ≤ 1100000) (h8 : ¬ n % 8 = 0) :
    Calls Try.prog 31 #[.slice A n c] w fun e w' => e = .returned (.tuple #[.string (bs []), .bool false]) ∧ Below w.heap.size w w' := by
  have h8' : ((n : Int) % 8 != 0) = true := by simp; omega
  go_enter Try.func31, Try.ntmps31
  go_wp2
  go_ret2
  exact ⟨rfl, by go_grown⟩
theorem sBytesOf_any (A : Option Addr) (n c : Nat) (zs : List Int) (w : World) (h : RI w A n zs) (hn : n ≤ 1100000) (hcap : n ≤ c) (hcm : c ≤ maxLen) :
    Calls Try.prog 31 #[.slice A n c] w fun e w' => e = .returned (.tuple #[.string (bs (bytesOf zs).1), .bool (bytesOf zs).2]) ∧ Below w.heap.size w w' := by
  by_cases h8 : n % 8 = 0
  · obtain ⟨q, rfl⟩ : ∃ q, n = 8 * q := ⟨n / 8, by omega⟩
    exact sBytesOf8 A q c zs w h hn hcap hcm
  · rw [bytesOf_odd zs n h.len h8]; exact sBytesOf_odd A n c zs w h.len hn h8
def pbr (i j : Nat) : Nat := min 8 (i - 8 * j)
def pb (zs : List Int) (i j : Nat) : Int := numL ((zs.drop (8 * j)).take (pbr i j)) * 2 ^ (8 - pbr i j)
def pbs (zs : List Int) (q i : Nat) : List Int := (List.range q).map (fun j => pb zs i j)
theorem pbr_at (k : Nat) : pbr k (k / 8) = k % 8 := by unfold pbr; omega
theorem pbr_at1 (k : Nat) : pbr (k + 1) (k / 8) = k % 8 + 1 := by unfold pbr; omega
theorem pbr_ne (k j : Nat) (h : j ≠ k / 8) : pbr (k + 1) j = pbr k j := by unfold pbr; omega
theorem pbs_zero (zs : List Int) (q : Nat) : (pbs zs q 0).map (Value.int .u8) = (madeCells (Value.int .u8 0).cells (q * 1)).toList := by
  rw [show (Value.int .u8 0).cells = #[Value.int .u8 0] from rfl, toList_madeCells_one, Nat.mul_one]
  apply List.ext_getElem
  · simp [pbs]
  · intro j h1 h2
    have h0 : pbr 0 j = 0 := by unfold pbr; omega
    simp [pbs, pb, h0, numL]
theorem pb_set (zs : List Int) (q k : Nat) (h : k / 8 < q) : ((pbs zs q k).map (Value.int .u8)).set (k / 8) (.int .u8 (pb zs (k + 1) (k / 8))) = (pbs zs q (k + 1)).map (Value.int .u8) := by
  rw [← List.map_set]
  congr 1
  apply List.ext_getElem
  · simp [pbs]
  · intro j h1 h2
    rw [List.getElem_set]
    by_cases e : k / 8 = j
    · subst e
      rw [if_pos rfl]
      simp [pbs]
    · rw [if_neg e]
      simp only [pbs, List.getElem_map, List.getElem_range, pb]
      rw [pbr_ne k j (Ne.symm e)]
theorem pb_step (zs : List Int) (k : Nat) (hk : k < zs.length) : pb zs k (k / 8) + zs.getD k 0 * 2 ^ (7 - k % 8) = pb zs (k + 1) (k / 8) := by
  unfold pb
  rw [pbr_at, pbr_at1]
  have hl : k % 8 < (zs.drop (8 * (k / 8))).length := by rw [List.length_drop]; omega
  have e : (zs.drop (8 * (k / 8))).take (k % 8 + 1) = (zs.drop (8 * (k / 8))).take (k % 8) ++ [zs.getD k 0] := by
    rw [take_snoc_b _ _ hl]
    congr 2
    rw [List.getD_eq_getElem?_getD, List.getD_eq_getElem?_getD, List.getElem?_drop]
    congr 2
    omega
  rw [e, numL_snoc, show 8 - k % 8 = (7 - k % 8) + 1 from by omega, show 8 - (k % 8 + 1) = 7 - k % 8 from by omega, Int.pow_succ, Int.add_mul, Int.mul_comm (2 ^ (7 - k % 8)) 2, ← Int.mul_assoc]
theorem pb_facts (zs : List Int) (k : Nat) (hk : k < zs.length) (hall : zs.all isBit = true) (hx : zs.getD k 0 = 0 ∨ zs.getD k 0 = 1) :
    IntKind.i64.wrap (zs.getD k 0 * 2 ^ (7 - k % 8)) = zs.getD k 0 * 2 ^ (7 - k % 8) ∧ IntKind.u8.wrap (zs.getD k 0 * 2 ^ (7 - k % 8)) = zs.getD k 0 * 2 ^ (7 - k % 8) ∧
    bits .or .u8 (pb zs k (k / 8)) (zs.getD k 0 * 2 ^ (7 - k % 8)) = pb zs k (k / 8) + zs.getD k 0 * 2 ^ (7 - k % 8) := by
  have hb := numL_bd ((zs.drop (8 * (k / 8))).take (k % 8)) (fun x hx => List.all_eq_true.1 hall x (List.mem_of_mem_drop (List.mem_of_mem_take hx)))
  rw [List.length_take, List.length_drop, Nat.min_eq_left (by omega)] at hb
  obtain ⟨m, hm⟩ := Int.eq_ofNat_of_zero_le hb.1
  have hm2 : m < 2 ^ (k % 8) := by
    have h2 := hb.2
    rw [hm] at h2
    have h3 : ((2 ^ (k % 8) : Nat) : Int) = 2 ^ (k % 8) := by rw [Int.natCast_pow]; rfl
    omega
  have hy : pb zs k (k / 8) = ((m * 2 ^ (8 - k % 8) : Nat) : Int) := by
    unfold pb; rw [pbr_at, hm, Int.natCast_mul, Int.natCast_pow]; rfl
  obtain ⟨b, hb2, hb3⟩ : ∃ b : Nat, zs.getD k 0 = (b : Int) ∧ b ≤ 1 := by
    rcases hx with h | h
    · exact ⟨0, h, by omega⟩
    · exact ⟨1, h, by omega⟩
  have hv : zs.getD k 0 * 2 ^ (7 - k % 8) = ((b * 2 ^ (7 - k % 8) : Nat) : Int) := by
    rw [hb2, Int.natCast_mul, Int.natCast_pow]; rfl
  have hr : k % 8 < 8 := Nat.mod_lt _ (by decide)
  generalize hrr : k % 8 = r at *
  have hp1 : (2 : Nat) ^ (8 - r) = 2 * 2 ^ (7 - r) := by rw [show 8 - r = (7 - r) + 1 from by omega, Nat.pow_succ, Nat.mul_comm]
  have hp2 : 2 ^ r * 2 ^ (8 - r) = 256 := by rw [← Nat.pow_add, show r + (8 - r) = 8 from by omega]
  have hp3 : 0 < 2 ^ (7 - r) := Nat.pow_pos (by decide)
  have hp4 : 2 ^ (7 - r) ≤ 2 ^ 7 := Nat.pow_le_pow_right (by decide) (by omega)
  have hvb : b * 2 ^ (7 - r) ≤ 2 ^ (7 - r) := by
    have := Nat.mul_le_mul_right (2 ^ (7 - r)) hb3
    omega
  have hyb : m * 2 ^ (8 - r) + 2 ^ (8 - r) ≤ 256 := by
    have := Nat.mul_le_mul_right (2 ^ (8 - r)) hm2
    rw [Nat.succ_mul, hp2] at this
    exact this
  rw [hv, hy]
  refine ⟨IntWalk.i64_in _ (by omega), IntWalk.u8_in _ (by omega), ?_⟩
  have h1 : bits .or .u8 ((m * 2 ^ (8 - r) : Nat) : Int) ((b * 2 ^ (7 - r) : Nat) : Int) = ((m * 2 ^ (8 - r) ||| b * 2 ^ (7 - r) : Nat) : Int) := by
    have hx8 : (m * 2 ^ (8 - r)) ||| (b * 2 ^ (7 - r)) < 2 ^ 8 := Nat.or_lt_two_pow (by omega) (by omega)
    have o8 : ∀ a : Nat, a < 256 → (BitVec.ofInt 8 (a : Int)).toNat = a := fun a ha => by
      rw [BitVec.ofInt_natCast, BitVec.toNat_ofNat]; exact Nat.mod_eq_of_lt (by omega)
    show IntKind.u8.wrap ((BitVec.ofInt 8 ((m * 2 ^ (8 - r) : Nat) : Int) ||| BitVec.ofInt 8 ((b * 2 ^ (7 - r) : Nat) : Int)).toNat : Int) = _
    rw [BitVec.toNat_or, o8 _ (by omega), o8 _ (by omega), IntKind.wrap_u8]
    omega
  rw [h1]
  have h2 := Nat.shiftLeft_add_eq_or_of_lt (b := b * 2 ^ (7 - r)) (i := 8 - r) (by omega) m
  rw [Nat.shiftLeft_eq] at h2
  omega
theorem pbs_all (zs : List Int) (q : Nat) : pbs zs q (8 * q) = bytesTo zs q := by
  apply List.ext_getElem
  · simp [pbs, bytesTo]
  · intro j h1 h2
    have hj : j < q := by simpa [pbs] using h1
    have h8 : pbr (8 * q) j = 8 := by unfold pbr; omega
    simp [pbs, bytesTo, pb, h8, chunk]
set_option maxRecDepth 100000 in
theorem iBytesOf8 (A : Option Addr) (q c : Nat) (zs : List Int) (w : World) (h : RI w A (8 * q) zs) (hn : 8 * q ≤ 1100000) (hall : zs.all isBit = true) :
    Calls Try.prog 32 #[.slice A (8 * q) c] w fun e w' => e = .returned (.tuple #[.string (bs (bytesOf zs).1), .bool (bytesOf zs).2]) ∧ Below w.heap.size w w' := by
  obtain ⟨i0, hi, hz0, hz1, hz2⟩ := info_parts info_u8
  have hlen := h.len
  have h8 : ((8 * q : Nat) : Int) % 8 = 0 := by omega
  have hq : ((8 * q : Nat) : Int) / 8 = (q : Int) := by omega
  have hC : Hid (∀ w', RI w' A (8 * q) zs → Calls Try.prog 50 #[.slice A (8 * q) c] w' fun e w'' => e = .returned (.bool true) ∧ w' = w'') := by
    intro w' h'; have := iAreBits A (8 * q) c zs w' h' (by omega); rw [hall] at this; exact this
  go_enter Try.func32, Try.ntmps32
  go_wp2_with (first
    | (go_at_call 50; refine (hC.out _ h).mono ?_; rintro e w' ⟨rfl, rfl⟩)
    | (at_make; refine wpList_make_full _ rfl _ _ 50 rfl w.heap.size 5 i0 (.int .u8 0) 1 Try.underlying50 hi hz0 hz1 .i64 .i64 _ _ q rfl rfl rfl rfl (by rw [hz2]; omega) (by unfold maxLen; omega) (Nat.le_refl _) ?_; intro w1 hown1 hgrow1)
    | go_in)
  have hb1 : Below w.heap.size w w1 := (Below.refl _ _).grown hgrow1 (Nat.le_refl _) (by simp)
  clear hgrow1
  rw [← pbs_zero zs q] at hown1
  go_loopw [22] (fun i wr => ∃ k : Nat, k ≤ 8 * q ∧ i = .int .i64 k ∧ wr.ownsRow w.heap.size 5 1 (.slice (some ⟨w.heap.size, 0, none⟩) q q) q ((pbs zs q k).map (Value.int .u8)) ∧ Below w.heap.size w wr) (fun i _ => 8 * q - (intOf i).toNat)
  case atStart => exact ⟨0, Nat.zero_le _, rfl, hown1, hb1⟩
  case round =>
    clear hown1 hb1
    obtain ⟨k, hk, rfl, hown, hb⟩ := hrel
    by_cases hlt : k < 8 * q
    · obtain ⟨b, off, rfl, hbl, hc⟩ := h.at_ hlt
      have hsrc : wr.cell? ⟨b, off + k, none⟩ = some (.int .i64 (zs.getD k 0)) := (hb.cell (p := ⟨b, off + k, none⟩) hbl).trans (hc k hlt)
      have hx01 := (isBit_iff (zs.getD k 0)).1 (List.all_eq_true.1 hall _ (by rw [List.getD_eq_getElem?_getD, List.getElem?_eq_getElem (by omega)]; exact List.getElem_mem _))
      have hF := pb_facts zs k (by omega) hall (by omega)
      have hst := pb_step zs k (by omega)
      have hcell : wr.cell? ⟨w.heap.size, k / 8, none⟩ = some (.int .u8 (pb zs k (k / 8))) := by
        rw [hown.cellAt (k / 8) (by omega), List.getElem?_map, List.getElem?_eq_getElem (by simp [pbs]; omega)]
        simp [pbs]
      have hfz := hown.frozenAt (k / 8)
      have R := (hown.stored (k / 8) (.int .u8 (pb zs (k + 1) (k / 8)))).1
      rw [pb_set zs q k (by omega), ← hst] at R
      have R2 := hb.setCell (p := ⟨w.heap.size, k / 8, none⟩) (Nat.le_refl _) (.int .u8 (pb zs (k + 1) (k / 8)))
      rw [← hst] at R2
      clear hst
      obtain ⟨x, hx⟩ : ∃ x, x = zs.getD k 0 := ⟨_, rfl⟩
      obtain ⟨y, hy⟩ : ∃ y, y = pb zs k (k / 8) := ⟨_, rfl⟩
      rw [← hx, ← hy] at hF R R2
      rw [← hx] at hsrc
      rw [← hy] at hcell
      obtain ⟨v, hv⟩ : ∃ v, v = x * 2 ^ (7 - k % 8) := ⟨_, rfl⟩
      rw [← hv] at hF R R2
      obtain ⟨f5', f6, f7⟩ := hF
      have f5 : IntKind.i64.wrap (x * 2 ^ (7 - k % 8)) = v := by rw [← hv]; exact f5'
      have HR1 : Hid _ := R
      have HR2 : Hid _ := R2
      have HX := Lib.hid h
      have HF := Lib.hid (And.intro f5 (And.intro f6 f7))
      clear hown hx hy hc h hlen hC R R2 f5' f5 f6 f7 hx01 hall hv
      go_wp2
      have d0 : (0 : Int) ≤ (k : Int) / 8 := by omega
      have d1 : (k : Int) / 8 < (q : Int) := by omega
      have d2 : ((k : Int) / 8).toNat = k / 8 := by omega
      have f1 : IntKind.i64.wrap ((k : Int) / 8) = (k : Int) / 8 := IntWalk.i64_in _ (by omega)
      have f2 : (k : Int).tmod 8 = (k : Int) % 8 := Int.tmod_eq_emod_of_nonneg (by omega)
      have f3 : IntKind.i64.wrap (7 - (k : Int) % 8) = 7 - (k : Int) % 8 := IntWalk.i64_in _ (by omega)
      have f4 : (7 - (k : Int) % 8).toNat = 7 - k % 8 := by omega
      have f41 : (0 : Int) ≤ 7 - (k : Int) % 8 := by omega
      obtain ⟨f5, f6, f7⟩ := HF.out
      go_region
      clear f5 f6 f7 f1 f2 f3 f4 f41 d0 d1 d2 HF
      all_goals
        go_wp2
        go_roundw
        case rel => exact ⟨k + 1, by omega, by go_num, HR1.out, HR2.out.drew⟩
        case measure => simp [intOf]; omega
    · have hke : k = 8 * q := by omega
      subst hke
      rw [pbs_all] at hown
      have hE : Hid (bytesOf zs = (bytesTo zs q, true)) := by
        show bytesOf zs = (bytesTo zs q, true)
        unfold bytesOf bytesOk bytesL
        rw [hall, hlen, show 8 * q / 8 = q from by omega, if_pos (by simp)]
      have hcv := conv_owned Try.underlying50 Try.underlying9 hown
      clear hC h hall
      go_wp2
      go_ret2
      exact ⟨by rw [hE.out]; rfl, hb⟩
theorem iBytesOf_bad (A : Option Addr) (n c : Nat) (zs : List Int) (w : World) (h : RI w A n zs) (hn : n ≤ 1100000) (hab : zs.all isBit = false) :
    Calls Try.prog 32 #[.slice A n c] w fun e w' => e = .returned (.tuple #[.string (bs []), .bool false]) ∧ Below w.heap.size w w' := by
  have hC : Hid (∀ w', RI w' A n zs → Calls Try.prog 50 #[.slice A n c] w' fun e w'' => e = .returned (.bool false) ∧ w' = w'') := by
    intro w' h'; have := iAreBits A n c zs w' h' (by omega); rw [hab] at this; exact this
  clear hab
  go_enter Try.func32, Try.ntmps32
  go_wp2_with (first
    | (go_at_call 50; refine (hC.out _ h).mono ?_; rintro e w' ⟨rfl, rfl⟩))
  go_ret2
  exact ⟨rfl, Below.refl _ _⟩
theorem iBytesOf_odd (A : Option Addr) (n c : Nat) (zs : List Int) (w : World) (h : RI w A n zs) (hn : n ≤ 1100000) (h8 : ¬ n % 8 = 0) (hab : zs.all isBit = true) :
    Calls Try.prog 32 #[.slice A n c] w fun e w' => e = .returned (.tuple #[.string (bs []), .bool false]) ∧ Below w.heap.size w w' := by
  have hC : Hid (∀ w', RI w' A n zs → Calls Try.prog 50 #[.slice A n c] w' fun e w'' => e = .returned (.bool true) ∧ w' = w'') := by
    intro w' h'; have := iAreBits A n c zs w' h' (by omega); rw [hab] at this; exact this
  have h8' : ((n : Int) % 8 != 0) = true := by simp; omega
  clear hab
  go_enter Try.func32, Try.ntmps32
  go_wp2_with (first
    | (go_at_call 50; refine (hC.out _ h).mono ?_; rintro e w' ⟨rfl, rfl⟩))
  go_ret2
  exact ⟨rfl, Below.refl _ _⟩
theorem iBytesOf_any (A : Option Addr) (n c : Nat) (zs : List Int) (w : World) (h : RI w A n zs) (hn : n ≤ 1100000) :
    Calls Try.prog 32 #[.slice A n c] w fun e w' => e = .returned (.tuple #[.string (bs (bytesOf zs).1), .bool (bytesOf zs).2]) ∧ Below w.heap.size w w' := by
  cases hab : zs.all isBit with
  | false =>
    have e : bytesOf zs = ([], false) := by unfold bytesOf bytesOk; rw [hab]; rfl
    rw [e]; exact iBytesOf_bad A n c zs w h hn hab
  | true =>
    by_cases h8 : n % 8 = 0
    · obtain ⟨q, rfl⟩ : ∃ q, n = 8 * q := ⟨n / 8, by omega⟩
      exact iBytesOf8 A q c zs w h hn hab
    · rw [bytesOf_odd zs n h.len h8]; exact iBytesOf_odd A n c zs w h hn h8 hab
end Go.Proofs.Yteojnjcoamcigaa
