/-
  Plain: what is put, and padded, is read ag it was.
-/
import Derived.Test.YtgbnngjmjimhiaaE1
namespace Go.Proofs.Ytgbnngjmjimhiaa
open Go Go.Sx
theorem mod_snoc (x : Int) (n : Nat) : x % 2 ^ (n + 1) = x % 2 ^ n + x / 2 ^ n % 2 * 2 ^ n := by
  have hp : (0 : Int) < 2 ^ n := Int.pow_pos (by decide)
  rw [Int.pow_succ, Int.emod_def x (2 ^ n * 2), Int.emod_def x (2 ^ n), ← Int.ediv_ediv_of_nonneg (Int.le_of_lt hp), Int.emod_def (x / 2 ^ n) 2]
  generalize x / 2 ^ n = q
  generalize (2 : Int) ^ n = m
  rw [Int.sub_mul, Int.mul_assoc m 2, Int.mul_comm m (2 * (q / 2)), Int.mul_comm m q]
  omega
theorem bval_of_bits (l : List Int) (i : Nat) (x : Int) : ∀ n, (∀ j, j < n → l.getD (i + j) 0 = x / 2 ^ j % 2) → bval l i n = x % 2 ^ n
  | 0, _ => by simp [bval, Int.emod_one]
  | n + 1, h => by
    simp only [bval]
    rw [bval_of_bits l i x n (fun j hj => h j (by omega)), h n (by omega), mod_snoc]
theorem bval_congr (l l' : List Int) (h : ∀ j, l.getD j 0 = l'.getD j 0) (i : Nat) : ∀ n, bval l i n = bval l' i n
  | 0 => rfl
  | n + 1 => by simp only [bval]; rw [bval_congr l l' h i n, h]
theorem bitL_pack (bs : List Int) (hb : ∀ b ∈ bs, isBit b) (i n : Nat) : bval (bitL (pack bs)) i n = bval bs i n := by
  refine bval_congr _ _ (fun j => ?_) i n
  by_cases hj : j < 8 * (pack bs).length
  · rw [bitL_get _ _ hj, bitAt_pack bs hb]
  · rw [List.getD_eq_getElem?_getD, List.getD_eq_getElem?_getD, List.getElem?_eq_none (by rw [bitL_length]; omega), List.getElem?_eq_none (by rw [pack_length] at hj; omega)]
/-- The bits of a row of numbers and of steps to the byte's end. -/
def wb (xs ns : Nat → Int) (ag : Nat → Bool) : Nat → List Int
  | 0 => []
  | k + 1 => if ag k then padBits (wb xs ns ag k) else putBits (wb xs ns ag k) (xs k) (ns k)
theorem wb_bit (xs ns : Nat → Int) (ag : Nat → Bool) : ∀ k, ∀ b ∈ wb xs ns ag k, isBit b
  | 0 => by simp [wb]
  | k + 1 => by
    unfold wb
    split
    · exact padBits_bit (wb_bit xs ns ag k)
    · exact putBits_bit (wb_bit xs ns ag k)
theorem padBits_length (bs : List Int) : (padBits bs).length = bs.length + (8 - bs.length % 8) % 8 := by simp [padBits]
theorem wb_length (xs ns : Nat → Int) (ag : Nat → Bool) : ∀ k, (wb xs ns ag k).length ≤ 56 * k
  | 0 => by simp [wb]
  | k + 1 => by
    have h := wb_length xs ns ag k
    have h1 := putBits_length (wb xs ns ag k) (xs k) (ns k)
    have h2 := padBits_length (wb xs ns ag k)
    unfold wb
    split <;> omega
theorem wb_split (xs ns : Nat → Int) (ag : Nat → Bool) (j : Nat) : ∀ i, j ≤ i → ∃ rest, wb xs ns ag i = wb xs ns ag j ++ rest
  | 0, h => ⟨[], by rw [Nat.le_zero.1 h]; simp⟩
  | i + 1, h => by
    by_cases he : j = i + 1
    · exact ⟨[], by rw [he]; simp⟩
    · obtain ⟨rest, hr⟩ := wb_split xs ns ag j i (by omega)
      have e : wb xs ns ag (i + 1) = if ag i then padBits (wb xs ns ag i) else putBits (wb xs ns ag i) (xs i) (ns i) := rfl
      rw [e]
      unfold putBits padBits
      repeat' split
      · exact ⟨_, by rw [hr, List.append_assoc]⟩
      · exact ⟨_, by rw [hr, List.append_assoc]⟩
      · exact ⟨rest, hr⟩
/-- What is read at a put. -/
theorem wb_put (xs ns : Nat → Int) (ag : Nat → Bool) (k L : Nat) (hk : k < L) (ha : ag k = false) (hn : 0 ≤ ns k ∧ ns k ≤ 56) :
    (wb xs ns ag (k + 1)).length = (wb xs ns ag k).length + (ns k).toNat ∧ (wb xs ns ag (k + 1)).length ≤ (wb xs ns ag L).length ∧
    bval (wb xs ns ag L) (wb xs ns ag k).length (ns k).toNat = xs k % 2 ^ (ns k).toNat := by
  obtain ⟨rest, hr⟩ := wb_split xs ns ag (k + 1) L (by omega)
  have e : wb xs ns ag (k + 1) = wb xs ns ag k ++ bitsN (xs k) (ns k).toNat := by
    have e : wb xs ns ag (k + 1) = if ag k then padBits (wb xs ns ag k) else putBits (wb xs ns ag k) (xs k) (ns k) := rfl
    rw [e, ha]
    unfold putBits
    rw [if_pos hn]
    rfl
  refine ⟨by rw [e, List.length_append, bitsN_length], by rw [hr, List.length_append]; omega, ?_⟩
  refine bval_of_bits _ _ _ _ fun j hj => ?_
  rw [hr, e, List.getD_eq_getElem?_getD, List.append_assoc, List.getElem?_append_right (by omega), List.getElem?_append_left (by rw [bitsN_length]; omega)]
  simp [bitsN, hj]
/-- What is read at a step to the byte's end. -/
theorem wb_pad (xs ns : Nat → Int) (ag : Nat → Bool) (k L : Nat) (hk : k < L) (ha : ag k = true) :
    (wb xs ns ag (k + 1)).length = (wb xs ns ag k).length + (alN (wb xs ns ag k).length).toNat ∧ (wb xs ns ag (k + 1)).length ≤ (wb xs ns ag L).length ∧
    bval (wb xs ns ag L) (wb xs ns ag k).length (alN (wb xs ns ag k).length).toNat = 0 := by
  obtain ⟨rest, hr⟩ := wb_split xs ns ag (k + 1) L (by omega)
  have e : wb xs ns ag (k + 1) = wb xs ns ag k ++ List.replicate ((8 - (wb xs ns ag k).length % 8) % 8) 0 := by
    have e : wb xs ns ag (k + 1) = if ag k then padBits (wb xs ns ag k) else putBits (wb xs ns ag k) (xs k) (ns k) := rfl
    rw [e, ha]
    rfl
  have ea : (alN (wb xs ns ag k).length).toNat = (8 - (wb xs ns ag k).length % 8) % 8 := by unfold alN; omega
  refine ⟨by rw [e, ea, List.length_append, List.length_replicate], by rw [hr, List.length_append]; omega, ?_⟩
  rw [ea]
  have := bval_of_bits (wb xs ns ag L) (wb xs ns ag k).length 0 ((8 - (wb xs ns ag k).length % 8) % 8) fun j hj => by
    rw [hr, e, List.getD_eq_getElem?_getD, List.append_assoc, List.getElem?_append_right (by omega), List.getElem?_append_left (by rw [List.length_replicate]; omega), List.getElem?_replicate]
    split <;> simp
  rw [this]
  simp
end Go.Proofs.Ytgbnngjmjimhiaa
