/-
  Plain: what is put and marked is read backwards.
-/
import Derived.Test.YtgbnngjmjimhiaaC4
namespace Go.Proofs.Ytgbnngjmjimhiaa
open Go Go.Sx
/-- The bits of a row of numbers. -/
def putBits (bs : List Int) (x n : Int) : List Int := if 0 ≤ n ∧ n ≤ 56 then bs ++ bitsN x n.toNat else bs
def allBits (xs ns : Nat → Int) : Nat → List Int
  | 0 => []
  | k + 1 => putBits (allBits xs ns k) (xs k) (ns k)
theorem putBits_bit {bs : List Int} {x n : Int} (h : ∀ b ∈ bs, isBit b) : ∀ b ∈ putBits bs x n, isBit b := by
  unfold putBits
  split
  · exact fun b hb => (List.mem_append.1 hb).elim (h b) (bitsN_bit x _ b)
  · exact h
theorem putBits_length (bs : List Int) (x n : Int) : bs.length ≤ (putBits bs x n).length ∧ (putBits bs x n).length ≤ bs.length + 56 := by
  unfold putBits
  split <;> simp [bitsN_length] <;> omega
theorem allBits_bit (xs ns : Nat → Int) : ∀ k, ∀ b ∈ allBits xs ns k, isBit b
  | 0 => by simp [allBits]
  | k + 1 => putBits_bit (allBits_bit xs ns k)
theorem allBits_length (xs ns : Nat → Int) : ∀ k, (allBits xs ns k).length ≤ 56 * k
  | 0 => by simp [allBits]
  | k + 1 => by
    have := putBits_length (allBits xs ns k) (xs k) (ns k)
    have := allBits_length xs ns k
    simp only [allBits]
    omega
/-- A number's bit. -/
theorem bval_bit (l : List Int) (h : ∀ b ∈ l, isBit b) (i : Nat) : ∀ n j, j < n → bval l i n / 2 ^ j % 2 = l.getD (i + j) 0
  | 0, j, hj => by omega
  | n + 1, j, hj => by
    have hg : l.getD (i + n) 0 = 0 ∨ l.getD (i + n) 0 = 1 := by
      rw [List.getD_eq_getElem?_getD]
      cases hg : l[i + n]? with
      | none => left; rfl
      | some b => exact h b (List.mem_of_getElem? hg)
    have hb := bval_bound l h i n
    simp only [bval]
    by_cases hjn : j = n
    · subst hjn
      have hp : (0 : Int) < 2 ^ j := Int.pow_pos (by decide)
      rw [Int.add_mul_ediv_right _ _ (by omega), Int.ediv_eq_zero_of_lt hb.1 hb.2]
      rcases hg with hg | hg <;> rw [hg] <;> decide
    · have hj' : j < n := by omega
      have e : (2 : Int) ^ n = 2 ^ (n - j - 1) * 2 * 2 ^ j := by
        rw [← Int.pow_succ, ← Int.pow_add]; congr 1; omega
      have hp : (0 : Int) < 2 ^ j := Int.pow_pos (by decide)
      rw [e, ← Int.mul_assoc, Int.add_mul_ediv_right _ _ (by omega), ← Int.mul_assoc]
      rw [Int.add_mul_emod_self_right]
      exact bval_bit l h i n j hj'
theorem pack_getD (bs : List Int) (i : Nat) : (pack bs).getD i 0 = bval bs (8 * i) 8 := by
  rw [List.getD_eq_getElem?_getD]
  by_cases hi : i < (bs.length + 7) / 8
  · simp [pack, hi]
  · rw [List.getElem?_eq_none (by rw [pack_length]; omega), bval_none bs _ (by omega)]
    rfl
theorem pack_byte (bs : List Int) (h : ∀ b ∈ bs, isBit b) : ∀ x ∈ pack bs, isByte x := by
  intro x hx
  obtain ⟨i, _, rfl⟩ := List.mem_map.1 hx
  exact bval_bound bs h _ 8
theorem bitAt_pack (bs : List Int) (h : ∀ b ∈ bs, isBit b) (k : Nat) : bitAt (pack bs) k = bs.getD k 0 := by
  unfold bitAt
  rw [if_pos (by omega), pack_getD]
  have e1 : ((k : Int) / 8).toNat = k / 8 := by omega
  have e2 : ((k : Int) % 8).toNat = k % 8 := by omega
  rw [e1, e2, bval_bit bs h _ 8 (k % 8) (by omega)]
  congr 1
  omega
theorem half_mod (y m : Int) : y / 2 % m * 2 + y % 2 = y % (2 * m) := by
  rw [Int.emod_def y (2 * m), Int.emod_def (y / 2) m, Int.mul_assoc, ← Int.ediv_ediv_of_nonneg (by decide)]
  generalize m * (y / 2 / m) = q
  omega
theorem rd_bits (bs pre : List Int) (x : Int) (n : Nat) (hx : 0 ≤ x) (h : ∀ b ∈ bs, isBit b) (hp : ∀ j, j < n → bs.getD (pre.length + j) 0 = x / 2 ^ j % 2) :
    ∀ i, i ≤ n → rd (pack bs) ((pre.length : Int) + n) i = x / 2 ^ (n - i) % 2 ^ i
  | 0, _ => by simp [rd, Int.emod_one]
  | i + 1, hi => by
    simp only [rd]
    rw [rd_bits bs pre x n hx h hp i (by omega)]
    have e1 : (pre.length : Int) + n - 1 - i = ((pre.length + (n - 1 - i) : Nat) : Int) := by omega
    rw [e1, bitAt_pack bs h, hp _ (by omega)]
    have e2 : n - i = (n - (i + 1)) + 1 := by omega
    have e3 : n - 1 - i = n - (i + 1) := by omega
    rw [e2, e3, Int.pow_succ, ← Int.ediv_ediv_of_nonneg (Int.le_of_lt (Int.pow_pos (by decide)))]
    generalize x / 2 ^ (n - (i + 1)) = y
    rw [Int.pow_succ, Int.mul_comm (2 ^ i) 2, half_mod]
theorem rd_put (pre rest : List Int) (x : Int) (n : Nat) (hx : 0 ≤ x) (h : ∀ b ∈ pre ++ bitsN x n ++ rest, isBit b) :
    rd (pack (pre ++ bitsN x n ++ rest)) ((pre ++ bitsN x n).length : Nat) n = x % 2 ^ n := by
  have := rd_bits (pre ++ bitsN x n ++ rest) pre x n hx h (fun j hj => by
    rw [List.getD_eq_getElem?_getD, List.getElem?_append_left (by simp [bitsN_length]; omega), List.getElem?_append_right (by omega)]
    simp [bitsN, hj]) n (Nat.le_refl n)
  rw [Nat.sub_self] at this
  simpa [bitsN_length] using this
/-- The mark. -/
theorem mark_last (bs : List Int) (h : ∀ b ∈ bs, isBit b) : (pack (bs ++ [1])).getLastD 0 = bval bs (8 * (bs.length / 8)) (bs.length % 8) + 2 ^ (bs.length % 8) ∧ (pack (bs ++ [1])).length = bs.length / 8 + 1 := by
  have hl : (pack (bs ++ [1])).length = bs.length / 8 + 1 := by rw [pack_length]; simp; omega
  refine ⟨?_, hl⟩
  rw [getLastD_eq, hl, pack_getD, Nat.add_sub_cancel, bval_snoc, if_pos (by omega), bval_stop bs _ (bs.length % 8) (by omega) 8 (by omega)]
  have : bs.length - 8 * (bs.length / 8) = bs.length % 8 := by omega
  rw [this]
  omega
theorem len8_top {x : Int} {j : Nat} (hj : j < 8) (h0 : 2 ^ j ≤ x) (h1 : x < 2 ^ j + 2 ^ j) : len8 x = j + 1 := by
  have : j = 0 ∨ j = 1 ∨ j = 2 ∨ j = 3 ∨ j = 4 ∨ j = 5 ∨ j = 6 ∨ j = 7 := by omega
  rcases this with rfl | rfl | rfl | rfl | rfl | rfl | rfl | rfl <;> simp only [Int.reducePow] at h0 h1 <;> unfold len8 <;> (repeat' split) <;> omega
theorem mark_at (bs : List Int) (h : ∀ b ∈ bs, isBit b) : (pack (bs ++ [1])).getLastD 0 ≠ 0 ∧ 8 * (((pack (bs ++ [1])).length : Int) - 1) + (len8 ((pack (bs ++ [1])).getLastD 0) - 1) = bs.length := by
  obtain ⟨h1, h2⟩ := mark_last bs h
  have hb := bval_bound bs h (8 * (bs.length / 8)) (bs.length % 8)
  have hp : (0 : Int) < 2 ^ (bs.length % 8) := Int.pow_pos (by decide)
  rw [h1, h2]
  refine ⟨by omega, ?_⟩
  rw [len8_top (j := bs.length % 8) (by omega) (by omega) (by omega)]
  omega
end Go.Proofs.Ytgbnngjmjimhiaa
