/-
  Plain: bits of bytes, the lowest first.
-/
import Derived.Test.YtgbnngjmjimhiaaC9
namespace Go.Proofs.Ytgbnngjmjimhiaa
open Go Go.Sx
theorem bval_split (l : List Int) (i n : Nat) : ∀ m, bval l i (n + m) = bval l i n + bval l (i + n) m * 2 ^ n
  | 0 => by simp [bval]
  | m + 1 => by
    rw [show n + (m + 1) = (n + m) + 1 from rfl]
    simp only [bval]
    rw [bval_split l i n m, Int.pow_add, Int.add_mul, Nat.add_assoc]
    have : l.getD (i + (n + m)) 0 * (2 ^ n * 2 ^ m) = l.getD (i + (n + m)) 0 * 2 ^ m * 2 ^ n := by rw [Int.mul_comm (2 ^ n), Int.mul_assoc]
    omega
/-- All bits of bytes. -/
def bitL (b : List Int) : List Int := bitsOf b (8 * b.length)
theorem bitL_length (b : List Int) : (bitL b).length = 8 * b.length := bitsOf_length _ _
theorem bitL_bit (b : List Int) : ∀ x ∈ bitL b, isBit x := by
  intro x hx
  obtain ⟨i, _, rfl⟩ := List.mem_map.1 hx
  have := bitAt_bit b (i : Int)
  unfold isBit
  omega
theorem bitL_get (b : List Int) (i : Nat) (h : i < 8 * b.length) : (bitL b).getD i 0 = bitAt b i := bitsOf_get b _ i h
theorem byte_bits {x : Int} (h : isByte x) : x / 2 ^ 0 % 2 * 2 ^ 0 + x / 2 ^ 1 % 2 * 2 ^ 1 + x / 2 ^ 2 % 2 * 2 ^ 2 + x / 2 ^ 3 % 2 * 2 ^ 3 + x / 2 ^ 4 % 2 * 2 ^ 4 + x / 2 ^ 5 % 2 * 2 ^ 5 + x / 2 ^ 6 % 2 * 2 ^ 6 + x / 2 ^ 7 % 2 * 2 ^ 7 = x := by
  obtain ⟨h0, h1⟩ := h
  simp only [Int.reducePow]
  omega
theorem bitL_byte (b : List Int) (hby : ∀ x ∈ b, isByte x) (i : Nat) (h : i < b.length) : bval (bitL b) (8 * i) 8 = b.getD i 0 := by
  have hg : ∀ j : Nat, j < 8 → (bitL b).getD (8 * i + j) 0 = b.getD i 0 / 2 ^ j % 2 := fun j hj => by
    rw [bitL_get b _ (by omega)]
    unfold bitAt
    rw [if_pos (by omega)]
    have e1 : (((8 * i + j : Nat) : Int) / 8).toNat = i := by omega
    have e2 : (((8 * i + j : Nat) : Int) % 8).toNat = j := by omega
    rw [e1, e2]
  have hb := byte_bits (byte_bit hby i)
  simp only [bval]
  rw [hg 0 (by omega), hg 1 (by omega), hg 2 (by omega), hg 3 (by omega), hg 4 (by omega), hg 5 (by omega), hg 6 (by omega), hg 7 (by omega)]
  rw [Int.zero_add]
  exact hb
theorem bval_mod (l : List Int) (h : ∀ b ∈ l, isBit b) (i n m : Nat) : bval l i (n + m) % 2 ^ n = bval l i n ∧ bval l i (n + m) / 2 ^ n = bval l (i + n) m := by
  have hb := bval_bound l h i n
  have hp : (0 : Int) < 2 ^ n := Int.pow_pos (by decide)
  rw [bval_split]
  constructor
  · rw [Int.add_mul_emod_self_right]
    exact Int.emod_eq_of_lt hb.1 hb.2
  · rw [Int.add_mul_ediv_right _ _ (by omega), Int.ediv_eq_zero_of_lt hb.1 hb.2]
    omega
end Go.Proofs.Ytgbnngjmjimhiaa
