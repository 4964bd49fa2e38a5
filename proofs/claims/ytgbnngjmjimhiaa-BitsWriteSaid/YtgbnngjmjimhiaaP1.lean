/-
  Plain: bits in bytes.
-/
import Derived.Test.YtgbnngjmjimhiaaSx23
namespace Go.Proofs.Ytgbnngjmjimhiaa
open Go Go.Sx
/-- The numbers of these bits: eight a byte, the lowest first. -/
def bval (l : List Int) : Nat → Nat → Int
  | _, 0 => 0
  | i, n + 1 => bval l i n + l.getD (i + n) 0 * 2 ^ n
def pack (bs : List Int) : List Int := (List.range ((bs.length + 7) / 8)).map fun i => bval bs (8 * i) 8
def bitsN (x : Int) (n : Nat) : List Int := (List.range n).map fun k => x / 2 ^ k % 2
def isBit (b : Int) : Prop := b = 0 ∨ b = 1
theorem pack_length (bs : List Int) : (pack bs).length = (bs.length + 7) / 8 := by simp [pack]
theorem bval_bound (l : List Int) (h : ∀ b ∈ l, isBit b) (i : Nat) : ∀ n, 0 ≤ bval l i n ∧ bval l i n < 2 ^ n
  | 0 => by simp [bval]
  | n + 1 => by
    obtain ⟨h0, h1⟩ := bval_bound l h i n
    have hb : l.getD (i + n) 0 = 0 ∨ l.getD (i + n) 0 = 1 := by
      rw [List.getD_eq_getElem?_getD]
      cases hg : l[i + n]? with
      | none => left; rfl
      | some b => exact h b (List.mem_of_getElem? hg)
    have hp : (2 : Int) ^ (n + 1) = 2 ^ n + 2 ^ n := by rw [Int.pow_succ]; omega
    simp only [bval]
    rcases hb with hb | hb <;> rw [hb, hp] <;> constructor <;> omega
theorem bval_snoc (bs : List Int) (b : Int) (i : Nat) : ∀ n, bval (bs ++ [b]) i n = bval bs i n + (if i ≤ bs.length ∧ bs.length < i + n then b * 2 ^ (bs.length - i) else 0)
  | 0 => by
    simp only [bval]
    rw [if_neg (by omega)]
    rfl
  | n + 1 => by
    simp only [bval]
    rw [bval_snoc bs b i n]
    rcases Nat.lt_trichotomy (i + n) bs.length with h | h | h
    · have e : (bs ++ [b]).getD (i + n) 0 = bs.getD (i + n) 0 := by
        simp [List.getD_eq_getElem?_getD, List.getElem?_append_left h]
      rw [e, if_neg (by omega), if_neg (by omega)]
      omega
    · have e : (bs ++ [b]).getD (i + n) 0 = b := by
        rw [h]; simp [List.getD_eq_getElem?_getD]
      have e0 : bs.getD (i + n) 0 = 0 := by
        rw [h]; simp [List.getD_eq_getElem?_getD]
      rw [e, e0, if_neg (by omega), if_pos (by omega)]
      have : bs.length - i = n := by omega
      rw [this]
      omega
    · have e : (bs ++ [b]).getD (i + n) 0 = 0 := by
        simp [List.getD_eq_getElem?_getD, List.getElem?_eq_none (show (bs ++ [b]).length ≤ i + n by simp; omega)]
      have e0 : bs.getD (i + n) 0 = 0 := by
        simp [List.getD_eq_getElem?_getD, List.getElem?_eq_none (show bs.length ≤ i + n by omega)]
      rw [e, e0]
      by_cases hc : i ≤ bs.length ∧ bs.length < i + n
      · rw [if_pos hc, if_pos (by omega)]; omega
      · rw [if_neg hc, if_neg (by omega)]; omega
theorem bval_none (bs : List Int) (i : Nat) (h : bs.length ≤ i) : ∀ n, bval bs i n = 0
  | 0 => rfl
  | n + 1 => by
    simp only [bval]
    rw [bval_none bs i h n]
    simp [List.getD_eq_getElem?_getD, List.getElem?_eq_none (show bs.length ≤ i + n by omega)]
/-- One bit more. -/
theorem pack_snoc (bs : List Int) (b : Int) : pack (bs ++ [b]) =
    (if bs.length % 8 = 0 then pack bs ++ [0] else pack bs).set (bs.length / 8) ((if bs.length % 8 = 0 then pack bs ++ [0] else pack bs).getD (bs.length / 8) 0 + b * 2 ^ (bs.length % 8)) := by
  have hl : (if bs.length % 8 = 0 then pack bs ++ [0] else pack bs).length = (bs.length + 1 + 7) / 8 := by
    split <;> simp [pack_length] <;> omega
  have hg : ∀ i, i < (bs.length + 1 + 7) / 8 → (if bs.length % 8 = 0 then pack bs ++ [0] else pack bs)[i]? = some (bval bs (8 * i) 8) := by
    intro i hi
    split
    · rename_i h8
      by_cases hlt : i < (bs.length + 7) / 8
      · rw [List.getElem?_append_left (by rw [pack_length]; exact hlt)]
        simp [pack, hlt]
      · have : i = (pack bs).length := by rw [pack_length]; omega
        rw [this]
        simp
        rw [bval_none bs _ (by rw [pack_length]; omega)]
    · rename_i h8
      have hlt : i < (bs.length + 7) / 8 := by omega
      simp [pack, hlt]
  refine List.ext_getElem? fun i => ?_
  by_cases hi : i < (bs.length + 1 + 7) / 8
  · rw [List.getElem?_set]
    have hL : (pack (bs ++ [b]))[i]? = some (bval (bs ++ [b]) (8 * i) 8) := by
      have : i < ((bs ++ [b]).length + 7) / 8 := by simpa using hi
      simp only [pack, List.getElem?_map, List.getElem?_range this, Option.map_some]
    rw [hL, bval_snoc]
    by_cases he : bs.length / 8 = i
    · subst he
      rw [if_pos (show 8 * (bs.length / 8) ≤ bs.length ∧ bs.length < 8 * (bs.length / 8) + 8 by omega), if_pos rfl, if_pos (by rw [hl]; exact hi), List.getD_eq_getElem?_getD, hg _ hi]
      have : bs.length - 8 * (bs.length / 8) = bs.length % 8 := by omega
      simp [this]
    · rw [if_neg he, hg i hi, if_neg (by omega)]
      simp
  · rw [List.getElem?_eq_none (by rw [pack_length]; simp; omega), List.getElem?_eq_none (by rw [List.length_set, hl]; omega)]
theorem bitsN_succ (x : Int) (n : Nat) : bitsN x (n + 1) = bitsN x n ++ [x / 2 ^ n % 2] := by
  simp [bitsN, List.range_succ]
theorem bitsN_length (x : Int) (n : Nat) : (bitsN x n).length = n := by simp [bitsN]
theorem bitsN_zero (x : Int) : bitsN x 0 = [] := rfl
theorem isBit_mod (x : Int) : isBit (x % 2) := by unfold isBit; omega
theorem bitsN_bit (x : Int) (n : Nat) : ∀ b ∈ bitsN x n, isBit b := by
  intro b hb
  obtain ⟨k, _, rfl⟩ := List.mem_map.1 hb
  exact isBit_mod _
theorem bval_stop (bs : List Int) (i k : Nat) (h : bs.length ≤ i + k) : ∀ n, k ≤ n → bval bs i n = bval bs i k
  | 0, hn => by rw [Nat.le_zero.1 hn]
  | n + 1, hn => by
    by_cases he : k = n + 1
    · rw [he]
    · simp only [bval]
      rw [bval_stop bs i k h n (by omega)]
      simp [List.getD_eq_getElem?_getD, List.getElem?_eq_none (show bs.length ≤ i + n by omega)]
/-- The buffer, a byte more where it is full. -/
def room (bs : List Int) : List Int := if bs.length % 8 = 0 then pack bs ++ [0] else pack bs
theorem room_length (bs : List Int) : (room bs).length = bs.length / 8 + 1 := by
  unfold room
  split <;> simp [pack_length] <;> omega
theorem room_last (bs : List Int) : (room bs).getD (bs.length / 8) 0 = bval bs (8 * (bs.length / 8)) 8 := by
  unfold room
  rw [List.getD_eq_getElem?_getD]
  split
  · rename_i h8
    have : bs.length / 8 = (pack bs).length := by rw [pack_length]; omega
    rw [this]
    simp
    rw [bval_none bs _ (by rw [pack_length]; omega)]
  · rename_i h8
    have hlt : bs.length / 8 < (bs.length + 7) / 8 := by omega
    simp [pack, hlt]
theorem room_bound (bs : List Int) (hb : ∀ b ∈ bs, isBit b) : 0 ≤ (room bs).getD (bs.length / 8) 0 ∧ (room bs).getD (bs.length / 8) 0 < 2 ^ (bs.length % 8) := by
  rw [room_last, bval_stop bs _ (bs.length % 8) (by omega) 8 (by omega)]
  exact bval_bound bs hb _ _
theorem pow_le_128 {i : Nat} (h : i < 8) : (2 : Int) ^ i ≤ 128 := by
  have : i = 0 ∨ i = 1 ∨ i = 2 ∨ i = 3 ∨ i = 4 ∨ i = 5 ∨ i = 6 ∨ i = 7 := by omega
  rcases this with rfl | rfl | rfl | rfl | rfl | rfl | rfl | rfl <;> decide
theorem pack_step (bs : List Int) (b m : Int) (hb : ∀ b ∈ bs, isBit b) (hbit : isBit b) (hm : m = bs.length) :
    (room bs).set (m / 8).toNat (bV .or .u8 ((room bs).getD (m / 8).toNat 0) (bV .shl .u8 b (m % 8))) = pack (bs ++ [b]) := by
  have e1 : (m / 8).toNat = bs.length / 8 := by omega
  have e2 : (m % 8).toNat = bs.length % 8 := by omega
  obtain ⟨h0, h1⟩ := room_bound bs hb
  have hp := pow_le_128 (show bs.length % 8 < 8 by omega)
  have hp0 : (0 : Int) < 2 ^ (bs.length % 8) := Int.pow_pos (by decide)
  have hb2 : 0 ≤ b ∧ b * 2 ^ (bs.length % 8) ≤ 2 ^ (bs.length % 8) ∧ 0 ≤ b * 2 ^ (bs.length % 8) := by
    rcases hbit with rfl | rfl <;> omega
  rw [e1, shl_u rfl hb2.1 (by show m % 8 ≤ ((8 : Nat) : Int); omega) (by rw [e2]; show _ < (2 : Int) ^ 8; omega), e2, or_add rfl _ h0 h1 hb2.1 (by show _ < (2 : Int) ^ 8; omega), pack_snoc]
  rfl
theorem pack_snoc_length (bs : List Int) (b : Int) : (pack (bs ++ [b])).length = (room bs).length := by
  rw [pack_length, room_length]; simp; omega
end Go.Proofs.Ytgbnngjmjimhiaa
