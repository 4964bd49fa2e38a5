import Derived.Test.YtkkddgdcmdnnmaaEC
import Derived.Test.YtkkddgdcmdnnmaaCode
import Derived.Test.YtkkddgdcmdnnmaaED
set_option linter.unusedVariables false
set_option linter.unusedSimpArgs false
namespace Go.Proofs.Ytkkddgdcmdnnmaa
open Go Go.Sx Go.Proofs
theorem hmix : Try.prog.follows .mixedOrders = true := by kernel_rfl
end Go.Proofs.Ytkkddgdcmdnnmaa
namespace Go.Proofs.Ytkkddgdcmdnnmaa
open Go Go.Sx
def bval (l : List Int) : Nat → Nat → Int
  | _, 0 => 0
  | i, n + 1 => bval l i n + l.getD (i + n) 0 * 2 ^ n
def pack (bs : List Int) : List Int := (List.range ((bs.length + 7) / 8)).map fun i => bval bs (8 * i) 8
def bitsN (x : Int) (n : Nat) : List Int := (List.range n).map fun k => x / 2 ^ k % 2
def isBit (b : Int) : Prop := b = 0 ∨ b = 1
theorem pack_length (bs : List Int) : (pack bs).length = (bs.length + 7) / 8 := by simp [pack]
theorem bval_bound (l : List Int) (h : ∀ b ∈ l, isBit b) (i : Nat) : ∀ n, 0 ≤ bval l i n ∧ bval l i n < 2 ^ n
  | 0 => by simp [bval]
  | n + 1 => by
    obtain ⟨h0, h1⟩ := bval_bound l h i n
    have hb : l.getD (i + n) 0 = 0 ∨ l.getD (i + n) 0 = 1 := by
      rw [List.getD_eq_getElem?_getD]
      cases hg : l[i + n]? with
      | none => left; rfl
      | some b => exact h b (List.mem_of_getElem? hg)
    have hp : (2 : Int) ^ (n + 1) = 2 ^ n + 2 ^ n := by rw [Int.pow_succ]; omega
    simp only [bval]
    rcases hb with hb | hb <;> rw [hb, hp] <;> constructor <;> omega
theorem bval_snoc (bs : List Int) (b : Int) (i : Nat) : ∀ n, bval (bs ++ [b]) i n = bval bs i n + (if i ≤ bs.length ∧ bs.length < i + n then b * 2 ^ (bs.length - i) else 0)
  | 0 => by
    simp only [bval]
    rw [if_neg (by omega)]
    rfl
  | n + 1 => by
    simp only [bval]
    rw [bval_snoc bs b i n]
    rcases Nat.lt_trichotomy (i + n) bs.length with h | h | h
    · have e : (bs ++ [b]).getD (i + n) 0 = bs.getD (i + n) 0 := by
        simp [List.getD_eq_getElem?_getD, List.getElem?_append_left h]
      rw [e, if_neg (by omega), if_neg (by omega)]
      omega
    · have e : (bs ++ [b]).getD (i + n) 0 = b := by
        rw [h]; simp [List.getD_eq_getElem?_getD]
      have e0 : bs.getD (i + n) 0 = 0 := by
        rw [h]; simp [List.getD_eq_getElem?_getD]
      rw [e, e0, if_neg (by omega), if_pos (by omega)]
      have : bs.length - i = n := by omega
      rw [this]
      omega
    · have e : (bs ++ [b]).getD (i + n) 0 = 0 := by
        simp [List.getD_eq_getElem?_getD, List.getElem?_eq_none (show (bs ++ [b]).length ≤ i + n by simp; omega)]
      have e0 : bs.getD (i + n) 0 = 0 := by
        simp [List.getD_eq_getElem?_getD, List.getElem?_eq_none (show bs.length ≤ i + n by omega)]
      rw [e, e0]
      by_cases hc : i ≤ bs.length ∧ bs.length < i + n
      · rw [if_pos hc, if_pos (by omega)]; omega
      · rw [if_neg hc, if_neg (by omega)]; omega
theorem bval_none (bs : List Int) (i : Nat) (h : bs.length ≤ i) : ∀ n, bval bs i n = 0
  | 0 => rfl
  | n + 1 => by
    simp only [bval]
    rw [bval_none bs i h n]
    simp [List.getD_eq_getElem?_getD, List.getElem?_eq_none (show bs.length ≤ i + n by omega)]
theorem pack_snoc (bs : List Int) (b : Int) : pack (bs ++ [b]) =
    (if bs.length % 8 = 0 then pack bs ++ [0] else pack bs).set (bs.length / 8) ((if bs.length % 8 = 0 then pack bs ++ [0] else pack bs).getD (bs.length / 8) 0 + b * 2 ^ (bs.length % 8)) := by
  have hl : (if bs.length % 8 = 0 then pack bs ++ [0] else pack bs).length = (bs.length + 1 + 7) / 8 := by
    split <;> simp [pack_length] <;> omega
  have hg : ∀ i, i < (bs.length + 1 + 7) / 8 → (if bs.length % 8 = 0 then pack bs ++ [0] else pack bs)[i]? = some (bval bs (8 * i) 8) := by
    intro i hi
    split
    · rename_i h8
      by_cases hlt : i < (bs.length + 7) / 8
      · rw [List.getElem?_append_left (by rw [pack_length]; exact hlt)]
        simp [pack, hlt]
      · have : i = (pack bs).length := by rw [pack_length]; omega
        rw [this]
        simp
        rw [bval_none bs _ (by rw [pack_length]; omega)]
    · rename_i h8
      have hlt : i < (bs.length + 7) / 8 := by omega
      simp [pack, hlt]
  refine List.ext_getElem? fun i => ?_
  by_cases hi : i < (bs.length + 1 + 7) / 8
  · rw [List.getElem?_set]
    have hL : (pack (bs ++ [b]))[i]? = some (bval (bs ++ [b]) (8 * i) 8) := by
      have : i < ((bs ++ [b]).length + 7) / 8 := by simpa using hi
      simp only [pack, List.getElem?_map, List.getElem?_range this, Option.map_some]
    rw [hL, bval_snoc]
    by_cases he : bs.length / 8 = i
    · subst he
      rw [if_pos (show 8 * (bs.length / 8) ≤ bs.length ∧ bs.length < 8 * (bs.length / 8) + 8 by omega), if_pos rfl, if_pos (by rw [hl]; exact hi), List.getD_eq_getElem?_getD, hg _ hi]
      have : bs.length - 8 * (bs.length / 8) = bs.length % 8 := by omega
      simp [this]
    · rw [if_neg he, hg i hi, if_neg (by omega)]
      simp
  · rw [List.getElem?_eq_none (by rw [pack_length]; simp; omega), List.getElem?_eq_none (by rw [List.length_set, hl]; omega)]
theorem bitsN_succ (x : Int) (n : Nat) : bitsN x (n + 1) = bitsN x n ++ [x / 2 ^ n % 2] := by
  simp [bitsN, List.range_succ]
theorem bitsN_length (x : Int) (n : Nat) : (bitsN x n).length = n := by simp [bitsN]
theorem bitsN_zero (x : Int) : bitsN x 0 = [] := rfl
theorem isBit_mod (x : Int) : isBit (x % 2) := by unfold isBit; omega
theorem bitsN_bit (x : Int) (n : Nat) : ∀ b ∈ bitsN x n, isBit b := by
  intro b hb
  obtain ⟨k, _, rfl⟩ := List.mem_map.1 hb
  exact isBit_mod _
theorem bval_stop (bs : List Int) (i k : Nat) (h : bs.length ≤ i + k) : ∀ n, k ≤ n → bval bs i n = bval bs i k
  | 0, hn => by rw [Nat.le_zero.1 hn]
  | n + 1, hn => by
    by_cases he : k = n + 1
    · rw [he]
    · simp only [bval]
      rw [bval_stop bs i k h n (by omega)]
      simp [List.getD_eq_getElem?_getD, List.getElem?_eq_none (show bs.length ≤ i + n by omega)]
def room (bs : List Int) : List Int := if bs.length % 8 = 0 then pack bs ++ [0] else pack bs
theorem room_length (bs : List Int) : (room bs).length = bs.length / 8 + 1 := by
  unfold room
  split <;> simp [pack_length] <;> omega
theorem room_last (bs : List Int) : (room bs).getD (bs.length / 8) 0 = bval bs (8 * (bs.length / 8)) 8 := by
  unfold room
  rw [List.getD_eq_getElem?_getD]
  split
  · rename_i h8
    have : bs.length / 8 = (pack bs).length := by rw [pack_length]; omega
    rw [this]
    simp
    rw [bval_none bs _ (by rw [pack_length]; omega)]
  · rename_i h8
    have hlt : bs.length / 8 < (bs.length + 7) / 8 := by omega
    simp [pack, hlt]
theorem room_bound (bs : List Int) (hb : ∀ b ∈ bs, isBit b) : 0 ≤ (room bs).getD (bs.length / 8) 0 ∧ (room bs).getD (bs.length / 8) 0 < 2 ^ (bs.length % 8) := by
  rw [room_last, bval_stop bs _ (bs.length % 8) (by omega) 8 (by omega)]
  exact bval_bound bs hb _ _
theorem pow_le_128 {i : Nat} (h : i < 8) : (2 : Int) ^ i ≤ 128 := by
  have : i = 0 ∨ i = 1 ∨ i = 2 ∨ i = 3 ∨ i = 4 ∨ i = 5 ∨ i = 6 ∨ i = 7 := by omega
  rcases this with rfl | rfl | rfl | rfl | rfl | rfl | rfl | rfl <;> decide
theorem pack_step (bs : List Int) (b m : Int) (hb : ∀ b ∈ bs, isBit b) (hbit : isBit b) (hm : m = bs.length) :
    (room bs).set (m / 8).toNat (bV .or .u8 ((room bs).getD (m / 8).toNat 0) (bV .shl .u8 b (m % 8))) = pack (bs ++ [b]) := by
  have e1 : (m / 8).toNat = bs.length / 8 := by omega
  have e2 : (m % 8).toNat = bs.length % 8 := by omega
  obtain ⟨h0, h1⟩ := room_bound bs hb
  have hp := pow_le_128 (show bs.length % 8 < 8 by omega)
  have hp0 : (0 : Int) < 2 ^ (bs.length % 8) := Int.pow_pos (by decide)
  have hb2 : 0 ≤ b ∧ b * 2 ^ (bs.length % 8) ≤ 2 ^ (bs.length % 8) ∧ 0 ≤ b * 2 ^ (bs.length % 8) := by
    rcases hbit with rfl | rfl <;> omega
  rw [e1, shl_u rfl hb2.1 (by show m % 8 ≤ ((8 : Nat) : Int); omega) (by rw [e2]; show _ < (2 : Int) ^ 8; omega), e2, or_add rfl _ h0 h1 hb2.1 (by show _ < (2 : Int) ^ 8; omega), pack_snoc]
  rfl
end Go.Proofs.Ytkkddgdcmdnnmaa
namespace Go.Proofs.Ytkkddgdcmdnnmaa
open Go Go.Sx Go.Proofs
end Go.Proofs.Ytkkddgdcmdnnmaa
namespace Go.Proofs.Ytkkddgdcmdnnmaa
open Go Go.Sx Go.Proofs
def bitAt (b : List Int) (k : Int) : Int := if 0 ≤ k then b.getD (k / 8).toNat 0 / 2 ^ (k % 8).toNat % 2 else 0
def rd (b : List Int) (p : Int) : Nat → Int
  | 0 => 0
  | n + 1 => rd b p n * 2 + bitAt b (p - 1 - n)
def isByte (x : Int) : Prop := 0 ≤ x ∧ x < 256
theorem bitAt_bit (b : List Int) (k : Int) : 0 ≤ bitAt b k ∧ bitAt b k < 2 := by unfold bitAt; split <;> omega
theorem pow_le_56 {n : Nat} (h : n ≤ 56) : (2 : Int) ^ n ≤ 72057594037927936 := by
  have : (2 : Int) ^ n ≤ 2 ^ 56 := by exact_mod_cast Nat.pow_le_pow_right (by decide) h
  exact this
end Go.Proofs.Ytkkddgdcmdnnmaa
namespace Go.Proofs.Ytkkddgdcmdnnmaa
open Go Go.Sx Go.Proofs
theorem view_refl (l : List Int) : View 0 l l := ⟨⟨by omega, fun i _ => by rw [Nat.zero_add]⟩⟩
def lenTab : List Int := [0, 1, 2, 2, 3, 3, 3, 3, 4, 4, 4, 4, 4, 4, 4, 4, 5, 5, 5, 5, 5, 5, 5, 5, 5, 5, 5, 5, 5, 5, 5, 5, 6, 6, 6, 6, 6, 6, 6, 6, 6, 6, 6, 6, 6, 6, 6, 6, 6, 6, 6, 6, 6, 6, 6, 6, 6, 6, 6, 6, 6, 6, 6, 6, 7, 7, 7, 7, 7, 7, 7, 7, 7, 7, 7, 7, 7, 7, 7, 7, 7, 7, 7, 7, 7, 7, 7, 7, 7, 7, 7, 7, 7, 7, 7, 7, 7, 7, 7, 7, 7, 7, 7, 7, 7, 7, 7, 7, 7, 7, 7, 7, 7, 7, 7, 7, 7, 7, 7, 7, 7, 7, 7, 7, 7, 7, 7, 7, 8, 8, 8, 8, 8, 8, 8, 8, 8, 8, 8, 8, 8, 8, 8, 8, 8, 8, 8, 8, 8, 8, 8, 8, 8, 8, 8, 8, 8, 8, 8, 8, 8, 8, 8, 8, 8, 8, 8, 8, 8, 8, 8, 8, 8, 8, 8, 8, 8, 8, 8, 8, 8, 8, 8, 8, 8, 8, 8, 8, 8, 8, 8, 8, 8, 8, 8, 8, 8, 8, 8, 8, 8, 8, 8, 8, 8, 8, 8, 8, 8, 8, 8, 8, 8, 8, 8, 8, 8, 8, 8, 8, 8, 8, 8, 8, 8, 8, 8, 8, 8, 8, 8, 8, 8, 8, 8, 8, 8, 8, 8, 8, 8, 8, 8, 8, 8, 8, 8, 8, 8, 8, 8, 8, 8, 8, 8, 8]
end Go.Proofs.Ytkkddgdcmdnnmaa
namespace Go.Proofs.Ytkkddgdcmdnnmaa
open Go Go.Sx
def putBits (bs : List Int) (x n : Int) : List Int := if 0 ≤ n ∧ n ≤ 56 then bs ++ bitsN x n.toNat else bs
theorem bval_bit (l : List Int) (h : ∀ b ∈ l, isBit b) (i : Nat) : ∀ n j, j < n → bval l i n / 2 ^ j % 2 = l.getD (i + j) 0
  | 0, j, hj => by omega
  | n + 1, j, hj => by
    have hg : l.getD (i + n) 0 = 0 ∨ l.getD (i + n) 0 = 1 := by
      rw [List.getD_eq_getElem?_getD]
      cases hg : l[i + n]? with
      | none => left; rfl
      | some b => exact h b (List.mem_of_getElem? hg)
    have hb := bval_bound l h i n
    simp only [bval]
    by_cases hjn : j = n
    · subst hjn
      have hp : (0 : Int) < 2 ^ j := Int.pow_pos (by decide)
      rw [Int.add_mul_ediv_right _ _ (by omega), Int.ediv_eq_zero_of_lt hb.1 hb.2]
      rcases hg with hg | hg <;> rw [hg] <;> decide
    · have hj' : j < n := by omega
      have e : (2 : Int) ^ n = 2 ^ (n - j - 1) * 2 * 2 ^ j := by
        rw [← Int.pow_succ, ← Int.pow_add]; congr 1; omega
      have hp : (0 : Int) < 2 ^ j := Int.pow_pos (by decide)
      rw [e, ← Int.mul_assoc, Int.add_mul_ediv_right _ _ (by omega), ← Int.mul_assoc]
      rw [Int.add_mul_emod_self_right]
      exact bval_bit l h i n j hj'
theorem pack_getD (bs : List Int) (i : Nat) : (pack bs).getD i 0 = bval bs (8 * i) 8 := by
  rw [List.getD_eq_getElem?_getD]
  by_cases hi : i < (bs.length + 7) / 8
  · simp [pack, hi]
  · rw [List.getElem?_eq_none (by rw [pack_length]; omega), bval_none bs _ (by omega)]
    rfl
theorem bitAt_pack (bs : List Int) (h : ∀ b ∈ bs, isBit b) (k : Nat) : bitAt (pack bs) k = bs.getD k 0 := by
  unfold bitAt
  rw [if_pos (by omega), pack_getD]
  have e1 : ((k : Int) / 8).toNat = k / 8 := by omega
  have e2 : ((k : Int) % 8).toNat = k % 8 := by omega
  rw [e1, e2, bval_bit bs h _ 8 (k % 8) (by omega)]
  congr 1
  omega
end Go.Proofs.Ytkkddgdcmdnnmaa
namespace Go.Proofs.Ytkkddgdcmdnnmaa
open Go Go.Sx Go.Proofs
def putErr (n : Int) : Int := if 0 ≤ n ∧ n ≤ 56 then 0 else 2
end Go.Proofs.Ytkkddgdcmdnnmaa
namespace Go.Proofs.Ytkkddgdcmdnnmaa
open Go Go.Sx
end Go.Proofs.Ytkkddgdcmdnnmaa
namespace Go.Proofs.Ytkkddgdcmdnnmaa
open Go Go.Sx Go.Proofs
def bitsOf (b : List Int) (k : Nat) : List Int := (List.range k).map fun (i : Nat) => bitAt b (i : Int)
theorem bitsOf_length (b : List Int) (k : Nat) : (bitsOf b k).length = k := by simp [bitsOf]
theorem bitsOf_get (b : List Int) (k i : Nat) (h : i < k) : (bitsOf b k).getD i 0 = bitAt b i := by simp [bitsOf, List.getD_eq_getElem?_getD, h]
theorem byte_bit {b : List Int} (hby : ∀ x ∈ b, isByte x) (i : Nat) : isByte (b.getD i 0) := by
  rw [List.getD_eq_getElem?_getD]
  cases hg : b[i]? with
  | none => exact ⟨by simp, by simp⟩
  | some y => exact hby y (List.mem_of_getElem? hg)
end Go.Proofs.Ytkkddgdcmdnnmaa
namespace Go.Proofs.Ytkkddgdcmdnnmaa
open Go Go.Sx
theorem bval_split (l : List Int) (i n : Nat) : ∀ m, bval l i (n + m) = bval l i n + bval l (i + n) m * 2 ^ n
  | 0 => by simp [bval]
  | m + 1 => by
    rw [show n + (m + 1) = (n + m) + 1 from rfl]
    simp only [bval]
    rw [bval_split l i n m, Int.pow_add, Int.add_mul, Nat.add_assoc]
    have : l.getD (i + (n + m)) 0 * (2 ^ n * 2 ^ m) = l.getD (i + (n + m)) 0 * 2 ^ m * 2 ^ n := by rw [Int.mul_comm (2 ^ n), Int.mul_assoc]
    omega
def bitL (b : List Int) : List Int := bitsOf b (8 * b.length)
theorem bitL_length (b : List Int) : (bitL b).length = 8 * b.length := bitsOf_length _ _
theorem bitL_bit (b : List Int) : ∀ x ∈ bitL b, isBit x := by
  intro x hx
  obtain ⟨i, _, rfl⟩ := List.mem_map.1 hx
  have := bitAt_bit b (i : Int)
  unfold isBit
  omega
theorem bitL_get (b : List Int) (i : Nat) (h : i < 8 * b.length) : (bitL b).getD i 0 = bitAt b i := bitsOf_get b _ i h
theorem byte_bits {x : Int} (h : isByte x) : x / 2 ^ 0 % 2 * 2 ^ 0 + x / 2 ^ 1 % 2 * 2 ^ 1 + x / 2 ^ 2 % 2 * 2 ^ 2 + x / 2 ^ 3 % 2 * 2 ^ 3 + x / 2 ^ 4 % 2 * 2 ^ 4 + x / 2 ^ 5 % 2 * 2 ^ 5 + x / 2 ^ 6 % 2 * 2 ^ 6 + x / 2 ^ 7 % 2 * 2 ^ 7 = x := by
  obtain ⟨h0, h1⟩ := h
  simp only [Int.reducePow]
  omega
theorem bitL_byte (b : List Int) (hby : ∀ x ∈ b, isByte x) (i : Nat) (h : i < b.length) : bval (bitL b) (8 * i) 8 = b.getD i 0 := by
  have hg : ∀ j : Nat, j < 8 → (bitL b).getD (8 * i + j) 0 = b.getD i 0 / 2 ^ j % 2 := fun j hj => by
    rw [bitL_get b _ (by omega)]
    unfold bitAt
    rw [if_pos (by omega)]
    have e1 : (((8 * i + j : Nat) : Int) / 8).toNat = i := by omega
    have e2 : (((8 * i + j : Nat) : Int) % 8).toNat = j := by omega
    rw [e1, e2]
  have hb := byte_bits (byte_bit hby i)
  simp only [bval]
  rw [hg 0 (by omega), hg 1 (by omega), hg 2 (by omega), hg 3 (by omega), hg 4 (by omega), hg 5 (by omega), hg 6 (by omega), hg 7 (by omega)]
  rw [Int.zero_add]
  exact hb
theorem bval_mod (l : List Int) (h : ∀ b ∈ l, isBit b) (i n m : Nat) : bval l i (n + m) % 2 ^ n = bval l i n ∧ bval l i (n + m) / 2 ^ n = bval l (i + n) m := by
  have hb := bval_bound l h i n
  have hp : (0 : Int) < 2 ^ n := Int.pow_pos (by decide)
  rw [bval_split]
  constructor
  · rw [Int.add_mul_emod_self_right]
    exact Int.emod_eq_of_lt hb.1 hb.2
  · rw [Int.add_mul_ediv_right _ _ (by omega), Int.ediv_eq_zero_of_lt hb.1 hb.2]
    omega
end Go.Proofs.Ytkkddgdcmdnnmaa
namespace Go.Proofs.Ytkkddgdcmdnnmaa
open Go Go.Sx Go.Proofs
theorem next_ok (b : List Int) (at' cap : Nat) (h : at' < b.length) (hl : b.length ≤ 2 ^ 60) :
    Con Try.prog 39 [.ptr 0 .z 1 0, .ptr 1 .z 1 0] [.one 3 [.int .i64 at'], .one 22 [.slice 2 .z 1 b.length cap], .ro .u8 b]
      (fun v H R => v = .tup [.int .u8 (b.getD at' 0), .bool true] ∧ R = [] ∧ H = [.one 3 [.int .i64 ((at' + 1 : Nat) : Int)], .one 22 [.slice 2 .z 1 b.length cap], .ro .u8 b]) := by
  refine con_walk hmix fn39 ?_
  intro vb vc vw vtoN vofN vaddN vsubN vmaxI vminI vcutN vgd vst vln vrep vsub vonto vsplice vstrEq vbyteV vnotB veqB hw qb qc qw qtoN qofN qaddN qsubN qmaxI qminI qcutN qgd qst qln qrep qsub qonto qsplice qstrEq qbyteV qnotB qeqB
  generalize Try.prog = P at *
  generalize hlen : b.length = len at *
  generalize hv : b.getD at' 0 = v0
  generalize ha1 : ((at' + 1 : Nat) : Int) = a1
  generalize ha : ((at' : Nat) : Int) = a0
  cbv
  have e1 : vc .geq a0 (vofN len) = false := by simp only [qc, qofN]; rw [geq_false]; simp only [nc] at *; omega
  have e2 : vb .add .i64 a0 1 = a1 := by simp only [nc] at *; rw [qb, add_i64 (by omega) (by omega)]; omega
  have e3 : vb .sub .i64 a1 1 = a0 := by simp only [nc] at *; rw [qb, sub_i64 (by omega) (by omega)]; omega
  have hin : 0 ≤ a0 ∧ a0 < len := by simp only [nc] at *; omega
  have ht : vtoN a0 = at' := by simp only [qtoN]; simp only [nc] at *; omega
  have hlt : vtoN a0 < vln b := by rw [ht]; simp only [qln]; omega
  have hlt2 : vaddN 0 (vtoN a0) < vln b := by simp only [qaddN, Nat.zero_add]; exact hlt
  have hval : vgd b (vtoN a0) = v0 := by rw [ht]; simp only [qgd]; exact hv
  rw [e1]
  cbv
  rw [e2, e3, hval]
  exact ⟨⟨hin⟩, ⟨hlt2⟩, ⟨hlt⟩, rfl, rfl⟩
theorem next_end (b : List Int) (cap : Nat) (hl : b.length ≤ 2 ^ 60) :
    Con Try.prog 39 [.ptr 0 .z 1 0, .ptr 1 .z 1 0] [.one 3 [.int .i64 b.length], .one 22 [.slice 2 .z 1 b.length cap], .ro .u8 b]
      (fun v H R => v = .tup [.lit .u8 0, .bool false] ∧ R = [] ∧ H = [.one 3 [.int .i64 b.length], .one 22 [.slice 2 .z 1 b.length cap], .ro .u8 b]) := by
  refine con_walk hmix fn39 ?_
  intro vb vc vw vtoN vofN vaddN vsubN vmaxI vminI vcutN vgd vst vln vrep vsub vonto vsplice vstrEq vbyteV vnotB veqB hw qb qc qw qtoN qofN qaddN qsubN qmaxI qminI qcutN qgd qst qln qrep qsub qonto qsplice qstrEq qbyteV qnotB qeqB
  generalize Try.prog = P at *
  generalize hlen : b.length = len at *
  generalize ha : ((len : Nat) : Int) = a0
  cbv
  have e1 : vc .geq a0 (vofN len) = true := by simp only [qc, qofN]; rw [geq_true]; simp only [nc] at *; omega
  rw [e1]
  cbv
theorem bleft_con (b : List Int) (at' cap : Nat) (h : at' ≤ b.length) (hl : b.length ≤ 2 ^ 50) :
    Con Try.prog 40 [.ptr 1 .z 1 0, .ptr 0 .z 1 0] [.one 3 [.int .i64 at'], .one 22 [.slice 2 .z 1 b.length cap], .ro .u8 b]
      (fun v H R => v = .int .i64 (8 * ((b.length : Int) - at')) ∧ R = [] ∧ H = [.one 3 [.int .i64 at'], .one 22 [.slice 2 .z 1 b.length cap], .ro .u8 b]) := by
  refine con_walk hmix fn40 ?_
  intro vb vc vw vtoN vofN vaddN vsubN vmaxI vminI vcutN vgd vst vln vrep vsub vonto vsplice vstrEq vbyteV vnotB veqB hw qb qc qw qtoN qofN qaddN qsubN qmaxI qminI qcutN qgd qst qln qrep qsub qonto qsplice qstrEq qbyteV qnotB qeqB
  generalize Try.prog = P at *
  generalize hlen : b.length = len at *
  generalize hr : 8 * ((len : Int) - at') = r
  generalize ha : ((at' : Nat) : Int) = a0
  have e1 : vb .mul .i64 8 (vb .sub .i64 (vofN len) a0) = r := by simp only [qb, qofN]; rw [sub_i64 (by omega) (by omega), mul_i64 (by omega) (by omega)]; omega
  cbv
  rw [e1]
  trivial
set_option maxHeartbeats 4000000 in
theorem fill_ok (b : List Int) (pos at' cap n : Nat) (hby : ∀ x ∈ b, isByte x) (hl : b.length ≤ 2 ^ 50) (hp : pos ≤ 8 * at') (hp2 : 8 * at' ≤ pos + 63) (ha : at' ≤ b.length) (hn : n ≤ 56) (hen : pos + n ≤ 8 * b.length) :
    Con Try.prog 54 [.ptr 0 .z 4 0, .int .i64 n] [(.one 81 [.fn 39 [.ptr 1 .z 1 0, .ptr 2 .z 1 0], .int .u64 (bval (bitL b) pos (8 * at' - pos)), .int .i64 (((8 * at' - pos : Nat) : Int)), .fn 40 [.ptr 2 .z 1 0, .ptr 1 .z 1 0]]), .one 3 [.int .i64 at'], .one 22 [.slice 3 .z 1 b.length cap], .ro .u8 b]
      (fun v H R => v = .bool true ∧ R = [] ∧ ∃ a2 : Nat, pos + n ≤ 8 * a2 ∧ 8 * a2 ≤ pos + 63 ∧ a2 ≤ b.length ∧ H = [(.one 81 [.fn 39 [.ptr 1 .z 1 0, .ptr 2 .z 1 0], .int .u64 (bval (bitL b) pos (8 * a2 - pos)), .int .i64 (((8 * a2 - pos : Nat) : Int)), .fn 40 [.ptr 2 .z 1 0, .ptr 1 .z 1 0]]), .one 3 [.int .i64 a2], .one 22 [.slice 3 .z 1 b.length cap], .ro .u8 b]) := by
  have hnext := fun a h => next_ok b a cap h (by omega)
  refine con_cut 4 (by simp) (con_red [] (con_walk hmix fn54 ?_))
  intro vb vc vw vtoN vofN vaddN vsubN vmaxI vminI vcutN vgd vst vln vrep vsub vonto vsplice vstrEq vbyteV vnotB veqB hw qb qc qw qtoN qofN qaddN qsubN qmaxI qminI qcutN qgd qst qln qrep qsub qonto qsplice qstrEq qbyteV qnotB qeqB
  have hm := hmix
  generalize Try.prog = P at *
  generalize hacc : bval (bitL b) pos (8 * at' - pos) = acc
  generalize hhave : ((8 * at' - pos : Nat) : Int) = have0
  generalize ha0 : ((at' : Nat) : Int) = a0
  generalize hn0 : ((n : Nat) : Int) = n0
  generalize hlen : b.length = len at *
  cbv
  refine loop_fam (α := Int × Int × Int) [5, 6, 7, 8, 9, 10, 11, 12, 13, 14, 15, 16, 17, 18, 19, 20, 21, 22, 23, 24, 25, 26, 27, 28, 29, 30, 31, 32, 33, 34, 35, 36, 37, 38, 39, 40, 41, 42, 43, 44] []
    (fun (x, k, a) => []) (fun (x, k, a) => [(0, (.one 81 [.fn 39 [.ptr 1 .z 1 0, .ptr 2 .z 1 0], .int .u64 (x), .int .i64 (k), .fn 40 [.ptr 2 .z 1 0, .ptr 1 .z 1 0]])), (1, .one 3 [.int .i64 a])])
    (fun (x, k, a) => ∃ i : Nat, pos ≤ 8 * i ∧ 8 * i ≤ pos + 63 ∧ i ≤ len ∧ x = bval (bitL b) pos (8 * i - pos) ∧ k = ((8 * i - pos : Nat) : Int) ∧ a = i) (fun (x, k, a) => len - a.toNat) hw hm ?_ ?_
  · refine Cv.fold [5, 6, 7, 8, 9, 10, 11, 12, 13, 14, 15, 16, 17, 18, 19, 20, 21, 22, 23, 24, 25, 26, 27, 28, 29, 30, 31, 32, 33, 34, 35, 36, 37, 38, 39, 40, 41, 42, 43, 44] 4 [] (by exact Nat.le_refl _) (by exact Nat.le_of_ble_eq_true rfl) (by rfl) (by cbv) ?_
    intro js
    refine ⟨(_, _, _), ?_, js, rfl⟩
    exact ⟨at', hp, hp2, ha, hacc.symm, hhave.symm, ha0.symm⟩
  · rintro ⟨x, k, a⟩ js ⟨i, hi1, hi2, hi3, hx, hk, hai⟩
    cbv
    split
    · rename_i hlt
      have hlt : 8 * i < pos + n := by rw [qc, lss_true] at hlt; simp only [nc] at *; omega
      have hil : i < len := by omega
      have hnext' := hnext i hil
      have hbyte := byte_bit hby i
      have hbb := bitL_byte b hby i (by omega)
      simp only [nc] at hnext' hai
      rw [← hai] at hnext'
      generalize hy : b.getD i 0 = y at *
      generalize ha1 : ((i + 1 : Nat) : Int) = a1 at *
      have hw1 : vw .u64 y = y := by simp only [qw]; exact wrap_u64 hbyte.1 (by have := hbyte.2; omega)
      have hw2 : vw .u64 k = k := by simp only [nc] at *; simp only [qw]; exact wrap_u64 (by omega) (by omega)
      have hk0 : 0 ≤ vw .u64 k := by rw [hw2]; simp only [nc] at *; omega
      have hk1 : vb .add .i64 k 8 = ((8 * (i + 1) - pos : Nat) : Int) := by simp only [nc] at *; rw [qb, add_i64 (by omega) (by omega)]; omega
      have hval : vb .or .u64 x (vb .shl .u64 (vw .u64 y) (vw .u64 k)) = bval (bitL b) pos (8 * (i + 1) - pos) := by
        have hbd := bval_bound (bitL b) (bitL_bit b) pos (8 * i - pos)
        have hp56 := pow_le_56 (show 8 * i - pos ≤ 56 by omega)
        have hpp : (0 : Int) < 2 ^ (8 * i - pos) := Int.pow_pos (by decide)
        have hkn : k.toNat = 8 * i - pos := by simp only [nc] at *; omega
        have hyb : y * 2 ^ (8 * i - pos) ≤ 255 * 2 ^ (8 * i - pos) := Int.mul_le_mul_of_nonneg_right (by have := hbyte.2; omega) (Int.le_of_lt hpp)
        have e : 8 * (i + 1) - pos = (8 * i - pos) + 8 := by omega
        rw [hw1, hw2, qb, shl_u rfl hbyte.1 (by show k ≤ ((64 : Nat) : Int); simp only [nc] at *; omega) (by rw [hkn]; show _ < (2 : Int) ^ 64; omega), hkn, hx, e, bval_split]
        have e2 : pos + (8 * i - pos) = 8 * i := by omega
        rw [e2, hbb, or_add rfl _ hbd.1 hbd.2 hbyte.1 (by show _ < (2 : Int) ^ 64; omega)]
      cbv
      refine call_con (ρ := [(1, .z), (2, .z), (3, .z)]) hnext' ⟨by rfl, by rfl, by rfl, by cbv; exact ⟨view_refl _, trivial⟩⟩ ?_
      rintro v H R js ⟨rfl, rfl, rfl⟩
      have e4 : vnotB true = false := by simp only [qnotB]; rfl
      cbv
      rw [e4]
      cbv
      refine ⟨⟨hk0⟩, ?_⟩
      refine Cv.fold [5, 6, 7, 8, 9, 10, 11, 12, 13, 14, 15, 16, 17, 18, 19, 20, 21, 22, 23, 24, 25, 26, 27, 28, 29, 30, 31, 32, 33, 34, 35, 36, 37, 38, 39, 40, 41, 42, 43, 44] 4 [] (by exact Nat.le_refl _) (by exact Nat.le_of_ble_eq_true rfl) (by rfl) (by cbv) ?_
      intro js
      refine ⟨(_, _, _), ?_, js, rfl⟩
      exact ⟨⟨i + 1, by omega, by omega, by omega, hval, hk1, ha1.symm⟩, by show len - a1.toNat < len - a.toNat; simp only [nc] at *; omega⟩
    · rename_i hge
      have hge : pos + n ≤ 8 * i := by rw [qc, lss_false] at hge; simp only [nc] at *; omega
      cbv
      refine ⟨i, hge, hi2, hi3, ?_⟩
      rw [hx, hk, hai]
      rfl
set_option maxHeartbeats 4000000 in
theorem fill_end (b : List Int) (pos at' cap n : Nat) (hby : ∀ x ∈ b, isByte x) (hl : b.length ≤ 2 ^ 50) (hp : pos ≤ 8 * at') (hp2 : 8 * at' ≤ pos + 63) (ha : at' ≤ b.length) (hn : n ≤ 56) (hen : 8 * b.length < pos + n) :
    Con Try.prog 54 [.ptr 0 .z 4 0, .int .i64 n] [(.one 81 [.fn 39 [.ptr 1 .z 1 0, .ptr 2 .z 1 0], .int .u64 (bval (bitL b) pos (8 * at' - pos)), .int .i64 (((8 * at' - pos : Nat) : Int)), .fn 40 [.ptr 2 .z 1 0, .ptr 1 .z 1 0]]), .one 3 [.int .i64 at'], .one 22 [.slice 3 .z 1 b.length cap], .ro .u8 b]
      (fun v H R => v = .bool false ∧ R = [] ∧ H = [(.one 81 [.fn 39 [.ptr 1 .z 1 0, .ptr 2 .z 1 0], .int .u64 (bval (bitL b) pos (8 * b.length - pos)), .int .i64 (((8 * b.length - pos : Nat) : Int)), .fn 40 [.ptr 2 .z 1 0, .ptr 1 .z 1 0]]), .one 3 [.int .i64 b.length], .one 22 [.slice 3 .z 1 b.length cap], .ro .u8 b]) := by
  have hnext := fun a h => next_ok b a cap h (by omega)
  have hend := next_end b cap (by omega)
  refine con_cut 4 (by simp) (con_red [] (con_walk hmix fn54 ?_))
  intro vb vc vw vtoN vofN vaddN vsubN vmaxI vminI vcutN vgd vst vln vrep vsub vonto vsplice vstrEq vbyteV vnotB veqB hw qb qc qw qtoN qofN qaddN qsubN qmaxI qminI qcutN qgd qst qln qrep qsub qonto qsplice qstrEq qbyteV qnotB qeqB
  have hm := hmix
  generalize Try.prog = P at *
  generalize hacc : bval (bitL b) pos (8 * at' - pos) = acc
  generalize hhave : ((8 * at' - pos : Nat) : Int) = have0
  generalize hacc2 : bval (bitL b) pos (8 * b.length - pos) = acc2
  generalize hhave2 : ((8 * b.length - pos : Nat) : Int) = have2
  generalize ha0 : ((at' : Nat) : Int) = a0
  generalize hn0 : ((n : Nat) : Int) = n0
  generalize hlI : ((b.length : Nat) : Int) = lI at *
  generalize hlen : b.length = len at *
  cbv
  refine loop_fam (α := Int × Int × Int) [5, 6, 7, 8, 9, 10, 11, 12, 13, 14, 15, 16, 17, 18, 19, 20, 21, 22, 23, 24, 25, 26, 27, 28, 29, 30, 31, 32, 33, 34, 35, 36, 37, 38, 39, 40, 41, 42, 43, 44] []
    (fun (x, k, a) => []) (fun (x, k, a) => [(0, (.one 81 [.fn 39 [.ptr 1 .z 1 0, .ptr 2 .z 1 0], .int .u64 (x), .int .i64 (k), .fn 40 [.ptr 2 .z 1 0, .ptr 1 .z 1 0]])), (1, .one 3 [.int .i64 a])])
    (fun (x, k, a) => ∃ i : Nat, pos ≤ 8 * i ∧ 8 * i ≤ pos + 63 ∧ i ≤ len ∧ x = bval (bitL b) pos (8 * i - pos) ∧ k = ((8 * i - pos : Nat) : Int) ∧ a = i) (fun (x, k, a) => len - a.toNat) hw hm ?_ ?_
  · refine Cv.fold [5, 6, 7, 8, 9, 10, 11, 12, 13, 14, 15, 16, 17, 18, 19, 20, 21, 22, 23, 24, 25, 26, 27, 28, 29, 30, 31, 32, 33, 34, 35, 36, 37, 38, 39, 40, 41, 42, 43, 44] 4 [] (by exact Nat.le_refl _) (by exact Nat.le_of_ble_eq_true rfl) (by rfl) (by cbv) ?_
    intro js
    refine ⟨(_, _, _), ?_, js, rfl⟩
    exact ⟨at', hp, hp2, ha, hacc.symm, hhave.symm, ha0.symm⟩
  · rintro ⟨x, k, a⟩ js ⟨i, hi1, hi2, hi3, hx, hk, hai⟩
    have hc : vc .lss k n0 = true := by rw [qc, lss_true]; simp only [nc] at *; omega
    cbv
    rw [hc]
    by_cases hil : i < len
    · have hnext' := hnext i hil
      have hbyte := byte_bit hby i
      have hbb := bitL_byte b hby i (by omega)
      simp only [nc] at hnext' hai
      rw [← hai] at hnext'
      generalize hy : b.getD i 0 = y at *
      generalize ha1 : ((i + 1 : Nat) : Int) = a1 at *
      have hw1 : vw .u64 y = y := by simp only [qw]; exact wrap_u64 hbyte.1 (by have := hbyte.2; omega)
      have hw2 : vw .u64 k = k := by simp only [nc] at *; simp only [qw]; exact wrap_u64 (by omega) (by omega)
      have hk0 : 0 ≤ vw .u64 k := by rw [hw2]; simp only [nc] at *; omega
      have hk1 : vb .add .i64 k 8 = ((8 * (i + 1) - pos : Nat) : Int) := by simp only [nc] at *; rw [qb, add_i64 (by omega) (by omega)]; omega
      have hval : vb .or .u64 x (vb .shl .u64 (vw .u64 y) (vw .u64 k)) = bval (bitL b) pos (8 * (i + 1) - pos) := by
        have hbd := bval_bound (bitL b) (bitL_bit b) pos (8 * i - pos)
        have hp56 := pow_le_56 (show 8 * i - pos ≤ 56 by omega)
        have hpp : (0 : Int) < 2 ^ (8 * i - pos) := Int.pow_pos (by decide)
        have hkn : k.toNat = 8 * i - pos := by simp only [nc] at *; omega
        have hyb : y * 2 ^ (8 * i - pos) ≤ 255 * 2 ^ (8 * i - pos) := Int.mul_le_mul_of_nonneg_right (by have := hbyte.2; omega) (Int.le_of_lt hpp)
        have e : 8 * (i + 1) - pos = (8 * i - pos) + 8 := by omega
        rw [hw1, hw2, qb, shl_u rfl hbyte.1 (by show k ≤ ((64 : Nat) : Int); simp only [nc] at *; omega) (by rw [hkn]; show _ < (2 : Int) ^ 64; omega), hkn, hx, e, bval_split]
        have e2 : pos + (8 * i - pos) = 8 * i := by omega
        rw [e2, hbb, or_add rfl _ hbd.1 hbd.2 hbyte.1 (by show _ < (2 : Int) ^ 64; omega)]
      cbv
      refine call_con (ρ := [(1, .z), (2, .z), (3, .z)]) hnext' ⟨by rfl, by rfl, by rfl, by cbv; exact ⟨view_refl _, trivial⟩⟩ ?_
      rintro v H R js ⟨rfl, rfl, rfl⟩
      have e4 : vnotB true = false := by simp only [qnotB]; rfl
      cbv
      rw [e4]
      cbv
      refine ⟨⟨hk0⟩, ?_⟩
      refine Cv.fold [5, 6, 7, 8, 9, 10, 11, 12, 13, 14, 15, 16, 17, 18, 19, 20, 21, 22, 23, 24, 25, 26, 27, 28, 29, 30, 31, 32, 33, 34, 35, 36, 37, 38, 39, 40, 41, 42, 43, 44] 4 [] (by exact Nat.le_refl _) (by exact Nat.le_of_ble_eq_true rfl) (by rfl) (by cbv) ?_
      intro js
      refine ⟨(_, _, _), ?_, js, rfl⟩
      exact ⟨⟨i + 1, by omega, by omega, by omega, hval, hk1, ha1.symm⟩, by show len - a1.toNat < len - a.toNat; simp only [nc] at *; omega⟩
    · have hil : i = len := by omega
      have e4 : vnotB false = true := by simp only [qnotB]; rfl
      have hai2 : a = lI := by rw [hai, hil]; exact hlI
      have hx2 : x = acc2 := by rw [hx, hil, hacc2]
      have hk2 : k = have2 := by rw [hk, hil]; exact hhave2
      rw [hai2, hx2, hk2]
      cbv
      refine call_con (ρ := [(1, .z), (2, .z), (3, .z)]) hend ⟨by rfl, by rfl, by rfl, by cbv; exact ⟨view_refl _, trivial⟩⟩ ?_
      rintro v H R js ⟨rfl, rfl, rfl⟩
      cbv
      rw [e4]
      cbv
end Go.Proofs.Ytkkddgdcmdnnmaa
namespace Go.Proofs.Ytkkddgdcmdnnmaa
open Go Go.Sx Go.Proofs
theorem rb_bad (b : List Int) (pos at' cap : Nat) (n : Int) (hn : ¬ (0 ≤ n ∧ n ≤ 56)) :
    Con Try.prog 24 [.ptr 0 .z 4 0, .int .i64 n] [(.one 81 [.fn 39 [.ptr 1 .z 1 0, .ptr 2 .z 1 0], .int .u64 (bval (bitL b) pos (8 * at' - pos)), .int .i64 (((8 * at' - pos : Nat) : Int)), .fn 40 [.ptr 2 .z 1 0, .ptr 1 .z 1 0]]), .one 3 [.int .i64 at'], .one 22 [.slice 3 .z 1 b.length cap], .ro .u8 b]
      (fun v H R => v = .tup [.lit .u64 0, .lit .i64 2] ∧ R = [] ∧ H = [(.one 81 [.fn 39 [.ptr 1 .z 1 0, .ptr 2 .z 1 0], .int .u64 (bval (bitL b) pos (8 * at' - pos)), .int .i64 (((8 * at' - pos : Nat) : Int)), .fn 40 [.ptr 2 .z 1 0, .ptr 1 .z 1 0]]), .one 3 [.int .i64 at'], .one 22 [.slice 3 .z 1 b.length cap], .ro .u8 b]) := by
  refine con_walk hmix fn24 ?_
  intro vb vc vw vtoN vofN vaddN vsubN vmaxI vminI vcutN vgd vst vln vrep vsub vonto vsplice vstrEq vbyteV vnotB veqB hw qb qc qw qtoN qofN qaddN qsubN qmaxI qminI qcutN qgd qst qln qrep qsub qonto qsplice qstrEq qbyteV qnotB qeqB
  generalize Try.prog = P at *
  generalize hacc : bval (bitL b) pos (8 * at' - pos) = acc at *
  generalize hhave : ((8 * at' - pos : Nat) : Int) = have0 at *
  generalize ha0 : ((at' : Nat) : Int) = a0 at *
  generalize b.length = len at *
  cbv
  generalize h1 : vc .lss n 0 = z1
  cases z1
  · cbv
    have h2 : vc .gtr n 56 = true := by rw [qc, lss_false] at h1; rw [qc, gtr_true]; omega
    rw [h2]
    cbv
  · cbv
theorem rb_short (b : List Int) (pos at' cap n : Nat) (hby : ∀ x ∈ b, isByte x) (hl : b.length ≤ 2 ^ 50) (hp : pos ≤ 8 * at') (hp2 : 8 * at' ≤ pos + 63) (ha : at' ≤ b.length) (hn : n ≤ 56) (hen : 8 * b.length < pos + n) :
    Con Try.prog 24 [.ptr 0 .z 4 0, .int .i64 n] [(.one 81 [.fn 39 [.ptr 1 .z 1 0, .ptr 2 .z 1 0], .int .u64 (bval (bitL b) pos (8 * at' - pos)), .int .i64 (((8 * at' - pos : Nat) : Int)), .fn 40 [.ptr 2 .z 1 0, .ptr 1 .z 1 0]]), .one 3 [.int .i64 at'], .one 22 [.slice 3 .z 1 b.length cap], .ro .u8 b]
      (fun v H R => v = .tup [.lit .u64 0, .lit .i64 10] ∧ R = [] ∧ H = [(.one 81 [.fn 39 [.ptr 1 .z 1 0, .ptr 2 .z 1 0], .int .u64 (bval (bitL b) (pos) (8 * b.length - (pos))), .int .i64 (((8 * b.length - (pos) : Nat) : Int)), .fn 40 [.ptr 2 .z 1 0, .ptr 1 .z 1 0]]), .one 3 [.int .i64 b.length], .one 22 [.slice 3 .z 1 b.length cap], .ro .u8 b]) := by
  have hfill := fill_end b pos at' cap n hby hl hp hp2 ha hn hen
  refine con_walk hmix fn24 ?_
  intro vb vc vw vtoN vofN vaddN vsubN vmaxI vminI vcutN vgd vst vln vrep vsub vonto vsplice vstrEq vbyteV vnotB veqB hw qb qc qw qtoN qofN qaddN qsubN qmaxI qminI qcutN qgd qst qln qrep qsub qonto qsplice qstrEq qbyteV qnotB qeqB
  generalize Try.prog = P at *
  generalize hacc2 : bval (bitL b) pos (8 * b.length - pos) = acc2 at *
  generalize hhave2 : ((8 * b.length - pos : Nat) : Int) = have2 at *
  generalize hlI : ((b.length : Nat) : Int) = lI at *
  generalize hacc : bval (bitL b) pos (8 * at' - pos) = acc at *
  generalize hhave : ((8 * at' - pos : Nat) : Int) = have0 at *
  generalize ha0 : ((at' : Nat) : Int) = a0 at *
  generalize hn0 : ((n : Nat) : Int) = n0 at *
  generalize b.length = len at *
  cbv
  have e1 : vc .lss n0 0 = false := by rw [qc, lss_false]; simp only [nc] at *; omega
  have e2 : vc .gtr n0 56 = false := by rw [qc, gtr_false]; simp only [nc] at *; omega
  have e4 : vnotB false = true := by simp only [qnotB]; rfl
  rw [e1]
  cbv
  rw [e2]
  cbv
  refine call_con (ρ := [(0, .z), (1, .z), (2, .z), (3, .z)]) hfill ⟨by rfl, by rfl, by rfl, by cbv; exact ⟨view_refl _, trivial⟩⟩ ?_
  rintro v H R js ⟨rfl, rfl, rfl⟩
  cbv
  rw [e4]
  cbv
theorem rb_ok (b : List Int) (pos at' cap n : Nat) (hby : ∀ x ∈ b, isByte x) (hl : b.length ≤ 2 ^ 50) (hp : pos ≤ 8 * at') (hp2 : 8 * at' ≤ pos + 63) (ha : at' ≤ b.length) (hn : n ≤ 56) (hen : pos + n ≤ 8 * b.length) :
    Con Try.prog 24 [.ptr 0 .z 4 0, .int .i64 n] [(.one 81 [.fn 39 [.ptr 1 .z 1 0, .ptr 2 .z 1 0], .int .u64 (bval (bitL b) pos (8 * at' - pos)), .int .i64 (((8 * at' - pos : Nat) : Int)), .fn 40 [.ptr 2 .z 1 0, .ptr 1 .z 1 0]]), .one 3 [.int .i64 at'], .one 22 [.slice 3 .z 1 b.length cap], .ro .u8 b]
      (fun v H R => v = .tup [.int .u64 (bval (bitL b) pos n), .lit .i64 0] ∧ R = [] ∧ ∃ a2 : Nat, pos + n ≤ 8 * a2 ∧ 8 * a2 ≤ pos + n + 63 ∧ a2 ≤ b.length ∧ H = [(.one 81 [.fn 39 [.ptr 1 .z 1 0, .ptr 2 .z 1 0], .int .u64 (bval (bitL b) (pos + n) (8 * a2 - (pos + n))), .int .i64 (((8 * a2 - (pos + n) : Nat) : Int)), .fn 40 [.ptr 2 .z 1 0, .ptr 1 .z 1 0]]), .one 3 [.int .i64 a2], .one 22 [.slice 3 .z 1 b.length cap], .ro .u8 b]) := by
  have hfill := fill_ok b pos at' cap n hby hl hp hp2 ha hn hen
  refine con_walk hmix fn24 ?_
  intro vb vc vw vtoN vofN vaddN vsubN vmaxI vminI vcutN vgd vst vln vrep vsub vonto vsplice vstrEq vbyteV vnotB veqB hw qb qc qw qtoN qofN qaddN qsubN qmaxI qminI qcutN qgd qst qln qrep qsub qonto qsplice qstrEq qbyteV qnotB qeqB
  generalize Try.prog = P at *
  generalize hacc : bval (bitL b) pos (8 * at' - pos) = acc at *
  generalize hhave : ((8 * at' - pos : Nat) : Int) = have0 at *
  generalize ha0 : ((at' : Nat) : Int) = a0 at *
  generalize hn0 : ((n : Nat) : Int) = n0 at *
  generalize hX : bval (bitL b) pos n = X
  generalize b.length = len at *
  cbv
  have e1 : vc .lss n0 0 = false := by rw [qc, lss_false]; simp only [nc] at *; omega
  have e2 : vc .gtr n0 56 = false := by rw [qc, gtr_false]; simp only [nc] at *; omega
  have e4 : vnotB true = false := by simp only [qnotB]; rfl
  have hwn : vw .u64 n0 = n0 := by simp only [nc] at *; simp only [qw]; exact wrap_u64 (by omega) (by omega)
  have hnn : 0 ≤ vw .u64 n0 := by rw [hwn]; simp only [nc] at *; omega
  rw [e1]
  cbv
  rw [e2]
  cbv
  simp only [nc] at hfill
  refine call_con (ρ := [(0, .z), (1, .z), (2, .z), (3, .z)]) hfill ⟨by rfl, by rfl, by rfl, by cbv; exact ⟨view_refl _, trivial⟩⟩ ?_
  rintro v H R js ⟨rfl, rfl, a2, h1, h2, h3, rfl⟩
  generalize hacc2 : bval (bitL b) pos (8 * a2 - pos) = acc2
  generalize hhave2 : ((8 * a2 - pos : Nat) : Int) = have2
  generalize hai2 : ((a2 : Nat) : Int) = ai2
  have hbm := bval_mod (bitL b) (bitL_bit b) pos n (8 * a2 - pos - n)
  have hbd := bval_bound (bitL b) (bitL_bit b) pos (8 * a2 - pos)
  rw [show n + (8 * a2 - pos - n) = 8 * a2 - pos by omega] at hbm
  rw [hacc2, hX] at hbm
  rw [hacc2] at hbd
  have hlt64 : acc2 < 2 ^ 64 := by
    have : (2 : Int) ^ (8 * a2 - pos) ≤ 2 ^ 64 := by exact_mod_cast Nat.pow_le_pow_right (by decide) (by omega)
    omega
  have hpn := pow_le_56 hn
  have hp0 : (0 : Int) < 2 ^ n := Int.pow_pos (by decide)
  have hn00 : n0.toNat = n := by simp only [nc] at *; omega
  have hx : vb .and .u64 acc2 (vb .sub .u64 (vb .shl .u64 1 (vw .u64 n0)) 1) = X := by
    have e1 : vb .shl .u64 1 n0 = 2 ^ n := by
      rw [qb, shl_u rfl (by decide) (by show n0 ≤ ((64 : Nat) : Int); simp only [nc] at *; omega) (by rw [hn00]; show _ < (2 : Int) ^ 64; omega), hn00]; omega
    have e2 : vb .sub .u64 (2 ^ n) 1 = 2 ^ n - 1 := by rw [qb]; exact wrap_u64 (by omega) (by omega)
    rw [hwn, e1, e2, qb, and_mask (k := .u64) rfl n (by show n ≤ 64; omega) hbd.1 hlt64]
    exact hbm.1
  have hsh : vb .shr .u64 acc2 (vw .u64 n0) = bval (bitL b) (pos + n) (8 * a2 - pos - n) := by
    rw [hwn, qb, shr_eq (by show n0 ≤ ((64 : Nat) : Int); simp only [nc] at *; omega), hn00]
    exact hbm.2
  have hhs : vb .sub .i64 have2 n0 = ((8 * a2 - (pos + n) : Nat) : Int) := by
    simp only [nc] at *; rw [qb, sub_i64 (by omega) (by omega)]; omega
  cbv
  rw [e4]
  cbv
  refine ⟨⟨hnn⟩, ⟨hnn⟩, ?_⟩
  rw [hx, hsh, hhs]
  refine ⟨rfl, a2, h1, by omega, h3, ?_⟩
  rw [show 8 * a2 - pos - n = 8 * a2 - (pos + n) by omega, ← hai2]
  rfl
def rbX (b : List Int) (pos : Nat) (n : Int) : Int := if 0 ≤ n ∧ n ≤ 56 ∧ pos + n ≤ 8 * b.length then bval (bitL b) pos n.toNat else 0
def rbE (b : List Int) (pos : Nat) (n : Int) : Int := if 0 ≤ n ∧ n ≤ 56 then (if pos + n ≤ 8 * b.length then 0 else 10) else 2
def rbP (b : List Int) (pos : Nat) (n : Int) : Nat := if 0 ≤ n ∧ n ≤ 56 ∧ pos + n ≤ 8 * b.length then pos + n.toNat else pos
theorem rbits_con (b : List Int) (pos at' cap : Nat) (n : Int) (hby : ∀ x ∈ b, isByte x) (hl : b.length ≤ 2 ^ 50) (hp : pos ≤ 8 * at') (hp2 : 8 * at' ≤ pos + 63) (ha : at' ≤ b.length) :
    Con Try.prog 24 [.ptr 0 .z 4 0, .int .i64 n] [(.one 81 [.fn 39 [.ptr 1 .z 1 0, .ptr 2 .z 1 0], .int .u64 (bval (bitL b) pos (8 * at' - pos)), .int .i64 (((8 * at' - pos : Nat) : Int)), .fn 40 [.ptr 2 .z 1 0, .ptr 1 .z 1 0]]), .one 3 [.int .i64 at'], .one 22 [.slice 3 .z 1 b.length cap], .ro .u8 b]
      (fun v H R => v = .tup [.int .u64 (rbX b pos n), .int .i64 (rbE b pos n)] ∧ R = [] ∧ ∃ a2 : Nat, rbP b pos n ≤ 8 * a2 ∧ 8 * a2 ≤ rbP b pos n + 63 ∧ a2 ≤ b.length ∧ H = [(.one 81 [.fn 39 [.ptr 1 .z 1 0, .ptr 2 .z 1 0], .int .u64 (bval (bitL b) (rbP b pos n) (8 * a2 - (rbP b pos n))), .int .i64 (((8 * a2 - (rbP b pos n) : Nat) : Int)), .fn 40 [.ptr 2 .z 1 0, .ptr 1 .z 1 0]]), .one 3 [.int .i64 a2], .one 22 [.slice 3 .z 1 b.length cap], .ro .u8 b]) := by
  by_cases hn : 0 ≤ n ∧ n ≤ 56
  · obtain ⟨m, rfl⟩ : ∃ m : Nat, n = m := ⟨n.toNat, by omega⟩
    by_cases hen : pos + m ≤ 8 * b.length
    · have e1 : rbX b pos m = bval (bitL b) pos m := by unfold rbX; rw [if_pos ⟨hn.1, hn.2, by omega⟩]; rfl
      have e2 : rbE b pos m = 0 := by unfold rbE; rw [if_pos hn, if_pos (by omega)]
      have e3 : rbP b pos m = pos + m := by unfold rbP; rw [if_pos ⟨hn.1, hn.2, by omega⟩]; rfl
      rw [e1, e2, e3]
      refine con_gen ((rb_ok b pos at' cap m hby hl hp hp2 ha (by omega) hen).mono ?_)
      rintro v H R ⟨rfl, rfl, a2, h1, h2, h3, rfl⟩
      exact ⟨rfl, rfl, a2, h1, h2, h3, rfl⟩
    · have e1 : rbX b pos m = 0 := by unfold rbX; rw [if_neg (by omega)]
      have e2 : rbE b pos m = 10 := by unfold rbE; rw [if_pos hn, if_neg (by omega)]
      have e3 : rbP b pos m = pos := by unfold rbP; rw [if_neg (by omega)]
      rw [e1, e2, e3]
      refine con_gen ((rb_short b pos at' cap m hby hl hp hp2 ha (by omega) (by omega)).mono ?_)
      rintro v H R ⟨rfl, rfl, rfl⟩
      exact ⟨rfl, rfl, b.length, by omega, by omega, Nat.le_refl _, rfl⟩
  · have e1 : rbX b pos n = 0 := by unfold rbX; rw [if_neg (by omega)]
    have e2 : rbE b pos n = 2 := by unfold rbE; rw [if_neg hn]
    have e3 : rbP b pos n = pos := by unfold rbP; rw [if_neg (by omega)]
    rw [e1, e2, e3]
    refine con_gen ((rb_bad b pos at' cap n hn).mono ?_)
    rintro v H R ⟨rfl, rfl, rfl⟩
    exact ⟨rfl, rfl, at', hp, hp2, ha, rfl⟩
end Go.Proofs.Ytkkddgdcmdnnmaa
namespace Go.Proofs.Ytkkddgdcmdnnmaa
open Go Go.Sx Go.Proofs
theorem rleft_con (b : List Int) (pos at' cap : Nat) (hl : b.length ≤ 2 ^ 50) (hp : pos ≤ 8 * at') (ha : at' ≤ b.length) :
    Con Try.prog 18 [.ptr 0 .z 4 0] [(.one 81 [.fn 39 [.ptr 1 .z 1 0, .ptr 2 .z 1 0], .int .u64 (bval (bitL b) pos (8 * at' - pos)), .int .i64 (((8 * at' - pos : Nat) : Int)), .fn 40 [.ptr 2 .z 1 0, .ptr 1 .z 1 0]]), .one 3 [.int .i64 at'], .one 22 [.slice 3 .z 1 b.length cap], .ro .u8 b]
      (fun v H R => v = .int .i64 (8 * b.length - pos) ∧ R = [] ∧ H = [(.one 81 [.fn 39 [.ptr 1 .z 1 0, .ptr 2 .z 1 0], .int .u64 (bval (bitL b) pos (8 * at' - pos)), .int .i64 (((8 * at' - pos : Nat) : Int)), .fn 40 [.ptr 2 .z 1 0, .ptr 1 .z 1 0]]), .one 3 [.int .i64 at'], .one 22 [.slice 3 .z 1 b.length cap], .ro .u8 b]) := by
  have hleft := bleft_con b at' cap ha hl
  refine con_walk hmix fn18 ?_
  intro vb vc vw vtoN vofN vaddN vsubN vmaxI vminI vcutN vgd vst vln vrep vsub vonto vsplice vstrEq vbyteV vnotB veqB hw qb qc qw qtoN qofN qaddN qsubN qmaxI qminI qcutN qgd qst qln qrep qsub qonto qsplice qstrEq qbyteV qnotB qeqB
  generalize Try.prog = P at *
  generalize hr : 8 * ((b.length : Int) - at') = r at *
  generalize hacc : bval (bitL b) pos (8 * at' - pos) = acc at *
  generalize hhave : ((8 * at' - pos : Nat) : Int) = have0 at *
  generalize ha0 : ((at' : Nat) : Int) = a0 at *
  generalize hL : (8 * (b.length : Int) - pos) = L
  generalize hlen : b.length = len at *
  have e1 : vb .add .i64 have0 r = L := by rw [qb, add_i64 (by omega) (by omega)]; omega
  cbv
  refine call_con (ρ := [(1, .z), (2, .z), (3, .z)]) hleft ⟨by rfl, by rfl, by rfl, by cbv; exact ⟨view_refl _, trivial⟩⟩ ?_
  rintro v H R js ⟨rfl, rfl, rfl⟩
  cbv
  rw [e1]
  exact ⟨rfl, trivial⟩
theorem rnew_con (b : List Int) (cap : Nat) (hl : b.length ≤ 140737488355328) : Con Try.prog 11 [.slice 0 .z 1 b.length cap] [.ro .u8 b]
    (fun v H R => v = .ptr 4 .z 4 0 ∧ R = [1] ∧ ∃ c, H = [.ro .u8 b, .buf 5 .u8 b c, .one 22 [.slice 1 .z 1 b.length c], .one 3 [.int .i64 0], .one 81 [.fn 39 [.ptr 3 .z 1 0, .ptr 2 .z 1 0], .int .u64 0, .int .i64 0, .fn 40 [.ptr 2 .z 1 0, .ptr 3 .z 1 0]]]) := by
  refine con_gen (con_walk hmix fn11 ?_)
  intro vb vc vw vtoN vofN vaddN vsubN vmaxI vminI vcutN vgd vst vln vrep vsub vonto vsplice vstrEq vbyteV vnotB veqB hw qb qc qw qtoN qofN qaddN qsubN qmaxI qminI qcutN qgd qst qln qrep qsub qonto qsplice qstrEq qbyteV qnotB qeqB
  generalize Try.prog = P at *
  generalize hlen : b.length = len at *
  have ha : vaddN 0 len = len := by simp only [qaddN, Nat.zero_add]
  have hpay : vonto [] 0 (vsub b 0 len) = b := by simp only [qonto, qsub]; simp [← hlen]
  cbv
  refine ⟨⟨by rw [ha]; simp only [qln]; omega⟩, ⟨Nat.zero_le _⟩, ⟨Nat.zero_le _⟩, ⟨by rw [ha]; omega⟩, ?_⟩
  intro c1 js1 hle
  cbv
  rw [ha, hpay]
  exact ⟨c1, rfl⟩
end Go.Proofs.Ytkkddgdcmdnnmaa
namespace Go.Proofs.Ytkkddgdcmdnnmaa
open Go Go.Sx Go.Proofs
set_option maxHeartbeats 2000000 in
theorem bput_con (bs : List Int) (c : Nat) (x : Int) (n : Nat) (hn : n ≤ 56) (hx : 0 ≤ x ∧ x < 2 ^ 64) (hb : ∀ b ∈ bs, isBit b) (hl : bs.length ≤ 2 ^ 40) :
    Con Try.prog 23 [.ptr 0 .z 2 0, .int .u64 x, .int .i64 n] [.one 56 [.slice 1 .z 1 (pack bs).length c, .int .i64 bs.length], .buf 5 .u8 (pack bs) c]
      (fun v H R => v = .lit .i64 0 ∧ R = [1] ∧ ∃ c', H = [.one 56 [.slice 1 .z 1 (pack (bs ++ bitsN x n)).length c', .int .i64 (bs ++ bitsN x n).length], .buf 5 .u8 (pack (bs ++ bitsN x n)) c']) := by
  refine con_cut 2 (by simp) (con_red [1] (con_walk hmix fn23 ?_))
  intro vb vc vw vtoN vofN vaddN vsubN vmaxI vminI vcutN vgd vst vln vrep vsub vonto vsplice vstrEq vbyteV vnotB veqB hw qb qc qw qtoN qofN qaddN qsubN qmaxI qminI qcutN qgd qst qln qrep qsub qonto qsplice qstrEq qbyteV qnotB qeqB
  have hm := hmix
  have f37 := fn53
  have f43 := fn73
  generalize Try.prog = P at *
  generalize hl0 : pack bs = l0
  generalize hm0 : (bs.length : Int) = m0
  generalize hn0 : (n : Int) = n0
  generalize hlen0 : l0.length = len0
  cbv
  have e1 : vc .lss n0 0 = false := by subst_vars; try simp only [nc] at *; simp [cV]
  have e2 : vc .gtr n0 56 = false := by subst_vars; try simp only [nc] at *; simp [cV]; omega
  rw [e1]
  cbv
  rw [e2]
  cbv
  refine inl_walk hw hm f37 (by rfl) ?_
  cbv
  intro js
  refine range_rule (by rfl) (by rfl) (by cbv) (by cbv) (by rfl) ?_
  refine inl_walk hw hm f43 (by rfl) ?_
  cbv
  refine loop_fam (α := Int × Int × Int × List Int × Nat × Nat) [4, 5, 6, 7, 8, 9, 10, 11, 12, 13, 14, 15] [1]
    (fun (xx, nn, mk, l, len, c) => []) (fun (xx, nn, mk, l, len, c) => [(0, .one 56 [.slice 1 .z 1 len c, .int .i64 mk]), (1, .buf 5 .u8 l c), (3, .one 59 [.int .u64 xx]), (4, .one 3 [.int .i64 nn])])
    (fun (xx, nn, mk, l, len, c) => ∃ i : Nat, xx = x / 2 ^ i ∧ nn = (n : Int) - i ∧ i ≤ n ∧ mk = (bs ++ bitsN x i).length ∧ l = pack (bs ++ bitsN x i) ∧ len = l.length) (fun (xx, nn, _) => nn.toNat) hw hm ?_ ?_
  · refine Cv.fold [4, 5, 6, 7, 8, 9, 10, 11, 12, 13, 14, 15] 7 [1] (by exact Nat.le_refl _) (by exact Nat.le_of_ble_eq_true rfl) (by rfl) (by cbv) ?_
    intro js
    refine ⟨(_, _, _, _, _, _), ?_, js, rfl⟩
    refine ⟨0, ?_, ?_, by omega, ?_, ?_, ?_⟩
    · rw [Int.pow_zero, Int.ediv_one]
    · simp only [nc] at *; omega
    · subst_vars; try simp only [nc] at *; simp [bitsN_zero]
    · subst_vars; try simp only [nc] at *; simp [bitsN_zero]
    · exact hlen0.symm
  · rintro ⟨xx, nn, mk, l, len, c⟩ js ⟨i, hxx, hnn1, hi, hmk, hl', hlen⟩
    have hbs : ∀ b ∈ bs ++ bitsN x i, isBit b := fun b h => (List.mem_append.1 h).elim (hb b) (bitsN_bit x i b)
    have hlb : (bs ++ bitsN x i).length ≤ 2 ^ 40 + 56 := by simp [bitsN_length]; omega
    generalize hBS : bs ++ bitsN x i = BS at *
    have hll : l.length = (BS.length + 7) / 8 := by rw [hl', pack_length]
    have hx0 : 0 ≤ xx ∧ xx < 2 ^ 64 := by
      have h1 : 0 ≤ x / 2 ^ i := Int.ediv_nonneg hx.1 (Int.le_of_lt (Int.pow_pos (by decide)))
      have h2 : x / 2 ^ i ≤ x := Int.ediv_le_self _ hx.1
      omega
    cbv
    split
    · rename_i hlt
      have hlt : i < n := by rw [qc, gtr_true] at hlt; simp only [nc] at *; omega
      have hx1 : vb .shr .u64 xx 1 = x / 2 ^ (i + 1) := by
        rw [qb, shr_eq (by decide), hxx, Int.ediv_ediv_of_nonneg (Int.le_of_lt (Int.pow_pos (by decide))), Int.pow_succ]
        rfl
      have hn1 : vb .sub .i64 nn 1 = (n : Int) - ((i + 1 : Nat) : Int) := by simp only [nc] at *; rw [qb, sub_i64 (by omega) (by omega)]; omega
      have hmu : (vb .sub .i64 nn 1).toNat < nn.toNat := by rw [hn1, hnn1]; simp only [nc] at *; omega
      have hbit : vw .u8 (vb .and .u64 xx 1) = x / 2 ^ i % 2 := by
        rw [qb, and_one rfl hx0.1 (by show _ < (2 : Int) ^ 64; omega), hxx]
        simp only [qw]
        exact wrap_u8 (by omega) (by omega)
      generalize hbb : x / 2 ^ i % 2 = bit at *
      have hbi : isBit bit := by rw [← hbb]; exact isBit_mod _
      have hnext : bs ++ bitsN x (i + 1) = BS ++ [bit] := by rw [bitsN_succ, ← List.append_assoc, hBS, hbb]
      have hrem : vb .rem .i64 mk 8 = mk % 8 := by subst_vars; try simp only [nc] at *; exact rem_i64 (by omega)
      have hquo : vtoN (vb .quo .i64 mk 8) = BS.length / 8 := by
        subst_vars
        try simp only [nc] at *
        rw [quo_i64 (by omega) (by omega) (by omega)]
        show Int.toNat _ = _
        omega
      have hmodw : vw .u64 (mk % 8) = mk % 8 := by rw [qw]; simp only [nc] at *; exact wrap_u64 (by omega) (by omega)
      have hpack : (room BS).set (BS.length / 8) (bV .or .u8 ((room BS).getD (BS.length / 8) 0) (bV .shl .u8 bit (mk % 8))) = pack (BS ++ [bit]) := by
        have := pack_step BS bit mk hbs hbi hmk
        have e : (mk / 8).toNat = BS.length / 8 := by simp only [nc] at *; omega
        rw [e] at this
        exact this
      have hd8 : BS.length / 8 < (room BS).length := by rw [room_length]; omega
      cbv
      refine yield_walk hw hm (by rfl) ?_
      cbv
      split
      · rename_i hr8
        have h8 : BS.length % 8 = 0 := by rw [hrem, qc, eql_true] at hr8; simp only [nc] at *; omega
        have hroom : room BS = l ++ [0] := by rw [room, if_pos h8, hl']
        have hsub : vsub [0] 0 1 = [0] := by subst_vars; rfl
        have honto : vonto l len [0] = room BS := by rw [hroom]; subst_vars; simp
        have hin : 0 ≤ vb .quo .i64 mk 8 ∧ vb .quo .i64 mk 8 < (vaddN len 1 : Nat) := by
          have hq : vb .quo .i64 mk 8 = mk / 8 := by subst_vars; simp only [nc] at *; rw [quo_i64 (by omega) (by omega) (by omega)]
          rw [hq]; subst_vars; simp only [nc] at *; omega
        have hlt2 : vtoN (vb .quo .i64 mk 8) < vln (vonto l len (vsub [0] 0 1)) := by rw [hquo, hsub, honto]; subst_vars; simp only [nc] at *; omega
        have hlt3 : vaddN 0 (vtoN (vb .quo .i64 mk 8)) < vln (vonto l len (vsub [0] 0 1)) := by rw [qaddN]; simpa using hlt2
        have hnn : 0 ≤ vw .u64 (vb .rem .i64 mk 8) := by rw [hrem]; subst_vars; simp only [nc] at *; rw [wrap_u64 (by omega) (by omega)]; omega
        cbv
        refine ⟨⟨?_⟩, ⟨?_⟩, ⟨?_⟩, ⟨?_⟩, ?_⟩
        · subst_vars; decide
        · subst_vars; exact Nat.le_refl _
        · exact Nat.le_refl _
        · subst_vars; simp only [nc] at *; omega
        intro c1 js1 hle
        cbv
        refine ⟨⟨hin⟩, ⟨hlt3⟩, ⟨hlt2⟩, ⟨hnn⟩, ⟨hin⟩, ⟨hlt3⟩, ⟨hlt2⟩, ?_⟩
        intro js1
        cbv
        have e3 : vnotB true = false := by subst_vars; rfl
        rw [e3]
        cbv
        refine Cv.fold [4, 5, 6, 7, 8, 9, 10, 11, 12, 13, 14, 15] 7 [1] (by exact Nat.le_refl _) (by exact Nat.le_of_ble_eq_true rfl) (by rfl) (by cbv) ?_
        intro js
        refine ⟨(_, _, _, _, _, _), ?_, js, rfl⟩
        refine ⟨⟨i + 1, hx1, hn1, by omega, ?_, ?_, ?_⟩, hmu⟩
        · rw [qb, add_i64 (by simp only [nc] at *; omega) (by simp only [nc] at *; omega), hnext]; simp only [nc, List.length_append] at *; simp; omega
        · rw [hsub, honto, hbit, hquo, hrem, hmodw, hnext, ← hpack]; subst_vars; rfl
        · rw [hsub, honto, qst]; simp only [List.length_set]; rw [hroom]; subst_vars; simp
      · rename_i hr8
        have h8 : BS.length % 8 ≠ 0 := by rw [hrem, qc, eql_false] at hr8; simp only [nc] at *; omega
        have hroom : room BS = l := by rw [room, if_neg h8, hl']
        have hin : 0 ≤ vb .quo .i64 mk 8 ∧ vb .quo .i64 mk 8 < len := by
          have hq : vb .quo .i64 mk 8 = mk / 8 := by subst_vars; simp only [nc] at *; rw [quo_i64 (by omega) (by omega) (by omega)]
          rw [hq]; rw [hroom] at hd8; subst_vars; simp only [nc] at *; omega
        have hlt2 : vtoN (vb .quo .i64 mk 8) < vln l := by rw [hquo]; rw [hroom] at hd8; subst_vars; simp only [nc] at *; omega
        have hlt3 : vaddN 0 (vtoN (vb .quo .i64 mk 8)) < vln l := by rw [qaddN]; simpa using hlt2
        have hnn : 0 ≤ vw .u64 (vb .rem .i64 mk 8) := by rw [hrem]; subst_vars; simp only [nc] at *; rw [wrap_u64 (by omega) (by omega)]; omega
        cbv
        refine ⟨⟨hin⟩, ⟨hlt3⟩, ⟨hlt2⟩, ⟨hnn⟩, ⟨hin⟩, ⟨hlt3⟩, ⟨hlt2⟩, ?_⟩
        intro js1
        cbv
        have e3 : vnotB true = false := by subst_vars; rfl
        rw [e3]
        cbv
        refine Cv.fold [4, 5, 6, 7, 8, 9, 10, 11, 12, 13, 14, 15] 7 [1] (by exact Nat.le_refl _) (by exact Nat.le_of_ble_eq_true rfl) (by rfl) (by cbv) ?_
        intro js
        refine ⟨(_, _, _, _, _, _), ?_, js, rfl⟩
        refine ⟨⟨i + 1, hx1, hn1, by omega, ?_, ?_, ?_⟩, hmu⟩
        · rw [qb, add_i64 (by simp only [nc] at *; omega) (by simp only [nc] at *; omega), hnext]; simp only [nc, List.length_append] at *; simp; omega
        · rw [hbit, hquo, hrem, hmodw, hnext, ← hpack, hroom]; subst_vars; rfl
        · rw [qst]; simp only [List.length_set]; exact hlen
    · rename_i hge
      have hin : i = n := by rw [qc, gtr_false] at hge; simp only [nc] at *; omega
      subst hin
      cbv
      intro js1
      cbv
      refine ⟨c, ?_⟩
      subst_vars
      rfl
end Go.Proofs.Ytkkddgdcmdnnmaa
namespace Go.Proofs.Ytkkddgdcmdnnmaa
open Go Go.Sx Go.Proofs
theorem bputA_con (bs : List Int) (c : Nat) (x n : Int) (hx : 0 ≤ x ∧ x < 2 ^ 64) (hb : ∀ b ∈ bs, isBit b) (hl : bs.length ≤ 2 ^ 40) :
    Con Try.prog 23 [.ptr 0 .z 2 0, .int .u64 x, .int .i64 n] [.one 56 [.slice 1 .z 1 (pack bs).length c, .int .i64 bs.length], .buf 5 .u8 (pack bs) c]
      (fun v H R => v = .int .i64 (putErr n) ∧ R = [1] ∧ ∃ c', H = [.one 56 [.slice 1 .z 1 (pack (putBits bs x n)).length c', .int .i64 (putBits bs x n).length], .buf 5 .u8 (pack (putBits bs x n)) c']) := by
  by_cases hn : 0 ≤ n ∧ n ≤ 56
  · obtain ⟨m, rfl⟩ : ∃ m : Nat, n = m := ⟨n.toNat, by omega⟩
    refine con_gen ((bput_con bs c x m (by omega) hx hb hl).mono ?_)
    rintro v H R ⟨rfl, rfl, c', rfl⟩
    have e : putBits bs x m = bs ++ bitsN x m := by unfold putBits; rw [if_pos hn]; rfl
    have e2 : putErr m = 0 := by unfold putErr; rw [if_pos hn]
    rw [e, e2]
    exact ⟨rfl, rfl, c', rfl⟩
  · have e : putBits bs x n = bs := by unfold putBits; rw [if_neg hn]
    have e2 : putErr n = 2 := by unfold putErr; rw [if_neg hn]
    rw [e, e2]
    refine con_gen (con_cut 2 (by simp) (con_red [1] (con_walk hmix fn23 ?_)))
    intro vb vc vw vtoN vofN vaddN vsubN vmaxI vminI vcutN vgd vst vln vrep vsub vonto vsplice vstrEq vbyteV vnotB veqB hw qb qc qw qtoN qofN qaddN qsubN qmaxI qminI qcutN qgd qst qln qrep qsub qonto qsplice qstrEq qbyteV qnotB qeqB
    generalize Try.prog = P at *
    generalize pack bs = l0 at *
    generalize l0.length = len0 at *
    generalize (bs.length : Int) = m0 at *
    cbv
    generalize h1 : vc .lss n 0 = z1
    cases z1
    · cbv
      have h2 : vc .gtr n 56 = true := by rw [qc, lss_false] at h1; rw [qc, gtr_true]; omega
      rw [h2]
      cbv
      exact ⟨c, rfl⟩
    · cbv
      exact ⟨c, rfl⟩
theorem bbytes_con (bs : List Int) (c : Nat) (hl : bs.length ≤ 2 ^ 40) :
    Con Try.prog 22 [.ptr 0 .z 2 0] [.one 56 [.slice 1 .z 1 (pack bs).length c, .int .i64 bs.length], .buf 5 .u8 (pack bs) c]
      (fun v H R => R = [2] ∧ ∃ c', v = .slice 2 .z 1 (pack bs).length c' ∧ H = [.one 56 [.slice 1 .z 1 (pack bs).length c, .int .i64 bs.length], .buf 5 .u8 (pack bs) c, .buf 5 .u8 (pack bs) c']) := by
  have hpl : (pack bs).length ≤ 2 ^ 40 := by rw [pack_length]; omega
  refine con_red [2] (con_walk hmix fn22 ?_)
  intro vb vc vw vtoN vofN vaddN vsubN vmaxI vminI vcutN vgd vst vln vrep vsub vonto vsplice vstrEq vbyteV vnotB veqB hw qb qc qw qtoN qofN qaddN qsubN qmaxI qminI qcutN qgd qst qln qrep qsub qonto qsplice qstrEq qbyteV qnotB qeqB
  generalize Try.prog = P at *
  generalize pack bs = l0 at *
  generalize hlen0 : l0.length = len0 at *
  generalize (bs.length : Int) = m0 at *
  have ha : vaddN 0 len0 = len0 := by simp only [qaddN, Nat.zero_add]
  have hpay : vonto [] 0 (vsub l0 0 len0) = l0 := by simp only [qonto, qsub]; simp [← hlen0]
  cbv
  refine ⟨⟨by rw [ha]; simp only [qln]; omega⟩, ⟨Nat.zero_le _⟩, ⟨Nat.zero_le _⟩, ⟨by rw [ha]; omega⟩, ?_⟩
  intro c1 js1 hle
  cbv
  rw [ha, hpay]
  exact ⟨c1, rfl, rfl⟩
end Go.Proofs.Ytkkddgdcmdnnmaa
namespace Go.Proofs.Ytkkddgdcmdnnmaa
open Go Go.Sx Go.Proofs
def RS (b : List Int) (pos : Nat) (acc hv ai : Int) : Prop := ∃ at' : Nat, pos ≤ 8 * at' ∧ 8 * at' ≤ pos + 63 ∧ at' ≤ b.length ∧ acc = bval (bitL b) pos (8 * at' - pos) ∧ hv = ((8 * at' - pos : Nat) : Int) ∧ ai = at'
theorem RS.start (b : List Int) : RS b 0 0 0 0 := ⟨0, by omega, by omega, by omega, rfl, rfl, rfl⟩
theorem rbits_rs (b : List Int) (pos cap : Nat) (n acc hv ai : Int) (hby : ∀ x ∈ b, isByte x) (hl : b.length ≤ 2 ^ 50) (h : RS b pos acc hv ai) :
    Con Try.prog 24 [.ptr 0 .z 4 0, .int .i64 n] [(.one 81 [.fn 39 [.ptr 1 .z 1 0, .ptr 2 .z 1 0], .int .u64 (acc), .int .i64 (hv), .fn 40 [.ptr 2 .z 1 0, .ptr 1 .z 1 0]]), .one 3 [.int .i64 ai], .one 22 [.slice 3 .z 1 b.length cap], .ro .u8 b]
      (fun v H R => v = .tup [.int .u64 (rbX b pos n), .int .i64 (rbE b pos n)] ∧ R = [] ∧ ∃ acc2 hv2 ai2, RS b (rbP b pos n) acc2 hv2 ai2 ∧ H = [(.one 81 [.fn 39 [.ptr 1 .z 1 0, .ptr 2 .z 1 0], .int .u64 (acc2), .int .i64 (hv2), .fn 40 [.ptr 2 .z 1 0, .ptr 1 .z 1 0]]), .one 3 [.int .i64 ai2], .one 22 [.slice 3 .z 1 b.length cap], .ro .u8 b]) := by
  obtain ⟨at', h1, h2, h3, rfl, rfl, rfl⟩ := h
  refine (rbits_con b pos at' cap n hby hl h1 h2 h3).mono ?_
  rintro v H R ⟨e1, e2, a2, e3, e4, e5, e6⟩
  exact ⟨e1, e2, _, _, _, ⟨a2, e3, e4, e5, rfl, rfl, rfl⟩, e6⟩
theorem rleft_rs (b : List Int) (pos cap : Nat) (acc hv ai : Int) (hl : b.length ≤ 2 ^ 50) (h : RS b pos acc hv ai) :
    Con Try.prog 18 [.ptr 0 .z 4 0] [(.one 81 [.fn 39 [.ptr 1 .z 1 0, .ptr 2 .z 1 0], .int .u64 (acc), .int .i64 (hv), .fn 40 [.ptr 2 .z 1 0, .ptr 1 .z 1 0]]), .one 3 [.int .i64 ai], .one 22 [.slice 3 .z 1 b.length cap], .ro .u8 b]
      (fun v H R => v = .int .i64 (8 * b.length - pos) ∧ R = [] ∧ H = [(.one 81 [.fn 39 [.ptr 1 .z 1 0, .ptr 2 .z 1 0], .int .u64 (acc), .int .i64 (hv), .fn 40 [.ptr 2 .z 1 0, .ptr 1 .z 1 0]]), .one 3 [.int .i64 ai], .one 22 [.slice 3 .z 1 b.length cap], .ro .u8 b]) := by
  obtain ⟨at', h1, h2, h3, rfl, rfl, rfl⟩ := h
  exact rleft_con b pos at' cap hl h1 h3
end Go.Proofs.Ytkkddgdcmdnnmaa
namespace Go.Proofs.Ytkkddgdcmdnnmaa
open Go Go.Sx Go.Proofs
set_option maxRecDepth 10000
set_option maxHeartbeats 4000000
def xa25 : XC :=
  .ops [⟨(some 4), .newR 24 [(.val (.slice none 0 0)), (.lit .i64 0)], none, []⟩,
      ⟨(some 5), .newR 25 [(.lit .i64 0)], none, []⟩]
def xb25 : XC :=
  .seq (.ops [⟨(some 6), .mv (.t 0), none, []⟩,
      ⟨(some 7), .eqv false 2 (.t 6) (.k (.val (.pointer none))), none, []⟩])
    (.cond (.t 7) (.seq (.ops [⟨(some 8), .loadA 2 (.t 4), none, []⟩,
      ⟨none, .storeA 2 (.t 4) (.t 8), none, []⟩,
      ⟨none, .store1 (.t 5) (.k (.lit .i64 1)), none, []⟩])
    (.ret)) (.skip))
def xc25 : XC :=
  .ops [⟨(some 10), .mv (.t 1), none, []⟩,
      ⟨(some 11), .call (.t 10) [], none, []⟩,
      ⟨none, .storeA 2 (.t 4) (.t 11), none, []⟩,
      ⟨none, .store1 (.t 5) (.k (.lit .i64 0)), none, []⟩]
theorem fd25 : FnD Try.prog 25 xa25 xb25 xc25 55 9 4 5 12 [6000004, 1000005] := FnD.of Try.call25 Try.func25 (by kernel_rfl) Try.ntmps25 (by kernel_rfl)
def xa37 : XC :=
  .ops [⟨(some 4), .newR 3 [(.lit .i64 0)], none, []⟩,
      ⟨(some 5), .newR 25 [(.lit .i64 0)], none, []⟩]
def xb37 : XC :=
  .seq (.ops [⟨(some 6), .mv (.t 0), none, []⟩,
      ⟨(some 7), .eqv false 2 (.t 6) (.k (.val (.pointer none))), none, []⟩])
    (.cond (.t 7) (.seq (.ops [⟨(some 8), .load1 (.t 4), none, []⟩,
      ⟨none, .store1 (.t 4) (.t 8), none, []⟩,
      ⟨none, .store1 (.t 5) (.k (.lit .i64 1)), none, []⟩])
    (.ret)) (.skip))
def xc37 : XC :=
  .ops [⟨(some 10), .mv (.t 1), none, []⟩,
      ⟨(some 11), .call (.t 10) [], none, []⟩,
      ⟨none, .store1 (.t 4) (.t 11), none, []⟩,
      ⟨none, .store1 (.t 5) (.k (.lit .i64 0)), none, []⟩]
theorem fd37 : FnD Try.prog 37 xa37 xb37 xc37 62 9 4 5 12 [1000004, 1000005] := FnD.of Try.call37 Try.func37 (by kernel_rfl) Try.ntmps37 (by kernel_rfl)
theorem iface_guard (d : Nat) (w : World) : (eqGuard .neq 20 (.tmp d) (.const .nilIface) .nilIface .nilIface).run Try.prog w = .ok () w := by
  rfl
theorem iface_nil (w : World) : (binOp .neq 20 .nilIface .nilIface).run Try.prog w = .ok (.bool false) w := by
  rfl
theorem quiet55 (caps : Array Value) (w : World) : CallsDIn (FR Try.prog none) 0 Try.prog 55 caps .returning w fun e u' w' => (∃ v, e = .returned v) ∧ u' = .returning ∧ w' = w :=
  callsD_quiet (ty := 20) Try.func55 (by kernel_rfl) (by kernel_rfl) (by rw [Try.ntmps55]; decide) iface_guard iface_nil caps w
theorem quiet62 (caps : Array Value) (w : World) : CallsDIn (FR Try.prog none) 0 Try.prog 62 caps .returning w fun e u' w' => (∃ v, e = .returned v) ∧ u' = .returning ∧ w' = w :=
  callsD_quiet (ty := 20) Try.func62 (by kernel_rfl) (by kernel_rfl) (by rw [Try.ntmps62]; decide) iface_guard iface_nil caps w
end Go.Proofs.Ytkkddgdcmdnnmaa
namespace Go.Proofs.Ytkkddgdcmdnnmaa
open Go Go.Sx Go.Proofs
set_option maxRecDepth 10000
set_option maxHeartbeats 4000000
theorem get_con (b : List Int) (pos cap n : Nat) (acc hv ai : Int) (hby : ∀ x ∈ b, isByte x) (hl : b.length ≤ 2 ^ 50) (h : RS b pos acc hv ai) (hn : n ≤ 56) (hp : pos + n ≤ 8 * b.length) :
    Con Try.prog 27 [.ptr 0 .z 4 0, .int .i64 n] [(.one 81 [.fn 39 [.ptr 1 .z 1 0, .ptr 2 .z 1 0], .int .u64 acc, .int .i64 hv, .fn 40 [.ptr 2 .z 1 0, .ptr 1 .z 1 0]]), .one 3 [.int .i64 ai], .one 22 [.slice 3 .z 1 b.length cap], .ro .u8 b]
      (fun v H R => v = .int .i64 (bval (bitL b) pos n) ∧ R = [] ∧ ∃ acc2 hv2 ai2, RS b (pos + n) acc2 hv2 ai2 ∧ H = [(.one 81 [.fn 39 [.ptr 1 .z 1 0, .ptr 2 .z 1 0], .int .u64 acc2, .int .i64 hv2, .fn 40 [.ptr 2 .z 1 0, .ptr 1 .z 1 0]]), .one 3 [.int .i64 ai2], .one 22 [.slice 3 .z 1 b.length cap], .ro .u8 b]) := by
  have hb := rbits_rs b pos cap n acc hv ai hby hl h
  have hx : rbX b pos n = bval (bitL b) pos n := by unfold rbX; rw [if_pos (by omega), Int.toNat_natCast]
  have he : rbE b pos n = 0 := by unfold rbE; rw [if_pos (by omega), if_pos (by omega)]
  have hP : rbP b pos n = pos + n := by unfold rbP; rw [if_pos (by omega), Int.toNat_natCast]
  have hr := bval_bound (bitL b) (bitL_bit b) pos n
  have h56 : (2 : Int) ^ n ≤ 2 ^ 56 := by
    have := Nat.pow_le_pow_right (n := 2) (by decide) hn
    exact_mod_cast this
  rw [show (2 : Int) ^ 56 = 72057594037927936 by decide] at h56
  rw [hx, he, hP] at hb
  generalize bval (bitL b) pos n = x at *
  obtain ⟨nI, hnI⟩ : ∃ nI : Int, nI = n := ⟨_, rfl⟩
  rw [← hnI] at hb ⊢
  refine con_gen (con_cut 4 (by simp) (con_drop (con_walk hmix fn27 ?_)))
  intro vb vc vw vtoN vofN vaddN vsubN vmaxI vminI vcutN vgd vst vln vrep vsub vonto vsplice vstrEq vbyteV vnotB veqB hw qb qc qw qtoN qofN qaddN qsubN qmaxI qminI qcutN qgd qst qln qrep qsub qonto qsplice qstrEq qbyteV qnotB qeqB
  have hm := hmix; generalize Try.prog = P at *
  generalize hq : pos + n = q at *
  have hRS := RS b q
  generalize RS b q = RQ at *
  clear h hRS
  generalize b.length = bl at *
  have ewx : vw .i64 x = x := by rw [qw]; exact wrap_i64 (by omega) (by omega)
  have ez : vc .neq 0 0 = false := by rw [qc]; rfl
  cbv
  refine call_con (ρ := [(0, .z), (1, .z), (2, .z), (3, .z)]) hb ⟨by rfl, by rfl, by rfl, by cbv; exact ⟨view_refl _, trivial⟩⟩ ?_
  rintro v H R js ⟨rfl, rfl, acc2, hv2, ai2, h2, rfl⟩
  cbv
  rw [ez]
  cbv
  rw [ewx]
  exact ⟨rfl, acc2, hv2, ai2, h2, rfl⟩
def tbF : Tab := [(31, fun _ => x31, 6, []), (41, fun _ => x41, 8, [2]), (56, fun _ => x56, 9, [4]), (64, fun _ => x64, 25, [2]), (74, fun _ => x74, 19, [4])]
theorem tbF_ok : TabOk Try.prog tbF := ⟨fn31, fn41, fn56, fn64, fn74, trivial⟩

theorem few1_con (b : List Int) (pos cap : Nat) (acc hv ai : Int) (hby : ∀ x ∈ b, isByte x) (hl : b.length ≤ 2 ^ 50) (h : RS b pos acc hv ai) (hp : pos + 10 ≤ 8 * b.length) (h0 : bval (bitL b) pos 2 = 0) (h5 : bval (bitL b) (pos + 2) 8 = 5) :
    Con Try.prog 28 [.ptr 0 .z 4 0, .int .i64 256] [(.one 81 [.fn 39 [.ptr 1 .z 1 0, .ptr 2 .z 1 0], .int .u64 acc, .int .i64 hv, .fn 40 [.ptr 2 .z 1 0, .ptr 1 .z 1 0]]), .one 3 [.int .i64 ai], .one 22 [.slice 3 .z 1 b.length cap], .ro .u8 b]
      (fun v H R => v = .agg [.val (.slice none 0 0), .int .i64 5] ∧ R = [] ∧ ∃ acc2 hv2 ai2, RS b (pos + 10) acc2 hv2 ai2 ∧ H = [(.one 81 [.fn 39 [.ptr 1 .z 1 0, .ptr 2 .z 1 0], .int .u64 acc2, .int .i64 hv2, .fn 40 [.ptr 2 .z 1 0, .ptr 1 .z 1 0]]), .one 3 [.int .i64 ai2], .one 22 [.slice 3 .z 1 b.length cap], .ro .u8 b]) := by
  have hT := tbF_ok
  have g2 := get_con b pos cap 2 acc hv ai hby hl h (by decide) (by omega)
  have g8 := fun acc hv ai h => get_con b (pos + 2) cap 8 acc hv ai hby hl h (by decide) (by omega)
  rw [h0] at g2
  rw [h5, Nat.add_assoc] at g8
  rw [show ((2 : Nat) : Int) = 2 from rfl] at g2
  rw [show ((8 : Nat) : Int) = 8 from rfl] at g8
  have hm := hmix
  generalize hq : RS b (pos + 2) = RQ at *
  generalize hq2 : RS b (pos + (2 + 8)) = RQ2 at *
  clear h hp h0 h5 hl hby
  generalize b.length = bl at *
  refine con_gen (con_cut 4 (by simp) (con_drop (con_run 1000 tbF hmix hT fn28 ?_)))
  generalize Try.prog = P at *
  cbv
  refine CallX.mono' (fun _ _ h => h) (call_con (ρ := [(0, .z), (1, .z), (2, .z), (3, .z)]) g2 ⟨by rfl, by rfl, by rfl, by cbv; exact ⟨view_refl _, trivial⟩⟩ ?_)
  rintro v H R js ⟨rfl, rfl, acc2, hv2, ai2, h2, rfl⟩
  cbv
  refine ⟨⟨by decide, by decide⟩, ?_⟩
  refine CallX.mono' (fun _ _ h => h) (call_con (ρ := [(0, .z), (1, .z), (2, .z), (3, .z)]) (g8 acc2 hv2 ai2 h2) ⟨by rfl, by rfl, by rfl, by cbv; exact ⟨view_refl _, trivial⟩⟩ ?_)
  rintro v H R js2 ⟨rfl, rfl, acc3, hv3, ai3, h3, rfl⟩
  cbv
  repeat (first | refine And.intro ⟨by decide⟩ ?_ | refine And.intro ⟨Nat.le_refl _⟩ ?_ | ((intro _ _ _; skip); cbv; done) | ((intro _ _ _; skip); cbv) | ((intro _ _; skip); cbv) | (intro _; cbv))
  refine ⟨⟨by decide, by omega⟩, ?_⟩
  repeat (first | refine And.intro ⟨by decide⟩ ?_ | refine And.intro ⟨Nat.le_refl _⟩ ?_ | ((intro _ _ _; skip); cbv; done) | ((intro _ _ _; skip); cbv) | ((intro _ _; skip); cbv) | (intro _; cbv))
  exact ⟨acc3, hv3, ai3, h3, rfl⟩
theorem readcl_con (b : List Int) (pos cap : Nat) (acc hv ai : Int) (hby : ∀ x ∈ b, isByte x) (hl : b.length ≤ 2 ^ 50) (h : RS b pos acc hv ai) (hp : pos + 12 ≤ 8 * b.length) (h1 : bval (bitL b) pos 2 = 1) (h0 : bval (bitL b) (pos + 2) 2 = 0) (h5 : bval (bitL b) (pos + 4) 8 = 5) :
    Con Try.prog 26 [.ptr 0 .z 1 0, .ptr 1 .z 1 0] [.one 33 [.ptr 2 .z 4 0], .one 3 [.int .i64 256], (.one 81 [.fn 39 [.ptr 3 .z 1 0, .ptr 4 .z 1 0], .int .u64 acc, .int .i64 hv, .fn 40 [.ptr 4 .z 1 0, .ptr 3 .z 1 0]]), .one 3 [.int .i64 ai], .one 22 [.slice 5 .z 1 b.length cap], .ro .u8 b]
      (fun v H R => v = .agg [.val (.slice none 0 0), .int .i64 5] ∧ R = [] ∧ ∃ acc2 hv2 ai2, RS b (pos + 12) acc2 hv2 ai2 ∧ H = [.one 33 [.ptr 2 .z 4 0], .one 3 [.int .i64 256], (.one 81 [.fn 39 [.ptr 3 .z 1 0, .ptr 4 .z 1 0], .int .u64 acc2, .int .i64 hv2, .fn 40 [.ptr 4 .z 1 0, .ptr 3 .z 1 0]]), .one 3 [.int .i64 ai2], .one 22 [.slice 5 .z 1 b.length cap], .ro .u8 b]) := by
  have g2 := get_con b pos cap 2 acc hv ai hby hl h (by decide) (by omega)
  have g8 := fun acc hv ai h => few1_con b (pos + 2) cap acc hv ai hby hl h (by omega) h0 h5
  rw [h1] at g2
  rw [show ((2 : Nat) : Int) = 2 from rfl] at g2
  rw [Nat.add_assoc] at g8
  generalize hq : RS b (pos + 2) = RQ at *
  generalize hq2 : RS b (pos + (2 + 10)) = RQ2 at *
  clear h hp h0 h1 h5 hl hby
  generalize b.length = bl at *
  refine con_gen (con_cut 6 (by simp) (con_drop (con_walk hmix fn26 ?_)))
  intro vb vc vw vtoN vofN vaddN vsubN vmaxI vminI vcutN vgd vst vln vrep vsub vonto vsplice vstrEq vbyteV vnotB veqB hw qb qc qw qtoN qofN qaddN qsubN qmaxI qminI qcutN qgd qst qln qrep qsub qonto qsplice qstrEq qbyteV qnotB qeqB
  have hm := hmix; generalize Try.prog = P at *
  have e11 : vc .eql 1 1 = true := by rw [qc]; rfl
  cbv
  refine call_con (ρ := [(2, .z), (3, .z), (4, .z), (5, .z)]) g2 ⟨by rfl, by rfl, by rfl, by cbv; exact ⟨view_refl _, trivial⟩⟩ ?_
  rintro v H R js ⟨rfl, rfl, acc2, hv2, ai2, h2, rfl⟩
  cbv
  rw [e11]
  cbv
  refine call_con (ρ := [(2, .z), (3, .z), (4, .z), (5, .z)]) (g8 acc2 hv2 ai2 h2) ⟨by rfl, by rfl, by rfl, by cbv; exact ⟨view_refl _, trivial⟩⟩ ?_
  rintro v H R js2 ⟨rfl, rfl, acc3, hv3, ai3, h3, rfl⟩
  cbv
  exact ⟨acc3, hv3, ai3, h3, rfl⟩
theorem reading25_con (b : List Int) (pos cap : Nat) (acc hv ai : Int) (hby : ∀ x ∈ b, isByte x) (hl : b.length ≤ 2 ^ 50) (h : RS b pos acc hv ai) (hp : pos + 12 ≤ 8 * b.length) (h1 : bval (bitL b) pos 2 = 1) (h0 : bval (bitL b) (pos + 2) 2 = 0) (h5 : bval (bitL b) (pos + 4) 8 = 5) :
    Con Try.prog 25 [.ptr 2 .z 4 0, .fn 26 [.ptr 0 .z 1 0, .ptr 1 .z 1 0]] [.one 33 [.ptr 2 .z 4 0], .one 3 [.int .i64 256], (.one 81 [.fn 39 [.ptr 3 .z 1 0, .ptr 4 .z 1 0], .int .u64 acc, .int .i64 hv, .fn 40 [.ptr 4 .z 1 0, .ptr 3 .z 1 0]]), .one 3 [.int .i64 ai], .one 22 [.slice 5 .z 1 b.length cap], .ro .u8 b]
      (fun v H R => v = .tup [.agg [.val (.slice none 0 0), .int .i64 5], .int .i64 0] ∧ R = [] ∧ ∃ acc2 hv2 ai2, RS b (pos + 12) acc2 hv2 ai2 ∧ H = [.one 33 [.ptr 2 .z 4 0], .one 3 [.int .i64 256], (.one 81 [.fn 39 [.ptr 3 .z 1 0, .ptr 4 .z 1 0], .int .u64 acc2, .int .i64 hv2, .fn 40 [.ptr 4 .z 1 0, .ptr 3 .z 1 0]]), .one 3 [.int .i64 ai2], .one 22 [.slice 5 .z 1 b.length cap], .ro .u8 b]) := by
  have g := readcl_con b pos cap acc hv ai hby hl h hp h1 h0 h5
  clear hp h0 h1 h5 hl hby h
  generalize RS b (pos + 12) = RQ at *
  generalize b.length = bl at *
  refine con_gen (con_cut 6 (by simp) (con_drop (con_of_defer hmix fd25 Try.call55 quiet55 ?_)))
  generalize Try.prog = P at *
  cbv
  intro D
  cbv
  refine call_con (ρ := [(0, .z), (1, .z), (2, .z), (3, .z), (4, .z), (5, .z)]) g ⟨by rfl, by rfl, by rfl, by cbv; exact ⟨view_refl _, trivial⟩⟩ ?_
  rintro v H R js2 ⟨rfl, rfl, acc3, hv3, ai3, h3, rfl⟩
  cbv
  exact ⟨acc3, hv3, ai3, h3, rfl⟩
theorem countcl_con (b : List Int) (pos cap : Nat) (acc hv ai : Int) (hby : ∀ x ∈ b, isByte x) (hl : b.length ≤ 2 ^ 50) (h : RS b pos acc hv ai) (hp : pos + 5 ≤ 8 * b.length) (h1 : bval (bitL b) pos 1 = 1) (h3 : bval (bitL b) (pos + 1) 3 = 1) (h4 : bval (bitL b) (pos + 4) 1 = 1) :
    Con Try.prog 38 [.ptr 0 .z 1 0] [.one 33 [.ptr 1 .z 4 0], (.one 81 [.fn 39 [.ptr 2 .z 1 0, .ptr 3 .z 1 0], .int .u64 acc, .int .i64 hv, .fn 40 [.ptr 3 .z 1 0, .ptr 2 .z 1 0]]), .one 3 [.int .i64 ai], .one 22 [.slice 4 .z 1 b.length cap], .ro .u8 b]
      (fun v H R => v = .int .i64 4 ∧ R = [] ∧ ∃ acc2 hv2 ai2, RS b (pos + 5) acc2 hv2 ai2 ∧ H = [.one 33 [.ptr 1 .z 4 0], (.one 81 [.fn 39 [.ptr 2 .z 1 0, .ptr 3 .z 1 0], .int .u64 acc2, .int .i64 hv2, .fn 40 [.ptr 3 .z 1 0, .ptr 2 .z 1 0]]), .one 3 [.int .i64 ai2], .one 22 [.slice 4 .z 1 b.length cap], .ro .u8 b]) := by
  have g1 := get_con b pos cap 1 acc hv ai hby hl h (by decide) (by omega)
  have g3 := fun acc hv ai h => get_con b (pos + 1) cap 3 acc hv ai hby hl h (by decide) (by omega)
  have g4 := fun acc hv ai h => get_con b (pos + 4) cap 1 acc hv ai hby hl h (by decide) (by omega)
  rw [h1] at g1
  rw [h3, Nat.add_assoc] at g3
  rw [h4, Nat.add_assoc] at g4
  rw [show ((1 : Nat) : Int) = 1 from rfl] at g1 g4
  rw [show ((3 : Nat) : Int) = 3 from rfl] at g3
  generalize hq : RS b (pos + 1) = RQ1 at *
  generalize hq3 : RS b (pos + (1 + 3)) = RQ2 at *
  generalize hq2 : RS b (pos + (4 + 1)) = RQ3 at *
  clear h hp h1 h3 h4 hl hby
  generalize b.length = bl at *
  refine con_gen (con_cut 5 (by simp) (con_drop (con_walk hmix fn38 ?_)))
  intro vb vc vw vtoN vofN vaddN vsubN vmaxI vminI vcutN vgd vst vln vrep vsub vonto vsplice vstrEq vbyteV vnotB veqB hw qb qc qw qtoN qofN qaddN qsubN qmaxI qminI qcutN qgd qst qln qrep qsub qonto qsplice qstrEq qbyteV qnotB qeqB
  have hm := hmix; generalize Try.prog = P at *
  have e10 : vc .eql 1 0 = false := by rw [qc]; rfl
  have ew : vw .u64 1 = 1 := by rw [qw]; rfl
  have esh : vb .shl .i64 1 1 = 2 := by rw [qb]; rfl
  have ea : vb .add .i64 2 1 = 3 := by rw [qb]; rfl
  have ea2 : vb .add .i64 3 1 = 4 := by rw [qb]; rfl
  cbv
  refine call_con (ρ := [(1, .z), (2, .z), (3, .z), (4, .z)]) g1 ⟨by rfl, by rfl, by rfl, by cbv; exact ⟨view_refl _, trivial⟩⟩ ?_
  rintro v H R js ⟨rfl, rfl, acc2, hv2, ai2, h2, rfl⟩
  cbv
  rw [e10]
  cbv
  refine call_con (ρ := [(1, .z), (2, .z), (3, .z), (4, .z)]) (g3 acc2 hv2 ai2 h2) ⟨by rfl, by rfl, by rfl, by cbv; exact ⟨view_refl _, trivial⟩⟩ ?_
  rintro v H R js ⟨rfl, rfl, acc3, hv3, ai3, h3, rfl⟩
  cbv
  rw [ew]
  refine ⟨⟨by decide⟩, ?_⟩
  rw [esh, ea]
  refine call_con (ρ := [(1, .z), (2, .z), (3, .z), (4, .z)]) (g4 acc3 hv3 ai3 h3) ⟨by rfl, by rfl, by rfl, by cbv; exact ⟨view_refl _, trivial⟩⟩ ?_
  rintro v H R js ⟨rfl, rfl, acc4, hv4, ai4, h4, rfl⟩
  cbv
  rw [ea2]
  exact ⟨rfl, acc4, hv4, ai4, h4, rfl⟩
theorem reading37_con (b : List Int) (pos cap : Nat) (acc hv ai : Int) (hby : ∀ x ∈ b, isByte x) (hl : b.length ≤ 2 ^ 50) (h : RS b pos acc hv ai) (hp : pos + 5 ≤ 8 * b.length) (h1 : bval (bitL b) pos 1 = 1) (h3 : bval (bitL b) (pos + 1) 3 = 1) (h4 : bval (bitL b) (pos + 4) 1 = 1) :
    Con Try.prog 37 [.ptr 1 .z 4 0, .fn 38 [.ptr 0 .z 1 0]] [.one 33 [.ptr 1 .z 4 0], (.one 81 [.fn 39 [.ptr 2 .z 1 0, .ptr 3 .z 1 0], .int .u64 acc, .int .i64 hv, .fn 40 [.ptr 3 .z 1 0, .ptr 2 .z 1 0]]), .one 3 [.int .i64 ai], .one 22 [.slice 4 .z 1 b.length cap], .ro .u8 b]
      (fun v H R => v = .tup [.int .i64 4, .int .i64 0] ∧ R = [] ∧ ∃ acc2 hv2 ai2, RS b (pos + 5) acc2 hv2 ai2 ∧ H = [.one 33 [.ptr 1 .z 4 0], (.one 81 [.fn 39 [.ptr 2 .z 1 0, .ptr 3 .z 1 0], .int .u64 acc2, .int .i64 hv2, .fn 40 [.ptr 3 .z 1 0, .ptr 2 .z 1 0]]), .one 3 [.int .i64 ai2], .one 22 [.slice 4 .z 1 b.length cap], .ro .u8 b]) := by
  have g := countcl_con b pos cap acc hv ai hby hl h hp h1 h3 h4
  clear hp h1 h3 h4 hl hby h
  generalize RS b (pos + 5) = RQ at *
  generalize b.length = bl at *
  refine con_gen (con_cut 5 (by simp) (con_drop (con_of_defer hmix fd37 Try.call62 quiet62 ?_)))
  generalize Try.prog = P at *
  cbv
  intro D
  cbv
  refine call_con (ρ := [(0, .z), (1, .z), (2, .z), (3, .z), (4, .z)]) g ⟨by rfl, by rfl, by rfl, by cbv; exact ⟨view_refl _, trivial⟩⟩ ?_
  rintro v H R js2 ⟨rfl, rfl, acc3, hv3, ai3, h3, rfl⟩
  cbv
  exact ⟨acc3, hv3, ai3, h3, rfl⟩
theorem read7_con (b : List Int) (pos cap : Nat) (acc hv ai : Int) (hby : ∀ x ∈ b, isByte x) (hl : b.length ≤ 2 ^ 50) (h : RS b pos acc hv ai) (hp : pos + 12 ≤ 8 * b.length) (h1 : bval (bitL b) pos 2 = 1) (h0 : bval (bitL b) (pos + 2) 2 = 0) (h5 : bval (bitL b) (pos + 4) 8 = 5) :
    Con Try.prog 7 [.ptr 0 .z 4 0, .int .i64 256] [(.one 81 [.fn 39 [.ptr 1 .z 1 0, .ptr 2 .z 1 0], .int .u64 acc, .int .i64 hv, .fn 40 [.ptr 2 .z 1 0, .ptr 1 .z 1 0]]), .one 3 [.int .i64 ai], .one 22 [.slice 3 .z 1 b.length cap], .ro .u8 b]
      (fun v H R => v = .tup [.agg [.val (.slice none 0 0), .int .i64 5], .int .i64 0] ∧ R = [] ∧ ∃ acc2 hv2 ai2, RS b (pos + 12) acc2 hv2 ai2 ∧ H = [(.one 81 [.fn 39 [.ptr 1 .z 1 0, .ptr 2 .z 1 0], .int .u64 acc2, .int .i64 hv2, .fn 40 [.ptr 2 .z 1 0, .ptr 1 .z 1 0]]), .one 3 [.int .i64 ai2], .one 22 [.slice 3 .z 1 b.length cap], .ro .u8 b]) := by
  have g := reading25_con b pos cap acc hv ai hby hl h hp h1 h0 h5
  clear hp h0 h1 h5 hl hby h
  generalize RS b (pos + 12) = RQ at *
  generalize b.length = bl at *
  refine con_gen (con_cut 4 (by simp) (con_drop (con_walk hmix fn7 ?_)))
  intro vb vc vw vtoN vofN vaddN vsubN vmaxI vminI vcutN vgd vst vln vrep vsub vonto vsplice vstrEq vbyteV vnotB veqB hw qb qc qw qtoN qofN qaddN qsubN qmaxI qminI qcutN qgd qst qln qrep qsub qonto qsplice qstrEq qbyteV qnotB qeqB
  have hm := hmix; generalize Try.prog = P at *
  have e1 : vc .lss 256 1 = false := by rw [qc]; rfl
  have e2 : vc .gtr 256 1024 = false := by rw [qc]; rfl
  have hnf : vnotB false = true := by rw [qnotB]; rfl
  cbv
  try rw [hnf]
  try cbv
  rw [e1]
  cbv
  rw [e2]
  cbv
  refine call_con (ρ := [(4, .z), (5, .z), (0, .z), (1, .z), (2, .z), (3, .z)]) g ⟨by rfl, by rfl, by rfl, by cbv; exact ⟨view_refl _, trivial⟩⟩ ?_
  rintro v H R js2 ⟨rfl, rfl, acc3, hv3, ai3, h3, rfl⟩
  cbv
  exact ⟨acc3, hv3, ai3, h3, rfl⟩
theorem count10_con (b : List Int) (pos cap : Nat) (acc hv ai : Int) (hby : ∀ x ∈ b, isByte x) (hl : b.length ≤ 2 ^ 50) (h : RS b pos acc hv ai) (hp : pos + 5 ≤ 8 * b.length) (h1 : bval (bitL b) pos 1 = 1) (h3 : bval (bitL b) (pos + 1) 3 = 1) (h4 : bval (bitL b) (pos + 4) 1 = 1) :
    Con Try.prog 10 [.ptr 0 .z 4 0] [(.one 81 [.fn 39 [.ptr 1 .z 1 0, .ptr 2 .z 1 0], .int .u64 acc, .int .i64 hv, .fn 40 [.ptr 2 .z 1 0, .ptr 1 .z 1 0]]), .one 3 [.int .i64 ai], .one 22 [.slice 3 .z 1 b.length cap], .ro .u8 b]
      (fun v H R => v = .tup [.int .i64 4, .int .i64 0] ∧ R = [] ∧ ∃ acc2 hv2 ai2, RS b (pos + 5) acc2 hv2 ai2 ∧ H = [(.one 81 [.fn 39 [.ptr 1 .z 1 0, .ptr 2 .z 1 0], .int .u64 acc2, .int .i64 hv2, .fn 40 [.ptr 2 .z 1 0, .ptr 1 .z 1 0]]), .one 3 [.int .i64 ai2], .one 22 [.slice 3 .z 1 b.length cap], .ro .u8 b]) := by
  have g := reading37_con b pos cap acc hv ai hby hl h hp h1 h3 h4
  clear hp h1 h3 h4 hl hby h
  generalize RS b (pos + 5) = RQ at *
  generalize b.length = bl at *
  refine con_gen (con_cut 4 (by simp) (con_drop (con_walk hmix fn10 ?_)))
  intro vb vc vw vtoN vofN vaddN vsubN vmaxI vminI vcutN vgd vst vln vrep vsub vonto vsplice vstrEq vbyteV vnotB veqB hw qb qc qw qtoN qofN qaddN qsubN qmaxI qminI qcutN qgd qst qln qrep qsub qonto qsplice qstrEq qbyteV qnotB qeqB
  have hm := hmix; generalize Try.prog = P at *
  cbv
  refine call_con (ρ := [(4, .z), (0, .z), (1, .z), (2, .z), (3, .z)]) g ⟨by rfl, by rfl, by rfl, by cbv; exact ⟨view_refl _, trivial⟩⟩ ?_
  rintro v H R js2 ⟨rfl, rfl, acc3, hv3, ai3, h3, rfl⟩
  cbv
  exact ⟨acc3, hv3, ai3, h3, rfl⟩
end Go.Proofs.Ytkkddgdcmdnnmaa
namespace Go.Proofs.Ytkkddgdcmdnnmaa
open Go Go.Sx
theorem bval_congr (l l' : List Int) (h : ∀ j, l.getD j 0 = l'.getD j 0) (i : Nat) : ∀ n, bval l i n = bval l' i n
  | 0 => rfl
  | n + 1 => by simp only [bval]; rw [bval_congr l l' h i n, h]
theorem bitL_pack (bs : List Int) (hb : ∀ b ∈ bs, isBit b) (i n : Nat) : bval (bitL (pack bs)) i n = bval bs i n := by
  refine bval_congr _ _ (fun j => ?_) i n
  by_cases hj : j < 8 * (pack bs).length
  · rw [bitL_get _ _ hj, bitAt_pack bs hb]
  · rw [List.getD_eq_getElem?_getD, List.getD_eq_getElem?_getD, List.getElem?_eq_none (by rw [bitL_length]; omega), List.getElem?_eq_none (by rw [pack_length] at hj; omega)]
end Go.Proofs.Ytkkddgdcmdnnmaa
namespace Go.Proofs.Ytkkddgdcmdnnmaa
open Go Go.Sx Go.Proofs
def isU8 (x : Int) : Prop := 0 ≤ x ∧ x < 256
def nz (l : List Int) : Nat → Int
  | 0 => 0
  | i + 1 => nz l i + (if l.getD i 0 > 0 then 1 else 0)
def ks (l : List Int) : Nat → Int
  | 0 => 0
  | i + 1 => ks l i + (if l.getD i 0 > 0 then 2 ^ (15 - l.getD i 0).toNat else 0)
def Right5 (l : List Int) : Prop := l.length ≤ 1024 ∧ (∀ i, i < l.length → l.getD i 0 ≤ 15) ∧ 2 ≤ nz l l.length ∧ ks l l.length = 32768
def cn (l : List Int) (k : Int) : Nat → Int
  | 0 => 0
  | i + 1 => cn l k i + (if l.getD i 0 = k then 1 else 0)
def kp (l : List Int) (i : Nat) : Nat → Int
  | 0 => 0
  | L + 1 => 2 * kp l i L + cn l (L + 1 : Nat) i
def st (l : List Int) (L : Nat) : Int := 2 * kp l l.length (L - 1)
def wd (l : List Int) (i : Nat) : Int := st l (l.getD i 0).toNat + cn l (l.getD i 0) i
theorem pow_up {a : Nat} : ∀ {b : Nat}, a ≤ b → (2 : Int) ^ a ≤ 2 ^ b
  | 0, h => by obtain rfl : a = 0 := by omega
               exact Int.le_refl _
  | b + 1, h => by
    by_cases e : a = b + 1
    · subst e; exact Int.le_refl _
    · have := pow_up (a := a) (b := b) (by omega)
      have hp : (0 : Int) < 2 ^ b := Int.pow_pos (by omega)
      rw [Int.pow_succ]; omega
theorem getD_mem_or5 {l : List Int} (i : Nat) : l.getD i 0 ∈ l ∨ l.getD i 0 = 0 := by
  by_cases h : i < l.length
  · left; simp [List.getD_eq_getElem?_getD, List.getElem?_eq_getElem h]
  · right; simp [List.getD_eq_getElem?_getD, List.getElem?_eq_none (by omega : l.length ≤ i)]
theorem cn_range (l : List Int) (k : Int) : ∀ i : Nat, 0 ≤ cn l k i ∧ cn l k i ≤ i
  | 0 => by simp [cn]
  | i + 1 => by have := cn_range l k i; simp only [cn]; split <;> omega
theorem cn_mono (l : List Int) (k : Int) {i : Nat} : ∀ {j : Nat}, i ≤ j → cn l k i ≤ cn l k j
  | 0, h => by obtain rfl : i = 0 := by omega
               exact Int.le_refl _
  | j + 1, h => by
    by_cases e : i = j + 1
    · subst e; exact Int.le_refl _
    · have := cn_mono l k (i := i) (j := j) (by omega)
      simp only [cn]; split <;> omega
theorem cn_lt (l : List Int) {i j : Nat} (h : i < j) : cn l (l.getD i 0) i + 1 ≤ cn l (l.getD i 0) j := by
  have := cn_mono l (l.getD i 0) (i := i + 1) (j := j) (by omega)
  simp only [cn, if_true] at this
  exact this
theorem cn_find (l : List Int) (k q : Int) (hq : 0 ≤ q) : ∀ {n : Nat}, q < cn l k n → ∃ i, i < n ∧ l.getD i 0 = k ∧ cn l k i = q
  | 0, h => by simp only [cn] at h; omega
  | n + 1, h => by
    by_cases h1 : q < cn l k n
    · obtain ⟨i, h2, h3⟩ := cn_find l k q hq h1
      exact ⟨i, by omega, h3⟩
    · simp only [cn] at h
      split at h
      · rename_i e; exact ⟨n, by omega, e, by omega⟩
      · omega
theorem kp_mono (l : List Int) (i L : Nat) : 2 * kp l i L ≤ kp l i (L + 1) := by
  have := (cn_range l ((L + 1 : Nat) : Int) i).1
  simp only [kp]; omega
theorem kp_nonneg (l : List Int) (i : Nat) : ∀ L, 0 ≤ kp l i L
  | 0 => by simp [kp]
  | L + 1 => by have := kp_nonneg l i L; have := kp_mono l i L; omega
theorem kp_step (l : List Int) (i : Nat) (h0 : 0 ≤ l.getD i 0) (h15 : l.getD i 0 ≤ 15) : kp l (i + 1) 15 = kp l i 15 + (if l.getD i 0 > 0 then 2 ^ (15 - l.getD i 0).toNat else 0) := by
  simp only [kp, cn]
  generalize l.getD i 0 = x at *
  have : x = 0 ∨ x = 1 ∨ x = 2 ∨ x = 3 ∨ x = 4 ∨ x = 5 ∨ x = 6 ∨ x = 7 ∨ x = 8 ∨ x = 9 ∨ x = 10 ∨ x = 11 ∨ x = 12 ∨ x = 13 ∨ x = 14 ∨ x = 15 := by omega
  rcases this with rfl | rfl | rfl | rfl | rfl | rfl | rfl | rfl | rfl | rfl | rfl | rfl | rfl | rfl | rfl | rfl <;> simp <;> omega
theorem kp_zero (l : List Int) : ∀ L, kp l 0 L = 0
  | 0 => rfl
  | L + 1 => by simp [kp, cn, kp_zero l L]
theorem kraft (l : List Int) (n : Nat) (h0 : ∀ i, 0 ≤ l.getD i 0) (h15 : ∀ i, i < n → l.getD i 0 ≤ 15) : ∀ i, i ≤ n → kp l i 15 = ks l i
  | 0, _ => by rw [kp_zero]; rfl
  | i + 1, h => by rw [kp_step l i (h0 i) (h15 i (by omega)), kraft l n h0 h15 i (by omega)]; rfl
theorem kp_le (l : List Int) (i : Nat) (h : kp l i 15 ≤ 2 ^ 15) : ∀ d L, L + d = 15 → kp l i L ≤ 2 ^ L
  | 0, L, e => by obtain rfl : L = 15 := by omega
                  exact h
  | d + 1, L, e => by
    have h1 := kp_le l i h d (L + 1) (by omega)
    have h2 := kp_mono l i L
    have h3 : (2 : Int) ^ (L + 1) = 2 * 2 ^ L := by rw [Int.pow_succ]; omega
    omega
structure Rt (l : List Int) : Prop where
  n1 : l.length ≤ 1024
  u8 : ∀ i, 0 ≤ l.getD i 0
  l15 : ∀ i, l.getD i 0 ≤ 15
  full : kp l l.length 15 = 32768
  top : ∀ L, L ≤ 15 → kp l l.length L ≤ 2 ^ L
theorem getD_u8 {l : List Int} (h : ∀ x ∈ l, isU8 x) (i : Nat) : 0 ≤ l.getD i 0 ∧ l.getD i 0 < 256 := by
  rcases getD_mem_or5 (l := l) i with hh | hh
  · exact h _ hh
  · omega
theorem Right5.rt {l : List Int} (hl : ∀ x ∈ l, isU8 x) (h : Right5 l) : Rt l := by
  obtain ⟨h1, h2, h3, h4⟩ := h
  have h0 := fun i => (getD_u8 hl i).1
  have hk := kraft l l.length h0 h2 l.length (Nat.le_refl _)
  refine ⟨h1, h0, fun i => ?_, by omega, fun L hL => kp_le l _ (by omega) (15 - L) L (by omega)⟩
  by_cases hi : i < l.length
  · exact h2 i hi
  · simp only [List.getD_eq_getElem?_getD, List.getElem?_eq_none (by omega : l.length ≤ i), Option.getD_none]; omega
end Go.Proofs.Ytkkddgdcmdnnmaa
namespace Go.Proofs.Ytkkddgdcmdnnmaa
open Go Go.Sx Go.Proofs
set_option maxRecDepth 10000
set_option maxHeartbeats 40000000
end Go.Proofs.Ytkkddgdcmdnnmaa
namespace Go.Proofs.Ytkkddgdcmdnnmaa
open Go Go.Sx Go.Proofs
def Pl (l : List Int) (L i : Nat) (vals : List Int) : Prop := vals.length = l.length ∧ ∀ s, s < l.length → vals.getD s 0 = if 0 < l.getD s 0 ∧ (l.getD s 0 < L ∨ (l.getD s 0 = L ∧ s < i)) then wd l s else 0
def WL (l : List Int) : List Int := (List.range l.length).map (fun s => if 0 < l.getD s 0 then wd l s else 0)
theorem WL_len (l : List Int) : (WL l).length = l.length := by simp [WL]
theorem WL_getD (l : List Int) {s : Nat} (h : s < l.length) : (WL l).getD s 0 = if 0 < l.getD s 0 then wd l s else 0 := by
  simp [WL, List.getD_eq_getElem?_getD, List.getElem?_map, List.getElem?_range h]
theorem Pl.zero (l : List Int) : Pl l 1 0 (List.replicate l.length 0) := by
  refine ⟨by simp, fun s hs => ?_⟩
  rw [if_neg (by omega)]
  simp [List.getD_eq_getElem?_getD, List.getElem?_replicate, hs]
theorem Pl.skip {l vals : List Int} {L i : Nat} (h : Pl l L i vals) (hx : l.getD i 0 ≠ L) : Pl l L (i + 1) vals := by
  refine ⟨h.1, fun s hs => ?_⟩
  rw [h.2 s hs]
  by_cases e : s = i
  · subst e
    have : (0 < l.getD s 0 ∧ (l.getD s 0 < L ∨ (l.getD s 0 = L ∧ s < s))) = (0 < l.getD s 0 ∧ (l.getD s 0 < L ∨ (l.getD s 0 = L ∧ s < s + 1))) := by
      apply propext; omega
    simp only [this]
  · have : (0 < l.getD s 0 ∧ (l.getD s 0 < L ∨ (l.getD s 0 = L ∧ s < i))) = (0 < l.getD s 0 ∧ (l.getD s 0 < L ∨ (l.getD s 0 = L ∧ s < i + 1))) := by
      apply propext; omega
    simp only [this]
theorem Pl.put {l vals : List Int} {L i : Nat} (h : Pl l L i vals) (hi : i < l.length) (hL : 1 ≤ L) (hx : l.getD i 0 = L) : Pl l L (i + 1) (vals.set i (wd l i)) := by
  refine ⟨by simp [h.1], fun s hs => ?_⟩
  by_cases e : s = i
  · subst e
    rw [if_pos (by omega)]
    simp [List.getD_eq_getElem?_getD, List.getElem?_set, h.1, hs]
  · have e2 : (vals.set i (wd l i)).getD s 0 = vals.getD s 0 := by
      simp [List.getD_eq_getElem?_getD, List.getElem?_set, Ne.symm e]
    rw [e2, h.2 s hs]
    have : (0 < l.getD s 0 ∧ (l.getD s 0 < L ∨ (l.getD s 0 = L ∧ s < i))) = (0 < l.getD s 0 ∧ (l.getD s 0 < L ∨ (l.getD s 0 = L ∧ s < i + 1))) := by
      apply propext; omega
    simp only [this]
theorem Pl.next {l vals : List Int} {L : Nat} (h : Pl l L l.length vals) : Pl l (L + 1) 0 vals := by
  refine ⟨h.1, fun s hs => ?_⟩
  rw [h.2 s hs]
  have : (0 < l.getD s 0 ∧ (l.getD s 0 < L ∨ (l.getD s 0 = L ∧ s < l.length))) = (0 < l.getD s 0 ∧ (l.getD s 0 < (L + 1 : Nat) ∨ (l.getD s 0 = (L + 1 : Nat) ∧ s < 0))) := by
    apply propext; omega
  simp only [this]
theorem Pl.done {l vals : List Int} (hR : Rt l) (h : Pl l 16 0 vals) : vals = WL l := by
  apply List.ext_getElem?
  intro s
  by_cases hs : s < l.length
  · have h1 := h.2 s hs
    have h2 := WL_getD l hs
    have h3 := hR.l15 s
    have e : (0 < l.getD s 0 ∧ (l.getD s 0 < (16 : Nat) ∨ (l.getD s 0 = (16 : Nat) ∧ s < 0))) = (0 < l.getD s 0) := by apply propext; omega
    simp only [e] at h1
    rw [← h2] at h1
    have a1 : s < vals.length := by rw [h.1]; exact hs
    have a2 : s < (WL l).length := by rw [WL_len]; exact hs
    rw [List.getElem?_eq_getElem a1, List.getElem?_eq_getElem a2]
    simp only [List.getD_eq_getElem?_getD, List.getElem?_eq_getElem a1, List.getElem?_eq_getElem a2, Option.getD_some] at h1
    rw [h1]
  · rw [List.getElem?_eq_none (by rw [h.1]; omega), List.getElem?_eq_none (by rw [WL_len]; omega)]
def nx (l : List Int) (L i : Nat) : Int := st l L + cn l L i
theorem nx_zero (l : List Int) (L : Nat) (h : 1 ≤ L) : nx l L 0 = 2 * kp l l.length (L - 1) := by simp [nx, cn, st]
theorem nx_step (l : List Int) (L i : Nat) : nx l L (i + 1) = nx l L i + (if l.getD i 0 = L then 1 else 0) := by simp only [nx, cn]; omega
theorem nx_full (l : List Int) (L : Nat) (h : 1 ≤ L) : nx l L l.length = kp l l.length L := by
  obtain ⟨k, rfl⟩ : ∃ k, L = k + 1 := ⟨L - 1, by omega⟩
  simp [nx, st, kp]
theorem nx_range {l : List Int} (hR : Rt l) (L i : Nat) (h1 : 1 ≤ L) (h2 : L ≤ 15) (hi : i ≤ l.length) : 0 ≤ nx l L i ∧ nx l L i ≤ 32768 := by
  have a := kp_nonneg l l.length (L - 1)
  have b := cn_range l L i
  have c := cn_mono l L hi
  have d := nx_full l L h1
  have e := hR.top L h2
  have f : (2 : Int) ^ L ≤ 2 ^ 15 := pow_up h2
  simp only [nx, st] at *
  omega
theorem nx_wd {l : List Int} {L i : Nat} (h : l.getD i 0 = L) : wd l i = nx l L i := by
  simp only [wd, nx, h, Int.toNat_natCast]
theorem wrap_u16 {x : Int} (h0 : 0 ≤ x) (h1 : x < 65536) : IntKind.u16.wrap x = x := by
  simp [IntKind.wrap, IntKind.bits, IntKind.signed]; omega
set_option maxRecDepth 10000
set_option maxHeartbeats 40000000
theorem refwords_con (l : List Int) (cap : Nat) (hR : Rt l) :
    Con Try.prog 79 [.slice 0 .z 1 l.length cap] [.ro .u8 l] (fun v H R => v = .slice 1 .z 1 l.length l.length ∧ H = [.ro .u8 l, .ints 116 .u16 (WL l)] ∧ R = []) := by
  refine con_gen (con_cut 2 (by simp) (con_drop (con_walk hmix fn79 ?_)))
  intro vb vc vw vtoN vofN vaddN vsubN vmaxI vminI vcutN vgd vst vln vrep vsub vonto vsplice vstrEq vbyteV vnotB veqB hw qb qc qw qtoN qofN qaddN qsubN qmaxI qminI qcutN qgd qst qln qrep qsub qonto qsplice qstrEq qbyteV qnotB qeqB
  have hm := hmix; generalize Try.prog = P at *
  have hn1 := hR.n1
  have hu8 := hR.u8
  have hl15 := hR.l15
  have hz := Pl.zero l
  have hdone := fun vals => Pl.done (vals := vals) hR
  have hskip := fun vals L i => @Pl.skip l vals L i
  have hput := fun vals L i => @Pl.put l vals L i
  have hnext := fun vals L => @Pl.next l vals L
  have hlen : ∀ vals L i, Pl l L i vals → vals.length = l.length := fun vals L i h => h.1
  have hn0 := nx_zero l
  have hns := nx_step l
  have hnf := nx_full l
  have hnr := fun L i => nx_range hR L i
  have hwd := fun L i => @nx_wd l L i
  have hk0 : kp l l.length 0 = 0 := rfl
  generalize WL l = W at *
  generalize wd l = WD at *
  generalize nx l = NX at *
  generalize kp l l.length = KP at *
  generalize Pl l = PL at *
  generalize hn : l.length = n at *
  have hto : ∀ i : Nat, vtoN (i : Int) = i := fun i => by simp only [qtoN, Int.toNat_natCast]
  have hadd0 : ∀ i, vaddN 0 i = i := fun i => by simp only [qaddN, Nat.zero_add]
  have hvl : ∀ l, vln l = l.length := fun l => by simp only [qln]
  have hvgd : ∀ l i, vgd l i = l.getD i 0 := fun l i => by simp only [qgd]
  have hvst : ∀ l i x, vst l i x = l.set i x := fun l i x => by simp only [qst]
  have hrep : ∀ n x, vrep n x = List.replicate n x := fun n x => by simp only [qrep]
  cbv
  have e1 : vtoN (vofN n) = n := by simp only [qofN]; exact hto n
  have en : vofN n = (n : Int) := by simp only [qofN]
  have hnat : ∀ i : Nat, vofN i = (i : Int) := fun i => by simp only [qofN]
  refine ⟨⟨by rw [en]; omega⟩, ⟨by rw [en]; omega⟩, ⟨by rw [e1, en]; omega⟩, ⟨by rw [en]; omega⟩, ?_⟩
  rw [e1]
  refine loop_fam (α := Int × Int × List Int) ([6] ++ [10, 11, 12, 13, 14, 15, 16, 17, 18, 19, 20, 21, 22, 23, 24, 25, 26, 27, 28, 29, 30, 31, 32, 33, 34, 35]) [] (fun (k, m, _) => [(5, .int .i64 k), (4, .int .i64 m)]) (fun (_, _, v) => [(1, .ints 116 .u16 v)])
    (fun (k, m, v) => ∃ L : Nat, k = L ∧ 1 ≤ L ∧ L ≤ 16 ∧ m = KP (L - 1) ∧ PL L 0 v) (fun (k, _) => 16 - k.toNat) hw hm ?_ ?_
  · refine Cv.genAt [5, 4] [1] (Cv.fold ([6] ++ [10, 11, 12, 13, 14, 15, 16, 17, 18, 19, 20, 21, 22, 23, 24, 25, 26, 27, 28, 29, 30, 31, 32, 33, 34, 35]) 2 [] (by exact Nat.le_refl _) (by exact Nat.le_of_ble_eq_true rfl) (by rfl) (by cbv) ?_)
    intro js
    refine ⟨(_, _, _), ?_, js, rfl⟩
    exact ⟨1, rfl, by omega, by omega, hk0.symm, by rw [hrep]; exact hz⟩
  · rintro ⟨k, m, v⟩ js ⟨L, hk, hL1, hL2, hm1, hv⟩
    cbv
    split
    · rename_i hlt
      have hlt : L ≤ 15 := by rw [qc, leq_eq] at hlt; simp only [decide_eq_true_eq] at hlt; simp only [nc] at *; omega
      have hr0 := hnr L 0 hL1 hlt (by omega)
      have hx0 := hn0 L hL1
      obtain ⟨m1, hm2⟩ : ∃ m1, m1 = NX L 0 := ⟨_, rfl⟩
      have em : vb .mul .i64 m 2 = m1 := by rw [qb, mul_i64 (by omega) (by omega)]; omega
      have hmu : ∀ k1 : Int, k1 = ((L + 1 : Nat) : Int) → 16 - k1.toNat < 16 - k.toNat := by intro k1 h; simp only [nc] at *; omega
      cbv
      rw [em]
      refine loop_fam (α := Int × Int × List Int) [16, 17, 18, 19, 20, 21, 22, 23, 24, 25, 26, 27, 28, 29, 30, 31, 32, 33, 34, 35] [] (fun (k, m, _) => [(6, .int .i64 k), (4, .int .i64 m)]) (fun (_, _, v) => [(1, .ints 116 .u16 v)])
        (fun (k, m, v) => ∃ i : Nat, k = i ∧ i ≤ n ∧ m = NX L i ∧ PL L i v) (fun (k, _) => n - k.toNat) hw hm ?_ ?_
      · refine Cv.genAt [6, 4] [1] (Cv.fold [16, 17, 18, 19, 20, 21, 22, 23, 24, 25, 26, 27, 28, 29, 30, 31, 32, 33, 34, 35] 2 [] (by exact Nat.le_refl _) (by exact Nat.le_of_ble_eq_true rfl) (by rfl) (by cbv) ?_)
        intro js
        refine ⟨(_, _, _), ?_, js, rfl⟩
        exact ⟨0, rfl, by omega, hm2, hv⟩
      · rintro ⟨q, m, v⟩ js2 ⟨i, hq, hi, hm1, hv⟩
        have hni := hnr L i hL1 hlt hi
        have hvlen := hlen v L i hv
        cbv
        split
        · rename_i hlt2
          have hlt2 : i < n := by rw [qc, lss_true] at hlt2; simp only [qofN] at hlt2; simp only [nc] at *; omega
          have hti : vtoN q = i := by rw [hq]; exact hto i
          have hinR : 0 ≤ q ∧ q < (n : Int) := by simp only [nc] at *; omega
          obtain ⟨q1, hq1⟩ : ∃ q1 : Int, q1 = ((i + 1 : Nat) : Int) := ⟨_, rfl⟩
          have eq1 : vb .add .i64 q 1 = q1 := by simp only [nc] at *; rw [qb, add_i64 (by omega) (by omega)]; omega
          have hmu2 : n - q1.toNat < n - q.toNat := by simp only [nc] at *; omega
          have hx0 := hu8 i
          have hx1 := hl15 i
          have hsk := hskip v L i hv
          have hpu := hput v L i hv hlt2 hL1
          have hns := hns L i
          have hwd := hwd L i
          have hvl1 := hvl v
          have hvl2 := hvl l
          cbv
          rw [hti, hadd0, hvgd]
          refine ⟨⟨hinR⟩, ⟨by omega⟩, ⟨by omega⟩, ?_⟩
          generalize hxi : l.getD i 0 = x at *
          have ew : vw .i64 x = x := by rw [qw]; exact wrap_i64 (by omega) (by omega)
          rw [ew]
          generalize hz : vc .eql x k = z
          cases z
          · rw [qc, eql_false] at hz
            rw [if_neg (by simp only [nc] at *; omega)] at hns
            have hsk := hsk (by simp only [nc] at *; omega)
            cbv
            rw [eq1]
            refine Cv.fold [16, 17, 18, 19, 20, 21, 22, 23, 24, 25, 26, 27, 28, 29, 30, 31, 32, 33, 34, 35] 2 [] (by exact Nat.le_refl _) (by exact Nat.le_of_ble_eq_true rfl) (by rfl) (by cbv) ?_
            intro js
            refine ⟨(_, _, _), ?_, js, rfl⟩
            exact ⟨⟨i + 1, hq1, hlt2, by omega, hsk⟩, hmu2⟩
          · rw [qc, eql_true] at hz
            have hxL : x = (L : Int) := by simp only [nc] at *; omega
            rw [if_pos hxL] at hns
            have hpu := hpu hxL
            rw [hwd hxL, ← hm1, ← hvst] at hpu
            have ew2 : vw .u16 m = m := by rw [qw]; exact wrap_u16 (by omega) (by omega)
            obtain ⟨m3, hm3⟩ : ∃ m3, m3 = NX L (i + 1) := ⟨_, rfl⟩
            have em3 : vb .add .i64 m 1 = m3 := by rw [qb, add_i64 (by omega) (by omega)]; omega
            cbv
            rw [ew2, hti, em3, eq1]
            refine ⟨⟨hinR⟩, ⟨by omega⟩, ?_⟩
            refine Cv.fold [16, 17, 18, 19, 20, 21, 22, 23, 24, 25, 26, 27, 28, 29, 30, 31, 32, 33, 34, 35] 2 [] (by exact Nat.le_refl _) (by exact Nat.le_of_ble_eq_true rfl) (by rfl) (by cbv) ?_
            intro js
            refine ⟨(_, _, _), ?_, js, rfl⟩
            exact ⟨⟨i + 1, hq1, hlt2, hm3, hpu⟩, hmu2⟩
        · rename_i hge2
          have hin : i = n := by rw [qc, lss_false] at hge2; simp only [qofN] at hge2; simp only [nc] at *; omega
          rw [hin] at hv hm1
          obtain ⟨k1, hk1⟩ : ∃ k1 : Int, k1 = ((L + 1 : Nat) : Int) := ⟨_, rfl⟩
          have ek : vb .add .i64 k 1 = k1 := by simp only [nc] at *; rw [qb, add_i64 (by omega) (by omega)]; omega
          have hnx := hnext v L hv
          have hmu := hmu k1 hk1
          have hmk : m = KP L := by rw [hm1]; exact hnf L hL1
          cbv
          rw [ek]
          refine Cv.fold ([6] ++ [10, 11, 12, 13, 14, 15, 16, 17, 18, 19, 20, 21, 22, 23, 24, 25, 26, 27, 28, 29, 30, 31, 32, 33, 34, 35]) 2 [] (by exact Nat.le_refl _) (by exact Nat.le_of_ble_eq_true rfl) (by rfl) (by cbv) ?_
          intro js
          refine ⟨(_, _, _), ?_, js, rfl⟩
          exact ⟨⟨L + 1, hk1, by omega, by omega, hmk, hnx⟩, hmu⟩
    · rename_i hge
      have hL : L = 16 := by rw [qc, leq_eq] at hge; simp only [Bool.not_eq_true, decide_eq_false_iff_not] at hge; simp only [nc] at *; omega
      subst hL
      obtain rfl := hdone v hv
      cbv
end Go.Proofs.Ytkkddgdcmdnnmaa
namespace Go.Proofs.Ytkkddgdcmdnnmaa
open Go Go.Sx Go.Proofs
set_option maxRecDepth 10000
set_option maxHeartbeats 40000000
end Go.Proofs.Ytkkddgdcmdnnmaa
namespace Go.Proofs.Ytkkddgdcmdnnmaa
open Go Go.Sx Go.Proofs
def bt (b : List Int) (p : Nat) : Int := (bitL b).getD p 0
theorem bt_range (b : List Int) (p : Nat) : 0 ≤ bt b p ∧ bt b p ≤ 1 := by
  rcases getD_mem_or5 (l := bitL b) p with h | h
  · rcases bitL_bit b _ h with h | h <;> (unfold bt; omega)
  · unfold bt; omega
def xv (b : List Int) (p : Nat) : Nat → Int
  | 0 => 0
  | L + 1 => 2 * xv b p L + bt b (p + L)
theorem xv_range (b : List Int) (p : Nat) : ∀ L, 0 ≤ xv b p L ∧ xv b p L < 2 ^ L
  | 0 => by simp [xv]
  | L + 1 => by
    have h1 := xv_range b p L
    have h2 := bt_range b (p + L)
    have h3 : (2 : Int) ^ (L + 1) = 2 * 2 ^ L := by rw [Int.pow_succ]; omega
    simp only [xv]; omega
def Dec (l b : List Int) (p : Nat) (s e : Int) (q : Nat) : Prop :=
  (∃ L i : Nat, 1 ≤ L ∧ L ≤ 15 ∧ p + L ≤ 8 * b.length ∧ (∀ j, j < L → kp l l.length j ≤ xv b p j) ∧ xv b p L < kp l l.length L ∧ i < l.length ∧ l.getD i 0 = L ∧ cn l L i = xv b p L - st l L ∧ s = i ∧ e = 0 ∧ q = p + L) ∨
  (∃ L : Nat, L ≤ 14 ∧ p + L = 8 * b.length ∧ (∀ j, j ≤ L → kp l l.length j ≤ xv b p j) ∧ s = 0 ∧ e = 10 ∧ q = p + L)
theorem cn_inj (l : List Int) {i j : Nat} {k : Int} (hi : l.getD i 0 = k) (hj : l.getD j 0 = k) (h : cn l k i = cn l k j) : i = j := by
  have a := @cn_lt l i j
  have c := @cn_lt l j i
  rw [hi] at a
  rw [hj] at c
  by_cases h1 : i < j
  · have := a h1; omega
  · by_cases h2 : j < i
    · have := c h2; omega
    · omega
theorem Dec.det {l b : List Int} {p : Nat} {s e s' e' : Int} {q q' : Nat} (h : Dec l b p s e q) (h' : Dec l b p s' e' q') : s = s' ∧ e = e' ∧ q = q' := by
  rcases h with ⟨L, i, h1, h2, h3, h4, h5, h6, h7, h8, rfl, rfl, rfl⟩ | ⟨L, h1, h2, h3, rfl, rfl, rfl⟩
  · rcases h' with ⟨L', i', k1, k2, k3, k4, k5, k6, k7, k8, rfl, rfl, rfl⟩ | ⟨L', k1, k2, k3, rfl, rfl, rfl⟩
    · have : L = L' := by
        by_cases a : L < L'
        · have := k4 L a; omega
        · by_cases c : L' < L
          · have := h4 L' c; omega
          · omega
      subst this
      have : i = i' := cn_inj l h7 k7 (by omega)
      subst this
      exact ⟨rfl, rfl, rfl⟩
    · have := k3 L (by omega); omega
  · rcases h' with ⟨L', i', k1, k2, k3, k4, k5, k6, k7, k8, rfl, rfl, rfl⟩ | ⟨L', k1, k2, k3, rfl, rfl, rfl⟩
    · have := h3 L' (by omega); omega
    · exact ⟨rfl, rfl, by omega⟩
theorem kp_top {l b : List Int} (hR : Rt l) (p : Nat) : xv b p 15 < kp l l.length 15 := by
  have := xv_range b p 15
  rw [hR.full]; omega
theorem rbit_con (b : List Int) (pos cap : Nat) (acc hv ai : Int) (hby : ∀ x ∈ b, isByte x) (hl : b.length ≤ 2 ^ 50) (h : RS b pos acc hv ai) :
    Con Try.prog 24 [.ptr 0 .z 4 0, .int .i64 1] [(.one 81 [.fn 39 [.ptr 1 .z 1 0, .ptr 2 .z 1 0], .int .u64 (acc), .int .i64 (hv), .fn 40 [.ptr 2 .z 1 0, .ptr 1 .z 1 0]]), .one 3 [.int .i64 ai], .one 22 [.slice 3 .z 1 b.length cap], .ro .u8 b]
      (fun v H R => ∃ acc2 hv2 ai2 x e, ∃ pos2, v = .tup [.int .u64 x, .int .i64 e] ∧ RS b pos2 acc2 hv2 ai2 ∧ ((e = 0 ∧ pos + 1 ≤ 8 * b.length ∧ x = bt b pos ∧ pos2 = pos + 1) ∨ (e = 10 ∧ 8 * b.length ≤ pos ∧ pos2 = pos)) ∧ R = [] ∧
        H = [(.one 81 [.fn 39 [.ptr 1 .z 1 0, .ptr 2 .z 1 0], .int .u64 (acc2), .int .i64 (hv2), .fn 40 [.ptr 2 .z 1 0, .ptr 1 .z 1 0]]), .one 3 [.int .i64 ai2], .one 22 [.slice 3 .z 1 b.length cap], .ro .u8 b]) := by
  refine (rbits_rs b pos cap 1 acc hv ai hby hl h).mono ?_
  rintro v H R ⟨rfl, rfl, acc2, hv2, ai2, h2, rfl⟩
  refine ⟨acc2, hv2, ai2, _, _, _, rfl, h2, ?_, rfl, rfl⟩
  by_cases hp : pos + 1 ≤ 8 * b.length
  · refine .inl ⟨?_, hp, ?_, ?_⟩
    · unfold rbE; rw [if_pos (by omega), if_pos (by omega)]
    · unfold rbX; rw [if_pos ⟨by omega, by omega, by omega⟩]; simp [bval, bt]
    · unfold rbP; rw [if_pos ⟨by omega, by omega, by omega⟩]; rfl
  · refine .inr ⟨?_, by omega, ?_⟩
    · unfold rbE; rw [if_pos (by omega), if_neg (by omega)]
    · unfold rbP; rw [if_neg (by omega)]
end Go.Proofs.Ytkkddgdcmdnnmaa
