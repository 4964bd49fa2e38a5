import Derived.Test.YtkkddgdcmdnnmaaEC
import Derived.Test.YtkkddgdcmdnnmaaCode
import Derived.Test.YtkkddgdcmdnnmaaED
set_option linter.unusedVariables false
set_option linter.unusedSimpArgs false
/-
  Contracts of seat 1's functions, part 1: no reader, no writer.
-/
namespace Go.Proofs.Ytkkddgdcmdnnmaa
open Go Go.Sx Go.Proofs
theorem hmix : Try.prog.follows .mixedOrders = true := by kernel_rfl
end Go.Proofs.Ytkkddgdcmdnnmaa
/-
  Plain: bits in bytes.
-/
namespace Go.Proofs.Ytkkddgdcmdnnmaa
open Go Go.Sx
/-- The numbers of these bits: eight a byte, the lowest first. -/
def bval (l : List Int) : Nat → Nat → Int
  | _, 0 => 0
  | i, n + 1 => bval l i n + l.getD (i + n) 0 * 2 ^ n
def pack (bs : List Int) : List Int := (List.range ((bs.length + 7) / 8)).map fun i => bval bs (8 * i) 8
def bitsN (x : Int) (n : Nat) : List Int := (List.range n).map fun k => x / 2 ^ k % 2
def isBit (b : Int) : Prop := b = 0 ∨ b = 1
theorem pack_length (bs : List Int) : (pack bs).length = (bs.length + 7) / 8 := by simp [pack]
theorem bval_bound (l : List Int) (h : ∀ b ∈ l, isBit b) (i : Nat) : ∀ n, 0 ≤ bval l i n ∧ bval l i n < 2 ^ n
  | 0 => by simp [bval]
  | n + 1 => by
    obtain ⟨h0, h1⟩ := bval_bound l h i n
    have hb : l.getD (i + n) 0 = 0 ∨ l.getD (i + n) 0 = 1 := by
      rw [List.getD_eq_getElem?_getD]
      cases hg : l[i + n]? with
      | none => left; rfl
      | some b => exact h b (List.mem_of_getElem? hg)
    have hp : (2 : Int) ^ (n + 1) = 2 ^ n + 2 ^ n := by rw [Int.pow_succ]; omega
    simp only [bval]
    rcases hb with hb | hb <;> rw [hb, hp] <;> constructor <;> omega
theorem bval_snoc (bs : List Int) (b : Int) (i : Nat) : ∀ n, bval (bs ++ [b]) i n = bval bs i n + (if i ≤ bs.length ∧ bs.length < i + n then b * 2 ^ (bs.length - i) else 0)
  | 0 => by
    simp only [bval]
    rw [if_neg (by omega)]
    rfl
  | n + 1 => by
    simp only [bval]
    rw [bval_snoc bs b i n]
    rcases Nat.lt_trichotomy (i + n) bs.length with h | h | h
    · have e : (bs ++ [b]).getD (i + n) 0 = bs.getD (i + n) 0 := by
        simp [List.getD_eq_getElem?_getD, List.getElem?_append_left h]
      rw [e, if_neg (by omega), if_neg (by omega)]
      omega
    · have e : (bs ++ [b]).getD (i + n) 0 = b := by
        rw [h]; simp [List.getD_eq_getElem?_getD]
      have e0 : bs.getD (i + n) 0 = 0 := by
        rw [h]; simp [List.getD_eq_getElem?_getD]
      rw [e, e0, if_neg (by omega), if_pos (by omega)]
      have : bs.length - i = n := by omega
      rw [this]
      omega
    · have e : (bs ++ [b]).getD (i + n) 0 = 0 := by
        simp [List.getD_eq_getElem?_getD, List.getElem?_eq_none (show (bs ++ [b]).length ≤ i + n by simp; omega)]
      have e0 : bs.getD (i + n) 0 = 0 := by
        simp [List.getD_eq_getElem?_getD, List.getElem?_eq_none (show bs.length ≤ i + n by omega)]
      rw [e, e0]
      by_cases hc : i ≤ bs.length ∧ bs.length < i + n
      · rw [if_pos hc, if_pos (by omega)]; omega
      · rw [if_neg hc, if_neg (by omega)]; omega
theorem bval_none (bs : List Int) (i : Nat) (h : bs.length ≤ i) : ∀ n, bval bs i n = 0
  | 0 => rfl
  | n + 1 => by
    simp only [bval]
    rw [bval_none bs i h n]
    simp [List.getD_eq_getElem?_getD, List.getElem?_eq_none (show bs.length ≤ i + n by omega)]
/-- One bit more. -/
theorem pack_snoc (bs : List Int) (b : Int) : pack (bs ++ [b]) =
    (if bs.length % 8 = 0 then pack bs ++ [0] else pack bs).set (bs.length / 8) ((if bs.length % 8 = 0 then pack bs ++ [0] else pack bs).getD (bs.length / 8) 0 + b * 2 ^ (bs.length % 8)) := by
  have hl : (if bs.length % 8 = 0 then pack bs ++ [0] else pack bs).length = (bs.length + 1 + 7) / 8 := by
    split <;> simp [pack_length] <;> omega
  have hg : ∀ i, i < (bs.length + 1 + 7) / 8 → (if bs.length % 8 = 0 then pack bs ++ [0] else pack bs)[i]? = some (bval bs (8 * i) 8) := by
    intro i hi
    split
    · rename_i h8
      by_cases hlt : i < (bs.length + 7) / 8
      · rw [List.getElem?_append_left (by rw [pack_length]; exact hlt)]
        simp [pack, hlt]
      · have : i = (pack bs).length := by rw [pack_length]; omega
        rw [this]
        simp
        rw [bval_none bs _ (by rw [pack_length]; omega)]
    · rename_i h8
      have hlt : i < (bs.length + 7) / 8 := by omega
      simp [pack, hlt]
  refine List.ext_getElem? fun i => ?_
  by_cases hi : i < (bs.length + 1 + 7) / 8
  · rw [List.getElem?_set]
    have hL : (pack (bs ++ [b]))[i]? = some (bval (bs ++ [b]) (8 * i) 8) := by
      have : i < ((bs ++ [b]).length + 7) / 8 := by simpa using hi
      simp only [pack, List.getElem?_map, List.getElem?_range this, Option.map_some]
    rw [hL, bval_snoc]
    by_cases he : bs.length / 8 = i
    · subst he
      rw [if_pos (show 8 * (bs.length / 8) ≤ bs.length ∧ bs.length < 8 * (bs.length / 8) + 8 by omega), if_pos rfl, if_pos (by rw [hl]; exact hi), List.getD_eq_getElem?_getD, hg _ hi]
      have : bs.length - 8 * (bs.length / 8) = bs.length % 8 := by omega
      simp [this]
    · rw [if_neg he, hg i hi, if_neg (by omega)]
      simp
  · rw [List.getElem?_eq_none (by rw [pack_length]; simp; omega), List.getElem?_eq_none (by rw [List.length_set, hl]; omega)]
theorem bitsN_succ (x : Int) (n : Nat) : bitsN x (n + 1) = bitsN x n ++ [x / 2 ^ n % 2] := by
  simp [bitsN, List.range_succ]
theorem bitsN_length (x : Int) (n : Nat) : (bitsN x n).length = n := by simp [bitsN]
theorem bitsN_zero (x : Int) : bitsN x 0 = [] := rfl
theorem isBit_mod (x : Int) : isBit (x % 2) := by unfold isBit; omega
theorem bitsN_bit (x : Int) (n : Nat) : ∀ b ∈ bitsN x n, isBit b := by
  intro b hb
  obtain ⟨k, _, rfl⟩ := List.mem_map.1 hb
  exact isBit_mod _
theorem bval_stop (bs : List Int) (i k : Nat) (h : bs.length ≤ i + k) : ∀ n, k ≤ n → bval bs i n = bval bs i k
  | 0, hn => by rw [Nat.le_zero.1 hn]
  | n + 1, hn => by
    by_cases he : k = n + 1
    · rw [he]
    · simp only [bval]
      rw [bval_stop bs i k h n (by omega)]
      simp [List.getD_eq_getElem?_getD, List.getElem?_eq_none (show bs.length ≤ i + n by omega)]
/-- The buffer, a byte more where it is full. -/
def room (bs : List Int) : List Int := if bs.length % 8 = 0 then pack bs ++ [0] else pack bs
theorem room_length (bs : List Int) : (room bs).length = bs.length / 8 + 1 := by
  unfold room
  split <;> simp [pack_length] <;> omega
theorem room_last (bs : List Int) : (room bs).getD (bs.length / 8) 0 = bval bs (8 * (bs.length / 8)) 8 := by
  unfold room
  rw [List.getD_eq_getElem?_getD]
  split
  · rename_i h8
    have : bs.length / 8 = (pack bs).length := by rw [pack_length]; omega
    rw [this]
    simp
    rw [bval_none bs _ (by rw [pack_length]; omega)]
  · rename_i h8
    have hlt : bs.length / 8 < (bs.length + 7) / 8 := by omega
    simp [pack, hlt]
theorem room_bound (bs : List Int) (hb : ∀ b ∈ bs, isBit b) : 0 ≤ (room bs).getD (bs.length / 8) 0 ∧ (room bs).getD (bs.length / 8) 0 < 2 ^ (bs.length % 8) := by
  rw [room_last, bval_stop bs _ (bs.length % 8) (by omega) 8 (by omega)]
  exact bval_bound bs hb _ _
theorem pow_le_128 {i : Nat} (h : i < 8) : (2 : Int) ^ i ≤ 128 := by
  have : i = 0 ∨ i = 1 ∨ i = 2 ∨ i = 3 ∨ i = 4 ∨ i = 5 ∨ i = 6 ∨ i = 7 := by omega
  rcases this with rfl | rfl | rfl | rfl | rfl | rfl | rfl | rfl <;> decide
theorem pack_step (bs : List Int) (b m : Int) (hb : ∀ b ∈ bs, isBit b) (hbit : isBit b) (hm : m = bs.length) :
    (room bs).set (m / 8).toNat (bV .or .u8 ((room bs).getD (m / 8).toNat 0) (bV .shl .u8 b (m % 8))) = pack (bs ++ [b]) := by
  have e1 : (m / 8).toNat = bs.length / 8 := by omega
  have e2 : (m % 8).toNat = bs.length % 8 := by omega
  obtain ⟨h0, h1⟩ := room_bound bs hb
  have hp := pow_le_128 (show bs.length % 8 < 8 by omega)
  have hp0 : (0 : Int) < 2 ^ (bs.length % 8) := Int.pow_pos (by decide)
  have hb2 : 0 ≤ b ∧ b * 2 ^ (bs.length % 8) ≤ 2 ^ (bs.length % 8) ∧ 0 ≤ b * 2 ^ (bs.length % 8) := by
    rcases hbit with rfl | rfl <;> omega
  rw [e1, shl_u rfl hb2.1 (by show m % 8 ≤ ((8 : Nat) : Int); omega) (by rw [e2]; show _ < (2 : Int) ^ 8; omega), e2, or_add rfl _ h0 h1 hb2.1 (by show _ < (2 : Int) ^ 8; omega), pack_snoc]
  rfl
end Go.Proofs.Ytkkddgdcmdnnmaa
namespace Go.Proofs.Ytkkddgdcmdnnmaa
open Go Go.Sx Go.Proofs
end Go.Proofs.Ytkkddgdcmdnnmaa
namespace Go.Proofs.Ytkkddgdcmdnnmaa
open Go Go.Sx Go.Proofs
/-- The bit of a number, 0 ahead of the first. -/
def bitAt (b : List Int) (k : Int) : Int := if 0 ≤ k then b.getD (k / 8).toNat 0 / 2 ^ (k % 8).toNat % 2 else 0
/-- n bits from p on, backwards, the first the highest. -/
def rd (b : List Int) (p : Int) : Nat → Int
  | 0 => 0
  | n + 1 => rd b p n * 2 + bitAt b (p - 1 - n)
def isByte (x : Int) : Prop := 0 ≤ x ∧ x < 256
theorem bitAt_bit (b : List Int) (k : Int) : 0 ≤ bitAt b k ∧ bitAt b k < 2 := by unfold bitAt; split <;> omega
theorem pow_le_56 {n : Nat} (h : n ≤ 56) : (2 : Int) ^ n ≤ 72057594037927936 := by
  have : (2 : Int) ^ n ≤ 2 ^ 56 := by exact_mod_cast Nat.pow_le_pow_right (by decide) h
  exact this
end Go.Proofs.Ytkkddgdcmdnnmaa
namespace Go.Proofs.Ytkkddgdcmdnnmaa
open Go Go.Sx Go.Proofs
theorem view_refl (l : List Int) : View 0 l l := ⟨⟨by omega, fun i _ => by rw [Nat.zero_add]⟩⟩
end Go.Proofs.Ytkkddgdcmdnnmaa
/-
  Plain: what is put and marked is read backwards.
-/
namespace Go.Proofs.Ytkkddgdcmdnnmaa
open Go Go.Sx
/-- The bits of a row of numbers. -/
def putBits (bs : List Int) (x n : Int) : List Int := if 0 ≤ n ∧ n ≤ 56 then bs ++ bitsN x n.toNat else bs
/-- A number's bit. -/
theorem bval_bit (l : List Int) (h : ∀ b ∈ l, isBit b) (i : Nat) : ∀ n j, j < n → bval l i n / 2 ^ j % 2 = l.getD (i + j) 0
  | 0, j, hj => by omega
  | n + 1, j, hj => by
    have hg : l.getD (i + n) 0 = 0 ∨ l.getD (i + n) 0 = 1 := by
      rw [List.getD_eq_getElem?_getD]
      cases hg : l[i + n]? with
      | none => left; rfl
      | some b => exact h b (List.mem_of_getElem? hg)
    have hb := bval_bound l h i n
    simp only [bval]
    by_cases hjn : j = n
    · subst hjn
      have hp : (0 : Int) < 2 ^ j := Int.pow_pos (by decide)
      rw [Int.add_mul_ediv_right _ _ (by omega), Int.ediv_eq_zero_of_lt hb.1 hb.2]
      rcases hg with hg | hg <;> rw [hg] <;> decide
    · have hj' : j < n := by omega
      have e : (2 : Int) ^ n = 2 ^ (n - j - 1) * 2 * 2 ^ j := by
        rw [← Int.pow_succ, ← Int.pow_add]; congr 1; omega
      have hp : (0 : Int) < 2 ^ j := Int.pow_pos (by decide)
      rw [e, ← Int.mul_assoc, Int.add_mul_ediv_right _ _ (by omega), ← Int.mul_assoc]
      rw [Int.add_mul_emod_self_right]
      exact bval_bit l h i n j hj'
theorem pack_getD (bs : List Int) (i : Nat) : (pack bs).getD i 0 = bval bs (8 * i) 8 := by
  rw [List.getD_eq_getElem?_getD]
  by_cases hi : i < (bs.length + 7) / 8
  · simp [pack, hi]
  · rw [List.getElem?_eq_none (by rw [pack_length]; omega), bval_none bs _ (by omega)]
    rfl
theorem bitAt_pack (bs : List Int) (h : ∀ b ∈ bs, isBit b) (k : Nat) : bitAt (pack bs) k = bs.getD k 0 := by
  unfold bitAt
  rw [if_pos (by omega), pack_getD]
  have e1 : ((k : Int) / 8).toNat = k / 8 := by omega
  have e2 : ((k : Int) % 8).toNat = k % 8 := by omega
  rw [e1, e2, bval_bit bs h _ 8 (k % 8) (by omega)]
  congr 1
  omega
end Go.Proofs.Ytkkddgdcmdnnmaa
namespace Go.Proofs.Ytkkddgdcmdnnmaa
open Go Go.Sx Go.Proofs
/-- What Put answers. -/
def putErr (n : Int) : Int := if 0 ≤ n ∧ n ≤ 56 then 0 else 2
end Go.Proofs.Ytkkddgdcmdnnmaa
/-
  Plain: bytes filled bit by bit.
-/
namespace Go.Proofs.Ytkkddgdcmdnnmaa
open Go Go.Sx
end Go.Proofs.Ytkkddgdcmdnnmaa
namespace Go.Proofs.Ytkkddgdcmdnnmaa
open Go Go.Sx Go.Proofs
/-- The first k bits of bytes. -/
def bitsOf (b : List Int) (k : Nat) : List Int := (List.range k).map fun (i : Nat) => bitAt b (i : Int)
theorem bitsOf_length (b : List Int) (k : Nat) : (bitsOf b k).length = k := by simp [bitsOf]
theorem bitsOf_get (b : List Int) (k i : Nat) (h : i < k) : (bitsOf b k).getD i 0 = bitAt b i := by simp [bitsOf, List.getD_eq_getElem?_getD, h]
theorem byte_bit {b : List Int} (hby : ∀ x ∈ b, isByte x) (i : Nat) : isByte (b.getD i 0) := by
  rw [List.getD_eq_getElem?_getD]
  cases hg : b[i]? with
  | none => exact ⟨by simp, by simp⟩
  | some y => exact hby y (List.mem_of_getElem? hg)
end Go.Proofs.Ytkkddgdcmdnnmaa
/-
  Plain: bits of bytes, the lowest first.
-/
namespace Go.Proofs.Ytkkddgdcmdnnmaa
open Go Go.Sx
theorem bval_split (l : List Int) (i n : Nat) : ∀ m, bval l i (n + m) = bval l i n + bval l (i + n) m * 2 ^ n
  | 0 => by simp [bval]
  | m + 1 => by
    rw [show n + (m + 1) = (n + m) + 1 from rfl]
    simp only [bval]
    rw [bval_split l i n m, Int.pow_add, Int.add_mul, Nat.add_assoc]
    have : l.getD (i + (n + m)) 0 * (2 ^ n * 2 ^ m) = l.getD (i + (n + m)) 0 * 2 ^ m * 2 ^ n := by rw [Int.mul_comm (2 ^ n), Int.mul_assoc]
    omega
/-- All bits of bytes. -/
def bitL (b : List Int) : List Int := bitsOf b (8 * b.length)
theorem bitL_length (b : List Int) : (bitL b).length = 8 * b.length := bitsOf_length _ _
theorem bitL_bit (b : List Int) : ∀ x ∈ bitL b, isBit x := by
  intro x hx
  obtain ⟨i, _, rfl⟩ := List.mem_map.1 hx
  have := bitAt_bit b (i : Int)
  unfold isBit
  omega
theorem bitL_get (b : List Int) (i : Nat) (h : i < 8 * b.length) : (bitL b).getD i 0 = bitAt b i := bitsOf_get b _ i h
theorem byte_bits {x : Int} (h : isByte x) : x / 2 ^ 0 % 2 * 2 ^ 0 + x / 2 ^ 1 % 2 * 2 ^ 1 + x / 2 ^ 2 % 2 * 2 ^ 2 + x / 2 ^ 3 % 2 * 2 ^ 3 + x / 2 ^ 4 % 2 * 2 ^ 4 + x / 2 ^ 5 % 2 * 2 ^ 5 + x / 2 ^ 6 % 2 * 2 ^ 6 + x / 2 ^ 7 % 2 * 2 ^ 7 = x := by
  obtain ⟨h0, h1⟩ := h
  simp only [Int.reducePow]
  omega
theorem bitL_byte (b : List Int) (hby : ∀ x ∈ b, isByte x) (i : Nat) (h : i < b.length) : bval (bitL b) (8 * i) 8 = b.getD i 0 := by
  have hg : ∀ j : Nat, j < 8 → (bitL b).getD (8 * i + j) 0 = b.getD i 0 / 2 ^ j % 2 := fun j hj => by
    rw [bitL_get b _ (by omega)]
    unfold bitAt
    rw [if_pos (by omega)]
    have e1 : (((8 * i + j : Nat) : Int) / 8).toNat = i := by omega
    have e2 : (((8 * i + j : Nat) : Int) % 8).toNat = j := by omega
    rw [e1, e2]
  have hb := byte_bits (byte_bit hby i)
  simp only [bval]
  rw [hg 0 (by omega), hg 1 (by omega), hg 2 (by omega), hg 3 (by omega), hg 4 (by omega), hg 5 (by omega), hg 6 (by omega), hg 7 (by omega)]
  rw [Int.zero_add]
  exact hb
theorem bval_mod (l : List Int) (h : ∀ b ∈ l, isBit b) (i n m : Nat) : bval l i (n + m) % 2 ^ n = bval l i n ∧ bval l i (n + m) / 2 ^ n = bval l (i + n) m := by
  have hb := bval_bound l h i n
  have hp : (0 : Int) < 2 ^ n := Int.pow_pos (by decide)
  rw [bval_split]
  constructor
  · rw [Int.add_mul_emod_self_right]
    exact Int.emod_eq_of_lt hb.1 hb.2
  · rw [Int.add_mul_ediv_right _ _ (by omega), Int.ediv_eq_zero_of_lt hb.1 hb.2]
    omega
end Go.Proofs.Ytkkddgdcmdnnmaa
namespace Go.Proofs.Ytkkddgdcmdnnmaa
open Go Go.Sx Go.Proofs
theorem next_ok (b : List Int) (at' cap : Nat) (h : at' < b.length) (hl : b.length ≤ 2 ^ 60) :
    Con Try.prog 39 [.ptr 0 .z 1 0, .ptr 1 .z 1 0] [.one 3 [.int .i64 at'], .one 22 [.slice 2 .z 1 b.length cap], .ro .u8 b]
      (fun v H R => v = .tup [.int .u8 (b.getD at' 0), .bool true] ∧ R = [] ∧ H = [.one 3 [.int .i64 ((at' + 1 : Nat) : Int)], .one 22 [.slice 2 .z 1 b.length cap], .ro .u8 b]) := by
  refine con_walk hmix fn39 ?_
  intro vb vc vw vtoN vofN vaddN vsubN vmaxI vminI vcutN vgd vst vln vrep vsub vonto vsplice vstrEq vbyteV vnotB veqB hw qb qc qw qtoN qofN qaddN qsubN qmaxI qminI qcutN qgd qst qln qrep qsub qonto qsplice qstrEq qbyteV qnotB qeqB
  generalize Try.prog = P at *
  generalize hlen : b.length = len at *
  generalize hv : b.getD at' 0 = v0
  generalize ha1 : ((at' + 1 : Nat) : Int) = a1
  generalize ha : ((at' : Nat) : Int) = a0
  cbv
  have e1 : vc .geq a0 (vofN len) = false := by simp only [qc, qofN]; rw [geq_false]; simp only [nc] at *; omega
  have e2 : vb .add .i64 a0 1 = a1 := by simp only [nc] at *; rw [qb, add_i64 (by omega) (by omega)]; omega
  have e3 : vb .sub .i64 a1 1 = a0 := by simp only [nc] at *; rw [qb, sub_i64 (by omega) (by omega)]; omega
  have hin : 0 ≤ a0 ∧ a0 < len := by simp only [nc] at *; omega
  have ht : vtoN a0 = at' := by simp only [qtoN]; simp only [nc] at *; omega
  have hlt : vtoN a0 < vln b := by rw [ht]; simp only [qln]; omega
  have hlt2 : vaddN 0 (vtoN a0) < vln b := by simp only [qaddN, Nat.zero_add]; exact hlt
  have hval : vgd b (vtoN a0) = v0 := by rw [ht]; simp only [qgd]; exact hv
  rw [e1]
  cbv
  rw [e2, e3, hval]
  exact ⟨⟨hin⟩, ⟨hlt2⟩, ⟨hlt⟩, rfl, rfl⟩
theorem next_end (b : List Int) (cap : Nat) (hl : b.length ≤ 2 ^ 60) :
    Con Try.prog 39 [.ptr 0 .z 1 0, .ptr 1 .z 1 0] [.one 3 [.int .i64 b.length], .one 22 [.slice 2 .z 1 b.length cap], .ro .u8 b]
      (fun v H R => v = .tup [.lit .u8 0, .bool false] ∧ R = [] ∧ H = [.one 3 [.int .i64 b.length], .one 22 [.slice 2 .z 1 b.length cap], .ro .u8 b]) := by
  refine con_walk hmix fn39 ?_
  intro vb vc vw vtoN vofN vaddN vsubN vmaxI vminI vcutN vgd vst vln vrep vsub vonto vsplice vstrEq vbyteV vnotB veqB hw qb qc qw qtoN qofN qaddN qsubN qmaxI qminI qcutN qgd qst qln qrep qsub qonto qsplice qstrEq qbyteV qnotB qeqB
  generalize Try.prog = P at *
  generalize hlen : b.length = len at *
  generalize ha : ((len : Nat) : Int) = a0
  cbv
  have e1 : vc .geq a0 (vofN len) = true := by simp only [qc, qofN]; rw [geq_true]; simp only [nc] at *; omega
  rw [e1]
  cbv
set_option maxHeartbeats 4000000 in
/-- So many bits at hand, where there are as many. -/
theorem fill_ok (b : List Int) (pos at' cap n : Nat) (hby : ∀ x ∈ b, isByte x) (hl : b.length ≤ 2 ^ 50) (hp : pos ≤ 8 * at') (hp2 : 8 * at' ≤ pos + 63) (ha : at' ≤ b.length) (hn : n ≤ 56) (hen : pos + n ≤ 8 * b.length) :
    Con Try.prog 54 [.ptr 0 .z 4 0, .int .i64 n] [(.one 81 [.fn 39 [.ptr 1 .z 1 0, .ptr 2 .z 1 0], .int .u64 (bval (bitL b) pos (8 * at' - pos)), .int .i64 (((8 * at' - pos : Nat) : Int)), .fn 40 [.ptr 2 .z 1 0, .ptr 1 .z 1 0]]), .one 3 [.int .i64 at'], .one 22 [.slice 3 .z 1 b.length cap], .ro .u8 b]
      (fun v H R => v = .bool true ∧ R = [] ∧ ∃ a2 : Nat, pos + n ≤ 8 * a2 ∧ 8 * a2 ≤ pos + 63 ∧ a2 ≤ b.length ∧ H = [(.one 81 [.fn 39 [.ptr 1 .z 1 0, .ptr 2 .z 1 0], .int .u64 (bval (bitL b) pos (8 * a2 - pos)), .int .i64 (((8 * a2 - pos : Nat) : Int)), .fn 40 [.ptr 2 .z 1 0, .ptr 1 .z 1 0]]), .one 3 [.int .i64 a2], .one 22 [.slice 3 .z 1 b.length cap], .ro .u8 b]) := by
  have hnext := fun a h => next_ok b a cap h (by omega)
  refine con_cut 4 (by simp) (con_red [] (con_walk hmix fn54 ?_))
  intro vb vc vw vtoN vofN vaddN vsubN vmaxI vminI vcutN vgd vst vln vrep vsub vonto vsplice vstrEq vbyteV vnotB veqB hw qb qc qw qtoN qofN qaddN qsubN qmaxI qminI qcutN qgd qst qln qrep qsub qonto qsplice qstrEq qbyteV qnotB qeqB
  have hm := hmix
  generalize Try.prog = P at *
  generalize hacc : bval (bitL b) pos (8 * at' - pos) = acc
  generalize hhave : ((8 * at' - pos : Nat) : Int) = have0
  generalize ha0 : ((at' : Nat) : Int) = a0
  generalize hn0 : ((n : Nat) : Int) = n0
  generalize hlen : b.length = len at *
  cbv
  refine loop_fam (α := Int × Int × Int) [5, 6, 7, 8, 9, 10, 11, 12, 13, 14, 15, 16, 17, 18, 19, 20, 21, 22, 23, 24, 25, 26, 27, 28, 29, 30, 31, 32, 33, 34, 35, 36, 37, 38, 39, 40, 41, 42, 43, 44] []
    (fun (x, k, a) => []) (fun (x, k, a) => [(0, (.one 81 [.fn 39 [.ptr 1 .z 1 0, .ptr 2 .z 1 0], .int .u64 (x), .int .i64 (k), .fn 40 [.ptr 2 .z 1 0, .ptr 1 .z 1 0]])), (1, .one 3 [.int .i64 a])])
    (fun (x, k, a) => ∃ i : Nat, pos ≤ 8 * i ∧ 8 * i ≤ pos + 63 ∧ i ≤ len ∧ x = bval (bitL b) pos (8 * i - pos) ∧ k = ((8 * i - pos : Nat) : Int) ∧ a = i) (fun (x, k, a) => len - a.toNat) hw hm ?_ ?_
  · refine Cv.fold [5, 6, 7, 8, 9, 10, 11, 12, 13, 14, 15, 16, 17, 18, 19, 20, 21, 22, 23, 24, 25, 26, 27, 28, 29, 30, 31, 32, 33, 34, 35, 36, 37, 38, 39, 40, 41, 42, 43, 44] 4 [] (by exact Nat.le_refl _) (by exact Nat.le_of_ble_eq_true rfl) (by rfl) (by cbv) ?_
    intro js
    refine ⟨(_, _, _), ?_, js, rfl⟩
    exact ⟨at', hp, hp2, ha, hacc.symm, hhave.symm, ha0.symm⟩
  · rintro ⟨x, k, a⟩ js ⟨i, hi1, hi2, hi3, hx, hk, hai⟩
    cbv
    split
    · rename_i hlt
      have hlt : 8 * i < pos + n := by rw [qc, lss_true] at hlt; simp only [nc] at *; omega
      have hil : i < len := by omega
      have hnext' := hnext i hil
      have hbyte := byte_bit hby i
      have hbb := bitL_byte b hby i (by omega)
      simp only [nc] at hnext' hai
      rw [← hai] at hnext'
      generalize hy : b.getD i 0 = y at *
      generalize ha1 : ((i + 1 : Nat) : Int) = a1 at *
      have hw1 : vw .u64 y = y := by simp only [qw]; exact wrap_u64 hbyte.1 (by have := hbyte.2; omega)
      have hw2 : vw .u64 k = k := by simp only [nc] at *; simp only [qw]; exact wrap_u64 (by omega) (by omega)
      have hk0 : 0 ≤ vw .u64 k := by rw [hw2]; simp only [nc] at *; omega
      have hk1 : vb .add .i64 k 8 = ((8 * (i + 1) - pos : Nat) : Int) := by simp only [nc] at *; rw [qb, add_i64 (by omega) (by omega)]; omega
      have hval : vb .or .u64 x (vb .shl .u64 (vw .u64 y) (vw .u64 k)) = bval (bitL b) pos (8 * (i + 1) - pos) := by
        have hbd := bval_bound (bitL b) (bitL_bit b) pos (8 * i - pos)
        have hp56 := pow_le_56 (show 8 * i - pos ≤ 56 by omega)
        have hpp : (0 : Int) < 2 ^ (8 * i - pos) := Int.pow_pos (by decide)
        have hkn : k.toNat = 8 * i - pos := by simp only [nc] at *; omega
        have hyb : y * 2 ^ (8 * i - pos) ≤ 255 * 2 ^ (8 * i - pos) := Int.mul_le_mul_of_nonneg_right (by have := hbyte.2; omega) (Int.le_of_lt hpp)
        have e : 8 * (i + 1) - pos = (8 * i - pos) + 8 := by omega
        rw [hw1, hw2, qb, shl_u rfl hbyte.1 (by show k ≤ ((64 : Nat) : Int); simp only [nc] at *; omega) (by rw [hkn]; show _ < (2 : Int) ^ 64; omega), hkn, hx, e, bval_split]
        have e2 : pos + (8 * i - pos) = 8 * i := by omega
        rw [e2, hbb, or_add rfl _ hbd.1 hbd.2 hbyte.1 (by show _ < (2 : Int) ^ 64; omega)]
      cbv
      refine call_con (ρ := [(1, .z), (2, .z), (3, .z)]) hnext' ⟨by rfl, by rfl, by rfl, by cbv; exact ⟨view_refl _, trivial⟩⟩ ?_
      rintro v H R js ⟨rfl, rfl, rfl⟩
      have e4 : vnotB true = false := by simp only [qnotB]; rfl
      cbv
      rw [e4]
      cbv
      refine ⟨⟨hk0⟩, ?_⟩
      refine Cv.fold [5, 6, 7, 8, 9, 10, 11, 12, 13, 14, 15, 16, 17, 18, 19, 20, 21, 22, 23, 24, 25, 26, 27, 28, 29, 30, 31, 32, 33, 34, 35, 36, 37, 38, 39, 40, 41, 42, 43, 44] 4 [] (by exact Nat.le_refl _) (by exact Nat.le_of_ble_eq_true rfl) (by rfl) (by cbv) ?_
      intro js
      refine ⟨(_, _, _), ?_, js, rfl⟩
      exact ⟨⟨i + 1, by omega, by omega, by omega, hval, hk1, ha1.symm⟩, by show len - a1.toNat < len - a.toNat; simp only [nc] at *; omega⟩
    · rename_i hge
      have hge : pos + n ≤ 8 * i := by rw [qc, lss_false] at hge; simp only [nc] at *; omega
      cbv
      refine ⟨i, hge, hi2, hi3, ?_⟩
      rw [hx, hk, hai]
      rfl
set_option maxHeartbeats 4000000 in
/-- Not as many bits: all that are left are at hand. -/
theorem fill_end (b : List Int) (pos at' cap n : Nat) (hby : ∀ x ∈ b, isByte x) (hl : b.length ≤ 2 ^ 50) (hp : pos ≤ 8 * at') (hp2 : 8 * at' ≤ pos + 63) (ha : at' ≤ b.length) (hn : n ≤ 56) (hen : 8 * b.length < pos + n) :
    Con Try.prog 54 [.ptr 0 .z 4 0, .int .i64 n] [(.one 81 [.fn 39 [.ptr 1 .z 1 0, .ptr 2 .z 1 0], .int .u64 (bval (bitL b) pos (8 * at' - pos)), .int .i64 (((8 * at' - pos : Nat) : Int)), .fn 40 [.ptr 2 .z 1 0, .ptr 1 .z 1 0]]), .one 3 [.int .i64 at'], .one 22 [.slice 3 .z 1 b.length cap], .ro .u8 b]
      (fun v H R => v = .bool false ∧ R = [] ∧ H = [(.one 81 [.fn 39 [.ptr 1 .z 1 0, .ptr 2 .z 1 0], .int .u64 (bval (bitL b) pos (8 * b.length - pos)), .int .i64 (((8 * b.length - pos : Nat) : Int)), .fn 40 [.ptr 2 .z 1 0, .ptr 1 .z 1 0]]), .one 3 [.int .i64 b.length], .one 22 [.slice 3 .z 1 b.length cap], .ro .u8 b]) := by
  have hnext := fun a h => next_ok b a cap h (by omega)
  have hend := next_end b cap (by omega)
  refine con_cut 4 (by simp) (con_red [] (con_walk hmix fn54 ?_))
  intro vb vc vw vtoN vofN vaddN vsubN vmaxI vminI vcutN vgd vst vln vrep vsub vonto vsplice vstrEq vbyteV vnotB veqB hw qb qc qw qtoN qofN qaddN qsubN qmaxI qminI qcutN qgd qst qln qrep qsub qonto qsplice qstrEq qbyteV qnotB qeqB
  have hm := hmix
  generalize Try.prog = P at *
  generalize hacc : bval (bitL b) pos (8 * at' - pos) = acc
  generalize hhave : ((8 * at' - pos : Nat) : Int) = have0
  generalize hacc2 : bval (bitL b) pos (8 * b.length - pos) = acc2
  generalize hhave2 : ((8 * b.length - pos : Nat) : Int) = have2
  generalize ha0 : ((at' : Nat) : Int) = a0
  generalize hn0 : ((n : Nat) : Int) = n0
  generalize hlI : ((b.length : Nat) : Int) = lI at *
  generalize hlen : b.length = len at *
  cbv
  refine loop_fam (α := Int × Int × Int) [5, 6, 7, 8, 9, 10, 11, 12, 13, 14, 15, 16, 17, 18, 19, 20, 21, 22, 23, 24, 25, 26, 27, 28, 29, 30, 31, 32, 33, 34, 35, 36, 37, 38, 39, 40, 41, 42, 43, 44] []
    (fun (x, k, a) => []) (fun (x, k, a) => [(0, (.one 81 [.fn 39 [.ptr 1 .z 1 0, .ptr 2 .z 1 0], .int .u64 (x), .int .i64 (k), .fn 40 [.ptr 2 .z 1 0, .ptr 1 .z 1 0]])), (1, .one 3 [.int .i64 a])])
    (fun (x, k, a) => ∃ i : Nat, pos ≤ 8 * i ∧ 8 * i ≤ pos + 63 ∧ i ≤ len ∧ x = bval (bitL b) pos (8 * i - pos) ∧ k = ((8 * i - pos : Nat) : Int) ∧ a = i) (fun (x, k, a) => len - a.toNat) hw hm ?_ ?_
  · refine Cv.fold [5, 6, 7, 8, 9, 10, 11, 12, 13, 14, 15, 16, 17, 18, 19, 20, 21, 22, 23, 24, 25, 26, 27, 28, 29, 30, 31, 32, 33, 34, 35, 36, 37, 38, 39, 40, 41, 42, 43, 44] 4 [] (by exact Nat.le_refl _) (by exact Nat.le_of_ble_eq_true rfl) (by rfl) (by cbv) ?_
    intro js
    refine ⟨(_, _, _), ?_, js, rfl⟩
    exact ⟨at', hp, hp2, ha, hacc.symm, hhave.symm, ha0.symm⟩
  · rintro ⟨x, k, a⟩ js ⟨i, hi1, hi2, hi3, hx, hk, hai⟩
    have hc : vc .lss k n0 = true := by rw [qc, lss_true]; simp only [nc] at *; omega
    cbv
    rw [hc]
    by_cases hil : i < len
    · have hnext' := hnext i hil
      have hbyte := byte_bit hby i
      have hbb := bitL_byte b hby i (by omega)
      simp only [nc] at hnext' hai
      rw [← hai] at hnext'
      generalize hy : b.getD i 0 = y at *
      generalize ha1 : ((i + 1 : Nat) : Int) = a1 at *
      have hw1 : vw .u64 y = y := by simp only [qw]; exact wrap_u64 hbyte.1 (by have := hbyte.2; omega)
      have hw2 : vw .u64 k = k := by simp only [nc] at *; simp only [qw]; exact wrap_u64 (by omega) (by omega)
      have hk0 : 0 ≤ vw .u64 k := by rw [hw2]; simp only [nc] at *; omega
      have hk1 : vb .add .i64 k 8 = ((8 * (i + 1) - pos : Nat) : Int) := by simp only [nc] at *; rw [qb, add_i64 (by omega) (by omega)]; omega
      have hval : vb .or .u64 x (vb .shl .u64 (vw .u64 y) (vw .u64 k)) = bval (bitL b) pos (8 * (i + 1) - pos) := by
        have hbd := bval_bound (bitL b) (bitL_bit b) pos (8 * i - pos)
        have hp56 := pow_le_56 (show 8 * i - pos ≤ 56 by omega)
        have hpp : (0 : Int) < 2 ^ (8 * i - pos) := Int.pow_pos (by decide)
        have hkn : k.toNat = 8 * i - pos := by simp only [nc] at *; omega
        have hyb : y * 2 ^ (8 * i - pos) ≤ 255 * 2 ^ (8 * i - pos) := Int.mul_le_mul_of_nonneg_right (by have := hbyte.2; omega) (Int.le_of_lt hpp)
        have e : 8 * (i + 1) - pos = (8 * i - pos) + 8 := by omega
        rw [hw1, hw2, qb, shl_u rfl hbyte.1 (by show k ≤ ((64 : Nat) : Int); simp only [nc] at *; omega) (by rw [hkn]; show _ < (2 : Int) ^ 64; omega), hkn, hx, e, bval_split]
        have e2 : pos + (8 * i - pos) = 8 * i := by omega
        rw [e2, hbb, or_add rfl _ hbd.1 hbd.2 hbyte.1 (by show _ < (2 : Int) ^ 64; omega)]
      cbv
      refine call_con (ρ := [(1, .z), (2, .z), (3, .z)]) hnext' ⟨by rfl, by rfl, by rfl, by cbv; exact ⟨view_refl _, trivial⟩⟩ ?_
      rintro v H R js ⟨rfl, rfl, rfl⟩
      have e4 : vnotB true = false := by simp only [qnotB]; rfl
      cbv
      rw [e4]
      cbv
      refine ⟨⟨hk0⟩, ?_⟩
      refine Cv.fold [5, 6, 7, 8, 9, 10, 11, 12, 13, 14, 15, 16, 17, 18, 19, 20, 21, 22, 23, 24, 25, 26, 27, 28, 29, 30, 31, 32, 33, 34, 35, 36, 37, 38, 39, 40, 41, 42, 43, 44] 4 [] (by exact Nat.le_refl _) (by exact Nat.le_of_ble_eq_true rfl) (by rfl) (by cbv) ?_
      intro js
      refine ⟨(_, _, _), ?_, js, rfl⟩
      exact ⟨⟨i + 1, by omega, by omega, by omega, hval, hk1, ha1.symm⟩, by show len - a1.toNat < len - a.toNat; simp only [nc] at *; omega⟩
    · have hil : i = len := by omega
      have e4 : vnotB false = true := by simp only [qnotB]; rfl
      have hai2 : a = lI := by rw [hai, hil]; exact hlI
      have hx2 : x = acc2 := by rw [hx, hil, hacc2]
      have hk2 : k = have2 := by rw [hk, hil]; exact hhave2
      rw [hai2, hx2, hk2]
      cbv
      refine call_con (ρ := [(1, .z), (2, .z), (3, .z)]) hend ⟨by rfl, by rfl, by rfl, by cbv; exact ⟨view_refl _, trivial⟩⟩ ?_
      rintro v H R js ⟨rfl, rfl, rfl⟩
      cbv
      rw [e4]
      cbv
end Go.Proofs.Ytkkddgdcmdnnmaa
namespace Go.Proofs.Ytkkddgdcmdnnmaa
open Go Go.Sx Go.Proofs
theorem rb_bad (b : List Int) (pos at' cap : Nat) (n : Int) (hn : ¬ (0 ≤ n ∧ n ≤ 56)) :
    Con Try.prog 24 [.ptr 0 .z 4 0, .int .i64 n] [(.one 81 [.fn 39 [.ptr 1 .z 1 0, .ptr 2 .z 1 0], .int .u64 (bval (bitL b) pos (8 * at' - pos)), .int .i64 (((8 * at' - pos : Nat) : Int)), .fn 40 [.ptr 2 .z 1 0, .ptr 1 .z 1 0]]), .one 3 [.int .i64 at'], .one 22 [.slice 3 .z 1 b.length cap], .ro .u8 b]
      (fun v H R => v = .tup [.lit .u64 0, .lit .i64 2] ∧ R = [] ∧ H = [(.one 81 [.fn 39 [.ptr 1 .z 1 0, .ptr 2 .z 1 0], .int .u64 (bval (bitL b) pos (8 * at' - pos)), .int .i64 (((8 * at' - pos : Nat) : Int)), .fn 40 [.ptr 2 .z 1 0, .ptr 1 .z 1 0]]), .one 3 [.int .i64 at'], .one 22 [.slice 3 .z 1 b.length cap], .ro .u8 b]) := by
  refine con_walk hmix fn24 ?_
  intro vb vc vw vtoN vofN vaddN vsubN vmaxI vminI vcutN vgd vst vln vrep vsub vonto vsplice vstrEq vbyteV vnotB veqB hw qb qc qw qtoN qofN qaddN qsubN qmaxI qminI qcutN qgd qst qln qrep qsub qonto qsplice qstrEq qbyteV qnotB qeqB
  generalize Try.prog = P at *
  generalize hacc : bval (bitL b) pos (8 * at' - pos) = acc at *
  generalize hhave : ((8 * at' - pos : Nat) : Int) = have0 at *
  generalize ha0 : ((at' : Nat) : Int) = a0 at *
  generalize b.length = len at *
  cbv
  generalize h1 : vc .lss n 0 = z1
  cases z1
  · cbv
    have h2 : vc .gtr n 56 = true := by rw [qc, lss_false] at h1; rw [qc, gtr_true]; omega
    rw [h2]
    cbv
  · cbv
theorem rb_short (b : List Int) (pos at' cap n : Nat) (hby : ∀ x ∈ b, isByte x) (hl : b.length ≤ 2 ^ 50) (hp : pos ≤ 8 * at') (hp2 : 8 * at' ≤ pos + 63) (ha : at' ≤ b.length) (hn : n ≤ 56) (hen : 8 * b.length < pos + n) :
    Con Try.prog 24 [.ptr 0 .z 4 0, .int .i64 n] [(.one 81 [.fn 39 [.ptr 1 .z 1 0, .ptr 2 .z 1 0], .int .u64 (bval (bitL b) pos (8 * at' - pos)), .int .i64 (((8 * at' - pos : Nat) : Int)), .fn 40 [.ptr 2 .z 1 0, .ptr 1 .z 1 0]]), .one 3 [.int .i64 at'], .one 22 [.slice 3 .z 1 b.length cap], .ro .u8 b]
      (fun v H R => v = .tup [.lit .u64 0, .lit .i64 10] ∧ R = [] ∧ H = [(.one 81 [.fn 39 [.ptr 1 .z 1 0, .ptr 2 .z 1 0], .int .u64 (bval (bitL b) (pos) (8 * b.length - (pos))), .int .i64 (((8 * b.length - (pos) : Nat) : Int)), .fn 40 [.ptr 2 .z 1 0, .ptr 1 .z 1 0]]), .one 3 [.int .i64 b.length], .one 22 [.slice 3 .z 1 b.length cap], .ro .u8 b]) := by
  have hfill := fill_end b pos at' cap n hby hl hp hp2 ha hn hen
  refine con_walk hmix fn24 ?_
  intro vb vc vw vtoN vofN vaddN vsubN vmaxI vminI vcutN vgd vst vln vrep vsub vonto vsplice vstrEq vbyteV vnotB veqB hw qb qc qw qtoN qofN qaddN qsubN qmaxI qminI qcutN qgd qst qln qrep qsub qonto qsplice qstrEq qbyteV qnotB qeqB
  generalize Try.prog = P at *
  generalize hacc2 : bval (bitL b) pos (8 * b.length - pos) = acc2 at *
  generalize hhave2 : ((8 * b.length - pos : Nat) : Int) = have2 at *
  generalize hlI : ((b.length : Nat) : Int) = lI at *
  generalize hacc : bval (bitL b) pos (8 * at' - pos) = acc at *
  generalize hhave : ((8 * at' - pos : Nat) : Int) = have0 at *
  generalize ha0 : ((at' : Nat) : Int) = a0 at *
  generalize hn0 : ((n : Nat) : Int) = n0 at *
  generalize b.length = len at *
  cbv
  have e1 : vc .lss n0 0 = false := by rw [qc, lss_false]; simp only [nc] at *; omega
  have e2 : vc .gtr n0 56 = false := by rw [qc, gtr_false]; simp only [nc] at *; omega
  have e4 : vnotB false = true := by simp only [qnotB]; rfl
  rw [e1]
  cbv
  rw [e2]
  cbv
  refine call_con (ρ := [(0, .z), (1, .z), (2, .z), (3, .z)]) hfill ⟨by rfl, by rfl, by rfl, by cbv; exact ⟨view_refl _, trivial⟩⟩ ?_
  rintro v H R js ⟨rfl, rfl, rfl⟩
  cbv
  rw [e4]
  cbv
theorem rb_ok (b : List Int) (pos at' cap n : Nat) (hby : ∀ x ∈ b, isByte x) (hl : b.length ≤ 2 ^ 50) (hp : pos ≤ 8 * at') (hp2 : 8 * at' ≤ pos + 63) (ha : at' ≤ b.length) (hn : n ≤ 56) (hen : pos + n ≤ 8 * b.length) :
    Con Try.prog 24 [.ptr 0 .z 4 0, .int .i64 n] [(.one 81 [.fn 39 [.ptr 1 .z 1 0, .ptr 2 .z 1 0], .int .u64 (bval (bitL b) pos (8 * at' - pos)), .int .i64 (((8 * at' - pos : Nat) : Int)), .fn 40 [.ptr 2 .z 1 0, .ptr 1 .z 1 0]]), .one 3 [.int .i64 at'], .one 22 [.slice 3 .z 1 b.length cap], .ro .u8 b]
      (fun v H R => v = .tup [.int .u64 (bval (bitL b) pos n), .lit .i64 0] ∧ R = [] ∧ ∃ a2 : Nat, pos + n ≤ 8 * a2 ∧ 8 * a2 ≤ pos + n + 63 ∧ a2 ≤ b.length ∧ H = [(.one 81 [.fn 39 [.ptr 1 .z 1 0, .ptr 2 .z 1 0], .int .u64 (bval (bitL b) (pos + n) (8 * a2 - (pos + n))), .int .i64 (((8 * a2 - (pos + n) : Nat) : Int)), .fn 40 [.ptr 2 .z 1 0, .ptr 1 .z 1 0]]), .one 3 [.int .i64 a2], .one 22 [.slice 3 .z 1 b.length cap], .ro .u8 b]) := by
  have hfill := fill_ok b pos at' cap n hby hl hp hp2 ha hn hen
  refine con_walk hmix fn24 ?_
  intro vb vc vw vtoN vofN vaddN vsubN vmaxI vminI vcutN vgd vst vln vrep vsub vonto vsplice vstrEq vbyteV vnotB veqB hw qb qc qw qtoN qofN qaddN qsubN qmaxI qminI qcutN qgd qst qln qrep qsub qonto qsplice qstrEq qbyteV qnotB qeqB
  generalize Try.prog = P at *
  generalize hacc : bval (bitL b) pos (8 * at' - pos) = acc at *
  generalize hhave : ((8 * at' - pos : Nat) : Int) = have0 at *
  generalize ha0 : ((at' : Nat) : Int) = a0 at *
  generalize hn0 : ((n : Nat) : Int) = n0 at *
  generalize hX : bval (bitL b) pos n = X
  generalize b.length = len at *
  cbv
  have e1 : vc .lss n0 0 = false := by rw [qc, lss_false]; simp only [nc] at *; omega
  have e2 : vc .gtr n0 56 = false := by rw [qc, gtr_false]; simp only [nc] at *; omega
  have e4 : vnotB true = false := by simp only [qnotB]; rfl
  have hwn : vw .u64 n0 = n0 := by simp only [nc] at *; simp only [qw]; exact wrap_u64 (by omega) (by omega)
  have hnn : 0 ≤ vw .u64 n0 := by rw [hwn]; simp only [nc] at *; omega
  rw [e1]
  cbv
  rw [e2]
  cbv
  simp only [nc] at hfill
  refine call_con (ρ := [(0, .z), (1, .z), (2, .z), (3, .z)]) hfill ⟨by rfl, by rfl, by rfl, by cbv; exact ⟨view_refl _, trivial⟩⟩ ?_
  rintro v H R js ⟨rfl, rfl, a2, h1, h2, h3, rfl⟩
  generalize hacc2 : bval (bitL b) pos (8 * a2 - pos) = acc2
  generalize hhave2 : ((8 * a2 - pos : Nat) : Int) = have2
  generalize hai2 : ((a2 : Nat) : Int) = ai2
  have hbm := bval_mod (bitL b) (bitL_bit b) pos n (8 * a2 - pos - n)
  have hbd := bval_bound (bitL b) (bitL_bit b) pos (8 * a2 - pos)
  rw [show n + (8 * a2 - pos - n) = 8 * a2 - pos by omega] at hbm
  rw [hacc2, hX] at hbm
  rw [hacc2] at hbd
  have hlt64 : acc2 < 2 ^ 64 := by
    have : (2 : Int) ^ (8 * a2 - pos) ≤ 2 ^ 64 := by exact_mod_cast Nat.pow_le_pow_right (by decide) (by omega)
    omega
  have hpn := pow_le_56 hn
  have hp0 : (0 : Int) < 2 ^ n := Int.pow_pos (by decide)
  have hn00 : n0.toNat = n := by simp only [nc] at *; omega
  have hx : vb .and .u64 acc2 (vb .sub .u64 (vb .shl .u64 1 (vw .u64 n0)) 1) = X := by
    have e1 : vb .shl .u64 1 n0 = 2 ^ n := by
      rw [qb, shl_u rfl (by decide) (by show n0 ≤ ((64 : Nat) : Int); simp only [nc] at *; omega) (by rw [hn00]; show _ < (2 : Int) ^ 64; omega), hn00]; omega
    have e2 : vb .sub .u64 (2 ^ n) 1 = 2 ^ n - 1 := by rw [qb]; exact wrap_u64 (by omega) (by omega)
    rw [hwn, e1, e2, qb, and_mask (k := .u64) rfl n (by show n ≤ 64; omega) hbd.1 hlt64]
    exact hbm.1
  have hsh : vb .shr .u64 acc2 (vw .u64 n0) = bval (bitL b) (pos + n) (8 * a2 - pos - n) := by
    rw [hwn, qb, shr_eq (by show n0 ≤ ((64 : Nat) : Int); simp only [nc] at *; omega), hn00]
    exact hbm.2
  have hhs : vb .sub .i64 have2 n0 = ((8 * a2 - (pos + n) : Nat) : Int) := by
    simp only [nc] at *; rw [qb, sub_i64 (by omega) (by omega)]; omega
  cbv
  rw [e4]
  cbv
  refine ⟨⟨hnn⟩, ⟨hnn⟩, ?_⟩
  rw [hx, hsh, hhs]
  refine ⟨rfl, a2, h1, by omega, h3, ?_⟩
  rw [show 8 * a2 - pos - n = 8 * a2 - (pos + n) by omega, ← hai2]
  rfl
/-- What Bits answers. -/
def rbX (b : List Int) (pos : Nat) (n : Int) : Int := if 0 ≤ n ∧ n ≤ 56 ∧ pos + n ≤ 8 * b.length then bval (bitL b) pos n.toNat else 0
def rbE (b : List Int) (pos : Nat) (n : Int) : Int := if 0 ≤ n ∧ n ≤ 56 then (if pos + n ≤ 8 * b.length then 0 else 10) else 2
def rbP (b : List Int) (pos : Nat) (n : Int) : Nat := if 0 ≤ n ∧ n ≤ 56 ∧ pos + n ≤ 8 * b.length then pos + n.toNat else pos
theorem rbits_con (b : List Int) (pos at' cap : Nat) (n : Int) (hby : ∀ x ∈ b, isByte x) (hl : b.length ≤ 2 ^ 50) (hp : pos ≤ 8 * at') (hp2 : 8 * at' ≤ pos + 63) (ha : at' ≤ b.length) :
    Con Try.prog 24 [.ptr 0 .z 4 0, .int .i64 n] [(.one 81 [.fn 39 [.ptr 1 .z 1 0, .ptr 2 .z 1 0], .int .u64 (bval (bitL b) pos (8 * at' - pos)), .int .i64 (((8 * at' - pos : Nat) : Int)), .fn 40 [.ptr 2 .z 1 0, .ptr 1 .z 1 0]]), .one 3 [.int .i64 at'], .one 22 [.slice 3 .z 1 b.length cap], .ro .u8 b]
      (fun v H R => v = .tup [.int .u64 (rbX b pos n), .int .i64 (rbE b pos n)] ∧ R = [] ∧ ∃ a2 : Nat, rbP b pos n ≤ 8 * a2 ∧ 8 * a2 ≤ rbP b pos n + 63 ∧ a2 ≤ b.length ∧ H = [(.one 81 [.fn 39 [.ptr 1 .z 1 0, .ptr 2 .z 1 0], .int .u64 (bval (bitL b) (rbP b pos n) (8 * a2 - (rbP b pos n))), .int .i64 (((8 * a2 - (rbP b pos n) : Nat) : Int)), .fn 40 [.ptr 2 .z 1 0, .ptr 1 .z 1 0]]), .one 3 [.int .i64 a2], .one 22 [.slice 3 .z 1 b.length cap], .ro .u8 b]) := by
  by_cases hn : 0 ≤ n ∧ n ≤ 56
  · obtain ⟨m, rfl⟩ : ∃ m : Nat, n = m := ⟨n.toNat, by omega⟩
    by_cases hen : pos + m ≤ 8 * b.length
    · have e1 : rbX b pos m = bval (bitL b) pos m := by unfold rbX; rw [if_pos ⟨hn.1, hn.2, by omega⟩]; rfl
      have e2 : rbE b pos m = 0 := by unfold rbE; rw [if_pos hn, if_pos (by omega)]
      have e3 : rbP b pos m = pos + m := by unfold rbP; rw [if_pos ⟨hn.1, hn.2, by omega⟩]; rfl
      rw [e1, e2, e3]
      refine con_gen ((rb_ok b pos at' cap m hby hl hp hp2 ha (by omega) hen).mono ?_)
      rintro v H R ⟨rfl, rfl, a2, h1, h2, h3, rfl⟩
      exact ⟨rfl, rfl, a2, h1, h2, h3, rfl⟩
    · have e1 : rbX b pos m = 0 := by unfold rbX; rw [if_neg (by omega)]
      have e2 : rbE b pos m = 10 := by unfold rbE; rw [if_pos hn, if_neg (by omega)]
      have e3 : rbP b pos m = pos := by unfold rbP; rw [if_neg (by omega)]
      rw [e1, e2, e3]
      refine con_gen ((rb_short b pos at' cap m hby hl hp hp2 ha (by omega) (by omega)).mono ?_)
      rintro v H R ⟨rfl, rfl, rfl⟩
      exact ⟨rfl, rfl, b.length, by omega, by omega, Nat.le_refl _, rfl⟩
  · have e1 : rbX b pos n = 0 := by unfold rbX; rw [if_neg (by omega)]
    have e2 : rbE b pos n = 2 := by unfold rbE; rw [if_neg hn]
    have e3 : rbP b pos n = pos := by unfold rbP; rw [if_neg (by omega)]
    rw [e1, e2, e3]
    refine con_gen ((rb_bad b pos at' cap n hn).mono ?_)
    rintro v H R ⟨rfl, rfl, rfl⟩
    exact ⟨rfl, rfl, at', hp, hp2, ha, rfl⟩
end Go.Proofs.Ytkkddgdcmdnnmaa
namespace Go.Proofs.Ytkkddgdcmdnnmaa
open Go Go.Sx Go.Proofs
theorem rnew_con (b : List Int) (cap : Nat) (hl : b.length ≤ 140737488355328) : Con Try.prog 11 [.slice 0 .z 1 b.length cap] [.ro .u8 b]
    (fun v H R => v = .ptr 4 .z 4 0 ∧ R = [1] ∧ ∃ c, H = [.ro .u8 b, .buf 5 .u8 b c, .one 22 [.slice 1 .z 1 b.length c], .one 3 [.int .i64 0], .one 81 [.fn 39 [.ptr 3 .z 1 0, .ptr 2 .z 1 0], .int .u64 0, .int .i64 0, .fn 40 [.ptr 2 .z 1 0, .ptr 3 .z 1 0]]]) := by
  refine con_gen (con_walk hmix fn11 ?_)
  intro vb vc vw vtoN vofN vaddN vsubN vmaxI vminI vcutN vgd vst vln vrep vsub vonto vsplice vstrEq vbyteV vnotB veqB hw qb qc qw qtoN qofN qaddN qsubN qmaxI qminI qcutN qgd qst qln qrep qsub qonto qsplice qstrEq qbyteV qnotB qeqB
  generalize Try.prog = P at *
  generalize hlen : b.length = len at *
  have ha : vaddN 0 len = len := by simp only [qaddN, Nat.zero_add]
  have hpay : vonto [] 0 (vsub b 0 len) = b := by simp only [qonto, qsub]; simp [← hlen]
  cbv
  refine ⟨⟨by rw [ha]; simp only [qln]; omega⟩, ⟨Nat.zero_le _⟩, ⟨Nat.zero_le _⟩, ⟨by rw [ha]; omega⟩, ?_⟩
  intro c1 js1 hle
  cbv
  rw [ha, hpay]
  exact ⟨c1, rfl⟩
end Go.Proofs.Ytkkddgdcmdnnmaa
namespace Go.Proofs.Ytkkddgdcmdnnmaa
open Go Go.Sx Go.Proofs
set_option maxHeartbeats 2000000 in
theorem bput_con (bs : List Int) (c : Nat) (x : Int) (n : Nat) (hn : n ≤ 56) (hx : 0 ≤ x ∧ x < 2 ^ 64) (hb : ∀ b ∈ bs, isBit b) (hl : bs.length ≤ 2 ^ 40) :
    Con Try.prog 23 [.ptr 0 .z 2 0, .int .u64 x, .int .i64 n] [.one 56 [.slice 1 .z 1 (pack bs).length c, .int .i64 bs.length], .buf 5 .u8 (pack bs) c]
      (fun v H R => v = .lit .i64 0 ∧ R = [1] ∧ ∃ c', H = [.one 56 [.slice 1 .z 1 (pack (bs ++ bitsN x n)).length c', .int .i64 (bs ++ bitsN x n).length], .buf 5 .u8 (pack (bs ++ bitsN x n)) c']) := by
  refine con_cut 2 (by simp) (con_red [1] (con_walk hmix fn23 ?_))
  intro vb vc vw vtoN vofN vaddN vsubN vmaxI vminI vcutN vgd vst vln vrep vsub vonto vsplice vstrEq vbyteV vnotB veqB hw qb qc qw qtoN qofN qaddN qsubN qmaxI qminI qcutN qgd qst qln qrep qsub qonto qsplice qstrEq qbyteV qnotB qeqB
  have hm := hmix
  have f37 := fn53
  have f43 := fn73
  generalize Try.prog = P at *
  generalize hl0 : pack bs = l0
  generalize hm0 : (bs.length : Int) = m0
  generalize hn0 : (n : Int) = n0
  generalize hlen0 : l0.length = len0
  cbv
  have e1 : vc .lss n0 0 = false := by subst_vars; try simp only [nc] at *; simp [cV]
  have e2 : vc .gtr n0 56 = false := by subst_vars; try simp only [nc] at *; simp [cV]; omega
  rw [e1]
  cbv
  rw [e2]
  cbv
  refine inl_walk hw hm f37 (by rfl) ?_
  cbv
  intro js
  refine range_rule (by rfl) (by rfl) (by cbv) (by cbv) (by rfl) ?_
  refine inl_walk hw hm f43 (by rfl) ?_
  cbv
  refine loop_fam (α := Int × Int × Int × List Int × Nat × Nat) [4, 5, 6, 7, 8, 9, 10, 11, 12, 13, 14, 15] [1]
    (fun (xx, nn, mk, l, len, c) => []) (fun (xx, nn, mk, l, len, c) => [(0, .one 56 [.slice 1 .z 1 len c, .int .i64 mk]), (1, .buf 5 .u8 l c), (3, .one 59 [.int .u64 xx]), (4, .one 3 [.int .i64 nn])])
    (fun (xx, nn, mk, l, len, c) => ∃ i : Nat, xx = x / 2 ^ i ∧ nn = (n : Int) - i ∧ i ≤ n ∧ mk = (bs ++ bitsN x i).length ∧ l = pack (bs ++ bitsN x i) ∧ len = l.length) (fun (xx, nn, _) => nn.toNat) hw hm ?_ ?_
  · refine Cv.fold [4, 5, 6, 7, 8, 9, 10, 11, 12, 13, 14, 15] 7 [1] (by exact Nat.le_refl _) (by exact Nat.le_of_ble_eq_true rfl) (by rfl) (by cbv) ?_
    intro js
    refine ⟨(_, _, _, _, _, _), ?_, js, rfl⟩
    refine ⟨0, ?_, ?_, by omega, ?_, ?_, ?_⟩
    · rw [Int.pow_zero, Int.ediv_one]
    · simp only [nc] at *; omega
    · subst_vars; try simp only [nc] at *; simp [bitsN_zero]
    · subst_vars; try simp only [nc] at *; simp [bitsN_zero]
    · exact hlen0.symm
  · rintro ⟨xx, nn, mk, l, len, c⟩ js ⟨i, hxx, hnn1, hi, hmk, hl', hlen⟩
    have hbs : ∀ b ∈ bs ++ bitsN x i, isBit b := fun b h => (List.mem_append.1 h).elim (hb b) (bitsN_bit x i b)
    have hlb : (bs ++ bitsN x i).length ≤ 2 ^ 40 + 56 := by simp [bitsN_length]; omega
    generalize hBS : bs ++ bitsN x i = BS at *
    have hll : l.length = (BS.length + 7) / 8 := by rw [hl', pack_length]
    have hx0 : 0 ≤ xx ∧ xx < 2 ^ 64 := by
      have h1 : 0 ≤ x / 2 ^ i := Int.ediv_nonneg hx.1 (Int.le_of_lt (Int.pow_pos (by decide)))
      have h2 : x / 2 ^ i ≤ x := Int.ediv_le_self _ hx.1
      omega
    cbv
    split
    · rename_i hlt
      have hlt : i < n := by rw [qc, gtr_true] at hlt; simp only [nc] at *; omega
      have hx1 : vb .shr .u64 xx 1 = x / 2 ^ (i + 1) := by
        rw [qb, shr_eq (by decide), hxx, Int.ediv_ediv_of_nonneg (Int.le_of_lt (Int.pow_pos (by decide))), Int.pow_succ]
        rfl
      have hn1 : vb .sub .i64 nn 1 = (n : Int) - ((i + 1 : Nat) : Int) := by simp only [nc] at *; rw [qb, sub_i64 (by omega) (by omega)]; omega
      have hmu : (vb .sub .i64 nn 1).toNat < nn.toNat := by rw [hn1, hnn1]; simp only [nc] at *; omega
      have hbit : vw .u8 (vb .and .u64 xx 1) = x / 2 ^ i % 2 := by
        rw [qb, and_one rfl hx0.1 (by show _ < (2 : Int) ^ 64; omega), hxx]
        simp only [qw]
        exact wrap_u8 (by omega) (by omega)
      generalize hbb : x / 2 ^ i % 2 = bit at *
      have hbi : isBit bit := by rw [← hbb]; exact isBit_mod _
      have hnext : bs ++ bitsN x (i + 1) = BS ++ [bit] := by rw [bitsN_succ, ← List.append_assoc, hBS, hbb]
      have hrem : vb .rem .i64 mk 8 = mk % 8 := by subst_vars; try simp only [nc] at *; exact rem_i64 (by omega)
      have hquo : vtoN (vb .quo .i64 mk 8) = BS.length / 8 := by
        subst_vars
        try simp only [nc] at *
        rw [quo_i64 (by omega) (by omega) (by omega)]
        show Int.toNat _ = _
        omega
      have hmodw : vw .u64 (mk % 8) = mk % 8 := by rw [qw]; simp only [nc] at *; exact wrap_u64 (by omega) (by omega)
      have hpack : (room BS).set (BS.length / 8) (bV .or .u8 ((room BS).getD (BS.length / 8) 0) (bV .shl .u8 bit (mk % 8))) = pack (BS ++ [bit]) := by
        have := pack_step BS bit mk hbs hbi hmk
        have e : (mk / 8).toNat = BS.length / 8 := by simp only [nc] at *; omega
        rw [e] at this
        exact this
      have hd8 : BS.length / 8 < (room BS).length := by rw [room_length]; omega
      cbv
      refine yield_walk hw hm (by rfl) ?_
      cbv
      split
      · rename_i hr8
        have h8 : BS.length % 8 = 0 := by rw [hrem, qc, eql_true] at hr8; simp only [nc] at *; omega
        have hroom : room BS = l ++ [0] := by rw [room, if_pos h8, hl']
        have hsub : vsub [0] 0 1 = [0] := by subst_vars; rfl
        have honto : vonto l len [0] = room BS := by rw [hroom]; subst_vars; simp
        have hin : 0 ≤ vb .quo .i64 mk 8 ∧ vb .quo .i64 mk 8 < (vaddN len 1 : Nat) := by
          have hq : vb .quo .i64 mk 8 = mk / 8 := by subst_vars; simp only [nc] at *; rw [quo_i64 (by omega) (by omega) (by omega)]
          rw [hq]; subst_vars; simp only [nc] at *; omega
        have hlt2 : vtoN (vb .quo .i64 mk 8) < vln (vonto l len (vsub [0] 0 1)) := by rw [hquo, hsub, honto]; subst_vars; simp only [nc] at *; omega
        have hlt3 : vaddN 0 (vtoN (vb .quo .i64 mk 8)) < vln (vonto l len (vsub [0] 0 1)) := by rw [qaddN]; simpa using hlt2
        have hnn : 0 ≤ vw .u64 (vb .rem .i64 mk 8) := by rw [hrem]; subst_vars; simp only [nc] at *; rw [wrap_u64 (by omega) (by omega)]; omega
        cbv
        refine ⟨⟨?_⟩, ⟨?_⟩, ⟨?_⟩, ⟨?_⟩, ?_⟩
        · subst_vars; decide
        · subst_vars; exact Nat.le_refl _
        · exact Nat.le_refl _
        · subst_vars; simp only [nc] at *; omega
        intro c1 js1 hle
        cbv
        refine ⟨⟨hin⟩, ⟨hlt3⟩, ⟨hlt2⟩, ⟨hnn⟩, ⟨hin⟩, ⟨hlt3⟩, ⟨hlt2⟩, ?_⟩
        intro js1
        cbv
        have e3 : vnotB true = false := by subst_vars; rfl
        rw [e3]
        cbv
        refine Cv.fold [4, 5, 6, 7, 8, 9, 10, 11, 12, 13, 14, 15] 7 [1] (by exact Nat.le_refl _) (by exact Nat.le_of_ble_eq_true rfl) (by rfl) (by cbv) ?_
        intro js
        refine ⟨(_, _, _, _, _, _), ?_, js, rfl⟩
        refine ⟨⟨i + 1, hx1, hn1, by omega, ?_, ?_, ?_⟩, hmu⟩
        · rw [qb, add_i64 (by simp only [nc] at *; omega) (by simp only [nc] at *; omega), hnext]; simp only [nc, List.length_append] at *; simp; omega
        · rw [hsub, honto, hbit, hquo, hrem, hmodw, hnext, ← hpack]; subst_vars; rfl
        · rw [hsub, honto, qst]; simp only [List.length_set]; rw [hroom]; subst_vars; simp
      · rename_i hr8
        have h8 : BS.length % 8 ≠ 0 := by rw [hrem, qc, eql_false] at hr8; simp only [nc] at *; omega
        have hroom : room BS = l := by rw [room, if_neg h8, hl']
        have hin : 0 ≤ vb .quo .i64 mk 8 ∧ vb .quo .i64 mk 8 < len := by
          have hq : vb .quo .i64 mk 8 = mk / 8 := by subst_vars; simp only [nc] at *; rw [quo_i64 (by omega) (by omega) (by omega)]
          rw [hq]; rw [hroom] at hd8; subst_vars; simp only [nc] at *; omega
        have hlt2 : vtoN (vb .quo .i64 mk 8) < vln l := by rw [hquo]; rw [hroom] at hd8; subst_vars; simp only [nc] at *; omega
        have hlt3 : vaddN 0 (vtoN (vb .quo .i64 mk 8)) < vln l := by rw [qaddN]; simpa using hlt2
        have hnn : 0 ≤ vw .u64 (vb .rem .i64 mk 8) := by rw [hrem]; subst_vars; simp only [nc] at *; rw [wrap_u64 (by omega) (by omega)]; omega
        cbv
        refine ⟨⟨hin⟩, ⟨hlt3⟩, ⟨hlt2⟩, ⟨hnn⟩, ⟨hin⟩, ⟨hlt3⟩, ⟨hlt2⟩, ?_⟩
        intro js1
        cbv
        have e3 : vnotB true = false := by subst_vars; rfl
        rw [e3]
        cbv
        refine Cv.fold [4, 5, 6, 7, 8, 9, 10, 11, 12, 13, 14, 15] 7 [1] (by exact Nat.le_refl _) (by exact Nat.le_of_ble_eq_true rfl) (by rfl) (by cbv) ?_
        intro js
        refine ⟨(_, _, _, _, _, _), ?_, js, rfl⟩
        refine ⟨⟨i + 1, hx1, hn1, by omega, ?_, ?_, ?_⟩, hmu⟩
        · rw [qb, add_i64 (by simp only [nc] at *; omega) (by simp only [nc] at *; omega), hnext]; simp only [nc, List.length_append] at *; simp; omega
        · rw [hbit, hquo, hrem, hmodw, hnext, ← hpack, hroom]; subst_vars; rfl
        · rw [qst]; simp only [List.length_set]; exact hlen
    · rename_i hge
      have hin : i = n := by rw [qc, gtr_false] at hge; simp only [nc] at *; omega
      subst hin
      cbv
      intro js1
      cbv
      refine ⟨c, ?_⟩
      subst_vars
      rfl
end Go.Proofs.Ytkkddgdcmdnnmaa
namespace Go.Proofs.Ytkkddgdcmdnnmaa
open Go Go.Sx Go.Proofs
theorem bputA_con (bs : List Int) (c : Nat) (x n : Int) (hx : 0 ≤ x ∧ x < 2 ^ 64) (hb : ∀ b ∈ bs, isBit b) (hl : bs.length ≤ 2 ^ 40) :
    Con Try.prog 23 [.ptr 0 .z 2 0, .int .u64 x, .int .i64 n] [.one 56 [.slice 1 .z 1 (pack bs).length c, .int .i64 bs.length], .buf 5 .u8 (pack bs) c]
      (fun v H R => v = .int .i64 (putErr n) ∧ R = [1] ∧ ∃ c', H = [.one 56 [.slice 1 .z 1 (pack (putBits bs x n)).length c', .int .i64 (putBits bs x n).length], .buf 5 .u8 (pack (putBits bs x n)) c']) := by
  by_cases hn : 0 ≤ n ∧ n ≤ 56
  · obtain ⟨m, rfl⟩ : ∃ m : Nat, n = m := ⟨n.toNat, by omega⟩
    refine con_gen ((bput_con bs c x m (by omega) hx hb hl).mono ?_)
    rintro v H R ⟨rfl, rfl, c', rfl⟩
    have e : putBits bs x m = bs ++ bitsN x m := by unfold putBits; rw [if_pos hn]; rfl
    have e2 : putErr m = 0 := by unfold putErr; rw [if_pos hn]
    rw [e, e2]
    exact ⟨rfl, rfl, c', rfl⟩
  · have e : putBits bs x n = bs := by unfold putBits; rw [if_neg hn]
    have e2 : putErr n = 2 := by unfold putErr; rw [if_neg hn]
    rw [e, e2]
    refine con_gen (con_cut 2 (by simp) (con_red [1] (con_walk hmix fn23 ?_)))
    intro vb vc vw vtoN vofN vaddN vsubN vmaxI vminI vcutN vgd vst vln vrep vsub vonto vsplice vstrEq vbyteV vnotB veqB hw qb qc qw qtoN qofN qaddN qsubN qmaxI qminI qcutN qgd qst qln qrep qsub qonto qsplice qstrEq qbyteV qnotB qeqB
    generalize Try.prog = P at *
    generalize pack bs = l0 at *
    generalize l0.length = len0 at *
    generalize (bs.length : Int) = m0 at *
    cbv
    generalize h1 : vc .lss n 0 = z1
    cases z1
    · cbv
      have h2 : vc .gtr n 56 = true := by rw [qc, lss_false] at h1; rw [qc, gtr_true]; omega
      rw [h2]
      cbv
      exact ⟨c, rfl⟩
    · cbv
      exact ⟨c, rfl⟩
theorem bbytes_con (bs : List Int) (c : Nat) (hl : bs.length ≤ 2 ^ 40) :
    Con Try.prog 22 [.ptr 0 .z 2 0] [.one 56 [.slice 1 .z 1 (pack bs).length c, .int .i64 bs.length], .buf 5 .u8 (pack bs) c]
      (fun v H R => R = [2] ∧ ∃ c', v = .slice 2 .z 1 (pack bs).length c' ∧ H = [.one 56 [.slice 1 .z 1 (pack bs).length c, .int .i64 bs.length], .buf 5 .u8 (pack bs) c, .buf 5 .u8 (pack bs) c']) := by
  have hpl : (pack bs).length ≤ 2 ^ 40 := by rw [pack_length]; omega
  refine con_red [2] (con_walk hmix fn22 ?_)
  intro vb vc vw vtoN vofN vaddN vsubN vmaxI vminI vcutN vgd vst vln vrep vsub vonto vsplice vstrEq vbyteV vnotB veqB hw qb qc qw qtoN qofN qaddN qsubN qmaxI qminI qcutN qgd qst qln qrep qsub qonto qsplice qstrEq qbyteV qnotB qeqB
  generalize Try.prog = P at *
  generalize pack bs = l0 at *
  generalize hlen0 : l0.length = len0 at *
  generalize (bs.length : Int) = m0 at *
  have ha : vaddN 0 len0 = len0 := by simp only [qaddN, Nat.zero_add]
  have hpay : vonto [] 0 (vsub l0 0 len0) = l0 := by simp only [qonto, qsub]; simp [← hlen0]
  cbv
  refine ⟨⟨by rw [ha]; simp only [qln]; omega⟩, ⟨Nat.zero_le _⟩, ⟨Nat.zero_le _⟩, ⟨by rw [ha]; omega⟩, ?_⟩
  intro c1 js1 hle
  cbv
  rw [ha, hpay]
  exact ⟨c1, rfl, rfl⟩
end Go.Proofs.Ytkkddgdcmdnnmaa
namespace Go.Proofs.Ytkkddgdcmdnnmaa
open Go Go.Sx Go.Proofs
/-- A reader at a bit. -/
def RS (b : List Int) (pos : Nat) (acc hv ai : Int) : Prop := ∃ at' : Nat, pos ≤ 8 * at' ∧ 8 * at' ≤ pos + 63 ∧ at' ≤ b.length ∧ acc = bval (bitL b) pos (8 * at' - pos) ∧ hv = ((8 * at' - pos : Nat) : Int) ∧ ai = at'
theorem RS.start (b : List Int) : RS b 0 0 0 0 := ⟨0, by omega, by omega, by omega, rfl, rfl, rfl⟩
theorem rbits_rs (b : List Int) (pos cap : Nat) (n acc hv ai : Int) (hby : ∀ x ∈ b, isByte x) (hl : b.length ≤ 2 ^ 50) (h : RS b pos acc hv ai) :
    Con Try.prog 24 [.ptr 0 .z 4 0, .int .i64 n] [(.one 81 [.fn 39 [.ptr 1 .z 1 0, .ptr 2 .z 1 0], .int .u64 (acc), .int .i64 (hv), .fn 40 [.ptr 2 .z 1 0, .ptr 1 .z 1 0]]), .one 3 [.int .i64 ai], .one 22 [.slice 3 .z 1 b.length cap], .ro .u8 b]
      (fun v H R => v = .tup [.int .u64 (rbX b pos n), .int .i64 (rbE b pos n)] ∧ R = [] ∧ ∃ acc2 hv2 ai2, RS b (rbP b pos n) acc2 hv2 ai2 ∧ H = [(.one 81 [.fn 39 [.ptr 1 .z 1 0, .ptr 2 .z 1 0], .int .u64 (acc2), .int .i64 (hv2), .fn 40 [.ptr 2 .z 1 0, .ptr 1 .z 1 0]]), .one 3 [.int .i64 ai2], .one 22 [.slice 3 .z 1 b.length cap], .ro .u8 b]) := by
  obtain ⟨at', h1, h2, h3, rfl, rfl, rfl⟩ := h
  refine (rbits_con b pos at' cap n hby hl h1 h2 h3).mono ?_
  rintro v H R ⟨e1, e2, a2, e3, e4, e5, e6⟩
  exact ⟨e1, e2, _, _, _, ⟨a2, e3, e4, e5, rfl, rfl, rfl⟩, e6⟩
end Go.Proofs.Ytkkddgdcmdnnmaa
namespace Go.Proofs.Ytkkddgdcmdnnmaa
open Go Go.Sx Go.Proofs
/-! symbols.reading: its parts, its quiet deferred closure. -/
set_option maxRecDepth 10000
set_option maxHeartbeats 4000000
def xa25 : XC :=
  .ops [⟨(some 4), .newR 24 [(.val (.slice none 0 0)), (.lit .i64 0)], none, []⟩,
      ⟨(some 5), .newR 25 [(.lit .i64 0)], none, []⟩]
def xb25 : XC :=
  .seq (.ops [⟨(some 6), .mv (.t 0), none, []⟩,
      ⟨(some 7), .eqv false 2 (.t 6) (.k (.val (.pointer none))), none, []⟩])
    (.cond (.t 7) (.seq (.ops [⟨(some 8), .loadA 2 (.t 4), none, []⟩,
      ⟨none, .storeA 2 (.t 4) (.t 8), none, []⟩,
      ⟨none, .store1 (.t 5) (.k (.lit .i64 1)), none, []⟩])
    (.ret)) (.skip))
def xc25 : XC :=
  .ops [⟨(some 10), .mv (.t 1), none, []⟩,
      ⟨(some 11), .call (.t 10) [], none, []⟩,
      ⟨none, .storeA 2 (.t 4) (.t 11), none, []⟩,
      ⟨none, .store1 (.t 5) (.k (.lit .i64 0)), none, []⟩]
theorem fd25 : FnD Try.prog 25 xa25 xb25 xc25 55 9 4 5 12 [6000004, 1000005] := FnD.of Try.call25 Try.func25 (by kernel_rfl) Try.ntmps25 (by kernel_rfl)
def xa37 : XC :=
  .ops [⟨(some 4), .newR 3 [(.lit .i64 0)], none, []⟩,
      ⟨(some 5), .newR 25 [(.lit .i64 0)], none, []⟩]
def xb37 : XC :=
  .seq (.ops [⟨(some 6), .mv (.t 0), none, []⟩,
      ⟨(some 7), .eqv false 2 (.t 6) (.k (.val (.pointer none))), none, []⟩])
    (.cond (.t 7) (.seq (.ops [⟨(some 8), .load1 (.t 4), none, []⟩,
      ⟨none, .store1 (.t 4) (.t 8), none, []⟩,
      ⟨none, .store1 (.t 5) (.k (.lit .i64 1)), none, []⟩])
    (.ret)) (.skip))
def xc37 : XC :=
  .ops [⟨(some 10), .mv (.t 1), none, []⟩,
      ⟨(some 11), .call (.t 10) [], none, []⟩,
      ⟨none, .store1 (.t 4) (.t 11), none, []⟩,
      ⟨none, .store1 (.t 5) (.k (.lit .i64 0)), none, []⟩]
theorem fd37 : FnD Try.prog 37 xa37 xb37 xc37 62 9 4 5 12 [1000004, 1000005] := FnD.of Try.call37 Try.func37 (by kernel_rfl) Try.ntmps37 (by kernel_rfl)
theorem iface_guard (d : Nat) (w : World) : (eqGuard .neq 20 (.tmp d) (.const .nilIface) .nilIface .nilIface).run Try.prog w = .ok () w := by
  rfl
theorem iface_nil (w : World) : (binOp .neq 20 .nilIface .nilIface).run Try.prog w = .ok (.bool false) w := by
  rfl
theorem quiet55 (caps : Array Value) (w : World) : CallsDIn (FR none) 0 Try.prog 55 caps .returning w fun e u' w' => (∃ v, e = .returned v) ∧ u' = .returning ∧ w' = w :=
  callsD_quiet (ty := 20) Try.func55 (by kernel_rfl) (by kernel_rfl) (by rw [Try.ntmps55]; decide) iface_guard iface_nil caps w
theorem quiet62 (caps : Array Value) (w : World) : CallsDIn (FR none) 0 Try.prog 62 caps .returning w fun e u' w' => (∃ v, e = .returned v) ∧ u' = .returning ∧ w' = w :=
  callsD_quiet (ty := 20) Try.func62 (by kernel_rfl) (by kernel_rfl) (by rw [Try.ntmps62]; decide) iface_guard iface_nil caps w
end Go.Proofs.Ytkkddgdcmdnnmaa
namespace Go.Proofs.Ytkkddgdcmdnnmaa
open Go Go.Sx Go.Proofs
/-! symbols.get, must, few, the closures of Read and Count, reading: where nothing panics. -/
set_option maxRecDepth 10000
set_option maxHeartbeats 4000000
theorem get_con (b : List Int) (pos cap n : Nat) (acc hv ai : Int) (hby : ∀ x ∈ b, isByte x) (hl : b.length ≤ 2 ^ 50) (h : RS b pos acc hv ai) (hn : n ≤ 56) (hp : pos + n ≤ 8 * b.length) :
    Con Try.prog 27 [.ptr 0 .z 4 0, .int .i64 n] [(.one 81 [.fn 39 [.ptr 1 .z 1 0, .ptr 2 .z 1 0], .int .u64 acc, .int .i64 hv, .fn 40 [.ptr 2 .z 1 0, .ptr 1 .z 1 0]]), .one 3 [.int .i64 ai], .one 22 [.slice 3 .z 1 b.length cap], .ro .u8 b]
      (fun v H R => v = .int .i64 (bval (bitL b) pos n) ∧ R = [] ∧ ∃ acc2 hv2 ai2, RS b (pos + n) acc2 hv2 ai2 ∧ H = [(.one 81 [.fn 39 [.ptr 1 .z 1 0, .ptr 2 .z 1 0], .int .u64 acc2, .int .i64 hv2, .fn 40 [.ptr 2 .z 1 0, .ptr 1 .z 1 0]]), .one 3 [.int .i64 ai2], .one 22 [.slice 3 .z 1 b.length cap], .ro .u8 b]) := by
  have hb := rbits_rs b pos cap n acc hv ai hby hl h
  have hx : rbX b pos n = bval (bitL b) pos n := by unfold rbX; rw [if_pos (by omega), Int.toNat_natCast]
  have he : rbE b pos n = 0 := by unfold rbE; rw [if_pos (by omega), if_pos (by omega)]
  have hP : rbP b pos n = pos + n := by unfold rbP; rw [if_pos (by omega), Int.toNat_natCast]
  have hr := bval_bound (bitL b) (bitL_bit b) pos n
  have h56 : (2 : Int) ^ n ≤ 2 ^ 56 := by
    have := Nat.pow_le_pow_right (n := 2) (by decide) hn
    exact_mod_cast this
  rw [show (2 : Int) ^ 56 = 72057594037927936 by decide] at h56
  rw [hx, he, hP] at hb
  generalize bval (bitL b) pos n = x at *
  obtain ⟨nI, hnI⟩ : ∃ nI : Int, nI = n := ⟨_, rfl⟩
  rw [← hnI] at hb ⊢
  refine con_gen (con_cut 4 (by simp) (con_drop (con_walk hmix fn27 ?_)))
  intro vb vc vw vtoN vofN vaddN vsubN vmaxI vminI vcutN vgd vst vln vrep vsub vonto vsplice vstrEq vbyteV vnotB veqB hw qb qc qw qtoN qofN qaddN qsubN qmaxI qminI qcutN qgd qst qln qrep qsub qonto qsplice qstrEq qbyteV qnotB qeqB
  have hm := hmix; generalize Try.prog = P at *
  generalize hq : pos + n = q at *
  have hRS := RS b q
  generalize RS b q = RQ at *
  clear h hRS
  generalize b.length = bl at *
  have ewx : vw .i64 x = x := by rw [qw]; exact wrap_i64 (by omega) (by omega)
  have ez : vc .neq 0 0 = false := by rw [qc]; rfl
  cbv
  refine call_con (ρ := [(0, .z), (1, .z), (2, .z), (3, .z)]) hb ⟨by rfl, by rfl, by rfl, by cbv; exact ⟨view_refl _, trivial⟩⟩ ?_
  rintro v H R js ⟨rfl, rfl, acc2, hv2, ai2, h2, rfl⟩
  cbv
  rw [ez]
  cbv
  rw [ewx]
  exact ⟨rfl, acc2, hv2, ai2, h2, rfl⟩
def tbF : Tab := [(31, fun _ => x31, 6, []), (41, fun _ => x41, 8, [2]), (56, fun _ => x56, 9, [4]), (64, fun _ => x64, 25, [2]), (74, fun _ => x74, 19, [4])]
theorem tbF_ok : TabOk Try.prog tbF := ⟨fn31, fn41, fn56, fn64, fn74, trivial⟩

theorem few1_con (b : List Int) (pos cap : Nat) (acc hv ai : Int) (hby : ∀ x ∈ b, isByte x) (hl : b.length ≤ 2 ^ 50) (h : RS b pos acc hv ai) (hp : pos + 10 ≤ 8 * b.length) (h0 : bval (bitL b) pos 2 = 0) (h5 : bval (bitL b) (pos + 2) 8 = 5) :
    Con Try.prog 28 [.ptr 0 .z 4 0, .int .i64 256] [(.one 81 [.fn 39 [.ptr 1 .z 1 0, .ptr 2 .z 1 0], .int .u64 acc, .int .i64 hv, .fn 40 [.ptr 2 .z 1 0, .ptr 1 .z 1 0]]), .one 3 [.int .i64 ai], .one 22 [.slice 3 .z 1 b.length cap], .ro .u8 b]
      (fun v H R => v = .agg [.val (.slice none 0 0), .int .i64 5] ∧ R = [] ∧ ∃ acc2 hv2 ai2, RS b (pos + 10) acc2 hv2 ai2 ∧ H = [(.one 81 [.fn 39 [.ptr 1 .z 1 0, .ptr 2 .z 1 0], .int .u64 acc2, .int .i64 hv2, .fn 40 [.ptr 2 .z 1 0, .ptr 1 .z 1 0]]), .one 3 [.int .i64 ai2], .one 22 [.slice 3 .z 1 b.length cap], .ro .u8 b]) := by
  have hT := tbF_ok
  have g2 := get_con b pos cap 2 acc hv ai hby hl h (by decide) (by omega)
  have g8 := fun acc hv ai h => get_con b (pos + 2) cap 8 acc hv ai hby hl h (by decide) (by omega)
  rw [h0] at g2
  rw [h5, Nat.add_assoc] at g8
  rw [show ((2 : Nat) : Int) = 2 from rfl] at g2
  rw [show ((8 : Nat) : Int) = 8 from rfl] at g8
  have hm := hmix
  generalize hq : RS b (pos + 2) = RQ at *
  generalize hq2 : RS b (pos + (2 + 8)) = RQ2 at *
  clear h hp h0 h5 hl hby
  generalize b.length = bl at *
  refine con_gen (con_cut 4 (by simp) (con_drop (con_run 1000 tbF hmix hT fn28 ?_)))
  generalize Try.prog = P at *
  cbv
  refine CallX.mono' (fun _ _ h => h) (call_con (ρ := [(0, .z), (1, .z), (2, .z), (3, .z)]) g2 ⟨by rfl, by rfl, by rfl, by cbv; exact ⟨view_refl _, trivial⟩⟩ ?_)
  rintro v H R js ⟨rfl, rfl, acc2, hv2, ai2, h2, rfl⟩
  cbv
  refine ⟨⟨by decide, by decide⟩, ?_⟩
  refine CallX.mono' (fun _ _ h => h) (call_con (ρ := [(0, .z), (1, .z), (2, .z), (3, .z)]) (g8 acc2 hv2 ai2 h2) ⟨by rfl, by rfl, by rfl, by cbv; exact ⟨view_refl _, trivial⟩⟩ ?_)
  rintro v H R js2 ⟨rfl, rfl, acc3, hv3, ai3, h3, rfl⟩
  cbv
  repeat (first | refine And.intro ⟨by decide⟩ ?_ | refine And.intro ⟨Nat.le_refl _⟩ ?_ | ((intro _ _ _; skip); cbv; done) | ((intro _ _ _; skip); cbv) | ((intro _ _; skip); cbv) | (intro _; cbv))
  refine ⟨⟨by decide, by omega⟩, ?_⟩
  repeat (first | refine And.intro ⟨by decide⟩ ?_ | refine And.intro ⟨Nat.le_refl _⟩ ?_ | ((intro _ _ _; skip); cbv; done) | ((intro _ _ _; skip); cbv) | ((intro _ _; skip); cbv) | (intro _; cbv))
  exact ⟨acc3, hv3, ai3, h3, rfl⟩
theorem readcl_con (b : List Int) (pos cap : Nat) (acc hv ai : Int) (hby : ∀ x ∈ b, isByte x) (hl : b.length ≤ 2 ^ 50) (h : RS b pos acc hv ai) (hp : pos + 12 ≤ 8 * b.length) (h1 : bval (bitL b) pos 2 = 1) (h0 : bval (bitL b) (pos + 2) 2 = 0) (h5 : bval (bitL b) (pos + 4) 8 = 5) :
    Con Try.prog 26 [.ptr 0 .z 1 0, .ptr 1 .z 1 0] [.one 33 [.ptr 2 .z 4 0], .one 3 [.int .i64 256], (.one 81 [.fn 39 [.ptr 3 .z 1 0, .ptr 4 .z 1 0], .int .u64 acc, .int .i64 hv, .fn 40 [.ptr 4 .z 1 0, .ptr 3 .z 1 0]]), .one 3 [.int .i64 ai], .one 22 [.slice 5 .z 1 b.length cap], .ro .u8 b]
      (fun v H R => v = .agg [.val (.slice none 0 0), .int .i64 5] ∧ R = [] ∧ ∃ acc2 hv2 ai2, RS b (pos + 12) acc2 hv2 ai2 ∧ H = [.one 33 [.ptr 2 .z 4 0], .one 3 [.int .i64 256], (.one 81 [.fn 39 [.ptr 3 .z 1 0, .ptr 4 .z 1 0], .int .u64 acc2, .int .i64 hv2, .fn 40 [.ptr 4 .z 1 0, .ptr 3 .z 1 0]]), .one 3 [.int .i64 ai2], .one 22 [.slice 5 .z 1 b.length cap], .ro .u8 b]) := by
  have g2 := get_con b pos cap 2 acc hv ai hby hl h (by decide) (by omega)
  have g8 := fun acc hv ai h => few1_con b (pos + 2) cap acc hv ai hby hl h (by omega) h0 h5
  rw [h1] at g2
  rw [show ((2 : Nat) : Int) = 2 from rfl] at g2
  rw [Nat.add_assoc] at g8
  generalize hq : RS b (pos + 2) = RQ at *
  generalize hq2 : RS b (pos + (2 + 10)) = RQ2 at *
  clear h hp h0 h1 h5 hl hby
  generalize b.length = bl at *
  refine con_gen (con_cut 6 (by simp) (con_drop (con_walk hmix fn26 ?_)))
  intro vb vc vw vtoN vofN vaddN vsubN vmaxI vminI vcutN vgd vst vln vrep vsub vonto vsplice vstrEq vbyteV vnotB veqB hw qb qc qw qtoN qofN qaddN qsubN qmaxI qminI qcutN qgd qst qln qrep qsub qonto qsplice qstrEq qbyteV qnotB qeqB
  have hm := hmix; generalize Try.prog = P at *
  have e11 : vc .eql 1 1 = true := by rw [qc]; rfl
  cbv
  refine call_con (ρ := [(2, .z), (3, .z), (4, .z), (5, .z)]) g2 ⟨by rfl, by rfl, by rfl, by cbv; exact ⟨view_refl _, trivial⟩⟩ ?_
  rintro v H R js ⟨rfl, rfl, acc2, hv2, ai2, h2, rfl⟩
  cbv
  rw [e11]
  cbv
  refine call_con (ρ := [(2, .z), (3, .z), (4, .z), (5, .z)]) (g8 acc2 hv2 ai2 h2) ⟨by rfl, by rfl, by rfl, by cbv; exact ⟨view_refl _, trivial⟩⟩ ?_
  rintro v H R js2 ⟨rfl, rfl, acc3, hv3, ai3, h3, rfl⟩
  cbv
  exact ⟨acc3, hv3, ai3, h3, rfl⟩
theorem reading25_con (b : List Int) (pos cap : Nat) (acc hv ai : Int) (hby : ∀ x ∈ b, isByte x) (hl : b.length ≤ 2 ^ 50) (h : RS b pos acc hv ai) (hp : pos + 12 ≤ 8 * b.length) (h1 : bval (bitL b) pos 2 = 1) (h0 : bval (bitL b) (pos + 2) 2 = 0) (h5 : bval (bitL b) (pos + 4) 8 = 5) :
    Con Try.prog 25 [.ptr 2 .z 4 0, .fn 26 [.ptr 0 .z 1 0, .ptr 1 .z 1 0]] [.one 33 [.ptr 2 .z 4 0], .one 3 [.int .i64 256], (.one 81 [.fn 39 [.ptr 3 .z 1 0, .ptr 4 .z 1 0], .int .u64 acc, .int .i64 hv, .fn 40 [.ptr 4 .z 1 0, .ptr 3 .z 1 0]]), .one 3 [.int .i64 ai], .one 22 [.slice 5 .z 1 b.length cap], .ro .u8 b]
      (fun v H R => v = .tup [.agg [.val (.slice none 0 0), .int .i64 5], .int .i64 0] ∧ R = [] ∧ ∃ acc2 hv2 ai2, RS b (pos + 12) acc2 hv2 ai2 ∧ H = [.one 33 [.ptr 2 .z 4 0], .one 3 [.int .i64 256], (.one 81 [.fn 39 [.ptr 3 .z 1 0, .ptr 4 .z 1 0], .int .u64 acc2, .int .i64 hv2, .fn 40 [.ptr 4 .z 1 0, .ptr 3 .z 1 0]]), .one 3 [.int .i64 ai2], .one 22 [.slice 5 .z 1 b.length cap], .ro .u8 b]) := by
  have g := readcl_con b pos cap acc hv ai hby hl h hp h1 h0 h5
  clear hp h0 h1 h5 hl hby h
  generalize RS b (pos + 12) = RQ at *
  generalize b.length = bl at *
  refine con_gen (con_cut 6 (by simp) (con_drop (con_of_defer hmix fd25 Try.call55 quiet55 ?_)))
  generalize Try.prog = P at *
  cbv
  intro D
  cbv
  refine call_con (ρ := [(0, .z), (1, .z), (2, .z), (3, .z), (4, .z), (5, .z)]) g ⟨by rfl, by rfl, by rfl, by cbv; exact ⟨view_refl _, trivial⟩⟩ ?_
  rintro v H R js2 ⟨rfl, rfl, acc3, hv3, ai3, h3, rfl⟩
  cbv
  exact ⟨acc3, hv3, ai3, h3, rfl⟩
theorem countcl_con (b : List Int) (pos cap : Nat) (acc hv ai : Int) (hby : ∀ x ∈ b, isByte x) (hl : b.length ≤ 2 ^ 50) (h : RS b pos acc hv ai) (hp : pos + 5 ≤ 8 * b.length) (h1 : bval (bitL b) pos 1 = 1) (h3 : bval (bitL b) (pos + 1) 3 = 1) (h4 : bval (bitL b) (pos + 4) 1 = 1) :
    Con Try.prog 38 [.ptr 0 .z 1 0] [.one 33 [.ptr 1 .z 4 0], (.one 81 [.fn 39 [.ptr 2 .z 1 0, .ptr 3 .z 1 0], .int .u64 acc, .int .i64 hv, .fn 40 [.ptr 3 .z 1 0, .ptr 2 .z 1 0]]), .one 3 [.int .i64 ai], .one 22 [.slice 4 .z 1 b.length cap], .ro .u8 b]
      (fun v H R => v = .int .i64 4 ∧ R = [] ∧ ∃ acc2 hv2 ai2, RS b (pos + 5) acc2 hv2 ai2 ∧ H = [.one 33 [.ptr 1 .z 4 0], (.one 81 [.fn 39 [.ptr 2 .z 1 0, .ptr 3 .z 1 0], .int .u64 acc2, .int .i64 hv2, .fn 40 [.ptr 3 .z 1 0, .ptr 2 .z 1 0]]), .one 3 [.int .i64 ai2], .one 22 [.slice 4 .z 1 b.length cap], .ro .u8 b]) := by
  have g1 := get_con b pos cap 1 acc hv ai hby hl h (by decide) (by omega)
  have g3 := fun acc hv ai h => get_con b (pos + 1) cap 3 acc hv ai hby hl h (by decide) (by omega)
  have g4 := fun acc hv ai h => get_con b (pos + 4) cap 1 acc hv ai hby hl h (by decide) (by omega)
  rw [h1] at g1
  rw [h3, Nat.add_assoc] at g3
  rw [h4, Nat.add_assoc] at g4
  rw [show ((1 : Nat) : Int) = 1 from rfl] at g1 g4
  rw [show ((3 : Nat) : Int) = 3 from rfl] at g3
  generalize hq : RS b (pos + 1) = RQ1 at *
  generalize hq3 : RS b (pos + (1 + 3)) = RQ2 at *
  generalize hq2 : RS b (pos + (4 + 1)) = RQ3 at *
  clear h hp h1 h3 h4 hl hby
  generalize b.length = bl at *
  refine con_gen (con_cut 5 (by simp) (con_drop (con_walk hmix fn38 ?_)))
  intro vb vc vw vtoN vofN vaddN vsubN vmaxI vminI vcutN vgd vst vln vrep vsub vonto vsplice vstrEq vbyteV vnotB veqB hw qb qc qw qtoN qofN qaddN qsubN qmaxI qminI qcutN qgd qst qln qrep qsub qonto qsplice qstrEq qbyteV qnotB qeqB
  have hm := hmix; generalize Try.prog = P at *
  have e10 : vc .eql 1 0 = false := by rw [qc]; rfl
  have ew : vw .u64 1 = 1 := by rw [qw]; rfl
  have esh : vb .shl .i64 1 1 = 2 := by rw [qb]; rfl
  have ea : vb .add .i64 2 1 = 3 := by rw [qb]; rfl
  have ea2 : vb .add .i64 3 1 = 4 := by rw [qb]; rfl
  cbv
  refine call_con (ρ := [(1, .z), (2, .z), (3, .z), (4, .z)]) g1 ⟨by rfl, by rfl, by rfl, by cbv; exact ⟨view_refl _, trivial⟩⟩ ?_
  rintro v H R js ⟨rfl, rfl, acc2, hv2, ai2, h2, rfl⟩
  cbv
  rw [e10]
  cbv
  refine call_con (ρ := [(1, .z), (2, .z), (3, .z), (4, .z)]) (g3 acc2 hv2 ai2 h2) ⟨by rfl, by rfl, by rfl, by cbv; exact ⟨view_refl _, trivial⟩⟩ ?_
  rintro v H R js ⟨rfl, rfl, acc3, hv3, ai3, h3, rfl⟩
  cbv
  rw [ew]
  refine ⟨⟨by decide⟩, ?_⟩
  rw [esh, ea]
  refine call_con (ρ := [(1, .z), (2, .z), (3, .z), (4, .z)]) (g4 acc3 hv3 ai3 h3) ⟨by rfl, by rfl, by rfl, by cbv; exact ⟨view_refl _, trivial⟩⟩ ?_
  rintro v H R js ⟨rfl, rfl, acc4, hv4, ai4, h4, rfl⟩
  cbv
  rw [ea2]
  exact ⟨rfl, acc4, hv4, ai4, h4, rfl⟩
theorem reading37_con (b : List Int) (pos cap : Nat) (acc hv ai : Int) (hby : ∀ x ∈ b, isByte x) (hl : b.length ≤ 2 ^ 50) (h : RS b pos acc hv ai) (hp : pos + 5 ≤ 8 * b.length) (h1 : bval (bitL b) pos 1 = 1) (h3 : bval (bitL b) (pos + 1) 3 = 1) (h4 : bval (bitL b) (pos + 4) 1 = 1) :
    Con Try.prog 37 [.ptr 1 .z 4 0, .fn 38 [.ptr 0 .z 1 0]] [.one 33 [.ptr 1 .z 4 0], (.one 81 [.fn 39 [.ptr 2 .z 1 0, .ptr 3 .z 1 0], .int .u64 acc, .int .i64 hv, .fn 40 [.ptr 3 .z 1 0, .ptr 2 .z 1 0]]), .one 3 [.int .i64 ai], .one 22 [.slice 4 .z 1 b.length cap], .ro .u8 b]
      (fun v H R => v = .tup [.int .i64 4, .int .i64 0] ∧ R = [] ∧ ∃ acc2 hv2 ai2, RS b (pos + 5) acc2 hv2 ai2 ∧ H = [.one 33 [.ptr 1 .z 4 0], (.one 81 [.fn 39 [.ptr 2 .z 1 0, .ptr 3 .z 1 0], .int .u64 acc2, .int .i64 hv2, .fn 40 [.ptr 3 .z 1 0, .ptr 2 .z 1 0]]), .one 3 [.int .i64 ai2], .one 22 [.slice 4 .z 1 b.length cap], .ro .u8 b]) := by
  have g := countcl_con b pos cap acc hv ai hby hl h hp h1 h3 h4
  clear hp h1 h3 h4 hl hby h
  generalize RS b (pos + 5) = RQ at *
  generalize b.length = bl at *
  refine con_gen (con_cut 5 (by simp) (con_drop (con_of_defer hmix fd37 Try.call62 quiet62 ?_)))
  generalize Try.prog = P at *
  cbv
  intro D
  cbv
  refine call_con (ρ := [(0, .z), (1, .z), (2, .z), (3, .z), (4, .z)]) g ⟨by rfl, by rfl, by rfl, by cbv; exact ⟨view_refl _, trivial⟩⟩ ?_
  rintro v H R js2 ⟨rfl, rfl, acc3, hv3, ai3, h3, rfl⟩
  cbv
  exact ⟨acc3, hv3, ai3, h3, rfl⟩
theorem read7_con (b : List Int) (pos cap : Nat) (acc hv ai : Int) (hby : ∀ x ∈ b, isByte x) (hl : b.length ≤ 2 ^ 50) (h : RS b pos acc hv ai) (hp : pos + 12 ≤ 8 * b.length) (h1 : bval (bitL b) pos 2 = 1) (h0 : bval (bitL b) (pos + 2) 2 = 0) (h5 : bval (bitL b) (pos + 4) 8 = 5) :
    Con Try.prog 7 [.ptr 0 .z 4 0, .int .i64 256] [(.one 81 [.fn 39 [.ptr 1 .z 1 0, .ptr 2 .z 1 0], .int .u64 acc, .int .i64 hv, .fn 40 [.ptr 2 .z 1 0, .ptr 1 .z 1 0]]), .one 3 [.int .i64 ai], .one 22 [.slice 3 .z 1 b.length cap], .ro .u8 b]
      (fun v H R => v = .tup [.agg [.val (.slice none 0 0), .int .i64 5], .int .i64 0] ∧ R = [] ∧ ∃ acc2 hv2 ai2, RS b (pos + 12) acc2 hv2 ai2 ∧ H = [(.one 81 [.fn 39 [.ptr 1 .z 1 0, .ptr 2 .z 1 0], .int .u64 acc2, .int .i64 hv2, .fn 40 [.ptr 2 .z 1 0, .ptr 1 .z 1 0]]), .one 3 [.int .i64 ai2], .one 22 [.slice 3 .z 1 b.length cap], .ro .u8 b]) := by
  have g := reading25_con b pos cap acc hv ai hby hl h hp h1 h0 h5
  clear hp h0 h1 h5 hl hby h
  generalize RS b (pos + 12) = RQ at *
  generalize b.length = bl at *
  refine con_gen (con_cut 4 (by simp) (con_drop (con_walk hmix fn7 ?_)))
  intro vb vc vw vtoN vofN vaddN vsubN vmaxI vminI vcutN vgd vst vln vrep vsub vonto vsplice vstrEq vbyteV vnotB veqB hw qb qc qw qtoN qofN qaddN qsubN qmaxI qminI qcutN qgd qst qln qrep qsub qonto qsplice qstrEq qbyteV qnotB qeqB
  have hm := hmix; generalize Try.prog = P at *
  have e1 : vc .lss 256 1 = false := by rw [qc]; rfl
  have e2 : vc .gtr 256 1024 = false := by rw [qc]; rfl
  have hnf : vnotB false = true := by rw [qnotB]; rfl
  cbv
  try rw [hnf]
  try cbv
  rw [e1]
  cbv
  rw [e2]
  cbv
  refine call_con (ρ := [(4, .z), (5, .z), (0, .z), (1, .z), (2, .z), (3, .z)]) g ⟨by rfl, by rfl, by rfl, by cbv; exact ⟨view_refl _, trivial⟩⟩ ?_
  rintro v H R js2 ⟨rfl, rfl, acc3, hv3, ai3, h3, rfl⟩
  cbv
  exact ⟨acc3, hv3, ai3, h3, rfl⟩
theorem count10_con (b : List Int) (pos cap : Nat) (acc hv ai : Int) (hby : ∀ x ∈ b, isByte x) (hl : b.length ≤ 2 ^ 50) (h : RS b pos acc hv ai) (hp : pos + 5 ≤ 8 * b.length) (h1 : bval (bitL b) pos 1 = 1) (h3 : bval (bitL b) (pos + 1) 3 = 1) (h4 : bval (bitL b) (pos + 4) 1 = 1) :
    Con Try.prog 10 [.ptr 0 .z 4 0] [(.one 81 [.fn 39 [.ptr 1 .z 1 0, .ptr 2 .z 1 0], .int .u64 acc, .int .i64 hv, .fn 40 [.ptr 2 .z 1 0, .ptr 1 .z 1 0]]), .one 3 [.int .i64 ai], .one 22 [.slice 3 .z 1 b.length cap], .ro .u8 b]
      (fun v H R => v = .tup [.int .i64 4, .int .i64 0] ∧ R = [] ∧ ∃ acc2 hv2 ai2, RS b (pos + 5) acc2 hv2 ai2 ∧ H = [(.one 81 [.fn 39 [.ptr 1 .z 1 0, .ptr 2 .z 1 0], .int .u64 acc2, .int .i64 hv2, .fn 40 [.ptr 2 .z 1 0, .ptr 1 .z 1 0]]), .one 3 [.int .i64 ai2], .one 22 [.slice 3 .z 1 b.length cap], .ro .u8 b]) := by
  have g := reading37_con b pos cap acc hv ai hby hl h hp h1 h3 h4
  clear hp h1 h3 h4 hl hby h
  generalize RS b (pos + 5) = RQ at *
  generalize b.length = bl at *
  refine con_gen (con_cut 4 (by simp) (con_drop (con_walk hmix fn10 ?_)))
  intro vb vc vw vtoN vofN vaddN vsubN vmaxI vminI vcutN vgd vst vln vrep vsub vonto vsplice vstrEq vbyteV vnotB veqB hw qb qc qw qtoN qofN qaddN qsubN qmaxI qminI qcutN qgd qst qln qrep qsub qonto qsplice qstrEq qbyteV qnotB qeqB
  have hm := hmix; generalize Try.prog = P at *
  cbv
  refine call_con (ρ := [(4, .z), (0, .z), (1, .z), (2, .z), (3, .z)]) g ⟨by rfl, by rfl, by rfl, by cbv; exact ⟨view_refl _, trivial⟩⟩ ?_
  rintro v H R js2 ⟨rfl, rfl, acc3, hv3, ai3, h3, rfl⟩
  cbv
  exact ⟨acc3, hv3, ai3, h3, rfl⟩
end Go.Proofs.Ytkkddgdcmdnnmaa
/-
  Plain: what is put, and padded, is read ag it was.
-/
namespace Go.Proofs.Ytkkddgdcmdnnmaa
open Go Go.Sx
theorem bval_congr (l l' : List Int) (h : ∀ j, l.getD j 0 = l'.getD j 0) (i : Nat) : ∀ n, bval l i n = bval l' i n
  | 0 => rfl
  | n + 1 => by simp only [bval]; rw [bval_congr l l' h i n, h]
theorem bitL_pack (bs : List Int) (hb : ∀ b ∈ bs, isBit b) (i n : Nat) : bval (bitL (pack bs)) i n = bval bs i n := by
  refine bval_congr _ _ (fun j => ?_) i n
  by_cases hj : j < 8 * (pack bs).length
  · rw [bitL_get _ _ hj, bitAt_pack bs hb]
  · rw [List.getD_eq_getElem?_getD, List.getD_eq_getElem?_getD, List.getElem?_eq_none (by rw [bitL_length]; omega), List.getElem?_eq_none (by rw [pack_length] at hj; omega)]
end Go.Proofs.Ytkkddgdcmdnnmaa
namespace Go.Proofs.Ytkkddgdcmdnnmaa
open Go Go.Sx Go.Proofs
/-! Lengths of a code, plainly. -/
def isU8 (x : Int) : Prop := 0 ≤ x ∧ x < 256
def nz (l : List Int) : Nat → Int
  | 0 => 0
  | i + 1 => nz l i + (if l.getD i 0 > 0 then 1 else 0)
def ks (l : List Int) : Nat → Int
  | 0 => 0
  | i + 1 => ks l i + (if l.getD i 0 > 0 then 2 ^ (15 - l.getD i 0).toNat else 0)
/-- Lengths make a code. -/
def Right5 (l : List Int) : Prop := l.length ≤ 1024 ∧ (∀ i, i < l.length → l.getD i 0 ≤ 15) ∧ 2 ≤ nz l l.length ∧ ks l l.length = 32768
/-- How many of the first i have length k. -/
def cn (l : List Int) (k : Int) : Nat → Int
  | 0 => 0
  | i + 1 => cn l k i + (if l.getD i 0 = k then 1 else 0)
def kp (l : List Int) (i : Nat) : Nat → Int
  | 0 => 0
  | L + 1 => 2 * kp l i L + cn l (L + 1 : Nat) i
/-- The first word of a length. -/
def st (l : List Int) (L : Nat) : Int := 2 * kp l l.length (L - 1)
/-- A symbol's word. -/
def wd (l : List Int) (i : Nat) : Int := st l (l.getD i 0).toNat + cn l (l.getD i 0) i
theorem pow_up {a : Nat} : ∀ {b : Nat}, a ≤ b → (2 : Int) ^ a ≤ 2 ^ b
  | 0, h => by obtain rfl : a = 0 := by omega
               exact Int.le_refl _
  | b + 1, h => by
    by_cases e : a = b + 1
    · subst e; exact Int.le_refl _
    · have := pow_up (a := a) (b := b) (by omega)
      have hp : (0 : Int) < 2 ^ b := Int.pow_pos (by omega)
      rw [Int.pow_succ]; omega
theorem getD_mem_or5 {l : List Int} (i : Nat) : l.getD i 0 ∈ l ∨ l.getD i 0 = 0 := by
  by_cases h : i < l.length
  · left; simp [List.getD_eq_getElem?_getD, List.getElem?_eq_getElem h]
  · right; simp [List.getD_eq_getElem?_getD, List.getElem?_eq_none (by omega : l.length ≤ i)]
theorem nz_range (l : List Int) : ∀ i : Nat, 0 ≤ nz l i ∧ nz l i ≤ i
  | 0 => by simp [nz]
  | i + 1 => by have := nz_range l i; simp only [nz]; split <;> omega
theorem ks_range (l : List Int) (h0 : ∀ i, 0 ≤ l.getD i 0) : ∀ i : Nat, 0 ≤ ks l i ∧ ks l i ≤ 16384 * i
  | 0 => by simp [ks]
  | i + 1 => by
    have := ks_range l h0 i
    simp only [ks]
    split
    · rename_i h
      have hp : (0 : Int) < 2 ^ (15 - l.getD i 0).toNat := Int.pow_pos (by omega)
      have hq : (2 : Int) ^ (15 - l.getD i 0).toNat ≤ 2 ^ 14 := pow_up (by omega)
      omega
    · omega
theorem cn_range (l : List Int) (k : Int) : ∀ i : Nat, 0 ≤ cn l k i ∧ cn l k i ≤ i
  | 0 => by simp [cn]
  | i + 1 => by have := cn_range l k i; simp only [cn]; split <;> omega
theorem kp_mono (l : List Int) (i L : Nat) : 2 * kp l i L ≤ kp l i (L + 1) := by
  have := (cn_range l ((L + 1 : Nat) : Int) i).1
  simp only [kp]; omega
theorem kp_nonneg (l : List Int) (i : Nat) : ∀ L, 0 ≤ kp l i L
  | 0 => by simp [kp]
  | L + 1 => by have := kp_nonneg l i L; have := kp_mono l i L; omega
theorem kp_step (l : List Int) (i : Nat) (h0 : 0 ≤ l.getD i 0) (h15 : l.getD i 0 ≤ 15) : kp l (i + 1) 15 = kp l i 15 + (if l.getD i 0 > 0 then 2 ^ (15 - l.getD i 0).toNat else 0) := by
  simp only [kp, cn]
  generalize l.getD i 0 = x at *
  have : x = 0 ∨ x = 1 ∨ x = 2 ∨ x = 3 ∨ x = 4 ∨ x = 5 ∨ x = 6 ∨ x = 7 ∨ x = 8 ∨ x = 9 ∨ x = 10 ∨ x = 11 ∨ x = 12 ∨ x = 13 ∨ x = 14 ∨ x = 15 := by omega
  rcases this with rfl | rfl | rfl | rfl | rfl | rfl | rfl | rfl | rfl | rfl | rfl | rfl | rfl | rfl | rfl | rfl <;> simp <;> omega
theorem kp_zero (l : List Int) : ∀ L, kp l 0 L = 0
  | 0 => rfl
  | L + 1 => by simp [kp, cn, kp_zero l L]
theorem kraft (l : List Int) (n : Nat) (h0 : ∀ i, 0 ≤ l.getD i 0) (h15 : ∀ i, i < n → l.getD i 0 ≤ 15) : ∀ i, i ≤ n → kp l i 15 = ks l i
  | 0, _ => by rw [kp_zero]; rfl
  | i + 1, h => by rw [kp_step l i (h0 i) (h15 i (by omega)), kraft l n h0 h15 i (by omega)]; rfl
theorem kp_le (l : List Int) (i : Nat) (h : kp l i 15 ≤ 2 ^ 15) : ∀ d L, L + d = 15 → kp l i L ≤ 2 ^ L
  | 0, L, e => by obtain rfl : L = 15 := by omega
                  exact h
  | d + 1, L, e => by
    have h1 := kp_le l i h d (L + 1) (by omega)
    have h2 := kp_mono l i L
    have h3 : (2 : Int) ^ (L + 1) = 2 * 2 ^ L := by rw [Int.pow_succ]; omega
    omega
structure Rt (l : List Int) : Prop where
  n1 : l.length ≤ 1024
  u8 : ∀ i, 0 ≤ l.getD i 0
  l15 : ∀ i, l.getD i 0 ≤ 15
  full : kp l l.length 15 = 32768
  top : ∀ L, L ≤ 15 → kp l l.length L ≤ 2 ^ L
theorem getD_u8 {l : List Int} (h : ∀ x ∈ l, isU8 x) (i : Nat) : 0 ≤ l.getD i 0 ∧ l.getD i 0 < 256 := by
  rcases getD_mem_or5 (l := l) i with hh | hh
  · exact h _ hh
  · omega
theorem Right5.rt {l : List Int} (hl : ∀ x ∈ l, isU8 x) (h : Right5 l) : Rt l := by
  obtain ⟨h1, h2, h3, h4⟩ := h
  have h0 := fun i => (getD_u8 hl i).1
  have hk := kraft l l.length h0 h2 l.length (Nat.le_refl _)
  refine ⟨h1, h0, fun i => ?_, by omega, fun L hL => kp_le l _ (by omega) (15 - L) L (by omega)⟩
  by_cases hi : i < l.length
  · exact h2 i hi
  · simp only [List.getD_eq_getElem?_getD, List.getElem?_eq_none (by omega : l.length ≤ i), Option.getD_none]; omega
end Go.Proofs.Ytkkddgdcmdnnmaa
namespace Go.Proofs.Ytkkddgdcmdnnmaa
open Go Go.Sx Go.Proofs
/-! Do lengths make a code? canon.right and balerref05.Right. -/
theorem shl1 {x : Int} (h0 : 0 ≤ x) (h1 : x ≤ 62) : bV .shl .i64 1 x = 2 ^ x.toNat := by
  obtain ⟨n, rfl⟩ : ∃ n : Nat, x = n := ⟨x.toNat, by omega⟩
  have hn : n ≤ 62 := by omega
  show IntKind.i64.wrap (1 * 2 ^ (min ((n : Int).toNat) IntKind.i64.bits)) = 2 ^ ((n : Int).toNat)
  have e : min ((n : Int).toNat) IntKind.i64.bits = n := by simp [IntKind.bits]; omega
  have hp : (2 : Int) ^ n ≤ 2 ^ 62 := pow_up hn
  have hp0 : (0 : Int) < 2 ^ n := Int.pow_pos (by omega)
  rw [e, Int.one_mul, Int.toNat_natCast]
  exact wrap_i64 (by omega) (by omega)
theorem sub_u8 {x y : Int} (h0 : 0 ≤ x - y) (h1 : x - y < 256) : bV .sub .u8 x y = x - y := wrap_u8 h0 h1
set_option maxRecDepth 10000
set_option maxHeartbeats 40000000
theorem right5_con (l : List Int) (cap : Nat) (hl : ∀ c ∈ l, isU8 c) (hlen : l.length ≤ 9223372036854775807) (z : Bool) (hz : z = true ↔ Right5 l) :
    Con Try.prog 59 [.slice 0 .z 1 l.length cap] [.ro .u8 l] (fun v H R => v = .bool z ∧ H = [.ro .u8 l] ∧ R = []) := by
  refine con_gen (con_cut 1 (by simp) (con_drop (con_walk hmix fn59 ?_)))
  intro vb vc vw vtoN vofN vaddN vsubN vmaxI vminI vcutN vgd vst vln vrep vsub vonto vsplice vstrEq vbyteV vnotB veqB hw qb qc qw qtoN qofN qaddN qsubN qmaxI qminI qcutN qgd qst qln qrep qsub qonto qsplice qstrEq qbyteV qnotB qeqB
  have hm := hmix; generalize Try.prog = P at *
  have hge := getD_u8 hl
  have hA : z = true ↔ (l.length ≤ 1024 ∧ (∀ i, i < l.length → l.getD i 0 ≤ 15) ∧ 2 ≤ nz l l.length ∧ ks l l.length = 32768) := hz
  clear hz
  have hzr := nz_range l
  have hkr := ks_range l (fun i => (hge i).1)
  have hz0 : nz l 0 = 0 := rfl
  have hk0 : ks l 0 = 0 := rfl
  have hzs : ∀ i, nz l (i + 1) = nz l i + (if l.getD i 0 > 0 then 1 else 0) := fun _ => rfl
  have hks : ∀ i, ks l (i + 1) = ks l i + (if l.getD i 0 > 0 then 2 ^ (15 - l.getD i 0).toNat else 0) := fun _ => rfl
  generalize nz l = NZ at *
  generalize ks l = KS at *
  generalize hn : l.length = n at *
  have hto : ∀ i : Nat, vtoN (i : Int) = i := fun i => by simp only [qtoN, Int.toNat_natCast]
  have hadd0 : ∀ i, vaddN 0 i = i := fun i => by simp only [qaddN, Nat.zero_add]
  have hvln : vln l = n := by simp only [qln, hn]
  have hvgd : ∀ i, vgd l i = l.getD i 0 := fun i => by simp only [qgd]
  cbv
  refine loop_fam (α := Int × Int × Int) ([6] ++ [10, 11, 12, 13, 14, 15, 16, 17, 18, 19, 20, 21, 22, 23, 24, 25]) [] (fun (k, m, a) => [(9, .int .i64 k), (3, .int .i64 m), (4, .int .i64 a)]) (fun _ => [])
    (fun (k, m, a) => ∃ i : Nat, k = i ∧ i ≤ n ∧ m = NZ i ∧ (i ≤ 1024 → a = KS i) ∧ ∀ j, j < i → l.getD j 0 ≤ 15) (fun (k, _) => n - k.toNat) hw hm ?_ ?_
  · refine Cv.genAt [9, 3, 4] [] (Cv.fold ([6] ++ [10, 11, 12, 13, 14, 15, 16, 17, 18, 19, 20, 21, 22, 23, 24, 25]) 1 [] (by exact Nat.le_refl _) (by exact Nat.le_of_ble_eq_true rfl) (by rfl) (by cbv) ?_)
    intro js
    refine ⟨(_, _, _), ?_, js, rfl⟩
    exact ⟨0, rfl, by omega, hz0.symm, fun _ => hk0.symm, fun j hj => by omega⟩
  · rintro ⟨k, m, a⟩ js ⟨i, hk, hi, hm1, ha, hj⟩
    have hsi := hzr i
    cbv
    split
    · rename_i hlt
      have hlt : i < n := by rw [qc, lss_true] at hlt; simp only [qofN] at hlt; simp only [nc] at *; omega
      have hti : vtoN k = i := by rw [hk]; exact hto i
      have hinR : 0 ≤ k ∧ k < (n : Int) := by simp only [nc] at *; omega
      obtain ⟨k1, hk1⟩ : ∃ k1 : Int, k1 = ((i + 1 : Nat) : Int) := ⟨_, rfl⟩
      have ek : vb .add .i64 k 1 = k1 := by simp only [nc] at *; rw [qb, add_i64 (by omega) (by omega)]; omega
      have em : vb .add .i64 m 1 = m + 1 := by simp only [nc] at *; rw [qb, add_i64 (by omega) (by omega)]
      have hmu : n - k1.toNat < n - k.toNat := by simp only [nc] at *; omega
      have hzi := hzs i
      have hki := hks i
      have hgi := hge i
      have hri := hkr i
      cbv
      rw [hti, hadd0, hvgd]
      refine ⟨⟨hinR⟩, ⟨by omega⟩, ⟨by omega⟩, ?_⟩
      have hlast : ∀ q, l.getD i 0 = q → (∀ j, j < i + 1 → l.getD j 0 ≤ 15) ∨ 15 < q := fun q hq => by
        by_cases h : q ≤ 15
        · exact .inl fun j h1 => by
            by_cases e : j = i
            · subst e; omega
            · exact hj j (by omega)
        · exact .inr (by omega)
      have hno : 15 < l.getD i 0 → z = false := fun h => by
        cases z
        · rfl
        · have := (hA.1 rfl).2.1 i (by omega); omega
      generalize hci : l.getD i 0 = ci at *
      have hlast := hlast ci rfl
      generalize h15 : vc .gtr ci 15 = z1
      cases z1
      rotate_left
      · rw [qc, gtr_true] at h15
        obtain rfl := hno h15
        cbv
      rw [qc, gtr_false] at h15
      have hlast := hlast.resolve_right (by omega)
      cbv
      generalize hz : vc .gtr ci 0 = z2
      cases z2
      · rw [qc, gtr_false] at hz
        rw [if_neg (by omega)] at hzi hki
        cbv
        rw [ek]
        refine Cv.fold ([6] ++ [10, 11, 12, 13, 14, 15, 16, 17, 18, 19, 20, 21, 22, 23, 24, 25]) 1 [] (by exact Nat.le_refl _) (by exact Nat.le_of_ble_eq_true rfl) (by rfl) (by cbv) ?_
        intro js
        refine ⟨(_, _, _), ?_, js, rfl⟩
        exact ⟨⟨i + 1, hk1, hlt, by omega, fun h => by have := ha (by omega); omega, hlast⟩, hmu⟩
      · rw [qc, gtr_true] at hz
        rw [if_pos (by omega)] at hzi hki
        have e1 : vb .sub .u8 15 ci = 15 - ci := by rw [qb]; exact sub_u8 (by omega) (by omega)
        have e2 : vw .u64 (15 - ci) = 15 - ci := by rw [qw]; exact wrap_u64 (by omega) (by omega)
        have e3 : vb .shl .i64 1 (15 - ci) = 2 ^ (15 - ci).toNat := by rw [qb]; exact shl1 (by omega) (by omega)
        have hp : (0 : Int) < 2 ^ (15 - ci).toNat := Int.pow_pos (by omega)
        have hq : (2 : Int) ^ (15 - ci).toNat ≤ 2 ^ 14 := pow_up (by omega)
        generalize (2 : Int) ^ (15 - ci).toNat = pw at *
        cbv
        rw [ek, em, e1, e2, e3]
        refine ⟨⟨by omega⟩, ?_⟩
        refine Cv.fold ([6] ++ [10, 11, 12, 13, 14, 15, 16, 17, 18, 19, 20, 21, 22, 23, 24, 25]) 1 [] (by exact Nat.le_refl _) (by exact Nat.le_of_ble_eq_true rfl) (by rfl) (by cbv) ?_
        intro js
        refine ⟨(_, _, _), ?_, js, rfl⟩
        refine ⟨⟨i + 1, hk1, hlt, by omega, fun h => ?_, hlast⟩, hmu⟩
        have := ha (by omega)
        simp only [nc] at *
        rw [qb, add_i64 (by omega) (by omega)]; omega
    · rename_i hge1
      have hin : i = n := by rw [qc, lss_false] at hge1; simp only [qofN] at hge1; simp only [nc] at *; omega
      subst hin
      have hand : ∀ z1 z2 z3 : Bool, (z1 = true ↔ i ≤ 1024) → (z2 = true ↔ 2 ≤ m) → (z3 = true ↔ a = 32768) → z = (if z1 then (if z2 then z3 else false) else false) := by
        intro z1 z2 z3 h1 h2 h3
        subst hm1
        cases z1
        · cases z
          · rfl
          · have := (hA.1 rfl).1; simp only [Bool.false_eq_true, false_iff] at h1; omega
        · cases z2
          · cases z
            · rfl
            · have := (hA.1 rfl).2.2.1; simp only [Bool.false_eq_true, false_iff] at h2; omega
          · have h4 := ha (h1.1 rfl)
            cases z3
            · cases z
              · rfl
              · have := (hA.1 rfl).2.2.2; simp only [Bool.false_eq_true, false_iff] at h3; omega
            · have := hA.2 ⟨h1.1 rfl, hj, h2.1 rfl, by rw [← h4]; exact h3.1 rfl⟩
              simp [this]
      obtain ⟨z1, h1, b1⟩ : ∃ z1, vc .leq (vofN i) 1024 = z1 ∧ (z1 = true ↔ i ≤ 1024) := ⟨_, rfl, by rw [qc, leq_eq]; simp only [qofN, decide_eq_true_eq, nc]; omega⟩
      obtain ⟨z2, h2, b2⟩ : ∃ z2, vc .geq m 2 = z2 ∧ (z2 = true ↔ 2 ≤ m) := ⟨_, rfl, by rw [qc, geq_eq]; simp only [decide_eq_true_eq, ge_iff_le]⟩
      obtain ⟨z3, h3, b3⟩ : ∃ z3, vc .eql a 32768 = z3 ∧ (z3 = true ↔ a = 32768) := ⟨_, rfl, by rw [qc, eql_eq]; simp only [decide_eq_true_eq]⟩
      have hand := hand z1 z2 z3 b1 b2 b3
      cbv
      rw [h1]
      cases z1
      · obtain rfl : z = false := hand
        cbv
      · cbv
        rw [h2]
        cases z2
        · obtain rfl : z = false := hand
          cbv
        · cbv
          rw [h3]
          obtain rfl : z = z3 := hand
          cbv
theorem refright5_con (l : List Int) (cap : Nat) (hl : ∀ c ∈ l, isU8 c) (hlen : l.length ≤ 9223372036854775807) (z : Bool) (hz : z = true ↔ Right5 l) :
    Con Try.prog 13 [.slice 0 .z 1 l.length cap] [.ro .u8 l] (fun v H R => v = .bool z ∧ H = [.ro .u8 l] ∧ R = []) := by
  refine con_gen (con_cut 1 (by simp) (con_drop (con_walk hmix fn13 ?_)))
  intro vb vc vw vtoN vofN vaddN vsubN vmaxI vminI vcutN vgd vst vln vrep vsub vonto vsplice vstrEq vbyteV vnotB veqB hw qb qc qw qtoN qofN qaddN qsubN qmaxI qminI qcutN qgd qst qln qrep qsub qonto qsplice qstrEq qbyteV qnotB qeqB
  have hm := hmix; generalize Try.prog = P at *
  have hge := getD_u8 hl
  have hA : z = true ↔ (l.length ≤ 1024 ∧ (∀ i, i < l.length → l.getD i 0 ≤ 15) ∧ 2 ≤ nz l l.length ∧ ks l l.length = 32768) := hz
  clear hz
  have hzr := nz_range l
  have hkr := ks_range l (fun i => (hge i).1)
  have hz0 : nz l 0 = 0 := rfl
  have hk0 : ks l 0 = 0 := rfl
  have hzs : ∀ i, nz l (i + 1) = nz l i + (if l.getD i 0 > 0 then 1 else 0) := fun _ => rfl
  have hks : ∀ i, ks l (i + 1) = ks l i + (if l.getD i 0 > 0 then 2 ^ (15 - l.getD i 0).toNat else 0) := fun _ => rfl
  generalize nz l = NZ at *
  generalize ks l = KS at *
  generalize hn : l.length = n at *
  have hto : ∀ i : Nat, vtoN (i : Int) = i := fun i => by simp only [qtoN, Int.toNat_natCast]
  have hadd0 : ∀ i, vaddN 0 i = i := fun i => by simp only [qaddN, Nat.zero_add]
  have hvln : vln l = n := by simp only [qln, hn]
  have hvgd : ∀ i, vgd l i = l.getD i 0 := fun i => by simp only [qgd]
  cbv
  obtain ⟨z0, h0, b0⟩ : ∃ z0, vc .gtr (vofN (vln l)) 1024 = z0 ∧ (z0 = true ↔ 1024 < n) := ⟨_, rfl, by rw [hvln, qc, gtr_eq]; simp only [qofN, decide_eq_true_eq, nc]; omega⟩
  rw [hvln] at h0
  rw [h0]
  cases z0
  rotate_left
  · obtain rfl : z = false := by
      cases z
      · rfl
      · have := (hA.1 rfl).1; have := b0.1 rfl; omega
    cbv
  have hn1 : n ≤ 1024 := by
    by_cases h : n ≤ 1024
    · exact h
    · have := b0.2 (by omega); cases this
  cbv
  refine loop_fam (α := Int × Int × Int) [9, 10, 11, 12, 13, 14, 15, 16, 17, 18, 19, 20, 21, 22, 23, 24, 25, 26, 27, 28, 29, 30, 31, 32, 33, 34, 35] [] (fun (k, m, a) => [(5, .int .i64 k), (3, .int .i64 m), (4, .int .i64 a)]) (fun _ => [])
    (fun (k, m, a) => ∃ i : Nat, k = i ∧ i ≤ n ∧ m = NZ i ∧ (i ≤ 1024 → a = KS i) ∧ ∀ j, j < i → l.getD j 0 ≤ 15) (fun (k, _) => n - k.toNat) hw hm ?_ ?_
  · refine Cv.genAt [5, 3, 4] [] (Cv.fold [9, 10, 11, 12, 13, 14, 15, 16, 17, 18, 19, 20, 21, 22, 23, 24, 25, 26, 27, 28, 29, 30, 31, 32, 33, 34, 35] 1 [] (by exact Nat.le_refl _) (by exact Nat.le_of_ble_eq_true rfl) (by rfl) (by cbv) ?_)
    intro js
    refine ⟨(_, _, _), ?_, js, rfl⟩
    exact ⟨0, rfl, by omega, hz0.symm, fun _ => hk0.symm, fun j hj => by omega⟩
  · rintro ⟨k, m, a⟩ js ⟨i, hk, hi, hm1, ha, hj⟩
    have hsi := hzr i
    cbv
    split
    · rename_i hlt
      have hlt : i < n := by rw [qc, lss_true] at hlt; simp only [qofN] at hlt; simp only [nc] at *; omega
      have hti : vtoN k = i := by rw [hk]; exact hto i
      have hinR : 0 ≤ k ∧ k < (n : Int) := by simp only [nc] at *; omega
      obtain ⟨k1, hk1⟩ : ∃ k1 : Int, k1 = ((i + 1 : Nat) : Int) := ⟨_, rfl⟩
      have ek : vb .add .i64 k 1 = k1 := by simp only [nc] at *; rw [qb, add_i64 (by omega) (by omega)]; omega
      have em : vb .add .i64 m 1 = m + 1 := by simp only [nc] at *; rw [qb, add_i64 (by omega) (by omega)]
      have hmu : n - k1.toNat < n - k.toNat := by simp only [nc] at *; omega
      have hzi := hzs i
      have hki := hks i
      have hgi := hge i
      have hri := hkr i
      cbv
      rw [hti, hadd0, hvgd]
      refine ⟨⟨hinR⟩, ⟨by omega⟩, ⟨by omega⟩, ?_⟩
      have hlast : ∀ q, l.getD i 0 = q → (∀ j, j < i + 1 → l.getD j 0 ≤ 15) ∨ 15 < q := fun q hq => by
        by_cases h : q ≤ 15
        · exact .inl fun j h1 => by
            by_cases e : j = i
            · subst e; omega
            · exact hj j (by omega)
        · exact .inr (by omega)
      have hno : 15 < l.getD i 0 → z = false := fun h => by
        cases z
        · rfl
        · have := (hA.1 rfl).2.1 i (by omega); omega
      generalize hci : l.getD i 0 = ci at *
      have hlast := hlast ci rfl
      generalize h15 : vc .gtr ci 15 = z1
      cases z1
      rotate_left
      · rw [qc, gtr_true] at h15
        obtain rfl := hno h15
        cbv
      rw [qc, gtr_false] at h15
      have hlast := hlast.resolve_right (by omega)
      cbv
      rw [hti, hadd0, hvgd, hci]
      refine ⟨⟨hinR⟩, ⟨by omega⟩, ⟨by omega⟩, ?_⟩
      generalize hz : vc .gtr ci 0 = z2
      cases z2
      · rw [qc, gtr_false] at hz
        rw [if_neg (by omega)] at hzi hki
        cbv
        rw [ek]
        refine Cv.fold [9, 10, 11, 12, 13, 14, 15, 16, 17, 18, 19, 20, 21, 22, 23, 24, 25, 26, 27, 28, 29, 30, 31, 32, 33, 34, 35] 1 [] (by exact Nat.le_refl _) (by exact Nat.le_of_ble_eq_true rfl) (by rfl) (by cbv) ?_
        intro js
        refine ⟨(_, _, _), ?_, js, rfl⟩
        exact ⟨⟨i + 1, hk1, hlt, by omega, fun h => by have := ha (by omega); omega, hlast⟩, hmu⟩
      · rw [qc, gtr_true] at hz
        rw [if_pos (by omega)] at hzi hki
        have e1 : vb .sub .u8 15 ci = 15 - ci := by rw [qb]; exact sub_u8 (by omega) (by omega)
        have e2 : vw .u64 (15 - ci) = 15 - ci := by rw [qw]; exact wrap_u64 (by omega) (by omega)
        have e3 : vb .shl .i64 1 (15 - ci) = 2 ^ (15 - ci).toNat := by rw [qb]; exact shl1 (by omega) (by omega)
        have hp : (0 : Int) < 2 ^ (15 - ci).toNat := Int.pow_pos (by omega)
        have hq : (2 : Int) ^ (15 - ci).toNat ≤ 2 ^ 14 := pow_up (by omega)
        generalize (2 : Int) ^ (15 - ci).toNat = pw at *
        cbv
        rw [hti, hadd0, hvgd, hci]
        refine ⟨⟨hinR⟩, ⟨by omega⟩, ⟨by omega⟩, ?_⟩
        rw [ek, em, e1, e2, e3]
        refine ⟨⟨by omega⟩, ?_⟩
        refine Cv.fold [9, 10, 11, 12, 13, 14, 15, 16, 17, 18, 19, 20, 21, 22, 23, 24, 25, 26, 27, 28, 29, 30, 31, 32, 33, 34, 35] 1 [] (by exact Nat.le_refl _) (by exact Nat.le_of_ble_eq_true rfl) (by rfl) (by cbv) ?_
        intro js
        refine ⟨(_, _, _), ?_, js, rfl⟩
        refine ⟨⟨i + 1, hk1, hlt, by omega, fun h => ?_, hlast⟩, hmu⟩
        have := ha (by omega)
        simp only [nc] at *
        rw [qb, add_i64 (by omega) (by omega)]; omega
    · rename_i hge1
      have hin : i = n := by rw [qc, lss_false] at hge1; simp only [qofN] at hge1; simp only [nc] at *; omega
      subst hin
      have hand : ∀ z1 z2 z3 : Bool, (z1 = true ↔ i ≤ 1024) → (z2 = true ↔ 2 ≤ m) → (z3 = true ↔ a = 32768) → z = (if z1 then (if z2 then z3 else false) else false) := by
        intro z1 z2 z3 h1 h2 h3
        subst hm1
        cases z1
        · cases z
          · rfl
          · have := (hA.1 rfl).1; simp only [Bool.false_eq_true, false_iff] at h1; omega
        · cases z2
          · cases z
            · rfl
            · have := (hA.1 rfl).2.2.1; simp only [Bool.false_eq_true, false_iff] at h2; omega
          · have h4 := ha (h1.1 rfl)
            cases z3
            · cases z
              · rfl
              · have := (hA.1 rfl).2.2.2; simp only [Bool.false_eq_true, false_iff] at h3; omega
            · have := hA.2 ⟨h1.1 rfl, hj, h2.1 rfl, by rw [← h4]; exact h3.1 rfl⟩
              simp [this]
      obtain ⟨z1, h1, b1⟩ : ∃ z1, vc .leq (vofN i) 1024 = z1 ∧ (z1 = true ↔ i ≤ 1024) := ⟨_, rfl, by rw [qc, leq_eq]; simp only [qofN, decide_eq_true_eq, nc]; omega⟩
      obtain ⟨z2, h2, b2⟩ : ∃ z2, vc .geq m 2 = z2 ∧ (z2 = true ↔ 2 ≤ m) := ⟨_, rfl, by rw [qc, geq_eq]; simp only [decide_eq_true_eq, ge_iff_le]⟩
      obtain ⟨z3, h3, b3⟩ : ∃ z3, vc .eql a 32768 = z3 ∧ (z3 = true ↔ a = 32768) := ⟨_, rfl, by rw [qc, eql_eq]; simp only [decide_eq_true_eq]⟩
      have hand := hand z1 z2 z3 b1 b2 b3
      cbv
      rw [h2]
      obtain rfl : z1 = true := b1.2 hn1
      cases z2
      · obtain rfl : z = false := hand
        cbv
      · cbv
        rw [h3]
        obtain rfl : z = z3 := hand
        cbv
end Go.Proofs.Ytkkddgdcmdnnmaa
namespace Go.Proofs.Ytkkddgdcmdnnmaa
open Go Go.Sx Go.Proofs
/-! All symbols' words: balerref05.words. -/
def Pl (l : List Int) (L i : Nat) (vals : List Int) : Prop := vals.length = l.length ∧ ∀ s, s < l.length → vals.getD s 0 = if 0 < l.getD s 0 ∧ (l.getD s 0 < L ∨ (l.getD s 0 = L ∧ s < i)) then wd l s else 0
def WL (l : List Int) : List Int := (List.range l.length).map (fun s => if 0 < l.getD s 0 then wd l s else 0)
theorem WL_len (l : List Int) : (WL l).length = l.length := by simp [WL]
theorem WL_getD (l : List Int) {s : Nat} (h : s < l.length) : (WL l).getD s 0 = if 0 < l.getD s 0 then wd l s else 0 := by
  simp [WL, List.getD_eq_getElem?_getD, List.getElem?_map, List.getElem?_range h]
theorem Pl.zero (l : List Int) : Pl l 1 0 (List.replicate l.length 0) := by
  refine ⟨by simp, fun s hs => ?_⟩
  rw [if_neg (by omega)]
  simp [List.getD_eq_getElem?_getD, List.getElem?_replicate, hs]
theorem Pl.skip {l vals : List Int} {L i : Nat} (h : Pl l L i vals) (hx : l.getD i 0 ≠ L) : Pl l L (i + 1) vals := by
  refine ⟨h.1, fun s hs => ?_⟩
  rw [h.2 s hs]
  by_cases e : s = i
  · subst e
    have : (0 < l.getD s 0 ∧ (l.getD s 0 < L ∨ (l.getD s 0 = L ∧ s < s))) = (0 < l.getD s 0 ∧ (l.getD s 0 < L ∨ (l.getD s 0 = L ∧ s < s + 1))) := by
      apply propext; omega
    simp only [this]
  · have : (0 < l.getD s 0 ∧ (l.getD s 0 < L ∨ (l.getD s 0 = L ∧ s < i))) = (0 < l.getD s 0 ∧ (l.getD s 0 < L ∨ (l.getD s 0 = L ∧ s < i + 1))) := by
      apply propext; omega
    simp only [this]
theorem Pl.put {l vals : List Int} {L i : Nat} (h : Pl l L i vals) (hi : i < l.length) (hL : 1 ≤ L) (hx : l.getD i 0 = L) : Pl l L (i + 1) (vals.set i (wd l i)) := by
  refine ⟨by simp [h.1], fun s hs => ?_⟩
  by_cases e : s = i
  · subst e
    rw [if_pos (by omega)]
    simp [List.getD_eq_getElem?_getD, List.getElem?_set, h.1, hs]
  · have e2 : (vals.set i (wd l i)).getD s 0 = vals.getD s 0 := by
      simp [List.getD_eq_getElem?_getD, List.getElem?_set, Ne.symm e]
    rw [e2, h.2 s hs]
    have : (0 < l.getD s 0 ∧ (l.getD s 0 < L ∨ (l.getD s 0 = L ∧ s < i))) = (0 < l.getD s 0 ∧ (l.getD s 0 < L ∨ (l.getD s 0 = L ∧ s < i + 1))) := by
      apply propext; omega
    simp only [this]
theorem Pl.next {l vals : List Int} {L : Nat} (h : Pl l L l.length vals) : Pl l (L + 1) 0 vals := by
  refine ⟨h.1, fun s hs => ?_⟩
  rw [h.2 s hs]
  have : (0 < l.getD s 0 ∧ (l.getD s 0 < L ∨ (l.getD s 0 = L ∧ s < l.length))) = (0 < l.getD s 0 ∧ (l.getD s 0 < (L + 1 : Nat) ∨ (l.getD s 0 = (L + 1 : Nat) ∧ s < 0))) := by
    apply propext; omega
  simp only [this]
theorem Pl.done {l vals : List Int} (hR : Rt l) (h : Pl l 16 0 vals) : vals = WL l := by
  apply List.ext_getElem?
  intro s
  by_cases hs : s < l.length
  · have h1 := h.2 s hs
    have h2 := WL_getD l hs
    have h3 := hR.l15 s
    have e : (0 < l.getD s 0 ∧ (l.getD s 0 < (16 : Nat) ∨ (l.getD s 0 = (16 : Nat) ∧ s < 0))) = (0 < l.getD s 0) := by apply propext; omega
    simp only [e] at h1
    rw [← h2] at h1
    have a1 : s < vals.length := by rw [h.1]; exact hs
    have a2 : s < (WL l).length := by rw [WL_len]; exact hs
    rw [List.getElem?_eq_getElem a1, List.getElem?_eq_getElem a2]
    simp only [List.getD_eq_getElem?_getD, List.getElem?_eq_getElem a1, List.getElem?_eq_getElem a2, Option.getD_some] at h1
    rw [h1]
  · rw [List.getElem?_eq_none (by rw [h.1]; omega), List.getElem?_eq_none (by rw [WL_len]; omega)]
set_option maxRecDepth 10000
set_option maxHeartbeats 40000000
end Go.Proofs.Ytkkddgdcmdnnmaa
namespace Go.Proofs.Ytkkddgdcmdnnmaa
open Go Go.Sx Go.Proofs
/-! canon.Codes. -/
set_option maxRecDepth 10000
set_option maxHeartbeats 40000000
end Go.Proofs.Ytkkddgdcmdnnmaa
namespace Go.Proofs.Ytkkddgdcmdnnmaa
open Go Go.Sx Go.Proofs
/-! Words read out of bits, plainly. -/
def bt (b : List Int) (p : Nat) : Int := (bitL b).getD p 0
theorem bt_range (b : List Int) (p : Nat) : 0 ≤ bt b p ∧ bt b p ≤ 1 := by
  rcases getD_mem_or5 (l := bitL b) p with h | h
  · rcases bitL_bit b _ h with h | h <;> (unfold bt; omega)
  · unfold bt; omega
/-- The value of L bits, the first one the highest. -/
def xv (b : List Int) (p : Nat) : Nat → Int
  | 0 => 0
  | L + 1 => 2 * xv b p L + bt b (p + L)
theorem xv_range (b : List Int) (p : Nat) : ∀ L, 0 ≤ xv b p L ∧ xv b p L < 2 ^ L
  | 0 => by simp [xv]
  | L + 1 => by
    have h1 := xv_range b p L
    have h2 := bt_range b (p + L)
    have h3 : (2 : Int) ^ (L + 1) = 2 * 2 ^ L := by rw [Int.pow_succ]; omega
    simp only [xv]; omega
/-- A word (or too few bits) from place p: the symbol, the error, the place behind. -/
def Dec (l b : List Int) (p : Nat) (s e : Int) (q : Nat) : Prop :=
  (∃ L i : Nat, 1 ≤ L ∧ L ≤ 15 ∧ p + L ≤ 8 * b.length ∧ (∀ j, j < L → kp l l.length j ≤ xv b p j) ∧ xv b p L < kp l l.length L ∧ i < l.length ∧ l.getD i 0 = L ∧ cn l L i = xv b p L - st l L ∧ s = i ∧ e = 0 ∧ q = p + L) ∨
  (∃ L : Nat, L ≤ 14 ∧ p + L = 8 * b.length ∧ (∀ j, j ≤ L → kp l l.length j ≤ xv b p j) ∧ s = 0 ∧ e = 10 ∧ q = p + L)
theorem kp_top {l b : List Int} (hR : Rt l) (p : Nat) : xv b p 15 < kp l l.length 15 := by
  have := xv_range b p 15
  rw [hR.full]; omega
theorem rbit_con (b : List Int) (pos cap : Nat) (acc hv ai : Int) (hby : ∀ x ∈ b, isByte x) (hl : b.length ≤ 2 ^ 50) (h : RS b pos acc hv ai) :
    Con Try.prog 24 [.ptr 0 .z 4 0, .int .i64 1] [(.one 81 [.fn 39 [.ptr 1 .z 1 0, .ptr 2 .z 1 0], .int .u64 (acc), .int .i64 (hv), .fn 40 [.ptr 2 .z 1 0, .ptr 1 .z 1 0]]), .one 3 [.int .i64 ai], .one 22 [.slice 3 .z 1 b.length cap], .ro .u8 b]
      (fun v H R => ∃ acc2 hv2 ai2 x e, ∃ pos2, v = .tup [.int .u64 x, .int .i64 e] ∧ RS b pos2 acc2 hv2 ai2 ∧ ((e = 0 ∧ pos + 1 ≤ 8 * b.length ∧ x = bt b pos ∧ pos2 = pos + 1) ∨ (e = 10 ∧ 8 * b.length ≤ pos ∧ pos2 = pos)) ∧ R = [] ∧
        H = [(.one 81 [.fn 39 [.ptr 1 .z 1 0, .ptr 2 .z 1 0], .int .u64 (acc2), .int .i64 (hv2), .fn 40 [.ptr 2 .z 1 0, .ptr 1 .z 1 0]]), .one 3 [.int .i64 ai2], .one 22 [.slice 3 .z 1 b.length cap], .ro .u8 b]) := by
  refine (rbits_rs b pos cap 1 acc hv ai hby hl h).mono ?_
  rintro v H R ⟨rfl, rfl, acc2, hv2, ai2, h2, rfl⟩
  refine ⟨acc2, hv2, ai2, _, _, _, rfl, h2, ?_, rfl, rfl⟩
  by_cases hp : pos + 1 ≤ 8 * b.length
  · refine .inl ⟨?_, hp, ?_, ?_⟩
    · unfold rbE; rw [if_pos (by omega), if_pos (by omega)]
    · unfold rbX; rw [if_pos ⟨by omega, by omega, by omega⟩]; simp [bval, bt]
    · unfold rbP; rw [if_pos ⟨by omega, by omega, by omega⟩]; rfl
  · refine .inr ⟨?_, by omega, ?_⟩
    · unfold rbE; rw [if_pos (by omega), if_neg (by omega)]
    · unfold rbP; rw [if_neg (by omega)]
end Go.Proofs.Ytkkddgdcmdnnmaa
namespace Go.Proofs.Ytkkddgdcmdnnmaa
open Go Go.Sx Go.Proofs
/-! canon.Word. -/
def Mn (l : List Int) (i : Nat) (v : List Int) : Prop := v.length = 16 ∧ ∀ k : Nat, k < 16 → v.getD k 0 = cn l k i
theorem getD_rep0 (m k : Nat) : (List.replicate m (0 : Int)).getD k 0 = 0 := by
  by_cases h : k < m <;> simp [List.getD_eq_getElem?_getD, List.getElem?_replicate, h]
theorem Mn.zero (l : List Int) : Mn l 0 (List.replicate 16 0) := by
  refine ⟨by simp, fun k hk => ?_⟩
  rw [getD_rep0]
  rfl
theorem Mn.step {l v : List Int} {i x : Nat} (h : Mn l i v) (hx : l.getD i 0 = x) (h16 : x < 16) : Mn l (i + 1) (v.set x (v.getD x 0 + 1)) := by
  refine ⟨by simp [h.1], fun k hk => ?_⟩
  have h2 := h.2 k hk
  simp only [cn, hx]
  by_cases e : k = x
  · subst e
    rw [if_pos rfl, ← h2]
    simp [List.getD_eq_getElem?_getD, List.getElem?_set, h.1, hk]
  · rw [if_neg (by omega), ← h2]
    simp [List.getD_eq_getElem?_getD, List.getElem?_set, Ne.symm e]
set_option maxRecDepth 10000
set_option maxHeartbeats 40000000
theorem word_con (l b : List Int) (p cap cap2 : Nat) (acc hv ai : Int) (hR : Rt l) (hby : ∀ x ∈ b, isByte x) (hl : b.length ≤ 2 ^ 50) (hs : RS b p acc hv ai) (hp : p ≤ 8 * b.length) :
    Con Try.prog 60 [.ptr 0 .z 4 0, .slice 4 .z 1 l.length cap2] [(.one 81 [.fn 39 [.ptr 1 .z 1 0, .ptr 2 .z 1 0], .int .u64 (acc), .int .i64 (hv), .fn 40 [.ptr 2 .z 1 0, .ptr 1 .z 1 0]]), .one 3 [.int .i64 ai], .one 22 [.slice 3 .z 1 b.length cap], .ro .u8 b, .ro .u8 l]
      (fun v H R => ∃ acc2 hv2 ai2 s e, ∃ q, v = .tup [.int .i64 s, .int .i64 e] ∧ RS b q acc2 hv2 ai2 ∧ Dec l b p s e q ∧ R = [] ∧
        H = [(.one 81 [.fn 39 [.ptr 1 .z 1 0, .ptr 2 .z 1 0], .int .u64 (acc2), .int .i64 (hv2), .fn 40 [.ptr 2 .z 1 0, .ptr 1 .z 1 0]]), .one 3 [.int .i64 ai2], .one 22 [.slice 3 .z 1 b.length cap], .ro .u8 b, .ro .u8 l]) := by
  have hrd := fun pos acc hv ai h => rbit_con b pos cap acc hv ai hby hl h
  refine con_gen (con_cut 5 (by simp) (con_drop (con_walk hmix fn60 ?_)))
  intro vb vc vw vtoN vofN vaddN vsubN vmaxI vminI vcutN vgd vst vln vrep vsub vonto vsplice vstrEq vbyteV vnotB veqB hw qb qc qw qtoN qofN qaddN qsubN qmaxI qminI qcutN qgd qst qln qrep qsub qonto qsplice qstrEq qbyteV qnotB qeqB
  have hm := hmix; generalize Try.prog = P at *
  have hn1 := hR.n1
  have hu8 := hR.u8
  have hl15 := hR.l15
  have hbt := bt_range b
  have hxr := xv_range b p
  have hxs : ∀ L, xv b p (L + 1) = 2 * xv b p L + bt b (p + L) := fun _ => rfl
  have hx0 : xv b p 0 = 0 := rfl
  have hxt := kp_top (b := b) hR p
  have hk0 : kp l l.length 0 = 0 := rfl
  have hks : ∀ L, kp l l.length (L + 1) = 2 * kp l l.length L + cn l (L + 1 : Nat) l.length := fun _ => rfl
  have hkm := kp_mono l l.length
  have hkp := kp_nonneg l l.length
  have hc0 : ∀ k, cn l k 0 = 0 := fun _ => rfl
  have hcs : ∀ k i, cn l k (i + 1) = cn l k i + (if l.getD i 0 = k then 1 else 0) := fun _ _ => rfl
  have hcr := cn_range l
  have hm0 := Mn.zero l
  have hms := fun i v x => @Mn.step l v i x
  have hml : ∀ i v, Mn l i v → v.length = 16 := fun i v h => h.1
  have hmg : ∀ i v, Mn l i v → ∀ k : Nat, k < 16 → v.getD k 0 = cn l k i := fun i v h => h.2
  have hD1 : ∀ L i : Nat, 1 ≤ L → L ≤ 15 → p + L ≤ 8 * b.length → (∀ j, j < L → kp l l.length j ≤ xv b p j) → xv b p L < kp l l.length L → i < l.length → l.getD i 0 = L → cn l L i = xv b p L - st l L → Dec l b p i 0 (p + L) :=
    fun L i h1 h2 h3 h4 h5 h6 h7 h8 => .inl ⟨L, i, h1, h2, h3, h4, h5, h6, h7, h8, rfl, rfl, rfl⟩
  have hD2 : ∀ L : Nat, L ≤ 14 → p + L = 8 * b.length → (∀ j, j ≤ L → kp l l.length j ≤ xv b p j) → Dec l b p 0 10 (p + L) := fun L h1 h2 h3 => .inr ⟨L, h1, h2, h3, rfl, rfl, rfl⟩
  have hst : ∀ L, st l L = 2 * kp l l.length (L - 1) := fun _ => rfl
  generalize Dec l b p = DEC at *
  generalize st l = ST at *
  generalize xv b p = XV at *
  generalize bt b = BT at *
  generalize kp l l.length = KP at *
  generalize cn l = CN at *
  generalize Mn l = MN at *
  generalize RS b = RSb at *
  generalize hT : 8 * b.length = T at *
  generalize b.length = lb at *
  generalize hn : l.length = n at *
  have hto : ∀ i : Nat, vtoN (i : Int) = i := fun i => by simp only [qtoN, Int.toNat_natCast]
  have hadd0 : ∀ i, vaddN 0 i = i := fun i => by simp only [qaddN, Nat.zero_add]
  have hvl : ∀ l, vln l = l.length := fun l => by simp only [qln]
  have hvgd : ∀ l i, vgd l i = l.getD i 0 := fun l i => by simp only [qgd]
  have hvst : ∀ l i x, vst l i x = l.set i x := fun l i x => by simp only [qst]
  have hrep : ∀ n x, vrep n x = List.replicate n x := fun n x => by simp only [qrep]
  cbv
  refine loop_fam (α := Int × List Int) ([8] ++ [20, 21, 22, 23, 24, 25, 26, 27, 28]) [] (fun (k, _) => [(19, .int .i64 k)]) (fun (_, v) => [(5, .ints 131 .i64 v)])
    (fun (k, v) => ∃ i : Nat, k = i ∧ i ≤ n ∧ MN i v) (fun (k, _) => n - k.toNat) hw hm ?_ ?_
  · refine Cv.genAt [19] [5] (Cv.fold ([8] ++ [20, 21, 22, 23, 24, 25, 26, 27, 28]) 6 [] (by exact Nat.le_refl _) (by exact Nat.le_of_ble_eq_true rfl) (by rfl) (by cbv) ?_)
    intro js
    refine ⟨(_, _), ?_, js, rfl⟩
    exact ⟨0, rfl, by omega, by rw [hrep]; exact hm0⟩
  · rintro ⟨k, v⟩ js ⟨i, hk, hi, hv⟩
    cbv
    split
    · rename_i hlt
      have hlt : i < n := by rw [qc, lss_true] at hlt; simp only [qofN] at hlt; simp only [nc] at *; omega
      have hti : vtoN k = i := by rw [hk]; exact hto i
      have hinR : 0 ≤ k ∧ k < (n : Int) := by simp only [nc] at *; omega
      obtain ⟨k1, hk1⟩ : ∃ k1 : Int, k1 = ((i + 1 : Nat) : Int) := ⟨_, rfl⟩
      have ek : vb .add .i64 k 1 = k1 := by simp only [nc] at *; rw [qb, add_i64 (by omega) (by omega)]; omega
      have hmu : ∀ _ : Unit, n - k1.toNat < n - k.toNat := fun _ => by simp only [nc] at *; omega
      have hu := hu8 i
      have h15 := hl15 i
      have hvl1 := hvl l
      have hvl2 := hvl v
      have hv16 := hml i v hv
      obtain ⟨x, hx⟩ : ∃ x : Nat, l.getD i 0 = x := ⟨(l.getD i 0).toNat, by omega⟩
      have hx16 : x < 16 := by omega
      have hvx := hmg i v hv x hx16
      have hcx := hcr x i
      have hstep := hms i v x hv hx (by omega)
      rw [← hvst] at hstep
      obtain ⟨xI, hxI⟩ : ∃ xI : Int, xI = x := ⟨_, rfl⟩
      have htx : vtoN xI = x := by rw [hxI]; exact hto x
      obtain ⟨y, hy⟩ : ∃ y : Int, y = v.getD x 0 := ⟨_, rfl⟩
      have ey : vb .add .i64 y 1 = y + 1 := by simp only [nc] at *; rw [qb, add_i64 (by omega) (by omega)]
      rw [← hxI] at hx
      have hinX : 0 ≤ xI ∧ xI < (16 : Int) := by omega
      cbv
      rw [hti, hadd0, hvgd, hx]
      refine ⟨⟨hinR⟩, ⟨by omega⟩, ⟨by omega⟩, ?_⟩
      rw [htx, hvgd, ← hy, ey, ek]
      rw [← hy] at hstep
      have hlx : x < vln v := by omega
      refine ⟨⟨hinX⟩, ⟨hlx⟩, ⟨hinX⟩, ⟨hlx⟩, ?_⟩
      refine Cv.fold ([8] ++ [20, 21, 22, 23, 24, 25, 26, 27, 28]) 6 [] (by exact Nat.le_refl _) (by exact Nat.le_of_ble_eq_true rfl) (by rfl) (by cbv) ?_
      intro js
      refine ⟨(_, _), ?_, js, rfl⟩
      exact ⟨⟨i + 1, hk1, hlt, hstep⟩, hmu ()⟩
    · rename_i hge
      have hin : i = n := by rw [qc, lss_false] at hge; simp only [qofN] at hge; simp only [nc] at *; omega
      subst hin
      have hv16 := hml i v hv
      have hmv := hmg i v hv
      have hvl2 := hvl v
      have hvl1 := hvl l
      clear hm0 hms hml hmg hv
      cbv
      refine loop_fam (α := Int × Int × Int × Int × Int × Int) ([12, 13, 14, 15, 16] ++ [29, 30, 31, 32, 33, 34, 35, 36, 37, 38, 39, 40, 41, 42, 43, 44, 45, 46, 47, 48, 49, 50, 51, 52, 53, 54, 55, 56, 57, 58, 59, 60, 61, 62, 63, 64, 65, 66, 67, 68, 69, 70, 71, 72, 73, 74, 75, 76, 77, 78, 79]) [] (fun (k, x, f, _, _, _) => [(11, .int .i64 k), (9, .int .i64 x), (10, .int .i64 f)])
        (fun (_, _, _, acc, hv, ai) => [(0, .one 81 [.fn 39 [.ptr 1 .z 1 0, .ptr 2 .z 1 0], .int .u64 acc, .int .i64 hv, .fn 40 [.ptr 2 .z 1 0, .ptr 1 .z 1 0]]), (1, .one 3 [.int .i64 ai])])
        (fun (k, x, f, acc, hv, ai) => ∃ L : Nat, k = L ∧ 1 ≤ L ∧ L ≤ 16 ∧ x = XV (L - 1) ∧ f = KP (L - 1) ∧ p + (L - 1) ≤ T ∧ (∀ j, j < L → KP j ≤ XV j) ∧ RSb (p + (L - 1)) acc hv ai) (fun (k, _) => 16 - k.toNat) hw hm ?_ ?_
      · refine Cv.genAt [11, 9, 10] [0, 1] (Cv.fold ([12, 13, 14, 15, 16] ++ [29, 30, 31, 32, 33, 34, 35, 36, 37, 38, 39, 40, 41, 42, 43, 44, 45, 46, 47, 48, 49, 50, 51, 52, 53, 54, 55, 56, 57, 58, 59, 60, 61, 62, 63, 64, 65, 66, 67, 68, 69, 70, 71, 72, 73, 74, 75, 76, 77, 78, 79]) 6 [] (by exact Nat.le_refl _) (by exact Nat.le_of_ble_eq_true rfl) (by rfl) (by cbv) ?_)
        intro js
        refine ⟨(_, _, _, _, _, _), ?_, js, rfl⟩
        exact ⟨1, rfl, by omega, by omega, hx0.symm, hk0.symm, hp, fun j hj => by (have h0 : j = 0 := by omega); subst h0; omega, hs⟩
      · rintro ⟨k, x, f, acc, hv, ai⟩ js ⟨L, hk, hL1, hL2, hx, hf, hpT, hj, hrs⟩
        cbv
        split
        · rename_i hlt
          have hlt : L ≤ 15 := by rw [qc, leq_eq] at hlt; simp only [decide_eq_true_eq] at hlt; simp only [nc] at *; omega
          have hrd1 := hrd (p + (L - 1)) acc hv ai hrs
          cbv
          refine call_con (ρ := [(0, .z), (1, .z), (2, .z), (3, .z)]) hrd1 ⟨by rfl, by rfl, by rfl, by cbv; exact ⟨⟨⟨by omega, fun i _ => by rw [Nat.zero_add]⟩⟩, trivial⟩⟩ ?_
          rintro v H R js2 ⟨acc2, hv2, ai2, y, e, pos2, rfl, hrs2, hcase, rfl, rfl⟩
          cbv
          have hne0 : vc .neq 0 0 = false := by rw [qc]; rfl
          have hne1 : vc .neq 10 0 = true := by rw [qc]; rfl
          rcases hcase with ⟨rfl, hp1, hy, rfl⟩ | ⟨rfl, hp1, rfl⟩
          rotate_left
          · rw [hne1]
            cbv
            exact ⟨acc2, hv2, ai2, 0, 10, _, rfl, hrs2, hD2 (L - 1) (by omega) (by omega) (fun j h => hj j (by omega)), rfl, rfl⟩
          rw [hne0]
          cbv
          obtain ⟨M, rfl⟩ : ∃ M, L = M + 1 := ⟨L - 1, by omega⟩
          simp only [nc] at hk
          simp only [Nat.add_sub_cancel] at hx hf hpT hrs hy hrs2 hp1
          have hxL := hxs M
          have hkL := hks M
          have hstL := hst (M + 1)
          simp only [Nat.add_sub_cancel] at hstL
          have hb1 := hbt (p + M)
          have hxr1 := hxr (M + 1)
          have hxr0 := hxr M
          have hj0 := hj M (by omega)
          have hkp0 := hkp M
          simp only [nc] at hkL
          rw [← hk] at hkL
          have hcr1 := hcr k i
          have hpw : (2 : Int) ^ (M + 1) ≤ 2 ^ 15 := pow_up hlt
          have hpw0 : (2 : Int) ^ M ≤ 2 ^ 15 := pow_up (by omega)
          obtain ⟨x1, hx1⟩ : ∃ x1, x1 = XV (M + 1) := ⟨_, rfl⟩
          obtain ⟨f1, hf1⟩ : ∃ f1, f1 = ST (M + 1) := ⟨_, rfl⟩
          obtain ⟨d1, hd1⟩ : ∃ d1, d1 = x1 - f1 := ⟨_, rfl⟩
          obtain ⟨c1, hc1⟩ : ∃ c1, c1 = CN k i := ⟨_, rfl⟩
          obtain ⟨x2, hx2⟩ : ∃ x2, x2 = 2 * x := ⟨_, rfl⟩
          have em1 : vb .mul .i64 2 x = x2 := by rw [qb, mul_i64 (by omega) (by omega)]; omega
          have ew1 : vw .i64 y = y := by rw [qw]; exact wrap_i64 (by omega) (by omega)
          have ea1 : vb .add .i64 x2 y = x1 := by rw [qb, add_i64 (by omega) (by omega)]; omega
          have em2 : vb .mul .i64 2 f = f1 := by rw [qb, mul_i64 (by omega) (by omega)]; omega
          have es1 : vb .sub .i64 x1 f1 = d1 := by rw [qb, sub_i64 (by omega) (by omega)]; omega
          have htk : vtoN k = M + 1 := by rw [hk]; exact hto _
          have hgk : v.getD (M + 1) 0 = c1 := by have := hmv (M + 1) (by omega); simp only [nc] at this; rw [this, hc1, hk]
          have hinK : 0 ≤ k ∧ k < (16 : Int) := by omega
          have hlk : M + 1 < vln v := by omega
          have hmu : ∀ k1 : Int, k1 = ((M + 1 + 1 : Nat) : Int) → ∀ _ : Unit, 16 - k1.toNat < 16 - k.toNat := by intro k1 h _; omega
          obtain ⟨k1, hk1⟩ : ∃ k1 : Int, k1 = ((M + 1 + 1 : Nat) : Int) := ⟨_, rfl⟩
          have hmu := hmu k1 hk1
          have ek : vb .add .i64 k 1 = k1 := by rw [qb, add_i64 (by omega) (by omega)]; omega
          rw [em1, ew1, ea1, em2, es1, htk, hvgd, hgk]
          refine ⟨⟨hinK⟩, ⟨hlk⟩, ?_⟩
          generalize hz : vc .geq d1 c1 = z
          cases z
          rotate_left
          · rw [qc, geq_eq] at hz
            simp only [decide_eq_true_eq] at hz
            obtain ⟨f2, hf2⟩ : ∃ f2, f2 = KP (M + 1) := ⟨_, rfl⟩
            have ea2 : vb .add .i64 f1 c1 = f2 := by rw [qb, add_i64 (by omega) (by omega)]; omega
            cbv
            rw [htk, hvgd, hgk, ea2, ek]
            refine ⟨⟨hinK⟩, ⟨hlk⟩, ?_⟩
            refine Cv.fold ([12, 13, 14, 15, 16] ++ [29, 30, 31, 32, 33, 34, 35, 36, 37, 38, 39, 40, 41, 42, 43, 44, 45, 46, 47, 48, 49, 50, 51, 52, 53, 54, 55, 56, 57, 58, 59, 60, 61, 62, 63, 64, 65, 66, 67, 68, 69, 70, 71, 72, 73, 74, 75, 76, 77, 78, 79]) 6 [] (by exact Nat.le_refl _) (by exact Nat.le_of_ble_eq_true rfl) (by rfl) (by cbv) ?_
            intro js
            refine ⟨(_, _, _, _, _, _), ?_, js, rfl⟩
            refine ⟨⟨M + 1 + 1, hk1, by omega, by omega, hx1, hf2, by simp only [Nat.add_sub_cancel]; omega, fun j h => ?_, hrs2⟩, hmu ()⟩
            by_cases hjM : j = M + 1
            · subst hjM; omega
            · exact hj j (by omega)
          · rw [qc, geq_eq] at hz
            simp only [decide_eq_false_iff_not] at hz
            have hp2 : p + (M + 1) ≤ T := by omega
            have hxk : XV (M + 1) < KP (M + 1) := by omega
            have hM15 : M + 1 ≤ 15 := hlt
            have hD1k : ∀ u, u < i → l.getD u 0 = k → CN k u = XV (M + 1) - ST (M + 1) → DEC u 0 (p + (M + 1)) := fun u h1 h2 h3 => by
              subst hk; exact hD1 (M + 1) u (by omega) hM15 hp2 hj hxk h1 h2 h3
            cbv
            refine loop_fam (α := Int × Int) ([15, 16] ++ [66, 67, 68, 69, 70, 71, 72, 73, 74, 75, 76, 77, 78, 79]) [] (fun (q, d) => [(65, .int .i64 q), (14, .int .i64 d)]) (fun _ => [])
              (fun (q, d) => ∃ u : Nat, q = u ∧ u ≤ i ∧ d = d1 - CN k u ∧ 0 ≤ d) (fun (q, _) => i - q.toNat) hw hm ?_ ?_
            · refine Cv.genAt [65, 14] [] (Cv.fold ([15, 16] ++ [66, 67, 68, 69, 70, 71, 72, 73, 74, 75, 76, 77, 78, 79]) 6 [] (by exact Nat.le_refl _) (by exact Nat.le_of_ble_eq_true rfl) (by rfl) (by cbv) ?_)
              intro js
              refine ⟨(_, _), ?_, js, rfl⟩
              have h00 := hc0 k
              exact ⟨0, rfl, by omega, by omega, by omega⟩
            · rintro ⟨q, d⟩ js3 ⟨u, hq, hu, hd, hd0⟩
              cbv
              split
              · rename_i hlt2
                have hlt2 : u < i := by rw [qc, lss_true] at hlt2; simp only [qofN] at hlt2; simp only [nc] at *; omega
                have htq : vtoN q = u := by rw [hq]; exact hto u
                have hinR : 0 ≤ q ∧ q < (i : Int) := by simp only [nc] at *; omega
                obtain ⟨q1, hq1⟩ : ∃ q1 : Int, q1 = ((u + 1 : Nat) : Int) := ⟨_, rfl⟩
                have eq1 : vb .add .i64 q 1 = q1 := by simp only [nc] at *; rw [qb, add_i64 (by omega) (by omega)]; omega
                have hmu2 : ∀ _ : Unit, i - q1.toNat < i - q.toNat := fun _ => by simp only [nc] at *; omega
                have hxu := hu8 u
                have hxu1 := hl15 u
                have hcu := hcs k u
                have hcru := hcr k u
                have hlu : u < vln l := by omega
                have hfin : l.getD u 0 = k → d = 0 → DEC u 0 (p + (M + 1)) := fun h1 h2 => hD1k u hlt2 h1 (by omega)
                cbv
                rw [htq, hadd0, hvgd]
                refine ⟨⟨hinR⟩, ⟨hlu⟩, ⟨hlu⟩, ?_⟩
                generalize hxg : l.getD u 0 = g at *
                have ewg : vw .i64 g = g := by rw [qw]; exact wrap_i64 (by omega) (by omega)
                rw [ewg]
                generalize hz3 : vc .neq g k = z3
                cases z3
                rotate_left
                · rw [qc, neq_eq] at hz3
                  simp only [decide_eq_true_eq] at hz3
                  rw [if_neg (by omega)] at hcu
                  cbv
                  rw [eq1]
                  refine Cv.fold ([15, 16] ++ [66, 67, 68, 69, 70, 71, 72, 73, 74, 75, 76, 77, 78, 79]) 6 [] (by exact Nat.le_refl _) (by exact Nat.le_of_ble_eq_true rfl) (by rfl) (by cbv) ?_
                  intro js
                  refine ⟨(_, _), ?_, js, rfl⟩
                  exact ⟨⟨u + 1, hq1, hlt2, by omega, hd0⟩, hmu2 ()⟩
                · rw [qc, neq_eq] at hz3
                  simp only [decide_eq_false_iff_not, Decidable.not_not] at hz3
                  have hgM : g = k := hz3
                  have hfin := hfin hgM
                  rw [if_pos hgM] at hcu
                  cbv
                  generalize hz4 : vc .eql d 0 = z4
                  cases z4
                  rotate_left
                  · rw [qc, eql_true] at hz4
                    have hfin := hfin hz4
                    rw [← hq] at hfin
                    cbv
                    exact ⟨acc2, hv2, ai2, q, 0, _, rfl, hrs2, hfin, rfl, rfl⟩
                  · rw [qc, eql_false] at hz4
                    obtain ⟨d2, hd2⟩ : ∃ d2, d2 = d - 1 := ⟨_, rfl⟩
                    have ed2 : vb .sub .i64 d 1 = d2 := by rw [qb, sub_i64 (by omega) (by omega)]; omega
                    cbv
                    rw [ed2, eq1]
                    refine Cv.fold ([15, 16] ++ [66, 67, 68, 69, 70, 71, 72, 73, 74, 75, 76, 77, 78, 79]) 6 [] (by exact Nat.le_refl _) (by exact Nat.le_of_ble_eq_true rfl) (by rfl) (by cbv) ?_
                    intro js
                    refine ⟨(_, _), ?_, js, rfl⟩
                    exact ⟨⟨u + 1, hq1, hlt2, by rw [hd2, hd, hcu]; omega, by omega⟩, hmu2 ()⟩
              · rename_i hge
                have hui : u = i := by rw [qc, lss_false] at hge; simp only [qofN] at hge; simp only [nc] at *; omega
                rw [hui] at hd
                omega
        · rename_i hge
          have hL : L = 16 := by rw [qc, leq_eq] at hge; simp only [Bool.not_eq_true, decide_eq_false_iff_not] at hge; simp only [nc] at *; omega
          have := hj 15 (by omega)
          omega
end Go.Proofs.Ytkkddgdcmdnnmaa
namespace Go.Proofs.Ytkkddgdcmdnnmaa
open Go Go.Sx Go.Proofs
/-! canon.Read. -/
set_option maxRecDepth 10000
set_option maxHeartbeats 4000000
theorem read5_ok (l b : List Int) (p cap cap2 : Nat) (acc hv ai : Int) (hlu : ∀ c ∈ l, isU8 c) (h5 : Right5 l) (hby : ∀ x ∈ b, isByte x) (hl : b.length ≤ 2 ^ 50) (hs : RS b p acc hv ai) (hp : p ≤ 8 * b.length) :
    Con Try.prog 32 [.ptr 0 .z 4 0, .slice 4 .z 1 l.length cap2] [(.one 81 [.fn 39 [.ptr 1 .z 1 0, .ptr 2 .z 1 0], .int .u64 (acc), .int .i64 (hv), .fn 40 [.ptr 2 .z 1 0, .ptr 1 .z 1 0]]), .one 3 [.int .i64 ai], .one 22 [.slice 3 .z 1 b.length cap], .ro .u8 b, .ro .u8 l]
      (fun v H R => ∃ acc2 hv2 ai2 s e, ∃ q, v = .tup [.int .i64 s, .int .i64 e] ∧ RS b q acc2 hv2 ai2 ∧ Dec l b p s e q ∧ R = [] ∧
        H = [(.one 81 [.fn 39 [.ptr 1 .z 1 0, .ptr 2 .z 1 0], .int .u64 (acc2), .int .i64 (hv2), .fn 40 [.ptr 2 .z 1 0, .ptr 1 .z 1 0]]), .one 3 [.int .i64 ai2], .one 22 [.slice 3 .z 1 b.length cap], .ro .u8 b, .ro .u8 l]) := by
  have hR := h5.rt hlu
  have hw1 := word_con l b p cap cap2 acc hv ai hR hby hl hs hp
  have hrt := right5_con l cap2 hlu (by have := hR.n1; omega) true (by simp [h5])
  refine con_gen (con_cut 5 (by simp) (con_drop (con_walk hmix fn32 ?_)))
  intro vb vc vw vtoN vofN vaddN vsubN vmaxI vminI vcutN vgd vst vln vrep vsub vonto vsplice vstrEq vbyteV vnotB veqB hw qb qc qw qtoN qofN qaddN qsubN qmaxI qminI qcutN qgd qst qln qrep qsub qonto qsplice qstrEq qbyteV qnotB qeqB
  have hm := hmix; generalize Try.prog = P at *
  generalize Dec l b p = DEC at *
  generalize RS b = RSb at *
  generalize b.length = lb at *
  generalize hn : l.length = n at *
  have hnf1 : vnotB true = false := by simp only [qnotB]; rfl
  cbv
  refine call_con (ρ := [(4, .z)]) hrt ⟨by rfl, by rfl, by rfl, by cbv; exact ⟨⟨⟨by omega, fun i _ => by rw [Nat.zero_add]⟩⟩, trivial⟩⟩ ?_
  rintro v H R js ⟨rfl, rfl, rfl⟩
  cbv
  rw [hnf1]
  cbv
  refine call_con (ρ := [(0, .z), (1, .z), (2, .z), (3, .z), (4, .z)]) hw1 ⟨by rfl, by rfl, by rfl, by cbv; exact ⟨⟨⟨by omega, fun i _ => by rw [Nat.zero_add]⟩⟩, ⟨⟨by omega, fun i _ => by rw [Nat.zero_add]⟩⟩, trivial⟩⟩ ?_
  rintro v H R js ⟨acc2, hv2, ai2, s, e, q, rfl, h1, h2, rfl, rfl⟩
  cbv
  exact ⟨acc2, hv2, ai2, s, e, q, rfl, h1, h2, rfl, rfl⟩
theorem read5_bad (l b : List Int) (lb cap cap2 : Nat) (acc hv ai : Int) (hlu : ∀ c ∈ l, isU8 c) (hlen : l.length ≤ 9223372036854775807) (h5 : ¬ Right5 l) :
    Con Try.prog 32 [.ptr 0 .z 4 0, .slice 4 .z 1 l.length cap2] [(.one 81 [.fn 39 [.ptr 1 .z 1 0, .ptr 2 .z 1 0], .int .u64 (acc), .int .i64 (hv), .fn 40 [.ptr 2 .z 1 0, .ptr 1 .z 1 0]]), .one 3 [.int .i64 ai], .one 22 [.slice 3 .z 1 lb cap], .ro .u8 b, .ro .u8 l]
      (fun v H R => v = .tup [.int .i64 0, .int .i64 50] ∧ H = [(.one 81 [.fn 39 [.ptr 1 .z 1 0, .ptr 2 .z 1 0], .int .u64 (acc), .int .i64 (hv), .fn 40 [.ptr 2 .z 1 0, .ptr 1 .z 1 0]]), .one 3 [.int .i64 ai], .one 22 [.slice 3 .z 1 lb cap], .ro .u8 b, .ro .u8 l] ∧ R = []) := by
  have hrt := right5_con l cap2 hlu hlen false (by simp [h5])
  refine con_gen (con_cut 5 (by simp) (con_drop (con_walk hmix fn32 ?_)))
  intro vb vc vw vtoN vofN vaddN vsubN vmaxI vminI vcutN vgd vst vln vrep vsub vonto vsplice vstrEq vbyteV vnotB veqB hw qb qc qw qtoN qofN qaddN qsubN qmaxI qminI qcutN qgd qst qln qrep qsub qonto qsplice qstrEq qbyteV qnotB qeqB
  have hm := hmix; generalize Try.prog = P at *
  generalize hn : l.length = n at *
  have hnf1 : vnotB false = true := by simp only [qnotB]; rfl
  cbv
  refine call_con (ρ := [(4, .z)]) hrt ⟨by rfl, by rfl, by rfl, by cbv; exact ⟨⟨⟨by omega, fun i _ => by rw [Nat.zero_add]⟩⟩, trivial⟩⟩ ?_
  rintro v H R js ⟨rfl, rfl, rfl⟩
  cbv
  rw [hnf1]
  cbv
end Go.Proofs.Ytkkddgdcmdnnmaa
namespace Go.Proofs.Ytkkddgdcmdnnmaa
open Go Go.Sx Go.Proofs
/-! The nil reader and writer; Next. -/
set_option maxRecDepth 10000
set_option maxHeartbeats 4000000
theorem reading25_nil (size : Int) : Con Try.prog 25 [.val (.pointer none), .fn 26 [.ptr 0 .z 1 0, .ptr 1 .z 1 0]] [.one 33 [.val (.pointer none)], .one 3 [.int .i64 size]]
    (fun v H R => v = .tup [.agg [.val (.slice none 0 0), .int .i64 0], .int .i64 1] ∧ H = [.one 33 [.val (.pointer none)], .one 3 [.int .i64 size]] ∧ R = []) := by
  refine con_gen (con_cut 2 (by simp) (con_drop (con_walk hmix fn25 ?_)))
  intro vb vc vw vtoN vofN vaddN vsubN vmaxI vminI vcutN vgd vst vln vrep vsub vonto vsplice vstrEq vbyteV vnotB veqB hw qb qc qw qtoN qofN qaddN qsubN qmaxI qminI qcutN qgd qst qln qrep qsub qonto qsplice qstrEq qbyteV qnotB qeqB
  have hm := hmix; generalize Try.prog = P at *
  cbv
theorem reading37_nil : Con Try.prog 37 [.val (.pointer none), .fn 38 [.ptr 0 .z 1 0]] [.one 33 [.val (.pointer none)]]
    (fun v H R => v = .tup [.int .i64 0, .int .i64 1] ∧ H = [.one 33 [.val (.pointer none)]] ∧ R = []) := by
  refine con_gen (con_cut 1 (by simp) (con_drop (con_walk hmix fn37 ?_)))
  intro vb vc vw vtoN vofN vaddN vsubN vmaxI vminI vcutN vgd vst vln vrep vsub vonto vsplice vstrEq vbyteV vnotB veqB hw qb qc qw qtoN qofN qaddN qsubN qmaxI qminI qcutN qgd qst qln qrep qsub qonto qsplice qstrEq qbyteV qnotB qeqB
  have hm := hmix; generalize Try.prog = P at *
  cbv
theorem reading33_nil (trees size : Int) : Con Try.prog 33 [.val (.pointer none), .fn 34 [.ptr 0 .z 1 0, .ptr 1 .z 1 0, .ptr 2 .z 1 0]] [.one 33 [.val (.pointer none)], .one 3 [.int .i64 trees], .one 3 [.int .i64 size]]
    (fun v H R => v = .tup [.val (.slice none 0 0), .int .i64 1] ∧ H = [.one 33 [.val (.pointer none)], .one 3 [.int .i64 trees], .one 3 [.int .i64 size]] ∧ R = []) := by
  refine con_gen (con_cut 3 (by simp) (con_drop (con_walk hmix fn33 ?_)))
  intro vb vc vw vtoN vofN vaddN vsubN vmaxI vminI vcutN vgd vst vln vrep vsub vonto vsplice vstrEq vbyteV vnotB veqB hw qb qc qw qtoN qofN qaddN qsubN qmaxI qminI qcutN qgd qst qln qrep qsub qonto qsplice qstrEq qbyteV qnotB qeqB
  have hm := hmix; generalize Try.prog = P at *
  cbv
theorem read_nil (size : Int) : Con Try.prog 7 [.val (.pointer none), .int .i64 size] [] (fun v H R => v = .tup [.agg [.val (.slice none 0 0), .int .i64 0], .int .i64 1] ∧ H = [] ∧ R = []) := by
  have g := reading25_nil size
  refine con_gen (con_cut 0 (by simp) (con_drop (con_walk hmix fn7 ?_)))
  intro vb vc vw vtoN vofN vaddN vsubN vmaxI vminI vcutN vgd vst vln vrep vsub vonto vsplice vstrEq vbyteV vnotB veqB hw qb qc qw qtoN qofN qaddN qsubN qmaxI qminI qcutN qgd qst qln qrep qsub qonto qsplice qstrEq qbyteV qnotB qeqB
  have hm := hmix; generalize Try.prog = P at *
  cbv
  refine call_con (ρ := [(0, .z), (1, .z)]) g ⟨by rfl, by rfl, by rfl, by cbv⟩ ?_
  rintro v H R js ⟨rfl, rfl, rfl⟩
  cbv
theorem map_nil (trees size : Int) : Con Try.prog 9 [.val (.pointer none), .int .i64 trees, .int .i64 size] [] (fun v H R => v = .tup [.val (.slice none 0 0), .int .i64 1] ∧ H = [] ∧ R = []) := by
  have g := reading33_nil trees size
  refine con_gen (con_cut 0 (by simp) (con_drop (con_walk hmix fn9 ?_)))
  intro vb vc vw vtoN vofN vaddN vsubN vmaxI vminI vcutN vgd vst vln vrep vsub vonto vsplice vstrEq vbyteV vnotB veqB hw qb qc qw qtoN qofN qaddN qsubN qmaxI qminI qcutN qgd qst qln qrep qsub qonto qsplice qstrEq qbyteV qnotB qeqB
  have hm := hmix; generalize Try.prog = P at *
  cbv
  refine call_con (ρ := [(0, .z), (1, .z), (2, .z)]) g ⟨by rfl, by rfl, by rfl, by cbv⟩ ?_
  rintro v H R js ⟨rfl, rfl, rfl⟩
  cbv
theorem count_nil : Con Try.prog 10 [.val (.pointer none)] [] (fun v H R => v = .tup [.int .i64 0, .int .i64 1] ∧ H = [] ∧ R = []) := by
  have g := reading37_nil
  refine con_gen (con_cut 0 (by simp) (con_drop (con_walk hmix fn10 ?_)))
  intro vb vc vw vtoN vofN vaddN vsubN vmaxI vminI vcutN vgd vst vln vrep vsub vonto vsplice vstrEq vbyteV vnotB veqB hw qb qc qw qtoN qofN qaddN qsubN qmaxI qminI qcutN qgd qst qln qrep qsub qonto qsplice qstrEq qbyteV qnotB qeqB
  have hm := hmix; generalize Try.prog = P at *
  cbv
  refine call_con (ρ := [(0, .z)]) g ⟨by rfl, by rfl, by rfl, by cbv⟩ ?_
  rintro v H R js ⟨rfl, rfl, rfl⟩
  cbv
theorem next_nil (l : List Int) (n cap : Nat) (one : Int) : Con Try.prog 8 [.val (.pointer none), .agg [.slice 0 .z 1 n cap, .int .i64 one]] [.ro .u8 l] (fun v H R => v = .tup [.int .i64 0, .int .i64 1] ∧ H = [.ro .u8 l] ∧ R = []) := by
  refine con_gen (con_cut 1 (by simp) (con_drop (con_walk hmix fn8 ?_)))
  intro vb vc vw vtoN vofN vaddN vsubN vmaxI vminI vcutN vgd vst vln vrep vsub vonto vsplice vstrEq vbyteV vnotB veqB hw qb qc qw qtoN qofN qaddN qsubN qmaxI qminI qcutN qgd qst qln qrep qsub qonto qsplice qstrEq qbyteV qnotB qeqB
  have hm := hmix; generalize Try.prog = P at *
  cbv
theorem write_nil (l : List Int) (n cap : Nat) (one size : Int) : Con Try.prog 12 [.val (.pointer none), .agg [.slice 0 .z 1 n cap, .int .i64 one], .int .i64 size] [.ro .u8 l] (fun v H R => v = .int .i64 1 ∧ H = [.ro .u8 l] ∧ R = []) := by
  refine con_gen (con_cut 1 (by simp) (con_drop (con_walk hmix fn12 ?_)))
  intro vb vc vw vtoN vofN vaddN vsubN vmaxI vminI vcutN vgd vst vln vrep vsub vonto vsplice vstrEq vbyteV vnotB veqB hw qb qc qw qtoN qofN qaddN qsubN qmaxI qminI qcutN qgd qst qln qrep qsub qonto qsplice qstrEq qbyteV qnotB qeqB
  have hm := hmix; generalize Try.prog = P at *
  cbv
/-- Next, of a reader: whatever it tells, an error of the code where the lengths make none. -/
theorem next_con (l b : List Int) (cap cap2 : Nat) (acc hv ai one : Int) (hlu : ∀ c ∈ l, isU8 c) (hlen : l.length ≤ 9223372036854775807) (hby : ∀ x ∈ b, isByte x) (hl : b.length ≤ 2 ^ 50) (h : RS b 0 acc hv ai) :
    Con Try.prog 8 [.ptr 0 .z 4 0, .agg [.slice 4 .z 1 l.length cap2, .int .i64 one]] [(.one 81 [.fn 39 [.ptr 1 .z 1 0, .ptr 2 .z 1 0], .int .u64 acc, .int .i64 hv, .fn 40 [.ptr 2 .z 1 0, .ptr 1 .z 1 0]]), .one 3 [.int .i64 ai], .one 22 [.slice 3 .z 1 b.length cap], .ro .u8 b, .ro .u8 l]
      (fun v H R => R = [] ∧ ∃ s e, v = .tup [.int .i64 s, .int .i64 e] ∧ (l.length ≠ 0 → ¬ Right5 l → e = 50) ∧ ∃ acc2 hv2 ai2, H = [(.one 81 [.fn 39 [.ptr 1 .z 1 0, .ptr 2 .z 1 0], .int .u64 acc2, .int .i64 hv2, .fn 40 [.ptr 2 .z 1 0, .ptr 1 .z 1 0]]), .one 3 [.int .i64 ai2], .one 22 [.slice 3 .z 1 b.length cap], .ro .u8 b, .ro .u8 l]) := by
  by_cases h0 : l.length = 0
  · refine con_gen (con_cut 5 (by simp) (con_drop (con_walk hmix fn8 ?_)))
    intro vb vc vw vtoN vofN vaddN vsubN vmaxI vminI vcutN vgd vst vln vrep vsub vonto vsplice vstrEq vbyteV vnotB veqB hw qb qc qw qtoN qofN qaddN qsubN qmaxI qminI qcutN qgd qst qln qrep qsub qonto qsplice qstrEq qbyteV qnotB qeqB
    have hm := hmix; generalize Try.prog = P at *
    generalize b.length = bl at *
    generalize hln : l.length = ln at *
    subst h0
    have e : vc .eql (vofN 0) 0 = true := by rw [qc, qofN]; rfl
    cbv
    rw [e]
    cbv
    exact ⟨one, 0, rfl, fun h => (h rfl).elim, acc, hv, ai, rfl⟩
  have g : Con Try.prog 32 [.ptr 0 .z 4 0, .slice 4 .z 1 l.length cap2] [(.one 81 [.fn 39 [.ptr 1 .z 1 0, .ptr 2 .z 1 0], .int .u64 acc, .int .i64 hv, .fn 40 [.ptr 2 .z 1 0, .ptr 1 .z 1 0]]), .one 3 [.int .i64 ai], .one 22 [.slice 3 .z 1 b.length cap], .ro .u8 b, .ro .u8 l]
      (fun v H R => R = [] ∧ ∃ s e, v = .tup [.int .i64 s, .int .i64 e] ∧ (¬ Right5 l → e = 50) ∧ ∃ acc2 hv2 ai2, H = [(.one 81 [.fn 39 [.ptr 1 .z 1 0, .ptr 2 .z 1 0], .int .u64 acc2, .int .i64 hv2, .fn 40 [.ptr 2 .z 1 0, .ptr 1 .z 1 0]]), .one 3 [.int .i64 ai2], .one 22 [.slice 3 .z 1 b.length cap], .ro .u8 b, .ro .u8 l]) := by
    by_cases h5 : Right5 l
    · refine (read5_ok l b 0 cap cap2 acc hv ai hlu h5 hby hl h (by omega)).mono ?_
      rintro v H R ⟨acc2, hv2, ai2, s, e, q, rfl, _, _, rfl, rfl⟩
      exact ⟨rfl, s, e, rfl, fun h => (h h5).elim, acc2, hv2, ai2, rfl⟩
    · refine (read5_bad l b b.length cap cap2 acc hv ai hlu hlen h5).mono ?_
      rintro v H R ⟨rfl, rfl, rfl⟩
      exact ⟨rfl, 0, 50, rfl, fun _ => rfl, acc, hv, ai, rfl⟩
  refine con_gen (con_cut 5 (by simp) (con_drop (con_walk hmix fn8 ?_)))
  intro vb vc vw vtoN vofN vaddN vsubN vmaxI vminI vcutN vgd vst vln vrep vsub vonto vsplice vstrEq vbyteV vnotB veqB hw qb qc qw qtoN qofN qaddN qsubN qmaxI qminI qcutN qgd qst qln qrep qsub qonto qsplice qstrEq qbyteV qnotB qeqB
  have hm := hmix; generalize Try.prog = P at *
  generalize Right5 l = R5 at *
  generalize b.length = bl at *
  generalize hln : l.length = ln at *
  obtain ⟨lI, hlI⟩ : ∃ lI : Int, lI = ln := ⟨_, rfl⟩
  have el : vofN ln = lI := by rw [qofN, hlI]
  have e : vc .eql lI 0 = false := by rw [qc, eql_false]; omega
  cbv
  rw [el, e]
  cbv
  refine call_con (ρ := [(0, .z), (1, .z), (2, .z), (3, .z), (4, .z)]) g ⟨by rfl, by rfl, by rfl, by cbv; exact ⟨view_refl _, view_refl _, trivial⟩⟩ ?_
  rintro v H R js ⟨rfl, s, e, rfl, he, acc2, hv2, ai2, rfl⟩
  cbv
  exact ⟨s, e, rfl, fun _ h => he h, acc2, hv2, ai2, rfl⟩
end Go.Proofs.Ytkkddgdcmdnnmaa
namespace Go.Proofs.Ytkkddgdcmdnnmaa
open Go Go.Sx Go.Proofs
/-! balerlaw19.wakes. -/
set_option maxRecDepth 10000
set_option maxHeartbeats 4000000
def wbits : List Int := [1, 0, 0, 0, 1, 0, 1, 0, 0, 0, 0, 0, 1, 1, 0, 0, 1]
theorem wbits1 : putBits [] 1 2 = [1, 0] := rfl
theorem wbits2 : putBits [1, 0] 0 2 = [1, 0, 0, 0] := rfl
theorem wbits3 : putBits [1, 0, 0, 0] 5 8 = [1, 0, 0, 0, 1, 0, 1, 0, 0, 0, 0, 0] := rfl
theorem wbits4 : putBits [1, 0, 0, 0, 1, 0, 1, 0, 0, 0, 0, 0] 19 5 = wbits := rfl
theorem wbits_bit : ∀ x ∈ wbits, isBit x := by
  intro x hx
  simp only [wbits, List.mem_cons, List.not_mem_nil, or_false] at hx
  unfold isBit
  omega
theorem wk_pack : pack wbits = [81, 48, 1] := rfl
theorem wakes14_con : Con Try.prog 14 [] [] (fun v H R => v = .bool true ∧ H = [] ∧ R = []) := by
  have hbit : ∀ n, ∀ x ∈ wbits.take n, isBit x := fun n x hx => wbits_bit x (List.mem_of_mem_take hx)
  have p1 := bputA_con [] 0 1 2 (by omega) (fun b hb => by cases hb) (by decide)
  have p2 := fun c => bputA_con [1, 0] c 0 2 (by omega) (hbit 2) (by decide)
  have p3 := fun c => bputA_con [1, 0, 0, 0] c 5 8 (by omega) (hbit 4) (by decide)
  have p4 := fun c => bputA_con [1, 0, 0, 0, 1, 0, 1, 0, 0, 0, 0, 0] c 19 5 (by omega) (hbit 12) (by decide)
  have pb := fun c => bbytes_con wbits c (by decide)
  rw [wbits1] at p1
  rw [wbits2] at p2
  rw [wbits3] at p3
  rw [wbits4] at p4
  have hval : ∀ i n, bval (bitL (pack wbits)) i n = bval wbits i n := fun i n => bitL_pack wbits wbits_bit i n
  have hby : ∀ x ∈ pack wbits, isByte x := by
    rw [wk_pack]
    intro x hx
    simp only [List.mem_cons, List.not_mem_nil, or_false] at hx
    unfold isByte
    omega
  have hlen : (pack wbits).length = 3 := rfl
  have hnew := fun cap => rnew_con (pack wbits) cap (by rw [hlen]; decide)
  have hrd := fun cap => read7_con (pack wbits) 0 cap 0 0 0 hby (by rw [hlen]; decide) (RS.start _) (by rw [hlen]; decide) (by rw [hval]; rfl) (by rw [hval]; rfl) (by rw [hval]; rfl)
  have hct := fun cap acc hv ai h => count10_con (pack wbits) 12 cap acc hv ai hby (by rw [hlen]; decide) h (by rw [hlen]; decide) (by rw [hval]; rfl) (by rw [hval]; rfl) (by rw [hval]; rfl)
  generalize RS (pack wbits) (0 + 12) = RQ at *
  rw [hlen] at hnew hrd hct pb p4
  generalize RS (pack wbits) 12 = RQ' at *
  clear hval hby hlen hbit
  generalize pack wbits = K4 at *
  rw [show wbits.length = 17 from rfl] at pb p4
  rw [show (pack [1, 0] : List Int).length = 1 from rfl] at p1 p2
  rw [show (pack [1, 0, 0, 0] : List Int).length = 1 from rfl] at p2 p3
  rw [show (pack [1, 0, 0, 0, 1, 0, 1, 0, 0, 0, 0, 0] : List Int).length = 2 from rfl] at p3 p4
  rw [show (pack [] : List Int) = [] from rfl] at p1
  generalize pack [1, 0] = K1 at *
  generalize pack [1, 0, 0, 0] = K2 at *
  generalize pack [1, 0, 0, 0, 1, 0, 1, 0, 0, 0, 0, 0] = K3 at *
  simp only [List.length_cons, List.length_nil] at p1 p2 p3 p4
  have f23 := fn23
  refine con_gen (con_cut 0 (by simp) (con_drop (con_walk hmix fn14 ?_)))
  intro vb vc vw vtoN vofN vaddN vsubN vmaxI vminI vcutN vgd vst vln vrep vsub vonto vsplice vstrEq vbyteV vnotB veqB hw qb qc qw qtoN qofN qaddN qsubN qmaxI qminI qcutN qgd qst qln qrep qsub qonto qsplice qstrEq qbyteV qnotB qeqB
  have hm := hmix; generalize Try.prog = P at *
  have e00 : vc .eql 0 0 = true := by rw [qc]; rfl
  have e44 : vc .eql 4 4 = true := by rw [qc]; rfl
  have e55 : vc .eql 5 5 = true := by rw [qc]; rfl
  have ev0 : vofN 0 = 0 := by rw [qofN]; rfl
  cbv
  refine CallX.cv f23.go (Cv.nilB 0 0 5 .u8 (by rfl) (by cbv) (Cv.here ?_)) (by rfl)
  refine call_con (ρ := [(0, .z), (1, .z)]) p1 ⟨by rfl, by rfl, by rfl, by cbv; exact ⟨⟨rfl, trivial⟩, trivial⟩⟩ ?_
  rintro v H R js ⟨rfl, rfl, c1, rfl⟩
  cbv
  refine call_con (ρ := [(0, .z), (1, .z)]) (p2 c1) ⟨by rfl, by rfl, by rfl, by cbv⟩ ?_
  rintro v H R js2 ⟨rfl, rfl, c2, rfl⟩
  cbv
  refine call_con (ρ := [(0, .z), (1, .z)]) (p3 c2) ⟨by rfl, by rfl, by rfl, by cbv⟩ ?_
  rintro v H R js3 ⟨rfl, rfl, c3, rfl⟩
  cbv
  refine call_con (ρ := [(0, .z), (1, .z)]) (p4 c3) ⟨by rfl, by rfl, by rfl, by cbv⟩ ?_
  rintro v H R js4 ⟨rfl, rfl, c4, rfl⟩
  cbv
  refine call_con (ρ := [(0, .z), (1, .z)]) (pb c4) ⟨by rfl, by rfl, by rfl, by cbv⟩ ?_
  rintro v H R js5 ⟨rfl, c5, rfl, rfl⟩
  cbv
  refine call_con (ρ := [(2, .z)]) (hnew c5) ⟨by rfl, by rfl, by rfl, by cbv; exact ⟨view_refl _, trivial⟩⟩ ?_
  rintro v H R js6 ⟨rfl, rfl, c6, rfl⟩
  cbv
  refine call_con (ρ := [(6, .z), (5, .z), (4, .z), (3, .z)]) (hrd c6) ⟨by rfl, by rfl, by rfl, by cbv; exact ⟨view_refl _, trivial⟩⟩ ?_
  rintro v H R js7 ⟨rfl, rfl, acc, hv, ai, hRQ, rfl⟩
  cbv
  refine call_con (ρ := [(6, .z), (5, .z), (4, .z), (3, .z)]) (hct c6 acc hv ai hRQ) ⟨by rfl, by rfl, by rfl, by cbv; exact ⟨view_refl _, trivial⟩⟩ ?_
  rintro v H R js8 ⟨rfl, rfl, acc2, hv2, ai2, hRQ2, rfl⟩
  cbv
  rw [e00]
  cbv
  rw [e55]
  cbv
  rw [e00]
  cbv
  rw [e44]
  cbv
end Go.Proofs.Ytkkddgdcmdnnmaa
