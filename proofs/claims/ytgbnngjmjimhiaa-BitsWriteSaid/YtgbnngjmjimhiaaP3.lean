/-
  Plain: bytes filled bit by bit.
-/
import Derived.Test.YtgbnngjmjimhiaaP2
namespace Go.Proofs.Ytgbnngjmjimhiaa
open Go Go.Sx
/-- N bytes, filled with bits from the first on. -/
def packN (bs : List Int) (N : Nat) : List Int := (List.range N).map fun i => bval bs (8 * i) 8
theorem packN_length (bs : List Int) (N : Nat) : (packN bs N).length = N := by simp [packN]
theorem packN_nil (N : Nat) : packN [] N = List.replicate N 0 := by
  refine List.ext_getElem? fun i => ?_
  by_cases hi : i < N
  · simp [packN, hi, bval_none]
  · simp [packN, hi]
theorem packN_get (bs : List Int) (N i : Nat) (hi : i < N) : (packN bs N)[i]? = some (bval bs (8 * i) 8) := by simp [packN, hi]
theorem packN_step (bs : List Int) (b m : Int) (N : Nat) (hb : ∀ b ∈ bs, isBit b) (hbit : isBit b) (hm : m = bs.length) (hN : bs.length < 8 * N) :
    (packN bs N).set (m / 8).toNat (bV .or .u8 ((packN bs N).getD (m / 8).toNat 0) (bV .shl .u8 b (m % 8))) = packN (bs ++ [b]) N := by
  have e1 : (m / 8).toNat = bs.length / 8 := by omega
  have e2 : (m % 8).toNat = bs.length % 8 := by omega
  have hg : (packN bs N).getD (bs.length / 8) 0 = bval bs (8 * (bs.length / 8)) (bs.length % 8) := by
    rw [List.getD_eq_getElem?_getD, packN_get _ _ _ (by omega)]
    exact bval_stop bs _ _ (by omega) 8 (by omega)
  obtain ⟨h0, h1⟩ := bval_bound bs hb (8 * (bs.length / 8)) (bs.length % 8)
  have hp := pow_le_128 (show bs.length % 8 < 8 by omega)
  have hp0 : (0 : Int) < 2 ^ (bs.length % 8) := Int.pow_pos (by decide)
  have hb2 : 0 ≤ b ∧ b * 2 ^ (bs.length % 8) ≤ 2 ^ (bs.length % 8) ∧ 0 ≤ b * 2 ^ (bs.length % 8) := by
    rcases hbit with rfl | rfl <;> omega
  rw [e1, shl_u rfl hb2.1 (by show m % 8 ≤ ((8 : Nat) : Int); omega) (by rw [e2]; show _ < (2 : Int) ^ 8; omega), e2, hg, or_add rfl _ h0 h1 hb2.1 (by show _ < (2 : Int) ^ 8; omega)]
  refine List.ext_getElem? fun i => ?_
  by_cases hi : i < N
  · rw [packN_get _ _ _ hi, List.getElem?_set, packN_length, packN_get _ _ _ hi]
    rw [bval_snoc]
    by_cases he : bs.length / 8 = i
    · subst he
      rw [if_pos rfl, if_pos hi, if_pos (by omega), bval_stop bs _ (bs.length % 8) (by omega) 8 (by omega)]
      have : bs.length - 8 * (bs.length / 8) = bs.length % 8 := by omega
      rw [this]
    · rw [if_neg he, if_neg (by omega)]
      simp
  · rw [List.getElem?_eq_none (by rw [List.length_set, packN_length]; omega), List.getElem?_eq_none (by rw [packN_length]; omega)]
theorem take_snoc {l : List Int} {i : Nat} (h : i < l.length) : l.take (i + 1) = l.take i ++ [l.getD i 0] := by
  rw [List.take_succ_eq_append_getElem h]
  simp [List.getD_eq_getElem?_getD, h]
end Go.Proofs.Ytgbnngjmjimhiaa
