import Derived.Test.YtgbnngjmjimhiaaC2
namespace Go.Proofs.Ytgbnngjmjimhiaa
open Go Go.Sx Go.Proofs
/-- The bit of a number, 0 ahead of the first. -/
def bitAt (b : List Int) (k : Int) : Int := if 0 ≤ k then b.getD (k / 8).toNat 0 / 2 ^ (k % 8).toNat % 2 else 0
/-- n bits from p on, backwards, the first the highest. -/
def rd (b : List Int) (p : Int) : Nat → Int
  | 0 => 0
  | n + 1 => rd b p n * 2 + bitAt b (p - 1 - n)
def isByte (x : Int) : Prop := 0 ≤ x ∧ x < 256
theorem bitAt_bit (b : List Int) (k : Int) : 0 ≤ bitAt b k ∧ bitAt b k < 2 := by unfold bitAt; split <;> omega
theorem rd_bound (b : List Int) (p : Int) : ∀ n, 0 ≤ rd b p n ∧ rd b p n < 2 ^ n
  | 0 => by simp [rd]
  | n + 1 => by
    have h := rd_bound b p n
    have h2 := bitAt_bit b (p - 1 - n)
    have hp : (2 : Int) ^ (n + 1) = 2 ^ n * 2 := Int.pow_succ _ _
    simp only [rd]
    omega
theorem pow_le_56 {n : Nat} (h : n ≤ 56) : (2 : Int) ^ n ≤ 72057594037927936 := by
  have : (2 : Int) ^ n ≤ 2 ^ 56 := by exact_mod_cast Nat.pow_le_pow_right (by decide) h
  exact this
theorem or_comm_u {k : IntKind} (h : k.signed = false) {x y : Int} : bV .or k x y = bV .or k y x := by
  show k.wrap _ = k.wrap _
  rw [BitVec.or_comm]
/-- How many are read for n. -/
def clampN (n : Int) : Nat := (if (if 0 > n then 0 else n) > 56 then 56 else (if 0 > n then 0 else n)).toNat
theorem clampN_le (n : Int) : clampN n ≤ 56 := by unfold clampN; split <;> split <;> omega
def floorP (p : Int) : Int := if p < -1099511627776 then -1099511627776 else p
set_option maxHeartbeats 2000000 in
theorem bits_con (b : List Int) (cap : Nat) (p n : Int) (hb : ∀ x ∈ b, isByte x) (hp : -1099511627776 ≤ p ∧ p ≤ 8 * b.length) (hl : b.length ≤ 2 ^ 48) :
    Con Try.prog 14 [.ptr 0 .z 2 0, .int .i64 n] [.one 74 [.slice 1 .z 1 b.length cap, .int .i64 p], .ro .u8 b]
      (fun v H R => v = .int .u64 (rd b p (clampN n)) ∧ R = [] ∧ H = [.one 74 [.slice 1 .z 1 b.length cap, .int .i64 (floorP (p - clampN n))], .ro .u8 b]) := by
  refine con_gen (con_cut 2 (by simp) (con_red [] (con_walk hmix fn14 ?_)))
  intro vb vc vw vtoN vofN vaddN vsubN vmaxI vminI vcutN vgd vst vln vrep vsub vonto vsplice vstrEq vbyteV vnotB veqB hw qb qc qw qtoN qofN qaddN qsubN qmaxI qminI qcutN qgd qst qln qrep qsub qonto qsplice qstrEq qbyteV qnotB qeqB
  have hm := hmix
  generalize Try.prog = P at *
  generalize hlen : b.length = len at *
  generalize hF : floorP (p - clampN n) = F
  generalize hV : rd b p (clampN n) = V
  cbv
  have hN : vminI (vmaxI n 0) 56 = (clampN n : Nat) := by rw [qmaxI, qminI]; unfold clampN; simp only [nc]; split <;> split <;> omega
  have hN56 := clampN_le n
  generalize clampN n = N at *
  rw [hN]
  generalize hNN : ((N : Nat) : Int) = N0 at *
  refine loop_fam (α := Int × Int) [6, 7, 15, 16, 17, 18, 19, 20, 21, 22, 23, 24, 25, 26, 27, 28, 29, 30, 31, 32, 33, 34, 35, 36, 37, 38, 39, 40, 41, 42, 43, 44, 45] []
    (fun (x, k) => [(5, .int .u64 x), (14, .int .i64 k)]) (fun (x, k) => [])
    (fun (x, k) => ∃ i : Nat, k = i ∧ i ≤ N ∧ x = rd b p i) (fun (x, k) => N - k.toNat) hw hm ?_ ?_
  · refine Cv.genAt [5, 14] [] (Cv.fold [6, 7, 15, 16, 17, 18, 19, 20, 21, 22, 23, 24, 25, 26, 27, 28, 29, 30, 31, 32, 33, 34, 35, 36, 37, 38, 39, 40, 41, 42, 43, 44, 45] 2 [] (by exact Nat.le_refl _) (by exact Nat.le_refl _) (by rfl) (by cbv) ?_)
    intro js
    refine ⟨(_, _), ?_, js, rfl⟩
    exact ⟨0, rfl, by omega, rfl⟩
  · rintro ⟨x, k⟩ js ⟨i, hk, hi, hx⟩
    cbv
    have hx2 := rd_bound b p i
    split
    · rename_i hlt
      have hlt : i < N := by rw [qc, lss_true] at hlt; simp only [nc] at *; omega
      have hpk : vb .sub .i64 (vb .sub .i64 p 1) k = p - 1 - i := by
        simp only [nc] at *
        rw [qb, sub_i64 (x := p) (by omega) (by omega), sub_i64 (by omega) (by omega), hk]
      have hk1 : vb .add .i64 k 1 = ((i + 1 : Nat) : Int) := by simp only [nc] at *; rw [qb, add_i64 (by omega) (by omega)]; omega
      have hp56 := pow_le_56 (show i ≤ 56 by omega)
      have hshl : vb .shl .u64 x 1 = rd b p i * 2 := by
        rw [qb, hx, shl_u rfl hx2.1 (by decide) (by show _ * (2 : Int) ^ 1 < 2 ^ 64; omega)]; rfl
      cbv
      split
      · rename_i hge
        have hge : 0 ≤ p - 1 - (i : Int) := by rw [qc, hpk, geq_true] at hge; simp only [nc] at *; exact hge
        have hbit : bitAt b (p - 1 - i) = b.getD ((p - 1 - i) / 8).toNat 0 / 2 ^ ((p - 1 - i) % 8).toNat % 2 := by unfold bitAt; rw [if_pos hge]
        generalize hz : p - 1 - (i : Int) = z at *
        have hz8 : vb .quo .i64 z 8 = z / 8 := by simp only [nc] at *; rw [qb, quo_i64 (by omega) (by omega) (by omega)]
        have hr8 : vb .rem .i64 z 8 = z % 8 := by simp only [nc] at *; rw [qb, rem_i64 (by omega)]
        have hw8 : vw .u64 (z % 8) = z % 8 := by simp only [nc] at *; rw [qw]; exact wrap_u64 (by omega) (by omega)
        have hin : 0 ≤ vb .quo .i64 z 8 ∧ vb .quo .i64 z 8 < len := by rw [hz8]; simp only [nc] at *; omega
        have hlt2 : vtoN (vb .quo .i64 z 8) < vln b := by rw [hz8, qtoN, qln]; simp only [nc] at *; omega
        have hlt3 : vaddN 0 (vtoN (vb .quo .i64 z 8)) < vln b := by rw [qaddN]; simpa using hlt2
        have hnn : 0 ≤ vw .u64 (vb .rem .i64 z 8) := by rw [hr8, hw8]; omega
        have hval : vb .or .u64 (vb .shl .u64 x 1) (vb .and .u64 (vw .u64 (vb .shr .u8 (vgd b (vtoN (vb .quo .i64 z 8))) (vw .u64 (vb .rem .i64 z 8)))) 1) = rd b p (i + 1) := by
          rw [hshl, hr8, hw8, hz8, qb, shr_eq (by show z % 8 ≤ ((8 : Nat) : Int); omega), qgd, qtoN, qw]
          show bV .or .u64 (rd b p i * 2) (bV .and .u64 (IntKind.u64.wrap (b.getD (z / 8).toNat 0 / 2 ^ (z % 8).toNat)) 1) = _
          have hbyte : isByte (b.getD (z / 8).toNat 0) := by
            rw [List.getD_eq_getElem?_getD]
            cases hg : b[(z / 8).toNat]? with
            | none => exact ⟨by simp, by simp⟩
            | some y => exact hb y (List.mem_of_getElem? hg)
          generalize b.getD (z / 8).toNat 0 = y at *
          have h1 : 0 ≤ y / 2 ^ (z % 8).toNat := Int.ediv_nonneg hbyte.1 (Int.le_of_lt (Int.pow_pos (by decide)))
          have h2 : y / 2 ^ (z % 8).toNat ≤ y := Int.ediv_le_self _ hbyte.1
          have h3 := hbyte.2
          rw [wrap_u64 h1 (by omega), and_one rfl h1 (by show _ < (2 : Int) ^ 64; omega)]
          have e : rd b p (i + 1) = rd b p i * 2 + y / 2 ^ (z % 8).toNat % 2 := by rw [rd, hz, hbit]
          rw [e]
          have h4 : 0 ≤ y / 2 ^ (z % 8).toNat % 2 ∧ y / 2 ^ (z % 8).toNat % 2 < 2 := by omega
          generalize y / 2 ^ (z % 8).toNat % 2 = t at *
          have := or_add (k := .u64) rfl (x := t) (b := rd b p i) 1 h4.1 (by omega) hx2.1 (by show _ < (2 : Int) ^ 64; omega)
          rw [or_comm_u rfl]
          simpa [Int.add_comm] using this
        cbv
        rw [hpk]
        refine ⟨⟨hin⟩, ⟨hlt3⟩, ⟨hlt2⟩, ⟨hnn⟩, ?_⟩
        refine Cv.genAt [5, 14] [] (Cv.fold [6, 7, 15, 16, 17, 18, 19, 20, 21, 22, 23, 24, 25, 26, 27, 28, 29, 30, 31, 32, 33, 34, 35, 36, 37, 38, 39, 40, 41, 42, 43, 44, 45] 2 [] (by exact Nat.le_refl _) (by exact Nat.le_refl _) (by rfl) (by cbv) ?_)
        intro js
        refine ⟨(_, _), ?_, js, rfl⟩
        exact ⟨⟨i + 1, hk1, hlt, hval⟩, by show N - (vb .add .i64 k 1).toNat < N - k.toNat; rw [hk1, hk]; simp only [nc] at *; omega⟩
      · rename_i hge
        have hge : ¬ 0 ≤ p - 1 - (i : Int) := by rw [qc, hpk, geq_false] at hge; simp only [nc] at *; exact hge
        have hbit : bitAt b (p - 1 - i) = 0 := by unfold bitAt; rw [if_neg hge]
        have hval : vb .shl .u64 x 1 = rd b p (i + 1) := by rw [hshl, rd, hbit]; omega
        cbv
        refine Cv.genAt [5, 14] [] (Cv.fold [6, 7, 15, 16, 17, 18, 19, 20, 21, 22, 23, 24, 25, 26, 27, 28, 29, 30, 31, 32, 33, 34, 35, 36, 37, 38, 39, 40, 41, 42, 43, 44, 45] 2 [] (by exact Nat.le_refl _) (by exact Nat.le_refl _) (by rfl) (by cbv) ?_)
        intro js
        refine ⟨(_, _), ?_, js, rfl⟩
        exact ⟨⟨i + 1, hk1, hlt, hval⟩, by show N - (vb .add .i64 k 1).toNat < N - k.toNat; rw [hk1, hk]; simp only [nc] at *; omega⟩
    · rename_i hge
      have hin : i = N := by rw [qc, lss_false] at hge; simp only [nc] at *; omega
      subst hin
      have hs : vb .sub .i64 p N0 = p - N0 := by simp only [nc] at *; rw [qb, sub_i64 (by omega) (by omega)]
      cbv
      split
      · rename_i hf
        have hf : floorP (p - N0) = -1099511627776 := by rw [qc, hs, lss_true] at hf; unfold floorP; rw [if_pos hf]
        cbv
        refine ⟨?_, ?_⟩ <;> simp only [hx, hV, show F = -1099511627776 by rw [← hF, ← hf, ← hNN]]
      · rename_i hf
        have hf : floorP (p - N0) = p - N0 := by rw [qc, hs, lss_false] at hf; unfold floorP; rw [if_neg hf]
        cbv
        refine ⟨?_, ?_⟩ <;> simp only [hx, hV, hs, show F = p - N0 by rw [← hF, ← hf, ← hNN]]
end Go.Proofs.Ytgbnngjmjimhiaa
