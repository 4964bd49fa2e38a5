import Derived.Test.YtodobmkflimfkaaBA
import Derived.Test.YtodobmkflimfkaaEC
/-
  Plain: bits of bytes, the lowest first.
-/
namespace Go.Proofs.Ytodobmkflimfkaa
open Go Go.Sx
theorem bval_split (l : List Int) (i n : Nat) : ∀ m, bval l i (n + m) = bval l i n + bval l (i + n) m * 2 ^ n
  | 0 => by simp [bval]
  | m + 1 => by
    rw [show n + (m + 1) = (n + m) + 1 from rfl]
    simp only [bval]
    rw [bval_split l i n m, Int.pow_add, Int.add_mul, Nat.add_assoc]
    have : l.getD (i + (n + m)) 0 * (2 ^ n * 2 ^ m) = l.getD (i + (n + m)) 0 * 2 ^ m * 2 ^ n := by rw [Int.mul_comm (2 ^ n), Int.mul_assoc]
    omega
/-- All bits of bytes. -/
def bitL (b : List Int) : List Int := bitsOf b (8 * b.length)
theorem bitL_length (b : List Int) : (bitL b).length = 8 * b.length := bitsOf_length _ _
theorem bitL_bit (b : List Int) : ∀ x ∈ bitL b, isBit x := by
  intro x hx
  obtain ⟨i, _, rfl⟩ := List.mem_map.1 hx
  have := bitAt_bit b (i : Int)
  unfold isBit
  omega
theorem bitL_get (b : List Int) (i : Nat) (h : i < 8 * b.length) : (bitL b).getD i 0 = bitAt b i := bitsOf_get b _ i h
theorem byte_bits {x : Int} (h : isByte x) : x / 2 ^ 0 % 2 * 2 ^ 0 + x / 2 ^ 1 % 2 * 2 ^ 1 + x / 2 ^ 2 % 2 * 2 ^ 2 + x / 2 ^ 3 % 2 * 2 ^ 3 + x / 2 ^ 4 % 2 * 2 ^ 4 + x / 2 ^ 5 % 2 * 2 ^ 5 + x / 2 ^ 6 % 2 * 2 ^ 6 + x / 2 ^ 7 % 2 * 2 ^ 7 = x := by
  obtain ⟨h0, h1⟩ := h
  simp only [Int.reducePow]
  omega
theorem bitL_byte (b : List Int) (hby : ∀ x ∈ b, isByte x) (i : Nat) (h : i < b.length) : bval (bitL b) (8 * i) 8 = b.getD i 0 := by
  have hg : ∀ j : Nat, j < 8 → (bitL b).getD (8 * i + j) 0 = b.getD i 0 / 2 ^ j % 2 := fun j hj => by
    rw [bitL_get b _ (by omega)]
    unfold bitAt
    rw [if_pos (by omega)]
    have e1 : (((8 * i + j : Nat) : Int) / 8).toNat = i := by omega
    have e2 : (((8 * i + j : Nat) : Int) % 8).toNat = j := by omega
    rw [e1, e2]
  have hb := byte_bits (byte_bit hby i)
  simp only [bval]
  rw [hg 0 (by omega), hg 1 (by omega), hg 2 (by omega), hg 3 (by omega), hg 4 (by omega), hg 5 (by omega), hg 6 (by omega), hg 7 (by omega)]
  rw [Int.zero_add]
  exact hb
theorem bval_mod (l : List Int) (h : ∀ b ∈ l, isBit b) (i n m : Nat) : bval l i (n + m) % 2 ^ n = bval l i n ∧ bval l i (n + m) / 2 ^ n = bval l (i + n) m := by
  have hb := bval_bound l h i n
  have hp : (0 : Int) < 2 ^ n := Int.pow_pos (by decide)
  rw [bval_split]
  constructor
  · rw [Int.add_mul_emod_self_right]
    exact Int.emod_eq_of_lt hb.1 hb.2
  · rw [Int.add_mul_ediv_right _ _ (by omega), Int.ediv_eq_zero_of_lt hb.1 hb.2]
    omega
end Go.Proofs.Ytodobmkflimfkaa
namespace Go.Proofs.Ytodobmkflimfkaa
open Go Go.Sx Go.Proofs
theorem next_ok (b : List Int) (at' cap : Nat) (h : at' < b.length) (hl : b.length ≤ 2 ^ 60) :
    Con Try.prog 80 [.ptr 0 .z 1 0, .ptr 1 .z 1 0] [.one 3 [.int .i64 at'], .one 23 [.slice 2 .z 1 b.length cap], .ro .u8 b]
      (fun v H R => v = .tup [.int .u8 (b.getD at' 0), .bool true] ∧ R = [] ∧ H = [.one 3 [.int .i64 ((at' + 1 : Nat) : Int)], .one 23 [.slice 2 .z 1 b.length cap], .ro .u8 b]) := by
  refine con_walk hmix fn80 ?_
  intro vb vc vw vtoN vofN vaddN vsubN vmaxI vminI vcutN vgd vst vln vrep vsub vonto vsplice vstrEq vbyteV vnotB veqB hw qb qc qw qtoN qofN qaddN qsubN qmaxI qminI qcutN qgd qst qln qrep qsub qonto qsplice qstrEq qbyteV qnotB qeqB
  generalize Try.prog = P at *
  generalize hlen : b.length = len at *
  generalize hv : b.getD at' 0 = v0
  generalize ha1 : ((at' + 1 : Nat) : Int) = a1
  generalize ha : ((at' : Nat) : Int) = a0
  cbv
  have e1 : vc .geq a0 (vofN len) = false := by simp only [qc, qofN]; rw [geq_false]; simp only [nc] at *; omega
  have e2 : vb .add .i64 a0 1 = a1 := by simp only [nc] at *; rw [qb, add_i64 (by omega) (by omega)]; omega
  have e3 : vb .sub .i64 a1 1 = a0 := by simp only [nc] at *; rw [qb, sub_i64 (by omega) (by omega)]; omega
  have hin : 0 ≤ a0 ∧ a0 < len := by simp only [nc] at *; omega
  have ht : vtoN a0 = at' := by simp only [qtoN]; simp only [nc] at *; omega
  have hlt : vtoN a0 < vln b := by rw [ht]; simp only [qln]; omega
  have hlt2 : vaddN 0 (vtoN a0) < vln b := by simp only [qaddN, Nat.zero_add]; exact hlt
  have hval : vgd b (vtoN a0) = v0 := by rw [ht]; simp only [qgd]; exact hv
  rw [e1]
  cbv
  rw [e2, e3, hval]
  exact ⟨⟨hin⟩, ⟨hlt2⟩, ⟨hlt⟩, rfl, rfl⟩
theorem next_end (b : List Int) (cap : Nat) (hl : b.length ≤ 2 ^ 60) :
    Con Try.prog 80 [.ptr 0 .z 1 0, .ptr 1 .z 1 0] [.one 3 [.int .i64 b.length], .one 23 [.slice 2 .z 1 b.length cap], .ro .u8 b]
      (fun v H R => v = .tup [.lit .u8 0, .bool false] ∧ R = [] ∧ H = [.one 3 [.int .i64 b.length], .one 23 [.slice 2 .z 1 b.length cap], .ro .u8 b]) := by
  refine con_walk hmix fn80 ?_
  intro vb vc vw vtoN vofN vaddN vsubN vmaxI vminI vcutN vgd vst vln vrep vsub vonto vsplice vstrEq vbyteV vnotB veqB hw qb qc qw qtoN qofN qaddN qsubN qmaxI qminI qcutN qgd qst qln qrep qsub qonto qsplice qstrEq qbyteV qnotB qeqB
  generalize Try.prog = P at *
  generalize hlen : b.length = len at *
  generalize ha : ((len : Nat) : Int) = a0
  cbv
  have e1 : vc .geq a0 (vofN len) = true := by simp only [qc, qofN]; rw [geq_true]; simp only [nc] at *; omega
  rw [e1]
  cbv
theorem bleft_con (b : List Int) (at' cap : Nat) (h : at' ≤ b.length) (hl : b.length ≤ 2 ^ 50) :
    Con Try.prog 81 [.ptr 1 .z 1 0, .ptr 0 .z 1 0] [.one 3 [.int .i64 at'], .one 23 [.slice 2 .z 1 b.length cap], .ro .u8 b]
      (fun v H R => v = .int .i64 (8 * ((b.length : Int) - at')) ∧ R = [] ∧ H = [.one 3 [.int .i64 at'], .one 23 [.slice 2 .z 1 b.length cap], .ro .u8 b]) := by
  refine con_walk hmix fn81 ?_
  intro vb vc vw vtoN vofN vaddN vsubN vmaxI vminI vcutN vgd vst vln vrep vsub vonto vsplice vstrEq vbyteV vnotB veqB hw qb qc qw qtoN qofN qaddN qsubN qmaxI qminI qcutN qgd qst qln qrep qsub qonto qsplice qstrEq qbyteV qnotB qeqB
  generalize Try.prog = P at *
  generalize hlen : b.length = len at *
  generalize hr : 8 * ((len : Int) - at') = r
  generalize ha : ((at' : Nat) : Int) = a0
  have e1 : vb .mul .i64 8 (vb .sub .i64 (vofN len) a0) = r := by simp only [qb, qofN]; rw [sub_i64 (by omega) (by omega), mul_i64 (by omega) (by omega)]; omega
  cbv
  rw [e1]
  trivial
set_option maxHeartbeats 4000000 in
/-- So many bits at hand, where there are as many. -/
theorem fill_ok (b : List Int) (pos at' cap n : Nat) (hby : ∀ x ∈ b, isByte x) (hl : b.length ≤ 2 ^ 50) (hp : pos ≤ 8 * at') (hp2 : 8 * at' ≤ pos + 63) (ha : at' ≤ b.length) (hn : n ≤ 56) (hen : pos + n ≤ 8 * b.length) :
    Con Try.prog 117 [.ptr 0 .z 4 0, .int .i64 n] [(.one 131 [.fn 80 [.ptr 1 .z 1 0, .ptr 2 .z 1 0], .int .u64 (bval (bitL b) pos (8 * at' - pos)), .int .i64 (((8 * at' - pos : Nat) : Int)), .fn 81 [.ptr 2 .z 1 0, .ptr 1 .z 1 0]]), .one 3 [.int .i64 at'], .one 23 [.slice 3 .z 1 b.length cap], .ro .u8 b]
      (fun v H R => v = .bool true ∧ R = [] ∧ ∃ a2 : Nat, pos + n ≤ 8 * a2 ∧ 8 * a2 ≤ pos + 63 ∧ a2 ≤ b.length ∧ H = [(.one 131 [.fn 80 [.ptr 1 .z 1 0, .ptr 2 .z 1 0], .int .u64 (bval (bitL b) pos (8 * a2 - pos)), .int .i64 (((8 * a2 - pos : Nat) : Int)), .fn 81 [.ptr 2 .z 1 0, .ptr 1 .z 1 0]]), .one 3 [.int .i64 a2], .one 23 [.slice 3 .z 1 b.length cap], .ro .u8 b]) := by
  have hnext := fun a h => next_ok b a cap h (by omega)
  refine con_cut 4 (by simp) (con_red [] (con_walk hmix fn117 ?_))
  intro vb vc vw vtoN vofN vaddN vsubN vmaxI vminI vcutN vgd vst vln vrep vsub vonto vsplice vstrEq vbyteV vnotB veqB hw qb qc qw qtoN qofN qaddN qsubN qmaxI qminI qcutN qgd qst qln qrep qsub qonto qsplice qstrEq qbyteV qnotB qeqB
  have hm := hmix
  generalize Try.prog = P at *
  generalize hacc : bval (bitL b) pos (8 * at' - pos) = acc
  generalize hhave : ((8 * at' - pos : Nat) : Int) = have0
  generalize ha0 : ((at' : Nat) : Int) = a0
  generalize hn0 : ((n : Nat) : Int) = n0
  generalize hlen : b.length = len at *
  cbv
  refine loop_fam (α := Int × Int × Int) [5, 6, 7, 8, 9, 10, 11, 12, 13, 14, 15, 16, 17, 18, 19, 20, 21, 22, 23, 24, 25, 26, 27, 28, 29, 30, 31, 32, 33, 34, 35, 36, 37, 38, 39, 40, 41, 42, 43, 44] []
    (fun (x, k, a) => []) (fun (x, k, a) => [(0, (.one 131 [.fn 80 [.ptr 1 .z 1 0, .ptr 2 .z 1 0], .int .u64 (x), .int .i64 (k), .fn 81 [.ptr 2 .z 1 0, .ptr 1 .z 1 0]])), (1, .one 3 [.int .i64 a])])
    (fun (x, k, a) => ∃ i : Nat, pos ≤ 8 * i ∧ 8 * i ≤ pos + 63 ∧ i ≤ len ∧ x = bval (bitL b) pos (8 * i - pos) ∧ k = ((8 * i - pos : Nat) : Int) ∧ a = i) (fun (x, k, a) => len - a.toNat) hw hm ?_ ?_
  · refine Cv.fold [5, 6, 7, 8, 9, 10, 11, 12, 13, 14, 15, 16, 17, 18, 19, 20, 21, 22, 23, 24, 25, 26, 27, 28, 29, 30, 31, 32, 33, 34, 35, 36, 37, 38, 39, 40, 41, 42, 43, 44] 4 [] (by exact Nat.le_refl _) (by exact Nat.le_of_ble_eq_true rfl) (by rfl) (by cbv) ?_
    intro js
    refine ⟨(_, _, _), ?_, js, rfl⟩
    exact ⟨at', hp, hp2, ha, hacc.symm, hhave.symm, ha0.symm⟩
  · rintro ⟨x, k, a⟩ js ⟨i, hi1, hi2, hi3, hx, hk, hai⟩
    cbv
    split
    · rename_i hlt
      have hlt : 8 * i < pos + n := by rw [qc, lss_true] at hlt; simp only [nc] at *; omega
      have hil : i < len := by omega
      have hnext' := hnext i hil
      have hbyte := byte_bit hby i
      have hbb := bitL_byte b hby i (by omega)
      simp only [nc] at hnext' hai
      rw [← hai] at hnext'
      generalize hy : b.getD i 0 = y at *
      generalize ha1 : ((i + 1 : Nat) : Int) = a1 at *
      have hw1 : vw .u64 y = y := by simp only [qw]; exact wrap_u64 hbyte.1 (by have := hbyte.2; omega)
      have hw2 : vw .u64 k = k := by simp only [nc] at *; simp only [qw]; exact wrap_u64 (by omega) (by omega)
      have hk0 : 0 ≤ vw .u64 k := by rw [hw2]; simp only [nc] at *; omega
      have hk1 : vb .add .i64 k 8 = ((8 * (i + 1) - pos : Nat) : Int) := by simp only [nc] at *; rw [qb, add_i64 (by omega) (by omega)]; omega
      have hval : vb .or .u64 x (vb .shl .u64 (vw .u64 y) (vw .u64 k)) = bval (bitL b) pos (8 * (i + 1) - pos) := by
        have hbd := bval_bound (bitL b) (bitL_bit b) pos (8 * i - pos)
        have hp56 := pow_le_56 (show 8 * i - pos ≤ 56 by omega)
        have hpp : (0 : Int) < 2 ^ (8 * i - pos) := Int.pow_pos (by decide)
        have hkn : k.toNat = 8 * i - pos := by simp only [nc] at *; omega
        have hyb : y * 2 ^ (8 * i - pos) ≤ 255 * 2 ^ (8 * i - pos) := Int.mul_le_mul_of_nonneg_right (by have := hbyte.2; omega) (Int.le_of_lt hpp)
        have e : 8 * (i + 1) - pos = (8 * i - pos) + 8 := by omega
        rw [hw1, hw2, qb, shl_u rfl hbyte.1 (by show k ≤ ((64 : Nat) : Int); simp only [nc] at *; omega) (by rw [hkn]; show _ < (2 : Int) ^ 64; omega), hkn, hx, e, bval_split]
        have e2 : pos + (8 * i - pos) = 8 * i := by omega
        rw [e2, hbb, or_add rfl _ hbd.1 hbd.2 hbyte.1 (by show _ < (2 : Int) ^ 64; omega)]
      cbv
      refine call_con (ρ := [(1, .z), (2, .z), (3, .z)]) hnext' ⟨by rfl, by rfl, by rfl, by cbv; exact ⟨view_refl _, trivial⟩⟩ ?_
      rintro v H R js ⟨rfl, rfl, rfl⟩
      have e4 : vnotB true = false := by simp only [qnotB]; rfl
      cbv
      rw [e4]
      cbv
      refine ⟨⟨hk0⟩, ?_⟩
      refine Cv.fold [5, 6, 7, 8, 9, 10, 11, 12, 13, 14, 15, 16, 17, 18, 19, 20, 21, 22, 23, 24, 25, 26, 27, 28, 29, 30, 31, 32, 33, 34, 35, 36, 37, 38, 39, 40, 41, 42, 43, 44] 4 [] (by exact Nat.le_refl _) (by exact Nat.le_of_ble_eq_true rfl) (by rfl) (by cbv) ?_
      intro js
      refine ⟨(_, _, _), ?_, js, rfl⟩
      exact ⟨⟨i + 1, by omega, by omega, by omega, hval, hk1, ha1.symm⟩, by show len - a1.toNat < len - a.toNat; simp only [nc] at *; omega⟩
    · rename_i hge
      have hge : pos + n ≤ 8 * i := by rw [qc, lss_false] at hge; simp only [nc] at *; omega
      cbv
      refine ⟨i, hge, hi2, hi3, ?_⟩
      rw [hx, hk, hai]
      rfl
set_option maxHeartbeats 4000000 in
/-- Not as many bits: all that are left are at hand. -/
theorem fill_end (b : List Int) (pos at' cap n : Nat) (hby : ∀ x ∈ b, isByte x) (hl : b.length ≤ 2 ^ 50) (hp : pos ≤ 8 * at') (hp2 : 8 * at' ≤ pos + 63) (ha : at' ≤ b.length) (hn : n ≤ 56) (hen : 8 * b.length < pos + n) :
    Con Try.prog 117 [.ptr 0 .z 4 0, .int .i64 n] [(.one 131 [.fn 80 [.ptr 1 .z 1 0, .ptr 2 .z 1 0], .int .u64 (bval (bitL b) pos (8 * at' - pos)), .int .i64 (((8 * at' - pos : Nat) : Int)), .fn 81 [.ptr 2 .z 1 0, .ptr 1 .z 1 0]]), .one 3 [.int .i64 at'], .one 23 [.slice 3 .z 1 b.length cap], .ro .u8 b]
      (fun v H R => v = .bool false ∧ R = [] ∧ H = [(.one 131 [.fn 80 [.ptr 1 .z 1 0, .ptr 2 .z 1 0], .int .u64 (bval (bitL b) pos (8 * b.length - pos)), .int .i64 (((8 * b.length - pos : Nat) : Int)), .fn 81 [.ptr 2 .z 1 0, .ptr 1 .z 1 0]]), .one 3 [.int .i64 b.length], .one 23 [.slice 3 .z 1 b.length cap], .ro .u8 b]) := by
  have hnext := fun a h => next_ok b a cap h (by omega)
  have hend := next_end b cap (by omega)
  refine con_cut 4 (by simp) (con_red [] (con_walk hmix fn117 ?_))
  intro vb vc vw vtoN vofN vaddN vsubN vmaxI vminI vcutN vgd vst vln vrep vsub vonto vsplice vstrEq vbyteV vnotB veqB hw qb qc qw qtoN qofN qaddN qsubN qmaxI qminI qcutN qgd qst qln qrep qsub qonto qsplice qstrEq qbyteV qnotB qeqB
  have hm := hmix
  generalize Try.prog = P at *
  generalize hacc : bval (bitL b) pos (8 * at' - pos) = acc
  generalize hhave : ((8 * at' - pos : Nat) : Int) = have0
  generalize hacc2 : bval (bitL b) pos (8 * b.length - pos) = acc2
  generalize hhave2 : ((8 * b.length - pos : Nat) : Int) = have2
  generalize ha0 : ((at' : Nat) : Int) = a0
  generalize hn0 : ((n : Nat) : Int) = n0
  generalize hlI : ((b.length : Nat) : Int) = lI at *
  generalize hlen : b.length = len at *
  cbv
  refine loop_fam (α := Int × Int × Int) [5, 6, 7, 8, 9, 10, 11, 12, 13, 14, 15, 16, 17, 18, 19, 20, 21, 22, 23, 24, 25, 26, 27, 28, 29, 30, 31, 32, 33, 34, 35, 36, 37, 38, 39, 40, 41, 42, 43, 44] []
    (fun (x, k, a) => []) (fun (x, k, a) => [(0, (.one 131 [.fn 80 [.ptr 1 .z 1 0, .ptr 2 .z 1 0], .int .u64 (x), .int .i64 (k), .fn 81 [.ptr 2 .z 1 0, .ptr 1 .z 1 0]])), (1, .one 3 [.int .i64 a])])
    (fun (x, k, a) => ∃ i : Nat, pos ≤ 8 * i ∧ 8 * i ≤ pos + 63 ∧ i ≤ len ∧ x = bval (bitL b) pos (8 * i - pos) ∧ k = ((8 * i - pos : Nat) : Int) ∧ a = i) (fun (x, k, a) => len - a.toNat) hw hm ?_ ?_
  · refine Cv.fold [5, 6, 7, 8, 9, 10, 11, 12, 13, 14, 15, 16, 17, 18, 19, 20, 21, 22, 23, 24, 25, 26, 27, 28, 29, 30, 31, 32, 33, 34, 35, 36, 37, 38, 39, 40, 41, 42, 43, 44] 4 [] (by exact Nat.le_refl _) (by exact Nat.le_of_ble_eq_true rfl) (by rfl) (by cbv) ?_
    intro js
    refine ⟨(_, _, _), ?_, js, rfl⟩
    exact ⟨at', hp, hp2, ha, hacc.symm, hhave.symm, ha0.symm⟩
  · rintro ⟨x, k, a⟩ js ⟨i, hi1, hi2, hi3, hx, hk, hai⟩
    have hc : vc .lss k n0 = true := by rw [qc, lss_true]; simp only [nc] at *; omega
    cbv
    rw [hc]
    by_cases hil : i < len
    · have hnext' := hnext i hil
      have hbyte := byte_bit hby i
      have hbb := bitL_byte b hby i (by omega)
      simp only [nc] at hnext' hai
      rw [← hai] at hnext'
      generalize hy : b.getD i 0 = y at *
      generalize ha1 : ((i + 1 : Nat) : Int) = a1 at *
      have hw1 : vw .u64 y = y := by simp only [qw]; exact wrap_u64 hbyte.1 (by have := hbyte.2; omega)
      have hw2 : vw .u64 k = k := by simp only [nc] at *; simp only [qw]; exact wrap_u64 (by omega) (by omega)
      have hk0 : 0 ≤ vw .u64 k := by rw [hw2]; simp only [nc] at *; omega
      have hk1 : vb .add .i64 k 8 = ((8 * (i + 1) - pos : Nat) : Int) := by simp only [nc] at *; rw [qb, add_i64 (by omega) (by omega)]; omega
      have hval : vb .or .u64 x (vb .shl .u64 (vw .u64 y) (vw .u64 k)) = bval (bitL b) pos (8 * (i + 1) - pos) := by
        have hbd := bval_bound (bitL b) (bitL_bit b) pos (8 * i - pos)
        have hp56 := pow_le_56 (show 8 * i - pos ≤ 56 by omega)
        have hpp : (0 : Int) < 2 ^ (8 * i - pos) := Int.pow_pos (by decide)
        have hkn : k.toNat = 8 * i - pos := by simp only [nc] at *; omega
        have hyb : y * 2 ^ (8 * i - pos) ≤ 255 * 2 ^ (8 * i - pos) := Int.mul_le_mul_of_nonneg_right (by have := hbyte.2; omega) (Int.le_of_lt hpp)
        have e : 8 * (i + 1) - pos = (8 * i - pos) + 8 := by omega
        rw [hw1, hw2, qb, shl_u rfl hbyte.1 (by show k ≤ ((64 : Nat) : Int); simp only [nc] at *; omega) (by rw [hkn]; show _ < (2 : Int) ^ 64; omega), hkn, hx, e, bval_split]
        have e2 : pos + (8 * i - pos) = 8 * i := by omega
        rw [e2, hbb, or_add rfl _ hbd.1 hbd.2 hbyte.1 (by show _ < (2 : Int) ^ 64; omega)]
      cbv
      refine call_con (ρ := [(1, .z), (2, .z), (3, .z)]) hnext' ⟨by rfl, by rfl, by rfl, by cbv; exact ⟨view_refl _, trivial⟩⟩ ?_
      rintro v H R js ⟨rfl, rfl, rfl⟩
      have e4 : vnotB true = false := by simp only [qnotB]; rfl
      cbv
      rw [e4]
      cbv
      refine ⟨⟨hk0⟩, ?_⟩
      refine Cv.fold [5, 6, 7, 8, 9, 10, 11, 12, 13, 14, 15, 16, 17, 18, 19, 20, 21, 22, 23, 24, 25, 26, 27, 28, 29, 30, 31, 32, 33, 34, 35, 36, 37, 38, 39, 40, 41, 42, 43, 44] 4 [] (by exact Nat.le_refl _) (by exact Nat.le_of_ble_eq_true rfl) (by rfl) (by cbv) ?_
      intro js
      refine ⟨(_, _, _), ?_, js, rfl⟩
      exact ⟨⟨i + 1, by omega, by omega, by omega, hval, hk1, ha1.symm⟩, by show len - a1.toNat < len - a.toNat; simp only [nc] at *; omega⟩
    · have hil : i = len := by omega
      have e4 : vnotB false = true := by simp only [qnotB]; rfl
      have hai2 : a = lI := by rw [hai, hil]; exact hlI
      have hx2 : x = acc2 := by rw [hx, hil, hacc2]
      have hk2 : k = have2 := by rw [hk, hil]; exact hhave2
      rw [hai2, hx2, hk2]
      cbv
      refine call_con (ρ := [(1, .z), (2, .z), (3, .z)]) hend ⟨by rfl, by rfl, by rfl, by cbv; exact ⟨view_refl _, trivial⟩⟩ ?_
      rintro v H R js ⟨rfl, rfl, rfl⟩
      cbv
      rw [e4]
      cbv
end Go.Proofs.Ytodobmkflimfkaa
namespace Go.Proofs.Ytodobmkflimfkaa
open Go Go.Sx Go.Proofs
theorem rb_bad (b : List Int) (pos at' cap : Nat) (n : Int) (hn : ¬ (0 ≤ n ∧ n ≤ 56)) :
    Con Try.prog 77 [.ptr 0 .z 4 0, .int .i64 n] [(.one 131 [.fn 80 [.ptr 1 .z 1 0, .ptr 2 .z 1 0], .int .u64 (bval (bitL b) pos (8 * at' - pos)), .int .i64 (((8 * at' - pos : Nat) : Int)), .fn 81 [.ptr 2 .z 1 0, .ptr 1 .z 1 0]]), .one 3 [.int .i64 at'], .one 23 [.slice 3 .z 1 b.length cap], .ro .u8 b]
      (fun v H R => v = .tup [.lit .u64 0, .lit .i64 2] ∧ R = [] ∧ H = [(.one 131 [.fn 80 [.ptr 1 .z 1 0, .ptr 2 .z 1 0], .int .u64 (bval (bitL b) pos (8 * at' - pos)), .int .i64 (((8 * at' - pos : Nat) : Int)), .fn 81 [.ptr 2 .z 1 0, .ptr 1 .z 1 0]]), .one 3 [.int .i64 at'], .one 23 [.slice 3 .z 1 b.length cap], .ro .u8 b]) := by
  refine con_walk hmix fn77 ?_
  intro vb vc vw vtoN vofN vaddN vsubN vmaxI vminI vcutN vgd vst vln vrep vsub vonto vsplice vstrEq vbyteV vnotB veqB hw qb qc qw qtoN qofN qaddN qsubN qmaxI qminI qcutN qgd qst qln qrep qsub qonto qsplice qstrEq qbyteV qnotB qeqB
  generalize Try.prog = P at *
  generalize hacc : bval (bitL b) pos (8 * at' - pos) = acc at *
  generalize hhave : ((8 * at' - pos : Nat) : Int) = have0 at *
  generalize ha0 : ((at' : Nat) : Int) = a0 at *
  generalize b.length = len at *
  cbv
  generalize h1 : vc .lss n 0 = z1
  cases z1
  · cbv
    have h2 : vc .gtr n 56 = true := by rw [qc, lss_false] at h1; rw [qc, gtr_true]; omega
    rw [h2]
    cbv
  · cbv
theorem rb_short (b : List Int) (pos at' cap n : Nat) (hby : ∀ x ∈ b, isByte x) (hl : b.length ≤ 2 ^ 50) (hp : pos ≤ 8 * at') (hp2 : 8 * at' ≤ pos + 63) (ha : at' ≤ b.length) (hn : n ≤ 56) (hen : 8 * b.length < pos + n) :
    Con Try.prog 77 [.ptr 0 .z 4 0, .int .i64 n] [(.one 131 [.fn 80 [.ptr 1 .z 1 0, .ptr 2 .z 1 0], .int .u64 (bval (bitL b) pos (8 * at' - pos)), .int .i64 (((8 * at' - pos : Nat) : Int)), .fn 81 [.ptr 2 .z 1 0, .ptr 1 .z 1 0]]), .one 3 [.int .i64 at'], .one 23 [.slice 3 .z 1 b.length cap], .ro .u8 b]
      (fun v H R => v = .tup [.lit .u64 0, .lit .i64 10] ∧ R = [] ∧ H = [(.one 131 [.fn 80 [.ptr 1 .z 1 0, .ptr 2 .z 1 0], .int .u64 (bval (bitL b) (pos) (8 * b.length - (pos))), .int .i64 (((8 * b.length - (pos) : Nat) : Int)), .fn 81 [.ptr 2 .z 1 0, .ptr 1 .z 1 0]]), .one 3 [.int .i64 b.length], .one 23 [.slice 3 .z 1 b.length cap], .ro .u8 b]) := by
  have hfill := fill_end b pos at' cap n hby hl hp hp2 ha hn hen
  refine con_walk hmix fn77 ?_
  intro vb vc vw vtoN vofN vaddN vsubN vmaxI vminI vcutN vgd vst vln vrep vsub vonto vsplice vstrEq vbyteV vnotB veqB hw qb qc qw qtoN qofN qaddN qsubN qmaxI qminI qcutN qgd qst qln qrep qsub qonto qsplice qstrEq qbyteV qnotB qeqB
  generalize Try.prog = P at *
  generalize hacc2 : bval (bitL b) pos (8 * b.length - pos) = acc2 at *
  generalize hhave2 : ((8 * b.length - pos : Nat) : Int) = have2 at *
  generalize hlI : ((b.length : Nat) : Int) = lI at *
  generalize hacc : bval (bitL b) pos (8 * at' - pos) = acc at *
  generalize hhave : ((8 * at' - pos : Nat) : Int) = have0 at *
  generalize ha0 : ((at' : Nat) : Int) = a0 at *
  generalize hn0 : ((n : Nat) : Int) = n0 at *
  generalize b.length = len at *
  cbv
  have e1 : vc .lss n0 0 = false := by rw [qc, lss_false]; simp only [nc] at *; omega
  have e2 : vc .gtr n0 56 = false := by rw [qc, gtr_false]; simp only [nc] at *; omega
  have e4 : vnotB false = true := by simp only [qnotB]; rfl
  rw [e1]
  cbv
  rw [e2]
  cbv
  refine call_con (ρ := [(0, .z), (1, .z), (2, .z), (3, .z)]) hfill ⟨by rfl, by rfl, by rfl, by cbv; exact ⟨view_refl _, trivial⟩⟩ ?_
  rintro v H R js ⟨rfl, rfl, rfl⟩
  cbv
  rw [e4]
  cbv
theorem rb_ok (b : List Int) (pos at' cap n : Nat) (hby : ∀ x ∈ b, isByte x) (hl : b.length ≤ 2 ^ 50) (hp : pos ≤ 8 * at') (hp2 : 8 * at' ≤ pos + 63) (ha : at' ≤ b.length) (hn : n ≤ 56) (hen : pos + n ≤ 8 * b.length) :
    Con Try.prog 77 [.ptr 0 .z 4 0, .int .i64 n] [(.one 131 [.fn 80 [.ptr 1 .z 1 0, .ptr 2 .z 1 0], .int .u64 (bval (bitL b) pos (8 * at' - pos)), .int .i64 (((8 * at' - pos : Nat) : Int)), .fn 81 [.ptr 2 .z 1 0, .ptr 1 .z 1 0]]), .one 3 [.int .i64 at'], .one 23 [.slice 3 .z 1 b.length cap], .ro .u8 b]
      (fun v H R => v = .tup [.int .u64 (bval (bitL b) pos n), .lit .i64 0] ∧ R = [] ∧ ∃ a2 : Nat, pos + n ≤ 8 * a2 ∧ 8 * a2 ≤ pos + n + 63 ∧ a2 ≤ b.length ∧ H = [(.one 131 [.fn 80 [.ptr 1 .z 1 0, .ptr 2 .z 1 0], .int .u64 (bval (bitL b) (pos + n) (8 * a2 - (pos + n))), .int .i64 (((8 * a2 - (pos + n) : Nat) : Int)), .fn 81 [.ptr 2 .z 1 0, .ptr 1 .z 1 0]]), .one 3 [.int .i64 a2], .one 23 [.slice 3 .z 1 b.length cap], .ro .u8 b]) := by
  have hfill := fill_ok b pos at' cap n hby hl hp hp2 ha hn hen
  refine con_walk hmix fn77 ?_
  intro vb vc vw vtoN vofN vaddN vsubN vmaxI vminI vcutN vgd vst vln vrep vsub vonto vsplice vstrEq vbyteV vnotB veqB hw qb qc qw qtoN qofN qaddN qsubN qmaxI qminI qcutN qgd qst qln qrep qsub qonto qsplice qstrEq qbyteV qnotB qeqB
  generalize Try.prog = P at *
  generalize hacc : bval (bitL b) pos (8 * at' - pos) = acc at *
  generalize hhave : ((8 * at' - pos : Nat) : Int) = have0 at *
  generalize ha0 : ((at' : Nat) : Int) = a0 at *
  generalize hn0 : ((n : Nat) : Int) = n0 at *
  generalize hX : bval (bitL b) pos n = X
  generalize b.length = len at *
  cbv
  have e1 : vc .lss n0 0 = false := by rw [qc, lss_false]; simp only [nc] at *; omega
  have e2 : vc .gtr n0 56 = false := by rw [qc, gtr_false]; simp only [nc] at *; omega
  have e4 : vnotB true = false := by simp only [qnotB]; rfl
  have hwn : vw .u64 n0 = n0 := by simp only [nc] at *; simp only [qw]; exact wrap_u64 (by omega) (by omega)
  have hnn : 0 ≤ vw .u64 n0 := by rw [hwn]; simp only [nc] at *; omega
  rw [e1]
  cbv
  rw [e2]
  cbv
  simp only [nc] at hfill
  refine call_con (ρ := [(0, .z), (1, .z), (2, .z), (3, .z)]) hfill ⟨by rfl, by rfl, by rfl, by cbv; exact ⟨view_refl _, trivial⟩⟩ ?_
  rintro v H R js ⟨rfl, rfl, a2, h1, h2, h3, rfl⟩
  generalize hacc2 : bval (bitL b) pos (8 * a2 - pos) = acc2
  generalize hhave2 : ((8 * a2 - pos : Nat) : Int) = have2
  generalize hai2 : ((a2 : Nat) : Int) = ai2
  have hbm := bval_mod (bitL b) (bitL_bit b) pos n (8 * a2 - pos - n)
  have hbd := bval_bound (bitL b) (bitL_bit b) pos (8 * a2 - pos)
  rw [show n + (8 * a2 - pos - n) = 8 * a2 - pos by omega] at hbm
  rw [hacc2, hX] at hbm
  rw [hacc2] at hbd
  have hlt64 : acc2 < 2 ^ 64 := by
    have : (2 : Int) ^ (8 * a2 - pos) ≤ 2 ^ 64 := by exact_mod_cast Nat.pow_le_pow_right (by decide) (by omega)
    omega
  have hpn := pow_le_56 hn
  have hp0 : (0 : Int) < 2 ^ n := Int.pow_pos (by decide)
  have hn00 : n0.toNat = n := by simp only [nc] at *; omega
  have hx : vb .and .u64 acc2 (vb .sub .u64 (vb .shl .u64 1 (vw .u64 n0)) 1) = X := by
    have e1 : vb .shl .u64 1 n0 = 2 ^ n := by
      rw [qb, shl_u rfl (by decide) (by show n0 ≤ ((64 : Nat) : Int); simp only [nc] at *; omega) (by rw [hn00]; show _ < (2 : Int) ^ 64; omega), hn00]; omega
    have e2 : vb .sub .u64 (2 ^ n) 1 = 2 ^ n - 1 := by rw [qb]; exact wrap_u64 (by omega) (by omega)
    rw [hwn, e1, e2, qb, and_mask (k := .u64) rfl n (by show n ≤ 64; omega) hbd.1 hlt64]
    exact hbm.1
  have hsh : vb .shr .u64 acc2 (vw .u64 n0) = bval (bitL b) (pos + n) (8 * a2 - pos - n) := by
    rw [hwn, qb, shr_eq (by show n0 ≤ ((64 : Nat) : Int); simp only [nc] at *; omega), hn00]
    exact hbm.2
  have hhs : vb .sub .i64 have2 n0 = ((8 * a2 - (pos + n) : Nat) : Int) := by
    simp only [nc] at *; rw [qb, sub_i64 (by omega) (by omega)]; omega
  cbv
  rw [e4]
  cbv
  refine ⟨⟨hnn⟩, ⟨hnn⟩, ?_⟩
  rw [hx, hsh, hhs]
  refine ⟨rfl, a2, h1, by omega, h3, ?_⟩
  rw [show 8 * a2 - pos - n = 8 * a2 - (pos + n) by omega, ← hai2]
  rfl
/-- What Bits answers. -/
def rbX (b : List Int) (pos : Nat) (n : Int) : Int := if 0 ≤ n ∧ n ≤ 56 ∧ pos + n ≤ 8 * b.length then bval (bitL b) pos n.toNat else 0
def rbE (b : List Int) (pos : Nat) (n : Int) : Int := if 0 ≤ n ∧ n ≤ 56 then (if pos + n ≤ 8 * b.length then 0 else 10) else 2
def rbP (b : List Int) (pos : Nat) (n : Int) : Nat := if 0 ≤ n ∧ n ≤ 56 ∧ pos + n ≤ 8 * b.length then pos + n.toNat else pos
theorem rbits_con (b : List Int) (pos at' cap : Nat) (n : Int) (hby : ∀ x ∈ b, isByte x) (hl : b.length ≤ 2 ^ 50) (hp : pos ≤ 8 * at') (hp2 : 8 * at' ≤ pos + 63) (ha : at' ≤ b.length) :
    Con Try.prog 77 [.ptr 0 .z 4 0, .int .i64 n] [(.one 131 [.fn 80 [.ptr 1 .z 1 0, .ptr 2 .z 1 0], .int .u64 (bval (bitL b) pos (8 * at' - pos)), .int .i64 (((8 * at' - pos : Nat) : Int)), .fn 81 [.ptr 2 .z 1 0, .ptr 1 .z 1 0]]), .one 3 [.int .i64 at'], .one 23 [.slice 3 .z 1 b.length cap], .ro .u8 b]
      (fun v H R => v = .tup [.int .u64 (rbX b pos n), .int .i64 (rbE b pos n)] ∧ R = [] ∧ ∃ a2 : Nat, rbP b pos n ≤ 8 * a2 ∧ 8 * a2 ≤ rbP b pos n + 63 ∧ a2 ≤ b.length ∧ H = [(.one 131 [.fn 80 [.ptr 1 .z 1 0, .ptr 2 .z 1 0], .int .u64 (bval (bitL b) (rbP b pos n) (8 * a2 - (rbP b pos n))), .int .i64 (((8 * a2 - (rbP b pos n) : Nat) : Int)), .fn 81 [.ptr 2 .z 1 0, .ptr 1 .z 1 0]]), .one 3 [.int .i64 a2], .one 23 [.slice 3 .z 1 b.length cap], .ro .u8 b]) := by
  by_cases hn : 0 ≤ n ∧ n ≤ 56
  · obtain ⟨m, rfl⟩ : ∃ m : Nat, n = m := ⟨n.toNat, by omega⟩
    by_cases hen : pos + m ≤ 8 * b.length
    · have e1 : rbX b pos m = bval (bitL b) pos m := by unfold rbX; rw [if_pos ⟨hn.1, hn.2, by omega⟩]; rfl
      have e2 : rbE b pos m = 0 := by unfold rbE; rw [if_pos hn, if_pos (by omega)]
      have e3 : rbP b pos m = pos + m := by unfold rbP; rw [if_pos ⟨hn.1, hn.2, by omega⟩]; rfl
      rw [e1, e2, e3]
      refine con_gen ((rb_ok b pos at' cap m hby hl hp hp2 ha (by omega) hen).mono ?_)
      rintro v H R ⟨rfl, rfl, a2, h1, h2, h3, rfl⟩
      exact ⟨rfl, rfl, a2, h1, h2, h3, rfl⟩
    · have e1 : rbX b pos m = 0 := by unfold rbX; rw [if_neg (by omega)]
      have e2 : rbE b pos m = 10 := by unfold rbE; rw [if_pos hn, if_neg (by omega)]
      have e3 : rbP b pos m = pos := by unfold rbP; rw [if_neg (by omega)]
      rw [e1, e2, e3]
      refine con_gen ((rb_short b pos at' cap m hby hl hp hp2 ha (by omega) (by omega)).mono ?_)
      rintro v H R ⟨rfl, rfl, rfl⟩
      exact ⟨rfl, rfl, b.length, by omega, by omega, Nat.le_refl _, rfl⟩
  · have e1 : rbX b pos n = 0 := by unfold rbX; rw [if_neg (by omega)]
    have e2 : rbE b pos n = 2 := by unfold rbE; rw [if_neg hn]
    have e3 : rbP b pos n = pos := by unfold rbP; rw [if_neg (by omega)]
    rw [e1, e2, e3]
    refine con_gen ((rb_bad b pos at' cap n hn).mono ?_)
    rintro v H R ⟨rfl, rfl, rfl⟩
    exact ⟨rfl, rfl, at', hp, hp2, ha, rfl⟩
end Go.Proofs.Ytodobmkflimfkaa
namespace Go.Proofs.Ytodobmkflimfkaa
open Go Go.Sx Go.Proofs
theorem rleft_con (b : List Int) (pos at' cap : Nat) (hl : b.length ≤ 2 ^ 50) (hp : pos ≤ 8 * at') (ha : at' ≤ b.length) :
    Con Try.prog 35 [.ptr 0 .z 4 0] [(.one 131 [.fn 80 [.ptr 1 .z 1 0, .ptr 2 .z 1 0], .int .u64 (bval (bitL b) pos (8 * at' - pos)), .int .i64 (((8 * at' - pos : Nat) : Int)), .fn 81 [.ptr 2 .z 1 0, .ptr 1 .z 1 0]]), .one 3 [.int .i64 at'], .one 23 [.slice 3 .z 1 b.length cap], .ro .u8 b]
      (fun v H R => v = .int .i64 (8 * b.length - pos) ∧ R = [] ∧ H = [(.one 131 [.fn 80 [.ptr 1 .z 1 0, .ptr 2 .z 1 0], .int .u64 (bval (bitL b) pos (8 * at' - pos)), .int .i64 (((8 * at' - pos : Nat) : Int)), .fn 81 [.ptr 2 .z 1 0, .ptr 1 .z 1 0]]), .one 3 [.int .i64 at'], .one 23 [.slice 3 .z 1 b.length cap], .ro .u8 b]) := by
  have hleft := bleft_con b at' cap ha hl
  refine con_walk hmix fn35 ?_
  intro vb vc vw vtoN vofN vaddN vsubN vmaxI vminI vcutN vgd vst vln vrep vsub vonto vsplice vstrEq vbyteV vnotB veqB hw qb qc qw qtoN qofN qaddN qsubN qmaxI qminI qcutN qgd qst qln qrep qsub qonto qsplice qstrEq qbyteV qnotB qeqB
  generalize Try.prog = P at *
  generalize hr : 8 * ((b.length : Int) - at') = r at *
  generalize hacc : bval (bitL b) pos (8 * at' - pos) = acc at *
  generalize hhave : ((8 * at' - pos : Nat) : Int) = have0 at *
  generalize ha0 : ((at' : Nat) : Int) = a0 at *
  generalize hL : (8 * (b.length : Int) - pos) = L
  generalize hlen : b.length = len at *
  have e1 : vb .add .i64 have0 r = L := by rw [qb, add_i64 (by omega) (by omega)]; omega
  cbv
  refine call_con (ρ := [(1, .z), (2, .z), (3, .z)]) hleft ⟨by rfl, by rfl, by rfl, by cbv; exact ⟨view_refl _, trivial⟩⟩ ?_
  rintro v H R js ⟨rfl, rfl, rfl⟩
  cbv
  rw [e1]
  exact ⟨rfl, trivial⟩
/-- How many bits are ahead of the byte's end. -/
def alN (pos : Nat) : Int := ((8 - pos % 8) % 8 : Nat)
theorem rnew_con (b : List Int) (cap : Nat) (hl : b.length ≤ 140737488355328) : Con Try.prog 33 [.slice 0 .z 1 b.length cap] [.ro .u8 b]
    (fun v H R => v = .ptr 4 .z 4 0 ∧ R = [1] ∧ ∃ c, H = [.ro .u8 b, .buf 5 .u8 b c, .one 23 [.slice 1 .z 1 b.length c], .one 3 [.int .i64 0], .one 131 [.fn 80 [.ptr 3 .z 1 0, .ptr 2 .z 1 0], .int .u64 0, .int .i64 0, .fn 81 [.ptr 2 .z 1 0, .ptr 3 .z 1 0]]]) := by
  refine con_gen (con_walk hmix fn33 ?_)
  intro vb vc vw vtoN vofN vaddN vsubN vmaxI vminI vcutN vgd vst vln vrep vsub vonto vsplice vstrEq vbyteV vnotB veqB hw qb qc qw qtoN qofN qaddN qsubN qmaxI qminI qcutN qgd qst qln qrep qsub qonto qsplice qstrEq qbyteV qnotB qeqB
  generalize Try.prog = P at *
  generalize hlen : b.length = len at *
  have ha : vaddN 0 len = len := by simp only [qaddN, Nat.zero_add]
  have hpay : vonto [] 0 (vsub b 0 len) = b := by simp only [qonto, qsub]; simp [← hlen]
  cbv
  refine ⟨⟨by rw [ha]; simp only [qln]; omega⟩, ⟨Nat.zero_le _⟩, ⟨Nat.zero_le _⟩, ⟨by rw [ha]; omega⟩, ?_⟩
  intro c1 js1 hle
  cbv
  rw [ha, hpay]
  exact ⟨c1, rfl⟩
end Go.Proofs.Ytodobmkflimfkaa
namespace Go.Proofs.Ytodobmkflimfkaa
open Go Go.Sx Go.Proofs
set_option maxHeartbeats 2000000 in
theorem bput_con (bs : List Int) (c : Nat) (x : Int) (n : Nat) (hn : n ≤ 56) (hx : 0 ≤ x ∧ x < 2 ^ 64) (hb : ∀ b ∈ bs, isBit b) (hl : bs.length ≤ 2 ^ 40) :
    Con Try.prog 68 [.ptr 0 .z 2 0, .int .u64 x, .int .i64 n] [.one 92 [.slice 1 .z 1 (pack bs).length c, .int .i64 bs.length], .buf 5 .u8 (pack bs) c]
      (fun v H R => v = .lit .i64 0 ∧ R = [1] ∧ ∃ c', H = [.one 92 [.slice 1 .z 1 (pack (bs ++ bitsN x n)).length c', .int .i64 (bs ++ bitsN x n).length], .buf 5 .u8 (pack (bs ++ bitsN x n)) c']) := by
  refine con_cut 2 (by simp) (con_red [1] (con_walk hmix fn68 ?_))
  intro vb vc vw vtoN vofN vaddN vsubN vmaxI vminI vcutN vgd vst vln vrep vsub vonto vsplice vstrEq vbyteV vnotB veqB hw qb qc qw qtoN qofN qaddN qsubN qmaxI qminI qcutN qgd qst qln qrep qsub qonto qsplice qstrEq qbyteV qnotB qeqB
  have hm := hmix
  have f37 := fn113
  have f43 := fn139
  generalize Try.prog = P at *
  generalize hl0 : pack bs = l0
  generalize hm0 : (bs.length : Int) = m0
  generalize hn0 : (n : Int) = n0
  generalize hlen0 : l0.length = len0
  cbv
  have e1 : vc .lss n0 0 = false := by subst_vars; try simp only [nc] at *; simp [cV]
  have e2 : vc .gtr n0 56 = false := by subst_vars; try simp only [nc] at *; simp [cV]; omega
  rw [e1]
  cbv
  rw [e2]
  cbv
  refine inl_walk hw hm f37 (by rfl) ?_
  cbv
  intro js
  refine range_rule (by rfl) (by rfl) (by cbv) (by cbv) (by rfl) ?_
  refine inl_walk hw hm f43 (by rfl) ?_
  cbv
  refine loop_fam (α := Int × Int × Int × List Int × Nat × Nat) [4, 5, 6, 7, 8, 9, 10, 11, 12, 13, 14, 15] [1]
    (fun (xx, nn, mk, l, len, c) => []) (fun (xx, nn, mk, l, len, c) => [(0, .one 92 [.slice 1 .z 1 len c, .int .i64 mk]), (1, .buf 5 .u8 l c), (3, .one 31 [.int .u64 xx]), (4, .one 3 [.int .i64 nn])])
    (fun (xx, nn, mk, l, len, c) => ∃ i : Nat, xx = x / 2 ^ i ∧ nn = (n : Int) - i ∧ i ≤ n ∧ mk = (bs ++ bitsN x i).length ∧ l = pack (bs ++ bitsN x i) ∧ len = l.length) (fun (xx, nn, _) => nn.toNat) hw hm ?_ ?_
  · refine Cv.fold [4, 5, 6, 7, 8, 9, 10, 11, 12, 13, 14, 15] 7 [1] (by exact Nat.le_refl _) (by exact Nat.le_of_ble_eq_true rfl) (by rfl) (by cbv) ?_
    intro js
    refine ⟨(_, _, _, _, _, _), ?_, js, rfl⟩
    refine ⟨0, ?_, ?_, by omega, ?_, ?_, ?_⟩
    · rw [Int.pow_zero, Int.ediv_one]
    · simp only [nc] at *; omega
    · subst_vars; try simp only [nc] at *; simp [bitsN_zero]
    · subst_vars; try simp only [nc] at *; simp [bitsN_zero]
    · exact hlen0.symm
  · rintro ⟨xx, nn, mk, l, len, c⟩ js ⟨i, hxx, hnn1, hi, hmk, hl', hlen⟩
    have hbs : ∀ b ∈ bs ++ bitsN x i, isBit b := fun b h => (List.mem_append.1 h).elim (hb b) (bitsN_bit x i b)
    have hlb : (bs ++ bitsN x i).length ≤ 2 ^ 40 + 56 := by simp [bitsN_length]; omega
    generalize hBS : bs ++ bitsN x i = BS at *
    have hll : l.length = (BS.length + 7) / 8 := by rw [hl', pack_length]
    have hx0 : 0 ≤ xx ∧ xx < 2 ^ 64 := by
      have h1 : 0 ≤ x / 2 ^ i := Int.ediv_nonneg hx.1 (Int.le_of_lt (Int.pow_pos (by decide)))
      have h2 : x / 2 ^ i ≤ x := Int.ediv_le_self _ hx.1
      omega
    cbv
    split
    · rename_i hlt
      have hlt : i < n := by rw [qc, gtr_true] at hlt; simp only [nc] at *; omega
      have hx1 : vb .shr .u64 xx 1 = x / 2 ^ (i + 1) := by
        rw [qb, shr_eq (by decide), hxx, Int.ediv_ediv_of_nonneg (Int.le_of_lt (Int.pow_pos (by decide))), Int.pow_succ]
        rfl
      have hn1 : vb .sub .i64 nn 1 = (n : Int) - ((i + 1 : Nat) : Int) := by simp only [nc] at *; rw [qb, sub_i64 (by omega) (by omega)]; omega
      have hmu : (vb .sub .i64 nn 1).toNat < nn.toNat := by rw [hn1, hnn1]; simp only [nc] at *; omega
      have hbit : vw .u8 (vb .and .u64 xx 1) = x / 2 ^ i % 2 := by
        rw [qb, and_one rfl hx0.1 (by show _ < (2 : Int) ^ 64; omega), hxx]
        simp only [qw]
        exact wrap_u8 (by omega) (by omega)
      generalize hbb : x / 2 ^ i % 2 = bit at *
      have hbi : isBit bit := by rw [← hbb]; exact isBit_mod _
      have hnext : bs ++ bitsN x (i + 1) = BS ++ [bit] := by rw [bitsN_succ, ← List.append_assoc, hBS, hbb]
      have hrem : vb .rem .i64 mk 8 = mk % 8 := by subst_vars; try simp only [nc] at *; exact rem_i64 (by omega)
      have hquo : vtoN (vb .quo .i64 mk 8) = BS.length / 8 := by
        subst_vars
        try simp only [nc] at *
        rw [quo_i64 (by omega) (by omega) (by omega)]
        show Int.toNat _ = _
        omega
      have hmodw : vw .u64 (mk % 8) = mk % 8 := by rw [qw]; simp only [nc] at *; exact wrap_u64 (by omega) (by omega)
      have hpack : (room BS).set (BS.length / 8) (bV .or .u8 ((room BS).getD (BS.length / 8) 0) (bV .shl .u8 bit (mk % 8))) = pack (BS ++ [bit]) := by
        have := pack_step BS bit mk hbs hbi hmk
        have e : (mk / 8).toNat = BS.length / 8 := by simp only [nc] at *; omega
        rw [e] at this
        exact this
      have hd8 : BS.length / 8 < (room BS).length := by rw [room_length]; omega
      cbv
      refine yield_walk hw hm (by rfl) ?_
      cbv
      split
      · rename_i hr8
        have h8 : BS.length % 8 = 0 := by rw [hrem, qc, eql_true] at hr8; simp only [nc] at *; omega
        have hroom : room BS = l ++ [0] := by rw [room, if_pos h8, hl']
        have hsub : vsub [0] 0 1 = [0] := by subst_vars; rfl
        have honto : vonto l len [0] = room BS := by rw [hroom]; subst_vars; simp
        have hin : 0 ≤ vb .quo .i64 mk 8 ∧ vb .quo .i64 mk 8 < (vaddN len 1 : Nat) := by
          have hq : vb .quo .i64 mk 8 = mk / 8 := by subst_vars; simp only [nc] at *; rw [quo_i64 (by omega) (by omega) (by omega)]
          rw [hq]; subst_vars; simp only [nc] at *; omega
        have hlt2 : vtoN (vb .quo .i64 mk 8) < vln (vonto l len (vsub [0] 0 1)) := by rw [hquo, hsub, honto]; subst_vars; simp only [nc] at *; omega
        have hlt3 : vaddN 0 (vtoN (vb .quo .i64 mk 8)) < vln (vonto l len (vsub [0] 0 1)) := by rw [qaddN]; simpa using hlt2
        have hnn : 0 ≤ vw .u64 (vb .rem .i64 mk 8) := by rw [hrem]; subst_vars; simp only [nc] at *; rw [wrap_u64 (by omega) (by omega)]; omega
        cbv
        refine ⟨⟨?_⟩, ⟨?_⟩, ⟨?_⟩, ⟨?_⟩, ?_⟩
        · subst_vars; decide
        · subst_vars; exact Nat.le_refl _
        · exact Nat.le_refl _
        · subst_vars; simp only [nc] at *; omega
        intro c1 js1 hle
        cbv
        refine ⟨⟨hin⟩, ⟨hlt3⟩, ⟨hlt2⟩, ⟨hnn⟩, ⟨hin⟩, ⟨hlt3⟩, ⟨hlt2⟩, ?_⟩
        intro js1
        cbv
        have e3 : vnotB true = false := by subst_vars; rfl
        rw [e3]
        cbv
        refine Cv.fold [4, 5, 6, 7, 8, 9, 10, 11, 12, 13, 14, 15] 7 [1] (by exact Nat.le_refl _) (by exact Nat.le_of_ble_eq_true rfl) (by rfl) (by cbv) ?_
        intro js
        refine ⟨(_, _, _, _, _, _), ?_, js, rfl⟩
        refine ⟨⟨i + 1, hx1, hn1, by omega, ?_, ?_, ?_⟩, hmu⟩
        · rw [qb, add_i64 (by simp only [nc] at *; omega) (by simp only [nc] at *; omega), hnext]; simp only [nc, List.length_append] at *; simp; omega
        · rw [hsub, honto, hbit, hquo, hrem, hmodw, hnext, ← hpack]; subst_vars; rfl
        · rw [hsub, honto, qst]; simp only [List.length_set]; rw [hroom]; subst_vars; simp
      · rename_i hr8
        have h8 : BS.length % 8 ≠ 0 := by rw [hrem, qc, eql_false] at hr8; simp only [nc] at *; omega
        have hroom : room BS = l := by rw [room, if_neg h8, hl']
        have hin : 0 ≤ vb .quo .i64 mk 8 ∧ vb .quo .i64 mk 8 < len := by
          have hq : vb .quo .i64 mk 8 = mk / 8 := by subst_vars; simp only [nc] at *; rw [quo_i64 (by omega) (by omega) (by omega)]
          rw [hq]; rw [hroom] at hd8; subst_vars; simp only [nc] at *; omega
        have hlt2 : vtoN (vb .quo .i64 mk 8) < vln l := by rw [hquo]; rw [hroom] at hd8; subst_vars; simp only [nc] at *; omega
        have hlt3 : vaddN 0 (vtoN (vb .quo .i64 mk 8)) < vln l := by rw [qaddN]; simpa using hlt2
        have hnn : 0 ≤ vw .u64 (vb .rem .i64 mk 8) := by rw [hrem]; subst_vars; simp only [nc] at *; rw [wrap_u64 (by omega) (by omega)]; omega
        cbv
        refine ⟨⟨hin⟩, ⟨hlt3⟩, ⟨hlt2⟩, ⟨hnn⟩, ⟨hin⟩, ⟨hlt3⟩, ⟨hlt2⟩, ?_⟩
        intro js1
        cbv
        have e3 : vnotB true = false := by subst_vars; rfl
        rw [e3]
        cbv
        refine Cv.fold [4, 5, 6, 7, 8, 9, 10, 11, 12, 13, 14, 15] 7 [1] (by exact Nat.le_refl _) (by exact Nat.le_of_ble_eq_true rfl) (by rfl) (by cbv) ?_
        intro js
        refine ⟨(_, _, _, _, _, _), ?_, js, rfl⟩
        refine ⟨⟨i + 1, hx1, hn1, by omega, ?_, ?_, ?_⟩, hmu⟩
        · rw [qb, add_i64 (by simp only [nc] at *; omega) (by simp only [nc] at *; omega), hnext]; simp only [nc, List.length_append] at *; simp; omega
        · rw [hbit, hquo, hrem, hmodw, hnext, ← hpack, hroom]; subst_vars; rfl
        · rw [qst]; simp only [List.length_set]; exact hlen
    · rename_i hge
      have hin : i = n := by rw [qc, gtr_false] at hge; simp only [nc] at *; omega
      subst hin
      cbv
      intro js1
      cbv
      refine ⟨c, ?_⟩
      subst_vars
      rfl
end Go.Proofs.Ytodobmkflimfkaa
namespace Go.Proofs.Ytodobmkflimfkaa
open Go Go.Sx Go.Proofs
theorem bputA_con (bs : List Int) (c : Nat) (x n : Int) (hx : 0 ≤ x ∧ x < 2 ^ 64) (hb : ∀ b ∈ bs, isBit b) (hl : bs.length ≤ 2 ^ 40) :
    Con Try.prog 68 [.ptr 0 .z 2 0, .int .u64 x, .int .i64 n] [.one 92 [.slice 1 .z 1 (pack bs).length c, .int .i64 bs.length], .buf 5 .u8 (pack bs) c]
      (fun v H R => v = .int .i64 (putErr n) ∧ R = [1] ∧ ∃ c', H = [.one 92 [.slice 1 .z 1 (pack (putBits bs x n)).length c', .int .i64 (putBits bs x n).length], .buf 5 .u8 (pack (putBits bs x n)) c']) := by
  by_cases hn : 0 ≤ n ∧ n ≤ 56
  · obtain ⟨m, rfl⟩ : ∃ m : Nat, n = m := ⟨n.toNat, by omega⟩
    refine con_gen ((bput_con bs c x m (by omega) hx hb hl).mono ?_)
    rintro v H R ⟨rfl, rfl, c', rfl⟩
    have e : putBits bs x m = bs ++ bitsN x m := by unfold putBits; rw [if_pos hn]; rfl
    have e2 : putErr m = 0 := by unfold putErr; rw [if_pos hn]
    rw [e, e2]
    exact ⟨rfl, rfl, c', rfl⟩
  · have e : putBits bs x n = bs := by unfold putBits; rw [if_neg hn]
    have e2 : putErr n = 2 := by unfold putErr; rw [if_neg hn]
    rw [e, e2]
    refine con_gen (con_cut 2 (by simp) (con_red [1] (con_walk hmix fn68 ?_)))
    intro vb vc vw vtoN vofN vaddN vsubN vmaxI vminI vcutN vgd vst vln vrep vsub vonto vsplice vstrEq vbyteV vnotB veqB hw qb qc qw qtoN qofN qaddN qsubN qmaxI qminI qcutN qgd qst qln qrep qsub qonto qsplice qstrEq qbyteV qnotB qeqB
    generalize Try.prog = P at *
    generalize pack bs = l0 at *
    generalize l0.length = len0 at *
    generalize (bs.length : Int) = m0 at *
    cbv
    generalize h1 : vc .lss n 0 = z1
    cases z1
    · cbv
      have h2 : vc .gtr n 56 = true := by rw [qc, lss_false] at h1; rw [qc, gtr_true]; omega
      rw [h2]
      cbv
      exact ⟨c, rfl⟩
    · cbv
      exact ⟨c, rfl⟩
/-- Bits up to the byte's end. -/
def padBits (bs : List Int) : List Int := bs ++ List.replicate ((8 - bs.length % 8) % 8) 0
theorem padBits_bit {bs : List Int} (h : ∀ b ∈ bs, isBit b) : ∀ b ∈ padBits bs, isBit b := by
  intro b hb
  rcases List.mem_append.1 hb with hb | hb
  · exact h b hb
  · exact .inl (List.eq_of_mem_replicate hb)
theorem bval_pad (bs : List Int) (m i : Nat) : ∀ n, bval (bs ++ List.replicate m 0) i n = bval bs i n
  | 0 => rfl
  | n + 1 => by
    simp only [bval]
    rw [bval_pad bs m i n]
    congr 2
    simp only [List.getD_eq_getElem?_getD, List.getElem?_append]
    split
    · rfl
    · rename_i h
      rw [List.getElem?_eq_none (show bs.length ≤ i + n by omega), List.getElem?_replicate]
      split <;> rfl
theorem pack_pad (bs : List Int) : pack (padBits bs) = pack bs ∧ (padBits bs).length = 8 * (pack bs).length := by
  have hl : (padBits bs).length = bs.length + (8 - bs.length % 8) % 8 := by simp [padBits]
  constructor
  · unfold pack
    rw [hl]
    have e : (bs.length + (8 - bs.length % 8) % 8 + 7) / 8 = (bs.length + 7) / 8 := by omega
    rw [e]
    exact List.map_congr_left fun i _ => bval_pad bs _ _ 8
  · rw [hl, pack_length]; omega
theorem bbytes_con (bs : List Int) (c : Nat) (hl : bs.length ≤ 2 ^ 40) :
    Con Try.prog 53 [.ptr 0 .z 2 0] [.one 92 [.slice 1 .z 1 (pack bs).length c, .int .i64 bs.length], .buf 5 .u8 (pack bs) c]
      (fun v H R => R = [2] ∧ ∃ c', v = .slice 2 .z 1 (pack bs).length c' ∧ H = [.one 92 [.slice 1 .z 1 (pack bs).length c, .int .i64 bs.length], .buf 5 .u8 (pack bs) c, .buf 5 .u8 (pack bs) c']) := by
  have hpl : (pack bs).length ≤ 2 ^ 40 := by rw [pack_length]; omega
  refine con_red [2] (con_walk hmix fn53 ?_)
  intro vb vc vw vtoN vofN vaddN vsubN vmaxI vminI vcutN vgd vst vln vrep vsub vonto vsplice vstrEq vbyteV vnotB veqB hw qb qc qw qtoN qofN qaddN qsubN qmaxI qminI qcutN qgd qst qln qrep qsub qonto qsplice qstrEq qbyteV qnotB qeqB
  generalize Try.prog = P at *
  generalize pack bs = l0 at *
  generalize hlen0 : l0.length = len0 at *
  generalize (bs.length : Int) = m0 at *
  have ha : vaddN 0 len0 = len0 := by simp only [qaddN, Nat.zero_add]
  have hpay : vonto [] 0 (vsub l0 0 len0) = l0 := by simp only [qonto, qsub]; simp [← hlen0]
  cbv
  refine ⟨⟨by rw [ha]; simp only [qln]; omega⟩, ⟨Nat.zero_le _⟩, ⟨Nat.zero_le _⟩, ⟨by rw [ha]; omega⟩, ?_⟩
  intro c1 js1 hle
  cbv
  rw [ha, hpay]
  exact ⟨c1, rfl, rfl⟩
theorem bbits_nil (n : Int) : Con Try.prog 77 [.val (.pointer none), .int .i64 n] [] (fun v H R => v = .tup [.lit .u64 0, .lit .i64 1] ∧ H = [] ∧ R = []) := by
  refine con_walk hmix fn77 ?_
  intro vb vc vw vtoN vofN vaddN vsubN vmaxI vminI vcutN vgd vst vln vrep vsub vonto vsplice vstrEq vbyteV vnotB veqB hw qb qc qw qtoN qofN qaddN qsubN qmaxI qminI qcutN qgd qst qln qrep qsub qonto qsplice qstrEq qbyteV qnotB qeqB
  generalize Try.prog = P at *
  cbv
theorem bleft_nil : Con Try.prog 35 [.val (.pointer none)] [] (fun v H R => v = .lit .i64 0 ∧ H = [] ∧ R = []) := by
  refine con_walk hmix fn35 ?_
  intro vb vc vw vtoN vofN vaddN vsubN vmaxI vminI vcutN vgd vst vln vrep vsub vonto vsplice vstrEq vbyteV vnotB veqB hw qb qc qw qtoN qofN qaddN qsubN qmaxI qminI qcutN qgd qst qln qrep qsub qonto qsplice qstrEq qbyteV qnotB qeqB
  generalize Try.prog = P at *
  cbv
theorem bput_nil (x n : Int) : Con Try.prog 68 [.val (.pointer none), .int .u64 x, .int .i64 n] [] (fun v H R => v = .lit .i64 1 ∧ H = [] ∧ R = []) := by
  refine con_cut 0 (by simp) (con_walk hmix fn68 ?_)
  intro vb vc vw vtoN vofN vaddN vsubN vmaxI vminI vcutN vgd vst vln vrep vsub vonto vsplice vstrEq vbyteV vnotB veqB hw qb qc qw qtoN qofN qaddN qsubN qmaxI qminI qcutN qgd qst qln qrep qsub qonto qsplice qstrEq qbyteV qnotB qeqB
  generalize Try.prog = P at *
  cbv
theorem bbytes_nil : Con Try.prog 53 [.val (.pointer none)] [] (fun v H R => v = .val (.slice none 0 0) ∧ H = [] ∧ R = []) := by
  refine con_walk hmix fn53 ?_
  intro vb vc vw vtoN vofN vaddN vsubN vmaxI vminI vcutN vgd vst vln vrep vsub vonto vsplice vstrEq vbyteV vnotB veqB hw qb qc qw qtoN qofN qaddN qsubN qmaxI qminI qcutN qgd qst qln qrep qsub qonto qsplice qstrEq qbyteV qnotB qeqB
  generalize Try.prog = P at *
  cbv
end Go.Proofs.Ytodobmkflimfkaa
/-
  Plain: what is put, and padded, is read ag it was.
-/
namespace Go.Proofs.Ytodobmkflimfkaa
open Go Go.Sx
theorem mod_snoc (x : Int) (n : Nat) : x % 2 ^ (n + 1) = x % 2 ^ n + x / 2 ^ n % 2 * 2 ^ n := by
  have hp : (0 : Int) < 2 ^ n := Int.pow_pos (by decide)
  rw [Int.pow_succ, Int.emod_def x (2 ^ n * 2), Int.emod_def x (2 ^ n), ← Int.ediv_ediv_of_nonneg (Int.le_of_lt hp), Int.emod_def (x / 2 ^ n) 2]
  generalize x / 2 ^ n = q
  generalize (2 : Int) ^ n = m
  rw [Int.sub_mul, Int.mul_assoc m 2, Int.mul_comm m (2 * (q / 2)), Int.mul_comm m q]
  omega
theorem bval_of_bits (l : List Int) (i : Nat) (x : Int) : ∀ n, (∀ j, j < n → l.getD (i + j) 0 = x / 2 ^ j % 2) → bval l i n = x % 2 ^ n
  | 0, _ => by simp [bval, Int.emod_one]
  | n + 1, h => by
    simp only [bval]
    rw [bval_of_bits l i x n (fun j hj => h j (by omega)), h n (by omega), mod_snoc]
theorem bval_congr (l l' : List Int) (h : ∀ j, l.getD j 0 = l'.getD j 0) (i : Nat) : ∀ n, bval l i n = bval l' i n
  | 0 => rfl
  | n + 1 => by simp only [bval]; rw [bval_congr l l' h i n, h]
theorem bitL_pack (bs : List Int) (hb : ∀ b ∈ bs, isBit b) (i n : Nat) : bval (bitL (pack bs)) i n = bval bs i n := by
  refine bval_congr _ _ (fun j => ?_) i n
  by_cases hj : j < 8 * (pack bs).length
  · rw [bitL_get _ _ hj, bitAt_pack bs hb]
  · rw [List.getD_eq_getElem?_getD, List.getD_eq_getElem?_getD, List.getElem?_eq_none (by rw [bitL_length]; omega), List.getElem?_eq_none (by rw [pack_length] at hj; omega)]
/-- The bits of a row of numbers and of steps to the byte's end. -/
def wb (xs ns : Nat → Int) (ag : Nat → Bool) : Nat → List Int
  | 0 => []
  | k + 1 => if ag k then padBits (wb xs ns ag k) else putBits (wb xs ns ag k) (xs k) (ns k)
theorem wb_bit (xs ns : Nat → Int) (ag : Nat → Bool) : ∀ k, ∀ b ∈ wb xs ns ag k, isBit b
  | 0 => by simp [wb]
  | k + 1 => by
    unfold wb
    split
    · exact padBits_bit (wb_bit xs ns ag k)
    · exact putBits_bit (wb_bit xs ns ag k)
theorem padBits_length (bs : List Int) : (padBits bs).length = bs.length + (8 - bs.length % 8) % 8 := by simp [padBits]
theorem wb_length (xs ns : Nat → Int) (ag : Nat → Bool) : ∀ k, (wb xs ns ag k).length ≤ 56 * k
  | 0 => by simp [wb]
  | k + 1 => by
    have h := wb_length xs ns ag k
    have h1 := putBits_length (wb xs ns ag k) (xs k) (ns k)
    have h2 := padBits_length (wb xs ns ag k)
    unfold wb
    split <;> omega
theorem wb_split (xs ns : Nat → Int) (ag : Nat → Bool) (j : Nat) : ∀ i, j ≤ i → ∃ rest, wb xs ns ag i = wb xs ns ag j ++ rest
  | 0, h => ⟨[], by rw [Nat.le_zero.1 h]; simp⟩
  | i + 1, h => by
    by_cases he : j = i + 1
    · exact ⟨[], by rw [he]; simp⟩
    · obtain ⟨rest, hr⟩ := wb_split xs ns ag j i (by omega)
      have e : wb xs ns ag (i + 1) = if ag i then padBits (wb xs ns ag i) else putBits (wb xs ns ag i) (xs i) (ns i) := rfl
      rw [e]
      unfold putBits padBits
      repeat' split
      · exact ⟨_, by rw [hr, List.append_assoc]⟩
      · exact ⟨_, by rw [hr, List.append_assoc]⟩
      · exact ⟨rest, hr⟩
/-- What is read at a put. -/
theorem wb_put (xs ns : Nat → Int) (ag : Nat → Bool) (k L : Nat) (hk : k < L) (ha : ag k = false) (hn : 0 ≤ ns k ∧ ns k ≤ 56) :
    (wb xs ns ag (k + 1)).length = (wb xs ns ag k).length + (ns k).toNat ∧ (wb xs ns ag (k + 1)).length ≤ (wb xs ns ag L).length ∧
    bval (wb xs ns ag L) (wb xs ns ag k).length (ns k).toNat = xs k % 2 ^ (ns k).toNat := by
  obtain ⟨rest, hr⟩ := wb_split xs ns ag (k + 1) L (by omega)
  have e : wb xs ns ag (k + 1) = wb xs ns ag k ++ bitsN (xs k) (ns k).toNat := by
    have e : wb xs ns ag (k + 1) = if ag k then padBits (wb xs ns ag k) else putBits (wb xs ns ag k) (xs k) (ns k) := rfl
    rw [e, ha]
    unfold putBits
    rw [if_pos hn]
    rfl
  refine ⟨by rw [e, List.length_append, bitsN_length], by rw [hr, List.length_append]; omega, ?_⟩
  refine bval_of_bits _ _ _ _ fun j hj => ?_
  rw [hr, e, List.getD_eq_getElem?_getD, List.append_assoc, List.getElem?_append_right (by omega), List.getElem?_append_left (by rw [bitsN_length]; omega)]
  simp [bitsN, hj]
/-- What is read at a step to the byte's end. -/
theorem wb_pad (xs ns : Nat → Int) (ag : Nat → Bool) (k L : Nat) (hk : k < L) (ha : ag k = true) :
    (wb xs ns ag (k + 1)).length = (wb xs ns ag k).length + (alN (wb xs ns ag k).length).toNat ∧ (wb xs ns ag (k + 1)).length ≤ (wb xs ns ag L).length ∧
    bval (wb xs ns ag L) (wb xs ns ag k).length (alN (wb xs ns ag k).length).toNat = 0 := by
  obtain ⟨rest, hr⟩ := wb_split xs ns ag (k + 1) L (by omega)
  have e : wb xs ns ag (k + 1) = wb xs ns ag k ++ List.replicate ((8 - (wb xs ns ag k).length % 8) % 8) 0 := by
    have e : wb xs ns ag (k + 1) = if ag k then padBits (wb xs ns ag k) else putBits (wb xs ns ag k) (xs k) (ns k) := rfl
    rw [e, ha]
    rfl
  have ea : (alN (wb xs ns ag k).length).toNat = (8 - (wb xs ns ag k).length % 8) % 8 := by unfold alN; omega
  refine ⟨by rw [e, ea, List.length_append, List.length_replicate], by rw [hr, List.length_append]; omega, ?_⟩
  rw [ea]
  have := bval_of_bits (wb xs ns ag L) (wb xs ns ag k).length 0 ((8 - (wb xs ns ag k).length % 8) % 8) fun j hj => by
    rw [hr, e, List.getD_eq_getElem?_getD, List.append_assoc, List.getElem?_append_right (by omega), List.getElem?_append_left (by rw [List.length_replicate]; omega), List.getElem?_replicate]
    split <;> simp
  rw [this]
  simp
end Go.Proofs.Ytodobmkflimfkaa
namespace Go.Proofs.Ytodobmkflimfkaa
open Go Go.Sx Go.Proofs
/-- A reader at a bit. -/
def RS (b : List Int) (pos : Nat) (acc hv ai : Int) : Prop := ∃ at' : Nat, pos ≤ 8 * at' ∧ 8 * at' ≤ pos + 63 ∧ at' ≤ b.length ∧ acc = bval (bitL b) pos (8 * at' - pos) ∧ hv = ((8 * at' - pos : Nat) : Int) ∧ ai = at'
theorem RS.start (b : List Int) : RS b 0 0 0 0 := ⟨0, by omega, by omega, by omega, rfl, rfl, rfl⟩
theorem rbits_rs (b : List Int) (pos cap : Nat) (n acc hv ai : Int) (hby : ∀ x ∈ b, isByte x) (hl : b.length ≤ 2 ^ 50) (h : RS b pos acc hv ai) :
    Con Try.prog 77 [.ptr 0 .z 4 0, .int .i64 n] [(.one 131 [.fn 80 [.ptr 1 .z 1 0, .ptr 2 .z 1 0], .int .u64 (acc), .int .i64 (hv), .fn 81 [.ptr 2 .z 1 0, .ptr 1 .z 1 0]]), .one 3 [.int .i64 ai], .one 23 [.slice 3 .z 1 b.length cap], .ro .u8 b]
      (fun v H R => v = .tup [.int .u64 (rbX b pos n), .int .i64 (rbE b pos n)] ∧ R = [] ∧ ∃ acc2 hv2 ai2, RS b (rbP b pos n) acc2 hv2 ai2 ∧ H = [(.one 131 [.fn 80 [.ptr 1 .z 1 0, .ptr 2 .z 1 0], .int .u64 (acc2), .int .i64 (hv2), .fn 81 [.ptr 2 .z 1 0, .ptr 1 .z 1 0]]), .one 3 [.int .i64 ai2], .one 23 [.slice 3 .z 1 b.length cap], .ro .u8 b]) := by
  obtain ⟨at', h1, h2, h3, rfl, rfl, rfl⟩ := h
  refine (rbits_con b pos at' cap n hby hl h1 h2 h3).mono ?_
  rintro v H R ⟨e1, e2, a2, e3, e4, e5, e6⟩
  exact ⟨e1, e2, _, _, _, ⟨a2, e3, e4, e5, rfl, rfl, rfl⟩, e6⟩
theorem rleft_rs (b : List Int) (pos cap : Nat) (acc hv ai : Int) (hl : b.length ≤ 2 ^ 50) (h : RS b pos acc hv ai) :
    Con Try.prog 35 [.ptr 0 .z 4 0] [(.one 131 [.fn 80 [.ptr 1 .z 1 0, .ptr 2 .z 1 0], .int .u64 (acc), .int .i64 (hv), .fn 81 [.ptr 2 .z 1 0, .ptr 1 .z 1 0]]), .one 3 [.int .i64 ai], .one 23 [.slice 3 .z 1 b.length cap], .ro .u8 b]
      (fun v H R => v = .int .i64 (8 * b.length - pos) ∧ R = [] ∧ H = [(.one 131 [.fn 80 [.ptr 1 .z 1 0, .ptr 2 .z 1 0], .int .u64 (acc), .int .i64 (hv), .fn 81 [.ptr 2 .z 1 0, .ptr 1 .z 1 0]]), .one 3 [.int .i64 ai], .one 23 [.slice 3 .z 1 b.length cap], .ro .u8 b]) := by
  obtain ⟨at', h1, h2, h3, rfl, rfl, rfl⟩ := h
  exact rleft_con b pos at' cap hl h1 h3
end Go.Proofs.Ytodobmkflimfkaa
namespace Go.Proofs.Ytodobmkflimfkaa
open Go Go.Sx Go.Proofs
set_option maxHeartbeats 2000000 in
theorem brefput_con (L : List Int) (c : Nat) (x n : Int) (hx : 0 ≤ x ∧ x < 2 ^ 64) (hl : L.length ≤ 2 ^ 40) :
    Con Try.prog 71 [.ptr 0 .z 1 0, .int .u64 x, .int .i64 n] [.one 95 [.slice 1 .z 1 L.length c], .buf 5 .u8 L c]
      (fun v H R => v = .int .i64 (putErr n) ∧ R = [1] ∧ ∃ c', H = [.one 95 [.slice 1 .z 1 (putBits L x n).length c'], .buf 5 .u8 (putBits L x n) c']) := by
  by_cases hn : 0 ≤ n ∧ n ≤ 56
  · obtain ⟨N, rfl⟩ : ∃ m : Nat, n = m := ⟨n.toNat, by omega⟩
    have e : putBits L x N = L ++ bitsN x N := by unfold putBits; rw [if_pos hn]; rfl
    have e2 : putErr N = 0 := by unfold putErr; rw [if_pos hn]
    rw [e, e2]
    refine con_gen (con_cut 2 (by simp) (con_red [1] (con_walk hmix fn71 ?_)))
    intro vb vc vw vtoN vofN vaddN vsubN vmaxI vminI vcutN vgd vst vln vrep vsub vonto vsplice vstrEq vbyteV vnotB veqB hw qb qc qw qtoN qofN qaddN qsubN qmaxI qminI qcutN qgd qst qln qrep qsub qonto qsplice qstrEq qbyteV qnotB qeqB
    have hm := hmix
    generalize Try.prog = P at *
    generalize hlen0 : L.length = len0
    generalize hF : L ++ bitsN x N = F
    generalize hFn : F.length = Fn
    generalize hn0 : (N : Int) = n0 at *
    cbv
    have e1 : vc .lss n0 0 = false := by rw [qc, lss_false]; omega
    have e2 : vc .gtr n0 56 = false := by rw [qc, gtr_false]; omega
    rw [e1]
    cbv
    rw [e2]
    cbv
    refine loop_fam (α := Int × List Int × Nat × Nat) [14, 15, 16, 17, 18, 19, 20, 21, 22, 23, 24, 25, 26, 27, 28, 29, 30, 31, 32, 33] [1]
      (fun (k, l, len, c) => [(7, .int .i64 k)]) (fun (k, l, len, c) => [(0, .one 95 [.slice 1 .z 1 len c]), (1, .buf 5 .u8 l c)])
      (fun (k, l, len, c) => ∃ i : Nat, k = i ∧ i ≤ N ∧ l = L ++ bitsN x i ∧ len = l.length) (fun (k, _) => N - k.toNat) hw hm ?_ ?_
    · refine Cv.genAt [7] [] (Cv.fold [14, 15, 16, 17, 18, 19, 20, 21, 22, 23, 24, 25, 26, 27, 28, 29, 30, 31, 32, 33] 2 [1] (by exact Nat.le_refl _) (by exact Nat.le_refl _) (by rfl) (by cbv) ?_)
      intro js
      refine ⟨(_, _, _, _), ?_, js, rfl⟩
      exact ⟨0, rfl, by omega, by simp [bitsN_zero], hlen0.symm⟩
    · rintro ⟨k, l, len, c⟩ js ⟨i, hk, hi, hl', hlen⟩
      have hll : l.length = L.length + i := by rw [hl', List.length_append, bitsN_length]
      cbv
      split
      · rename_i hlt
        have hlt : i < N := by rw [qc, lss_true] at hlt; simp only [nc] at *; omega
        have hcv : vw .u64 k = k := by simp only [nc] at *; simp only [qw]; exact wrap_u64 (by omega) (by omega)
        have hbit : vw .u8 (vb .and .u64 (vb .shr .u64 x (vw .u64 k)) 1) = x / 2 ^ i % 2 := by
          simp only [nc] at *
          rw [hcv, hk, qb, shr_eq (by show (i : Int) ≤ ((64 : Nat) : Int); omega)]
          have h1 : 0 ≤ x / 2 ^ i := Int.ediv_nonneg hx.1 (Int.le_of_lt (Int.pow_pos (by decide)))
          have h2 : x / 2 ^ i ≤ x := Int.ediv_le_self _ hx.1
          rw [Int.toNat_natCast, and_one rfl h1 (by show _ < (2 : Int) ^ 64; omega), qw]
          exact wrap_u8 (by omega) (by omega)
        have hk1 : vb .add .i64 k 1 = ((i + 1 : Nat) : Int) := by simp only [nc] at *; rw [qb, add_i64 (by omega) (by omega)]; omega
        cbv
        refine ⟨⟨by rw [hcv]; simp only [nc] at *; omega⟩, ⟨by simp only [qaddN, qln]; exact Nat.le_refl _⟩, ⟨by simp only [qln]; omega⟩, ⟨Nat.le_refl _⟩, ⟨by simp only [nc] at *; simp only [qaddN]; omega⟩, ?_⟩
        intro c1 js1 hle
        cbv
        refine Cv.fold [14, 15, 16, 17, 18, 19, 20, 21, 22, 23, 24, 25, 26, 27, 28, 29, 30, 31, 32, 33] 2 [1] (by exact Nat.le_refl _) (by exact Nat.le_succ _) (by rfl) (by cbv) ?_
        intro js
        refine ⟨(_, _, _, _), ?_, js, rfl⟩
        have hnew : vonto l len (vsub [vw .u8 (vb .and .u64 (vb .shr .u64 x (vw .u64 k)) 1)] 0 1) = L ++ bitsN x (i + 1) := by
          rw [hbit]; simp only [qonto, qsub]; rw [bitsN_succ, ← List.append_assoc, ← hl', hlen]; simp
        exact ⟨⟨i + 1, hk1, hlt, hnew, by rw [hnew]; simp only [qaddN]; rw [List.length_append, bitsN_length]; omega⟩, by show N - (vb .add .i64 k 1).toNat < N - k.toNat; rw [hk1, hk]; simp only [nc] at *; omega⟩
      · rename_i hge
        have hin : i = N := by rw [qc, lss_false] at hge; simp only [nc] at *; omega
        subst hin
        cbv
        refine ⟨c, ?_⟩
        have e3 : l = F := by rw [hl', hF]
        have e4 : len = Fn := by rw [hlen, ← hFn, e3]
        rw [e3, e4]
        rfl
  · have e : putBits L x n = L := by unfold putBits; rw [if_neg hn]
    have e2 : putErr n = 2 := by unfold putErr; rw [if_neg hn]
    rw [e, e2]
    refine con_gen (con_cut 2 (by simp) (con_red [1] (con_walk hmix fn71 ?_)))
    intro vb vc vw vtoN vofN vaddN vsubN vmaxI vminI vcutN vgd vst vln vrep vsub vonto vsplice vstrEq vbyteV vnotB veqB hw qb qc qw qtoN qofN qaddN qsubN qmaxI qminI qcutN qgd qst qln qrep qsub qonto qsplice qstrEq qbyteV qnotB qeqB
    generalize Try.prog = P at *
    generalize L.length = len0 at *
    cbv
    generalize h1 : vc .lss n 0 = z1
    cases z1
    · cbv
      have h2 : vc .gtr n 56 = true := by rw [qc, lss_false] at h1; rw [qc, gtr_true]; omega
      rw [h2]
      cbv
      exact ⟨c, rfl⟩
    · cbv
      exact ⟨c, rfl⟩
set_option maxHeartbeats 2000000 in
theorem brefalign_con (L : List Int) (c : Nat) (hl : L.length ≤ 2 ^ 40) :
    Con Try.prog 74 [.ptr 0 .z 1 0] [.one 95 [.slice 1 .z 1 L.length c], .buf 5 .u8 L c]
      (fun v H R => v = .tup [] ∧ R = [1] ∧ ∃ c', H = [.one 95 [.slice 1 .z 1 (padBits L).length c'], .buf 5 .u8 (padBits L) c']) := by
  have hpl := padBits_length L
  have hpd : padBits L = L ++ List.replicate ((8 - L.length % 8) % 8) 0 := rfl
  refine con_cut 2 (by simp) (con_red [1] (con_walk hmix fn74 ?_))
  intro vb vc vw vtoN vofN vaddN vsubN vmaxI vminI vcutN vgd vst vln vrep vsub vonto vsplice vstrEq vbyteV vnotB veqB hw qb qc qw qtoN qofN qaddN qsubN qmaxI qminI qcutN qgd qst qln qrep qsub qonto qsplice qstrEq qbyteV qnotB qeqB
  have hm := hmix
  generalize Try.prog = P at *
  generalize hF : padBits L = F at *
  generalize hFn : F.length = Fn at *
  generalize hlen0 : L.length = len0 at *
  cbv
  refine loop_fam (α := List Int × Nat × Nat) [2, 3, 4, 5, 6, 7, 8, 9, 10, 11, 12, 13, 14, 15, 16, 17] [1]
    (fun (l, len, c) => []) (fun (l, len, c) => [(0, .one 95 [.slice 1 .z 1 len c]), (1, .buf 5 .u8 l c)])
    (fun (l, len, c) => ∃ i : Nat, i ≤ (8 - len0 % 8) % 8 ∧ l = L ++ List.replicate i 0 ∧ len = len0 + i) (fun (l, len, c) => len0 + (8 - len0 % 8) % 8 - len) hw hm ?_ ?_
  · refine Cv.fold [2, 3, 4, 5, 6, 7, 8, 9, 10, 11, 12, 13, 14, 15, 16, 17] 2 [1] (by exact Nat.le_refl _) (by exact Nat.le_of_ble_eq_true rfl) (by rfl) (by cbv) ?_
    intro js
    refine ⟨(_, _, _), ?_, js, rfl⟩
    exact ⟨0, by omega, by simp, rfl⟩
  · rintro ⟨l, len, c⟩ js ⟨i, hi, hl', hlen⟩
    have hll : l.length = len := by rw [hl', List.length_append, List.length_replicate, hlen0, hlen]
    have hrem : vb .rem .i64 (vofN len) 8 = ((len % 8 : Nat) : Int) := by simp only [qb, qofN]; simp only [nc] at *; rw [rem_i64 (by omega)]; omega
    cbv
    split
    · rename_i hne
      have hne : i < (8 - len0 % 8) % 8 := by rw [hrem, qc, neq_true] at hne; simp only [nc] at *; omega
      cbv
      refine ⟨⟨by simp only [qaddN, qln]; exact Nat.le_refl _⟩, ⟨by simp only [qln]; omega⟩, ⟨Nat.le_refl _⟩, ⟨by simp only [qaddN]; omega⟩, ?_⟩
      intro c1 js1 hle
      cbv
      refine Cv.fold [2, 3, 4, 5, 6, 7, 8, 9, 10, 11, 12, 13, 14, 15, 16, 17] 2 [1] (by exact Nat.le_refl _) (by exact Nat.le_of_ble_eq_true rfl) (by rfl) (by cbv) ?_
      intro js
      refine ⟨(_, _, _), ?_, js, rfl⟩
      refine ⟨⟨i + 1, hne, ?_, by simp only [qaddN]; omega⟩, ?_⟩
      · simp only [qonto, qsub]
        rw [List.take_of_length_le (by omega), hl', List.replicate_succ', List.append_assoc]
        rfl
      · show len0 + (8 - len0 % 8) % 8 - vaddN len 1 < len0 + (8 - len0 % 8) % 8 - len
        simp only [qaddN]; omega
    · rename_i hne
      have hne : i = (8 - len0 % 8) % 8 := by rw [hrem, qc, neq_false] at hne; simp only [nc] at *; omega
      have e1 : l = F := by rw [hl', hne, ← hpd]
      have e2 : len = Fn := by rw [hlen, hne, ← hpl]
      cbv
      refine ⟨c, ?_⟩
      rw [e1, e2]
      rfl
set_option maxHeartbeats 2000000 in
theorem brefbytes_con (M : List Int) (c : Nat) (hb1 : ∀ b ∈ M, isBit b) (hl : M.length ≤ 2 ^ 40) :
    Con Try.prog 54 [.ptr 0 .z 1 0] [.one 95 [.slice 1 .z 1 M.length c], .buf 5 .u8 M c]
      (fun v H R => v = .slice 2 .z 1 (pack M).length (pack M).length ∧ R = [] ∧ H = [.one 95 [.slice 1 .z 1 M.length c], .buf 5 .u8 M c, .ints 5 .u8 (pack M)]) := by
  refine con_cut 3 (by simp) (con_red [] (con_walk hmix fn54 ?_))
  intro vb vc vw vtoN vofN vaddN vsubN vmaxI vminI vcutN vgd vst vln vrep vsub vonto vsplice vstrEq vbyteV vnotB veqB hw qb qc qw qtoN qofN qaddN qsubN qmaxI qminI qcutN qgd qst qln qrep qsub qonto qsplice qstrEq qbyteV qnotB qeqB
  have hm := hmix
  generalize Try.prog = P at *
  have hpk : pack M = packN M ((M.length + 7) / 8) := rfl
  have hFl := pack_length M
  generalize hF : pack M = F at *
  generalize hFn : F.length = Fn at *
  generalize hlen0 : M.length = len0 at *
  have hN1 : vb .quo .i64 (vb .add .i64 (vofN len0) 7) 8 = ((len0 + 7) / 8 : Nat) := by
    simp only [qofN]
    rw [qb, add_i64 (by omega) (by omega), quo_i64 (by omega) (by omega) (by omega)]
    omega
  generalize hNN : (len0 + 7) / 8 = N at *
  have hN2 : vtoN ((N : Nat) : Int) = N := by simp only [qtoN]; rfl
  have hrep : vrep N 0 = packN [] N := by rw [packN_nil]; simp only [qrep]
  generalize hp0 : packN [] N = p0 at *
  generalize hN0 : ((N : Nat) : Int) = N0 at *
  cbv
  rw [hN1, hN2, hrep]
  refine ⟨⟨by simp only [nc] at *; omega⟩, ⟨by simp only [nc] at *; omega⟩, ⟨by simp only [nc] at *; omega⟩, ⟨by simp only [nc] at *; omega⟩, ?_⟩
  refine loop_fam (α := Int × List Int) [13, 14, 15, 16, 17, 18, 19, 20, 21, 22, 23, 24, 25, 26, 27, 28, 29, 30, 31, 32, 33, 34, 35, 36, 37, 38, 39] []
    (fun (k, l) => [(4, .int .i64 k)]) (fun (k, l) => [(2, .ints 5 .u8 l)])
    (fun (k, l) => ∃ i : Nat, k = i ∧ i ≤ len0 ∧ l = packN (M.take i) N) (fun (k, _) => len0 - k.toNat) hw hm ?_ ?_
  · refine Cv.genAt [4] [] (Cv.fold [13, 14, 15, 16, 17, 18, 19, 20, 21, 22, 23, 24, 25, 26, 27, 28, 29, 30, 31, 32, 33, 34, 35, 36, 37, 38, 39] 3 [] (by exact Nat.le_refl _) (by exact Nat.le_of_ble_eq_true rfl) (by rfl) (by cbv) ?_)
    intro js
    refine ⟨(_, _), ?_, js, rfl⟩
    exact ⟨0, rfl, by omega, by rw [← hp0]; rfl⟩
  · rintro ⟨k, l⟩ js ⟨i, hk, hi, hl'⟩
    have hll : l.length = N := by rw [hl', packN_length]
    cbv
    split
    · rename_i hlt
      have hlt : i < len0 := by rw [qc, lss_true] at hlt; simp only [qofN] at hlt; simp only [nc] at *; omega
      have hk0 : k = (i : Int) := hk
      have hz8 : vb .quo .i64 k 8 = k / 8 := by simp only [nc] at *; rw [qb, quo_i64 (by omega) (by omega) (by omega)]
      have hr8 : vb .rem .i64 k 8 = k % 8 := by simp only [nc] at *; rw [qb, rem_i64 (by omega)]
      have hw8 : vw .u64 (k % 8) = k % 8 := by simp only [nc] at *; simp only [qw]; exact wrap_u64 (by omega) (by omega)
      have hin8 : 0 ≤ vb .quo .i64 k 8 ∧ vb .quo .i64 k 8 < N := by rw [hz8]; simp only [nc] at *; omega
      have hq8 : vtoN (vb .quo .i64 k 8) = (k / 8).toNat := by rw [hz8]; simp only [qtoN]
      have hlt8 : vtoN (vb .quo .i64 k 8) < vln l := by rw [hq8]; simp only [qln]; simp only [nc] at *; omega
      have hink : 0 ≤ k ∧ k < len0 := by simp only [nc] at *; omega
      have hki : vtoN k = i := by simp only [qtoN]; simp only [nc] at *; omega
      have hltk : vtoN k < vln M := by rw [hki]; simp only [qln]; omega
      have hltk2 : vaddN 0 (vtoN k) < vln M := by simp only [qaddN, Nat.zero_add]; exact hltk
      have hnn : 0 ≤ vw .u64 (vb .rem .i64 k 8) := by rw [hr8, hw8]; omega
      have hMi : i < M.length := by omega
      have hval : vst l (vtoN (vb .quo .i64 k 8)) (vb .or .u8 (vgd l (vtoN (vb .quo .i64 k 8))) (vb .shl .u8 (vgd M (vtoN k)) (vw .u64 (vb .rem .i64 k 8)))) = packN (M.take (i + 1)) N := by
        have hbits : ∀ b ∈ M.take i, isBit b := fun b hm => hb1 b (List.mem_of_mem_take hm)
        have hbit : isBit (M.getD i 0) := by
          rw [List.getD_eq_getElem?_getD, List.getElem?_eq_getElem hMi]
          exact hb1 _ (List.getElem_mem hMi)
        have := packN_step (M.take i) (M.getD i 0) k N hbits hbit (by rw [List.length_take]; simp only [nc] at *; omega) (by rw [List.length_take]; omega)
        rw [hki, hr8, hw8, hq8, take_snoc hMi, ← this, hl', qb]
        simp only [qst, qgd]
      have hk1 : vb .add .i64 k 1 = ((i + 1 : Nat) : Int) := by simp only [nc] at *; rw [qb, add_i64 (by omega) (by omega)]; omega
      cbv
      refine ⟨⟨hin8⟩, ⟨hlt8⟩, ⟨hink⟩, ⟨hltk2⟩, ⟨hltk⟩, ⟨hnn⟩, ⟨hin8⟩, ⟨hlt8⟩, ?_⟩
      refine Cv.fold [13, 14, 15, 16, 17, 18, 19, 20, 21, 22, 23, 24, 25, 26, 27, 28, 29, 30, 31, 32, 33, 34, 35, 36, 37, 38, 39] 3 [] (by exact Nat.le_refl _) (by exact Nat.le_of_ble_eq_true rfl) (by rfl) (by cbv) ?_
      intro js
      refine ⟨(_, _), ?_, js, rfl⟩
      exact ⟨⟨i + 1, hk1, hlt, hval⟩, by show len0 - (vb .add .i64 k 1).toNat < len0 - k.toNat; rw [hk1, hk0]; simp only [nc] at *; omega⟩
    · rename_i hge
      have hin : i = len0 := by rw [qc, lss_false] at hge; simp only [qofN] at hge; simp only [nc] at *; omega
      have hend : l = F := by
        rw [hl', hin, hpk]
        have e : M.take len0 = M := by rw [List.take_of_length_le (by omega)]
        rw [e]
      rw [hFl]
      cbv
      rw [hend]
end Go.Proofs.Ytodobmkflimfkaa
