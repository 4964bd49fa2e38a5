import Derived.Test.YtgbnngjmjimhiaaP4
import Derived.Test.YtgbnngjmjimhiaaSx25
namespace Go.Proofs.Ytgbnngjmjimhiaa
open Go Go.Sx Go.Proofs
theorem next_ok (b : List Int) (at' cap : Nat) (h : at' < b.length) (hl : b.length ≤ 2 ^ 60) :
    Con Try.prog 38 [.ptr 0 .z 1 0, .ptr 1 .z 1 0] [.one 3 [.int .i64 at'], .one 22 [.slice 2 .z 1 b.length cap], .ro .u8 b]
      (fun v H R => v = .tup [.int .u8 (b.getD at' 0), .bool true] ∧ R = [] ∧ H = [.one 3 [.int .i64 ((at' + 1 : Nat) : Int)], .one 22 [.slice 2 .z 1 b.length cap], .ro .u8 b]) := by
  refine con_walk hmix fn38 ?_
  intro vb vc vw vtoN vofN vaddN vsubN vmaxI vminI vcutN vgd vst vln vrep vsub vonto vsplice vstrEq vbyteV vnotB veqB hw qb qc qw qtoN qofN qaddN qsubN qmaxI qminI qcutN qgd qst qln qrep qsub qonto qsplice qstrEq qbyteV qnotB qeqB
  generalize Try.prog = P at *
  generalize hlen : b.length = len at *
  generalize hv : b.getD at' 0 = v0
  generalize ha1 : ((at' + 1 : Nat) : Int) = a1
  generalize ha : ((at' : Nat) : Int) = a0
  cbv
  have e1 : vc .geq a0 (vofN len) = false := by simp only [qc, qofN]; rw [geq_false]; simp only [nc] at *; omega
  have e2 : vb .add .i64 a0 1 = a1 := by simp only [nc] at *; rw [qb, add_i64 (by omega) (by omega)]; omega
  have e3 : vb .sub .i64 a1 1 = a0 := by simp only [nc] at *; rw [qb, sub_i64 (by omega) (by omega)]; omega
  have hin : 0 ≤ a0 ∧ a0 < len := by simp only [nc] at *; omega
  have ht : vtoN a0 = at' := by simp only [qtoN]; simp only [nc] at *; omega
  have hlt : vtoN a0 < vln b := by rw [ht]; simp only [qln]; omega
  have hlt2 : vaddN 0 (vtoN a0) < vln b := by simp only [qaddN, Nat.zero_add]; exact hlt
  have hval : vgd b (vtoN a0) = v0 := by rw [ht]; simp only [qgd]; exact hv
  rw [e1]
  cbv
  rw [e2, e3, hval]
  exact ⟨⟨hin⟩, ⟨hlt2⟩, ⟨hlt⟩, rfl, rfl⟩
theorem next_end (b : List Int) (cap : Nat) (hl : b.length ≤ 2 ^ 60) :
    Con Try.prog 38 [.ptr 0 .z 1 0, .ptr 1 .z 1 0] [.one 3 [.int .i64 b.length], .one 22 [.slice 2 .z 1 b.length cap], .ro .u8 b]
      (fun v H R => v = .tup [.lit .u8 0, .bool false] ∧ R = [] ∧ H = [.one 3 [.int .i64 b.length], .one 22 [.slice 2 .z 1 b.length cap], .ro .u8 b]) := by
  refine con_walk hmix fn38 ?_
  intro vb vc vw vtoN vofN vaddN vsubN vmaxI vminI vcutN vgd vst vln vrep vsub vonto vsplice vstrEq vbyteV vnotB veqB hw qb qc qw qtoN qofN qaddN qsubN qmaxI qminI qcutN qgd qst qln qrep qsub qonto qsplice qstrEq qbyteV qnotB qeqB
  generalize Try.prog = P at *
  generalize hlen : b.length = len at *
  generalize ha : ((len : Nat) : Int) = a0
  cbv
  have e1 : vc .geq a0 (vofN len) = true := by simp only [qc, qofN]; rw [geq_true]; simp only [nc] at *; omega
  rw [e1]
  cbv
theorem bleft_con (b : List Int) (at' cap : Nat) (h : at' ≤ b.length) (hl : b.length ≤ 2 ^ 50) :
    Con Try.prog 39 [.ptr 1 .z 1 0, .ptr 0 .z 1 0] [.one 3 [.int .i64 at'], .one 22 [.slice 2 .z 1 b.length cap], .ro .u8 b]
      (fun v H R => v = .int .i64 (8 * ((b.length : Int) - at')) ∧ R = [] ∧ H = [.one 3 [.int .i64 at'], .one 22 [.slice 2 .z 1 b.length cap], .ro .u8 b]) := by
  refine con_walk hmix fn39 ?_
  intro vb vc vw vtoN vofN vaddN vsubN vmaxI vminI vcutN vgd vst vln vrep vsub vonto vsplice vstrEq vbyteV vnotB veqB hw qb qc qw qtoN qofN qaddN qsubN qmaxI qminI qcutN qgd qst qln qrep qsub qonto qsplice qstrEq qbyteV qnotB qeqB
  generalize Try.prog = P at *
  generalize hlen : b.length = len at *
  generalize hr : 8 * ((len : Int) - at') = r
  generalize ha : ((at' : Nat) : Int) = a0
  have e1 : vb .mul .i64 8 (vb .sub .i64 (vofN len) a0) = r := by simp only [qb, qofN]; rw [sub_i64 (by omega) (by omega), mul_i64 (by omega) (by omega)]; omega
  cbv
  rw [e1]
  trivial
set_option maxHeartbeats 4000000 in
/-- So many bits at hand, where there are as many. -/
theorem fill_ok (b : List Int) (pos at' cap n : Nat) (hby : ∀ x ∈ b, isByte x) (hl : b.length ≤ 2 ^ 50) (hp : pos ≤ 8 * at') (hp2 : 8 * at' ≤ pos + 63) (ha : at' ≤ b.length) (hn : n ≤ 56) (hen : pos + n ≤ 8 * b.length) :
    Con Try.prog 40 [.ptr 0 .z 4 0, .int .i64 n] [(.one 83 [.fn 38 [.ptr 1 .z 1 0, .ptr 2 .z 1 0], .int .u64 (bval (bitL b) pos (8 * at' - pos)), .int .i64 (((8 * at' - pos : Nat) : Int)), .fn 39 [.ptr 2 .z 1 0, .ptr 1 .z 1 0]]), .one 3 [.int .i64 at'], .one 22 [.slice 3 .z 1 b.length cap], .ro .u8 b]
      (fun v H R => v = .bool true ∧ R = [] ∧ ∃ a2 : Nat, pos + n ≤ 8 * a2 ∧ 8 * a2 ≤ pos + 63 ∧ a2 ≤ b.length ∧ H = [(.one 83 [.fn 38 [.ptr 1 .z 1 0, .ptr 2 .z 1 0], .int .u64 (bval (bitL b) pos (8 * a2 - pos)), .int .i64 (((8 * a2 - pos : Nat) : Int)), .fn 39 [.ptr 2 .z 1 0, .ptr 1 .z 1 0]]), .one 3 [.int .i64 a2], .one 22 [.slice 3 .z 1 b.length cap], .ro .u8 b]) := by
  have hnext := fun a h => next_ok b a cap h (by omega)
  refine con_cut 4 (by simp) (con_red [] (con_walk hmix fn40 ?_))
  intro vb vc vw vtoN vofN vaddN vsubN vmaxI vminI vcutN vgd vst vln vrep vsub vonto vsplice vstrEq vbyteV vnotB veqB hw qb qc qw qtoN qofN qaddN qsubN qmaxI qminI qcutN qgd qst qln qrep qsub qonto qsplice qstrEq qbyteV qnotB qeqB
  have hm := hmix
  generalize Try.prog = P at *
  generalize hacc : bval (bitL b) pos (8 * at' - pos) = acc
  generalize hhave : ((8 * at' - pos : Nat) : Int) = have0
  generalize ha0 : ((at' : Nat) : Int) = a0
  generalize hn0 : ((n : Nat) : Int) = n0
  generalize hlen : b.length = len at *
  cbv
  refine loop_fam (α := Int × Int × Int) [5, 6, 7, 8, 9, 10, 11, 12, 13, 14, 15, 16, 17, 18, 19, 20, 21, 22, 23, 24, 25, 26, 27, 28, 29, 30, 31, 32, 33, 34, 35, 36, 37, 38, 39, 40, 41, 42, 43, 44] []
    (fun (x, k, a) => []) (fun (x, k, a) => [(0, (.one 83 [.fn 38 [.ptr 1 .z 1 0, .ptr 2 .z 1 0], .int .u64 (x), .int .i64 (k), .fn 39 [.ptr 2 .z 1 0, .ptr 1 .z 1 0]])), (1, .one 3 [.int .i64 a])])
    (fun (x, k, a) => ∃ i : Nat, pos ≤ 8 * i ∧ 8 * i ≤ pos + 63 ∧ i ≤ len ∧ x = bval (bitL b) pos (8 * i - pos) ∧ k = ((8 * i - pos : Nat) : Int) ∧ a = i) (fun (x, k, a) => len - a.toNat) hw hm ?_ ?_
  · refine Cv.fold [5, 6, 7, 8, 9, 10, 11, 12, 13, 14, 15, 16, 17, 18, 19, 20, 21, 22, 23, 24, 25, 26, 27, 28, 29, 30, 31, 32, 33, 34, 35, 36, 37, 38, 39, 40, 41, 42, 43, 44] 4 [] (by exact Nat.le_refl _) (by exact Nat.le_of_ble_eq_true rfl) (by rfl) (by cbv) ?_
    intro js
    refine ⟨(_, _, _), ?_, js, rfl⟩
    exact ⟨at', hp, hp2, ha, hacc.symm, hhave.symm, ha0.symm⟩
  · rintro ⟨x, k, a⟩ js ⟨i, hi1, hi2, hi3, hx, hk, hai⟩
    cbv
    split
    · rename_i hlt
      have hlt : 8 * i < pos + n := by rw [qc, lss_true] at hlt; simp only [nc] at *; omega
      have hil : i < len := by omega
      have hnext' := hnext i hil
      have hbyte := byte_bit hby i
      have hbb := bitL_byte b hby i (by omega)
      simp only [nc] at hnext' hai
      rw [← hai] at hnext'
      generalize hy : b.getD i 0 = y at *
      generalize ha1 : ((i + 1 : Nat) : Int) = a1 at *
      have hw1 : vw .u64 y = y := by simp only [qw]; exact wrap_u64 hbyte.1 (by have := hbyte.2; omega)
      have hw2 : vw .u64 k = k := by simp only [nc] at *; simp only [qw]; exact wrap_u64 (by omega) (by omega)
      have hk0 : 0 ≤ vw .u64 k := by rw [hw2]; simp only [nc] at *; omega
      have hk1 : vb .add .i64 k 8 = ((8 * (i + 1) - pos : Nat) : Int) := by simp only [nc] at *; rw [qb, add_i64 (by omega) (by omega)]; omega
      have hval : vb .or .u64 x (vb .shl .u64 (vw .u64 y) (vw .u64 k)) = bval (bitL b) pos (8 * (i + 1) - pos) := by
        have hbd := bval_bound (bitL b) (bitL_bit b) pos (8 * i - pos)
        have hp56 := pow_le_56 (show 8 * i - pos ≤ 56 by omega)
        have hpp : (0 : Int) < 2 ^ (8 * i - pos) := Int.pow_pos (by decide)
        have hkn : k.toNat = 8 * i - pos := by simp only [nc] at *; omega
        have hyb : y * 2 ^ (8 * i - pos) ≤ 255 * 2 ^ (8 * i - pos) := Int.mul_le_mul_of_nonneg_right (by have := hbyte.2; omega) (Int.le_of_lt hpp)
        have e : 8 * (i + 1) - pos = (8 * i - pos) + 8 := by omega
        rw [hw1, hw2, qb, shl_u rfl hbyte.1 (by show k ≤ ((64 : Nat) : Int); simp only [nc] at *; omega) (by rw [hkn]; show _ < (2 : Int) ^ 64; omega), hkn, hx, e, bval_split]
        have e2 : pos + (8 * i - pos) = 8 * i := by omega
        rw [e2, hbb, or_add rfl _ hbd.1 hbd.2 hbyte.1 (by show _ < (2 : Int) ^ 64; omega)]
      cbv
      refine call_con (ρ := [(1, .z), (2, .z), (3, .z)]) hnext' ⟨by rfl, by rfl, by rfl, by cbv; exact ⟨view_refl _, trivial⟩⟩ ?_
      rintro v H R js ⟨rfl, rfl, rfl⟩
      have e4 : vnotB true = false := by simp only [qnotB]; rfl
      cbv
      rw [e4]
      cbv
      refine ⟨⟨hk0⟩, ?_⟩
      refine Cv.fold [5, 6, 7, 8, 9, 10, 11, 12, 13, 14, 15, 16, 17, 18, 19, 20, 21, 22, 23, 24, 25, 26, 27, 28, 29, 30, 31, 32, 33, 34, 35, 36, 37, 38, 39, 40, 41, 42, 43, 44] 4 [] (by exact Nat.le_refl _) (by exact Nat.le_of_ble_eq_true rfl) (by rfl) (by cbv) ?_
      intro js
      refine ⟨(_, _, _), ?_, js, rfl⟩
      exact ⟨⟨i + 1, by omega, by omega, by omega, hval, hk1, ha1.symm⟩, by show len - a1.toNat < len - a.toNat; simp only [nc] at *; omega⟩
    · rename_i hge
      have hge : pos + n ≤ 8 * i := by rw [qc, lss_false] at hge; simp only [nc] at *; omega
      cbv
      refine ⟨i, hge, hi2, hi3, ?_⟩
      rw [hx, hk, hai]
      rfl
set_option maxHeartbeats 4000000 in
/-- Not as many bits: all that are left are at hand. -/
theorem fill_end (b : List Int) (pos at' cap n : Nat) (hby : ∀ x ∈ b, isByte x) (hl : b.length ≤ 2 ^ 50) (hp : pos ≤ 8 * at') (hp2 : 8 * at' ≤ pos + 63) (ha : at' ≤ b.length) (hn : n ≤ 56) (hen : 8 * b.length < pos + n) :
    Con Try.prog 40 [.ptr 0 .z 4 0, .int .i64 n] [(.one 83 [.fn 38 [.ptr 1 .z 1 0, .ptr 2 .z 1 0], .int .u64 (bval (bitL b) pos (8 * at' - pos)), .int .i64 (((8 * at' - pos : Nat) : Int)), .fn 39 [.ptr 2 .z 1 0, .ptr 1 .z 1 0]]), .one 3 [.int .i64 at'], .one 22 [.slice 3 .z 1 b.length cap], .ro .u8 b]
      (fun v H R => v = .bool false ∧ R = [] ∧ H = [(.one 83 [.fn 38 [.ptr 1 .z 1 0, .ptr 2 .z 1 0], .int .u64 (bval (bitL b) pos (8 * b.length - pos)), .int .i64 (((8 * b.length - pos : Nat) : Int)), .fn 39 [.ptr 2 .z 1 0, .ptr 1 .z 1 0]]), .one 3 [.int .i64 b.length], .one 22 [.slice 3 .z 1 b.length cap], .ro .u8 b]) := by
  have hnext := fun a h => next_ok b a cap h (by omega)
  have hend := next_end b cap (by omega)
  refine con_cut 4 (by simp) (con_red [] (con_walk hmix fn40 ?_))
  intro vb vc vw vtoN vofN vaddN vsubN vmaxI vminI vcutN vgd vst vln vrep vsub vonto vsplice vstrEq vbyteV vnotB veqB hw qb qc qw qtoN qofN qaddN qsubN qmaxI qminI qcutN qgd qst qln qrep qsub qonto qsplice qstrEq qbyteV qnotB qeqB
  have hm := hmix
  generalize Try.prog = P at *
  generalize hacc : bval (bitL b) pos (8 * at' - pos) = acc
  generalize hhave : ((8 * at' - pos : Nat) : Int) = have0
  generalize hacc2 : bval (bitL b) pos (8 * b.length - pos) = acc2
  generalize hhave2 : ((8 * b.length - pos : Nat) : Int) = have2
  generalize ha0 : ((at' : Nat) : Int) = a0
  generalize hn0 : ((n : Nat) : Int) = n0
  generalize hlI : ((b.length : Nat) : Int) = lI at *
  generalize hlen : b.length = len at *
  cbv
  refine loop_fam (α := Int × Int × Int) [5, 6, 7, 8, 9, 10, 11, 12, 13, 14, 15, 16, 17, 18, 19, 20, 21, 22, 23, 24, 25, 26, 27, 28, 29, 30, 31, 32, 33, 34, 35, 36, 37, 38, 39, 40, 41, 42, 43, 44] []
    (fun (x, k, a) => []) (fun (x, k, a) => [(0, (.one 83 [.fn 38 [.ptr 1 .z 1 0, .ptr 2 .z 1 0], .int .u64 (x), .int .i64 (k), .fn 39 [.ptr 2 .z 1 0, .ptr 1 .z 1 0]])), (1, .one 3 [.int .i64 a])])
    (fun (x, k, a) => ∃ i : Nat, pos ≤ 8 * i ∧ 8 * i ≤ pos + 63 ∧ i ≤ len ∧ x = bval (bitL b) pos (8 * i - pos) ∧ k = ((8 * i - pos : Nat) : Int) ∧ a = i) (fun (x, k, a) => len - a.toNat) hw hm ?_ ?_
  · refine Cv.fold [5, 6, 7, 8, 9, 10, 11, 12, 13, 14, 15, 16, 17, 18, 19, 20, 21, 22, 23, 24, 25, 26, 27, 28, 29, 30, 31, 32, 33, 34, 35, 36, 37, 38, 39, 40, 41, 42, 43, 44] 4 [] (by exact Nat.le_refl _) (by exact Nat.le_of_ble_eq_true rfl) (by rfl) (by cbv) ?_
    intro js
    refine ⟨(_, _, _), ?_, js, rfl⟩
    exact ⟨at', hp, hp2, ha, hacc.symm, hhave.symm, ha0.symm⟩
  · rintro ⟨x, k, a⟩ js ⟨i, hi1, hi2, hi3, hx, hk, hai⟩
    have hc : vc .lss k n0 = true := by rw [qc, lss_true]; simp only [nc] at *; omega
    cbv
    rw [hc]
    by_cases hil : i < len
    · have hnext' := hnext i hil
      have hbyte := byte_bit hby i
      have hbb := bitL_byte b hby i (by omega)
      simp only [nc] at hnext' hai
      rw [← hai] at hnext'
      generalize hy : b.getD i 0 = y at *
      generalize ha1 : ((i + 1 : Nat) : Int) = a1 at *
      have hw1 : vw .u64 y = y := by simp only [qw]; exact wrap_u64 hbyte.1 (by have := hbyte.2; omega)
      have hw2 : vw .u64 k = k := by simp only [nc] at *; simp only [qw]; exact wrap_u64 (by omega) (by omega)
      have hk0 : 0 ≤ vw .u64 k := by rw [hw2]; simp only [nc] at *; omega
      have hk1 : vb .add .i64 k 8 = ((8 * (i + 1) - pos : Nat) : Int) := by simp only [nc] at *; rw [qb, add_i64 (by omega) (by omega)]; omega
      have hval : vb .or .u64 x (vb .shl .u64 (vw .u64 y) (vw .u64 k)) = bval (bitL b) pos (8 * (i + 1) - pos) := by
        have hbd := bval_bound (bitL b) (bitL_bit b) pos (8 * i - pos)
        have hp56 := pow_le_56 (show 8 * i - pos ≤ 56 by omega)
        have hpp : (0 : Int) < 2 ^ (8 * i - pos) := Int.pow_pos (by decide)
        have hkn : k.toNat = 8 * i - pos := by simp only [nc] at *; omega
        have hyb : y * 2 ^ (8 * i - pos) ≤ 255 * 2 ^ (8 * i - pos) := Int.mul_le_mul_of_nonneg_right (by have := hbyte.2; omega) (Int.le_of_lt hpp)
        have e : 8 * (i + 1) - pos = (8 * i - pos) + 8 := by omega
        rw [hw1, hw2, qb, shl_u rfl hbyte.1 (by show k ≤ ((64 : Nat) : Int); simp only [nc] at *; omega) (by rw [hkn]; show _ < (2 : Int) ^ 64; omega), hkn, hx, e, bval_split]
        have e2 : pos + (8 * i - pos) = 8 * i := by omega
        rw [e2, hbb, or_add rfl _ hbd.1 hbd.2 hbyte.1 (by show _ < (2 : Int) ^ 64; omega)]
      cbv
      refine call_con (ρ := [(1, .z), (2, .z), (3, .z)]) hnext' ⟨by rfl, by rfl, by rfl, by cbv; exact ⟨view_refl _, trivial⟩⟩ ?_
      rintro v H R js ⟨rfl, rfl, rfl⟩
      have e4 : vnotB true = false := by simp only [qnotB]; rfl
      cbv
      rw [e4]
      cbv
      refine ⟨⟨hk0⟩, ?_⟩
      refine Cv.fold [5, 6, 7, 8, 9, 10, 11, 12, 13, 14, 15, 16, 17, 18, 19, 20, 21, 22, 23, 24, 25, 26, 27, 28, 29, 30, 31, 32, 33, 34, 35, 36, 37, 38, 39, 40, 41, 42, 43, 44] 4 [] (by exact Nat.le_refl _) (by exact Nat.le_of_ble_eq_true rfl) (by rfl) (by cbv) ?_
      intro js
      refine ⟨(_, _, _), ?_, js, rfl⟩
      exact ⟨⟨i + 1, by omega, by omega, by omega, hval, hk1, ha1.symm⟩, by show len - a1.toNat < len - a.toNat; simp only [nc] at *; omega⟩
    · have hil : i = len := by omega
      have e4 : vnotB false = true := by simp only [qnotB]; rfl
      have hai2 : a = lI := by rw [hai, hil]; exact hlI
      have hx2 : x = acc2 := by rw [hx, hil, hacc2]
      have hk2 : k = have2 := by rw [hk, hil]; exact hhave2
      rw [hai2, hx2, hk2]
      cbv
      refine call_con (ρ := [(1, .z), (2, .z), (3, .z)]) hend ⟨by rfl, by rfl, by rfl, by cbv; exact ⟨view_refl _, trivial⟩⟩ ?_
      rintro v H R js ⟨rfl, rfl, rfl⟩
      cbv
      rw [e4]
      cbv
end Go.Proofs.Ytgbnngjmjimhiaa
