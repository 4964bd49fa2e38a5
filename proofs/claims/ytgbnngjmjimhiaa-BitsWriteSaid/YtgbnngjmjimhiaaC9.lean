import Derived.Test.YtgbnngjmjimhiaaC8
namespace Go.Proofs.Ytgbnngjmjimhiaa
open Go Go.Sx Go.Proofs
theorem refnew_bad (b : List Int) (cap : Nat) (hb : b.getLastD 0 = 0) (hl : b.length ≤ 2 ^ 48) : Con Try.prog 12 [.slice 0 .z 1 b.length cap] [.ro .u8 b] (fun v H R => v = .tup [.val (.pointer none), .lit .i64 11] ∧ H = [.ro .u8 b] ∧ R = []) := by
  refine con_cut 1 (by simp) (con_red [] (con_walk hmix fn12 ?_))
  intro vb vc vw vtoN vofN vaddN vsubN vmaxI vminI vcutN vgd vst vln vrep vsub vonto vsplice vstrEq vbyteV vnotB veqB hw qb qc qw qtoN qofN qaddN qsubN qmaxI qminI qcutN qgd qst qln qrep qsub qonto qsplice qstrEq qbyteV qnotB qeqB
  generalize Try.prog = P at *
  rw [getLastD_eq] at hb
  generalize hlen : b.length = len at *
  cbv
  generalize h0 : vc .eql (vofN len) 0 = z0
  cases z0
  rotate_left
  · cbv
  · have h0 : 1 ≤ len := by rw [qc, qofN, eql_false] at h0; simp only [nc] at *; omega
    have hsub : vb .sub .i64 (vofN len) 1 = len - 1 := by rw [qb, qofN]; simp only [nc] at *; rw [sub_i64 (by omega) (by omega)]
    have hin : 0 ≤ vb .sub .i64 (vofN len) 1 ∧ vb .sub .i64 (vofN len) 1 < len := by rw [hsub]; simp only [nc] at *; omega
    have hi : vtoN (vb .sub .i64 (vofN len) 1) = len - 1 := by rw [hsub, qtoN]; simp only [nc] at *; omega
    have hlt2 : vtoN (vb .sub .i64 (vofN len) 1) < vln b := by rw [hi, qln]; simp only [nc] at *; omega
    have hlt3 : vaddN 0 (vtoN (vb .sub .i64 (vofN len) 1)) < vln b := by rw [qaddN]; simpa using hlt2
    cbv
    refine ⟨⟨hin⟩, ⟨hlt3⟩, ⟨hlt2⟩, ?_⟩
    have hz : vc .eql (vgd b (vtoN (vb .sub .i64 (vofN len) 1))) 0 = true := by rw [hi, qgd, qc, eql_true]; exact hb
    rw [hz]
    cbv
set_option maxHeartbeats 4000000 in
theorem refbits_con (b : List Int) (P0 c : Nat) (p n : Int) (hP : P0 ≤ 8 * b.length) (hl : 8 * b.length ≤ 140737488355328) (hp : -1099511627776 ≤ p ∧ p ≤ P0) :
    Con Try.prog 15 [.ptr 0 .z 2 0, .int .i64 n] [.one 36 [.slice 1 .z 1 P0 c, .int .i64 p], .ro .u8 (bitsOf b (8 * b.length))]
      (fun v H R => v = .int .u64 (rd b p (clampN n)) ∧ R = [] ∧ H = [.one 36 [.slice 1 .z 1 P0 c, .int .i64 (floorP (p - clampN n))], .ro .u8 (bitsOf b (8 * b.length))]) := by
  refine con_gen (con_cut 2 (by simp) (con_red [] (con_walk hmix fn15 ?_)))
  intro vb vc vw vtoN vofN vaddN vsubN vmaxI vminI vcutN vgd vst vln vrep vsub vonto vsplice vstrEq vbyteV vnotB veqB hw qb qc qw qtoN qofN qaddN qsubN qmaxI qminI qcutN qgd qst qln qrep qsub qonto qsplice qstrEq qbyteV qnotB qeqB
  have hm := hmix
  generalize Try.prog = P at *
  have hN : vminI (vmaxI n 0) 56 = (clampN n : Nat) := by rw [qmaxI, qminI]; unfold clampN; simp only [nc]; split <;> split <;> omega
  have hN56 := clampN_le n
  have hF : floorP (p - clampN n) = vmaxI (p - clampN n) (-1099511627776) := by simp only [qmaxI]; unfold floorP; (repeat' split) <;> first | rfl | omega
  rw [hF]
  generalize clampN n = N at *
  generalize hV : rd b p N = V
  generalize hB : bitsOf b (8 * b.length) = B
  have hBn : B.length = 8 * b.length := by rw [← hB, bitsOf_length]
  have hBg : ∀ i : Nat, i < 8 * b.length → B.getD i 0 = bitAt b i := fun i hi => by rw [← hB]; exact bitsOf_get b _ i hi
  generalize hNN : ((N : Nat) : Int) = N0 at *
  have hsub0 : vb .sub .i64 p N0 = p - N0 := by rw [qb, sub_i64 (by omega) (by omega)]
  generalize hq : p - N0 = q at *
  cbv
  rw [hN, hsub0]
  refine loop_fam (α := Int × Int) [20, 21, 22, 23, 24, 25, 26, 27, 28, 29, 30, 31, 32, 33, 34, 35, 36, 37, 38, 39, 40, 41, 42, 43, 44, 45, 46, 47] []
    (fun (x, k) => [(5, .int .u64 x), (6, .int .i64 k)]) (fun (x, k) => [])
    (fun (x, k) => ∃ i : Nat, k = (N : Int) - 1 - i ∧ i ≤ N ∧ x = rd b p i) (fun (x, k) => (k + 1).toNat) hw hm ?_ ?_
  · refine Cv.genAt [5, 6] [] (Cv.fold [20, 21, 22, 23, 24, 25, 26, 27, 28, 29, 30, 31, 32, 33, 34, 35, 36, 37, 38, 39, 40, 41, 42, 43, 44, 45, 46, 47] 2 [] (by exact Nat.le_refl _) (by exact Nat.le_of_ble_eq_true rfl) (by rfl) (by cbv) ?_)
    intro js
    refine ⟨(_, _), ?_, js, rfl⟩
    exact ⟨0, by simp only [nc] at *; rw [qb, sub_i64 (by omega) (by omega)]; omega, by omega, rfl⟩
  · rintro ⟨x, k⟩ js ⟨i, hk, hi, hx⟩
    have hx2 := rd_bound b p i
    cbv
    split
    · rename_i hlt
      have hlt : i < N := by rw [qc, geq_true] at hlt; simp only [nc] at *; omega
      have hqk : vb .add .i64 q k = p - 1 - i := by
        simp only [nc] at *
        rw [qb, add_i64 (by omega) (by omega)]; omega
      have hk1 : vb .sub .i64 k 1 = (N : Int) - 1 - ((i + 1 : Nat) : Int) := by simp only [nc] at *; rw [qb, sub_i64 (by omega) (by omega)]; omega
      have hmu : (vb .sub .i64 k 1 + 1).toNat < (k + 1).toNat := by rw [hk1, hk]; simp only [nc] at *; omega
      have hp56 := pow_le_56 (show i ≤ 56 by omega)
      have hshl : vb .shl .u64 x 1 = rd b p i * 2 := by
        rw [qb, hx, shl_u rfl hx2.1 (by decide) (by show _ * (2 : Int) ^ 1 < 2 ^ 64; omega)]; rfl
      cbv
      rw [hqk]
      generalize hz : p - 1 - (i : Int) = z at *
      cbv
      split
      · rename_i hge
        have hge : 0 ≤ z := by rw [qc, geq_true] at hge; exact hge
        have hzi : 0 ≤ z ∧ z < P0 := by simp only [nc] at *; omega
        have hlt2 : vtoN z < vln B := by simp only [qtoN, qln]; rw [hBn]; simp only [nc] at *; omega
        have hlt3 : vaddN 0 (vtoN z) < vln B := by simp only [qaddN, Nat.zero_add]; exact hlt2
        have hval : vb .or .u64 (vb .shl .u64 x 1) (vw .u64 (vgd B (vtoN z))) = rd b p (i + 1) := by
          have e : vgd B (vtoN z) = bitAt b z := by
            simp only [qgd, qtoN]
            rw [hBg _ (by simp only [nc] at *; omega)]
            exact congrArg (bitAt b) (Int.toNat_of_nonneg hge)
          have hbt := bitAt_bit b z
          rw [hshl, e]
          simp only [qw]
          rw [wrap_u64 hbt.1 (by omega), qb]
          have e2 : rd b p (i + 1) = rd b p i * 2 + bitAt b z := by rw [rd]; simp only [nc] at *; rw [hz]
          rw [e2]
          generalize bitAt b z = t at *
          have := or_add (k := .u64) rfl (x := t) (b := rd b p i) 1 hbt.1 (by omega) hx2.1 (by show _ < (2 : Int) ^ 64; omega)
          rw [or_comm_u rfl]
          simpa [Int.add_comm] using this
        cbv
        refine ⟨⟨by rw [hqk]; exact hzi⟩, ⟨by rw [hqk]; exact hlt3⟩, ⟨by rw [hqk]; exact hlt2⟩, ?_⟩
        refine Cv.fold [20, 21, 22, 23, 24, 25, 26, 27, 28, 29, 30, 31, 32, 33, 34, 35, 36, 37, 38, 39, 40, 41, 42, 43, 44, 45, 46, 47] 2 [] (by exact Nat.le_refl _) (by exact Nat.le_of_ble_eq_true rfl) (by rfl) (by cbv) ?_
        intro js
        refine ⟨(_, _), ?_, js, rfl⟩
        exact ⟨⟨i + 1, hk1, hlt, by rw [hqk]; exact hval⟩, hmu⟩
      · rename_i hge
        have hge : ¬ 0 ≤ z := by rw [qc, geq_false] at hge; exact hge
        have hval : vb .shl .u64 x 1 = rd b p (i + 1) := by
          rw [hshl, rd]
          simp only [nc] at *
          rw [hz]
          have : bitAt b z = 0 := by unfold bitAt; rw [if_neg hge]
          rw [this]; omega
        cbv
        refine Cv.fold [20, 21, 22, 23, 24, 25, 26, 27, 28, 29, 30, 31, 32, 33, 34, 35, 36, 37, 38, 39, 40, 41, 42, 43, 44, 45, 46, 47] 2 [] (by exact Nat.le_refl _) (by exact Nat.le_of_ble_eq_true rfl) (by rfl) (by cbv) ?_
        intro js
        refine ⟨(_, _), ?_, js, rfl⟩
        exact ⟨⟨i + 1, hk1, hlt, hval⟩, hmu⟩
    · rename_i hge
      have hin : i = N := by rw [qc, geq_false] at hge; simp only [nc] at *; omega
      have hxV : x = V := by rw [hx, hin, hV]
      cbv
      rw [hxV]
      exact ⟨rfl, trivial⟩
end Go.Proofs.Ytgbnngjmjimhiaa
