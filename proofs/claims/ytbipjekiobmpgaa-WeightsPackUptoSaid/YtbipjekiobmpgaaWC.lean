import Derived.Test.YtbipjekiobmpgaaWB
import Derived.Test.YtbipjekiobmpgaaBA
namespace Go.Proofs.Ytbipjekiobmpgaa
open Go Go.Sx Go.Proofs
set_option maxHeartbeats 2000000 in
theorem refput_con (L : List Int) (c : Nat) (x n : Int) (hx : 0 ≤ x ∧ x < 2 ^ 64) (hl : L.length ≤ 2 ^ 40) :
    Con Try.prog 21 [.ptr 0 .z 1 0, .int .u64 x, .int .i64 n] [.one 58 [.slice 1 .z 1 L.length c], .buf 5 .u8 L c]
      (fun v H R => v = .int .i64 (putErr n) ∧ R = [1] ∧ ∃ c', H = [.one 58 [.slice 1 .z 1 (putBits L x n).length c'], .buf 5 .u8 (putBits L x n) c']) := by
  by_cases hn : 0 ≤ n ∧ n ≤ 56
  · obtain ⟨N, rfl⟩ : ∃ m : Nat, n = m := ⟨n.toNat, by omega⟩
    have e : putBits L x N = L ++ bitsN x N := by unfold putBits; rw [if_pos hn]; rfl
    have e2 : putErr N = 0 := by unfold putErr; rw [if_pos hn]
    rw [e, e2]
    refine con_gen (con_cut 2 (by simp) (con_red [1] (con_walk hmix fn21 ?_)))
    intro vb vc vw vtoN vofN vaddN vsubN vmaxI vminI vcutN vgd vst vln vrep vsub vonto vsplice vstrEq vbyteV vnotB veqB hw qb qc qw qtoN qofN qaddN qsubN qmaxI qminI qcutN qgd qst qln qrep qsub qonto qsplice qstrEq qbyteV qnotB qeqB
    have hm := hmix
    generalize Try.prog = P at *
    generalize hlen0 : L.length = len0
    generalize hF : L ++ bitsN x N = F
    generalize hFn : F.length = Fn
    generalize hn0 : (N : Int) = n0 at *
    cbv
    have e1 : vc .lss n0 0 = false := by rw [qc, lss_false]; omega
    have e2 : vc .gtr n0 56 = false := by rw [qc, gtr_false]; omega
    rw [e1]
    cbv
    rw [e2]
    cbv
    refine loop_fam (α := Int × List Int × Nat × Nat) [14, 15, 16, 17, 18, 19, 20, 21, 22, 23, 24, 25, 26, 27, 28, 29, 30, 31, 32, 33] [1]
      (fun (k, l, len, c) => [(7, .int .i64 k)]) (fun (k, l, len, c) => [(0, .one 58 [.slice 1 .z 1 len c]), (1, .buf 5 .u8 l c)])
      (fun (k, l, len, c) => ∃ i : Nat, k = i ∧ i ≤ N ∧ l = L ++ bitsN x i ∧ len = l.length) (fun (k, _) => N - k.toNat) hw hm ?_ ?_
    · refine Cv.genAt [7] [] (Cv.fold [14, 15, 16, 17, 18, 19, 20, 21, 22, 23, 24, 25, 26, 27, 28, 29, 30, 31, 32, 33] 2 [1] (by exact Nat.le_refl _) (by exact Nat.le_refl _) (by rfl) (by cbv) ?_)
      intro js
      refine ⟨(_, _, _, _), ?_, js, rfl⟩
      exact ⟨0, rfl, by omega, by simp [bitsN_zero], hlen0.symm⟩
    · rintro ⟨k, l, len, c⟩ js ⟨i, hk, hi, hl', hlen⟩
      have hll : l.length = L.length + i := by rw [hl', List.length_append, bitsN_length]
      cbv
      split
      · rename_i hlt
        have hlt : i < N := by rw [qc, lss_true] at hlt; simp only [nc] at *; omega
        have hcv : vw .u64 k = k := by simp only [nc] at *; simp only [qw]; exact wrap_u64 (by omega) (by omega)
        have hbit : vw .u8 (vb .and .u64 (vb .shr .u64 x (vw .u64 k)) 1) = x / 2 ^ i % 2 := by
          simp only [nc] at *
          rw [hcv, hk, qb, shr_eq (by show (i : Int) ≤ ((64 : Nat) : Int); omega)]
          have h1 : 0 ≤ x / 2 ^ i := Int.ediv_nonneg hx.1 (Int.le_of_lt (Int.pow_pos (by decide)))
          have h2 : x / 2 ^ i ≤ x := Int.ediv_le_self _ hx.1
          rw [Int.toNat_natCast, and_one rfl h1 (by show _ < (2 : Int) ^ 64; omega), qw]
          exact wrap_u8 (by omega) (by omega)
        have hk1 : vb .add .i64 k 1 = ((i + 1 : Nat) : Int) := by simp only [nc] at *; rw [qb, add_i64 (by omega) (by omega)]; omega
        cbv
        refine ⟨⟨by rw [hcv]; simp only [nc] at *; omega⟩, ⟨by simp only [qaddN, qln]; exact Nat.le_refl _⟩, ⟨by simp only [qln]; omega⟩, ⟨Nat.le_refl _⟩, ⟨by simp only [nc] at *; simp only [qaddN]; omega⟩, ?_⟩
        intro c1 js1 hle
        cbv
        refine Cv.fold [14, 15, 16, 17, 18, 19, 20, 21, 22, 23, 24, 25, 26, 27, 28, 29, 30, 31, 32, 33] 2 [1] (by exact Nat.le_refl _) (by exact Nat.le_succ _) (by rfl) (by cbv) ?_
        intro js
        refine ⟨(_, _, _, _), ?_, js, rfl⟩
        have hnew : vonto l len (vsub [vw .u8 (vb .and .u64 (vb .shr .u64 x (vw .u64 k)) 1)] 0 1) = L ++ bitsN x (i + 1) := by
          rw [hbit]; simp only [qonto, qsub]; rw [bitsN_succ, ← List.append_assoc, ← hl', hlen]; simp
        exact ⟨⟨i + 1, hk1, hlt, hnew, by rw [hnew]; simp only [qaddN]; rw [List.length_append, bitsN_length]; omega⟩, by show N - (vb .add .i64 k 1).toNat < N - k.toNat; rw [hk1, hk]; simp only [nc] at *; omega⟩
      · rename_i hge
        have hin : i = N := by rw [qc, lss_false] at hge; simp only [nc] at *; omega
        subst hin
        cbv
        refine ⟨c, ?_⟩
        have e3 : l = F := by rw [hl', hF]
        have e4 : len = Fn := by rw [hlen, ← hFn, e3]
        rw [e3, e4]
        rfl
  · have e : putBits L x n = L := by unfold putBits; rw [if_neg hn]
    have e2 : putErr n = 2 := by unfold putErr; rw [if_neg hn]
    rw [e, e2]
    refine con_gen (con_cut 2 (by simp) (con_red [1] (con_walk hmix fn21 ?_)))
    intro vb vc vw vtoN vofN vaddN vsubN vmaxI vminI vcutN vgd vst vln vrep vsub vonto vsplice vstrEq vbyteV vnotB veqB hw qb qc qw qtoN qofN qaddN qsubN qmaxI qminI qcutN qgd qst qln qrep qsub qonto qsplice qstrEq qbyteV qnotB qeqB
    generalize Try.prog = P at *
    generalize L.length = len0 at *
    cbv
    generalize h1 : vc .lss n 0 = z1
    cases z1
    · cbv
      have h2 : vc .gtr n 56 = true := by rw [qc, lss_false] at h1; rw [qc, gtr_true]; omega
      rw [h2]
      cbv
      exact ⟨c, rfl⟩
    · cbv
      exact ⟨c, rfl⟩
set_option maxHeartbeats 2000000 in
theorem refclose_con (L : List Int) (c : Nat) (hb : ∀ b ∈ L, isBit b) (hl : L.length ≤ 2 ^ 40) :
    Con Try.prog 22 [.ptr 0 .z 1 0] [.one 58 [.slice 1 .z 1 L.length c], .buf 5 .u8 L c]
      (fun v H R => R = [1] ∧ ∃ c' n', v = .slice n' .z 1 (pack (L ++ [1])).length (pack (L ++ [1])).length ∧ n' = 3 ∧ H = [.one 58 [.val (.slice none 0 0)], .buf 5 .u8 (L ++ [1]) c', .ints 5 .u8 [1], .ints 5 .u8 (pack (L ++ [1]))]) := by
  refine con_gen (con_cut 4 (by simp) (con_red [1] (con_walk hmix fn22 ?_)))
  intro vb vc vw vtoN vofN vaddN vsubN vmaxI vminI vcutN vgd vst vln vrep vsub vonto vsplice vstrEq vbyteV vnotB veqB hw qb qc qw qtoN qofN qaddN qsubN qmaxI qminI qcutN qgd qst qln qrep qsub qonto qsplice qstrEq qbyteV qnotB qeqB
  have hm := hmix
  generalize Try.prog = P at *
  have hb1 : ∀ b ∈ L ++ [1], isBit b := fun b hm => (List.mem_append.1 hm).elim (hb b) (fun e => .inr (by simpa using e))
  have hML : (L ++ [1]).length = L.length + 1 := by simp
  have hpk : pack (L ++ [1]) = packN (L ++ [1]) (((L ++ [1]).length + 7) / 8) := rfl
  generalize hM : L ++ [1] = M at *
  generalize hF : pack M = F
  generalize hFn : F.length = Fn
  generalize hlen0 : L.length = len0 at *
  cbv
  refine ⟨⟨by simp only [qaddN, qln]; exact Nat.le_refl _⟩, ⟨by simp only [qln]; omega⟩, ⟨Nat.le_refl _⟩, ⟨by simp only [qaddN]; omega⟩, ?_⟩
  intro c1 js1 hle
  have hM2 : vonto L len0 (vsub [1] 0 1) = M := by rw [← hM]; simp only [qonto, qsub]; rw [← hlen0]; simp
  have hMn : M.length = len0 + 1 := hML
  have hN1 : vb .quo .i64 (vb .add .i64 (vofN (vaddN len0 1)) 7) 8 = ((len0 + 8) / 8 : Nat) := by
    simp only [qofN, qaddN]
    simp only [nc] at *
    rw [qb, add_i64 (by omega) (by omega), quo_i64 (by omega) (by omega) (by omega)]
    omega
  generalize hNN : (len0 + 8) / 8 = N at *
  have hN2 : vtoN ((N : Nat) : Int) = N := by simp only [qtoN]; rfl
  have hFN : Fn = N := by rw [← hFn, ← hF, pack_length, hMn]; omega
  cbv
  rw [hM2, hN1, hN2]
  have hlen1 : vaddN len0 1 = len0 + 1 := by simp only [qaddN]
  rw [hlen1]
  generalize hL1 : len0 + 1 = len1 at *
  have hrep : vrep N 0 = packN [] N := by rw [packN_nil]; simp only [qrep]
  rw [hrep]
  generalize hp0 : packN [] N = p0
  generalize hN0 : ((N : Nat) : Int) = N0 at *
  refine ⟨⟨by simp only [nc] at *; omega⟩, ⟨by simp only [nc] at *; omega⟩, ⟨by simp only [nc] at *; omega⟩, ⟨by simp only [nc] at *; omega⟩, ?_⟩
  refine loop_fam (α := Int × List Int) [20, 21, 22, 23, 24, 25, 26, 27, 28, 29, 30, 31, 32, 33, 34, 35, 36, 37, 38, 39, 40] [1]
    (fun (k, l) => [(5, .int .i64 k)]) (fun (k, l) => [(3, .ints 5 .u8 l)])
    (fun (k, l) => ∃ i : Nat, k = i ∧ i ≤ len1 ∧ l = packN (M.take i) N) (fun (k, _) => len1 - k.toNat) hw hm ?_ ?_
  · refine Cv.genAt [5] [] (Cv.fold [20, 21, 22, 23, 24, 25, 26, 27, 28, 29, 30, 31, 32, 33, 34, 35, 36, 37, 38, 39, 40] 4 [1] (by exact Nat.le_refl _) (by exact Nat.le_refl _) (by rfl) (by cbv) ?_)
    intro js
    refine ⟨(_, _), ?_, js, rfl⟩
    exact ⟨0, rfl, by omega, by rw [← hp0]; rfl⟩
  · rintro ⟨k, l⟩ js ⟨i, hk, hi, hl'⟩
    have hll : l.length = N := by rw [hl', packN_length]
    cbv
    split
    · rename_i hlt
      have hlt : i < len1 := by rw [qc, lss_true] at hlt; simp only [qofN] at hlt; simp only [nc] at *; omega
      have hk0 : k = (i : Int) := hk
      have hz8 : vb .quo .i64 k 8 = k / 8 := by simp only [nc] at *; rw [qb, quo_i64 (by omega) (by omega) (by omega)]
      have hr8 : vb .rem .i64 k 8 = k % 8 := by simp only [nc] at *; rw [qb, rem_i64 (by omega)]
      have hw8 : vw .u64 (k % 8) = k % 8 := by simp only [nc] at *; simp only [qw]; exact wrap_u64 (by omega) (by omega)
      have hin8 : 0 ≤ vb .quo .i64 k 8 ∧ vb .quo .i64 k 8 < N := by rw [hz8]; simp only [nc] at *; omega
      have hq8 : vtoN (vb .quo .i64 k 8) = (k / 8).toNat := by rw [hz8]; simp only [qtoN]
      have hlt8 : vtoN (vb .quo .i64 k 8) < vln l := by rw [hq8]; simp only [qln]; simp only [nc] at *; omega
      have hink : 0 ≤ k ∧ k < len1 := by simp only [nc] at *; omega
      have hki : vtoN k = i := by simp only [qtoN]; simp only [nc] at *; omega
      have hltk : vtoN k < vln M := by rw [hki]; simp only [qln]; omega
      have hltk2 : vaddN 0 (vtoN k) < vln M := by simp only [qaddN, Nat.zero_add]; exact hltk
      have hnn : 0 ≤ vw .u64 (vb .rem .i64 k 8) := by rw [hr8, hw8]; omega
      have hMi : i < M.length := by omega
      have hval : vst l (vtoN (vb .quo .i64 k 8)) (vb .or .u8 (vgd l (vtoN (vb .quo .i64 k 8))) (vb .shl .u8 (vgd M (vtoN k)) (vw .u64 (vb .rem .i64 k 8)))) = packN (M.take (i + 1)) N := by
        have hbits : ∀ b ∈ M.take i, isBit b := fun b hm => hb1 b (List.mem_of_mem_take hm)
        have hbit : isBit (M.getD i 0) := by
          rw [List.getD_eq_getElem?_getD, List.getElem?_eq_getElem hMi]
          exact hb1 _ (List.getElem_mem hMi)
        have := packN_step (M.take i) (M.getD i 0) k N hbits hbit (by rw [List.length_take]; simp only [nc] at *; omega) (by rw [List.length_take]; omega)
        rw [hki, hr8, hw8, hq8, take_snoc hMi, ← this, hl', qb]
        simp only [qst, qgd]
      have hk1 : vb .add .i64 k 1 = ((i + 1 : Nat) : Int) := by simp only [nc] at *; rw [qb, add_i64 (by omega) (by omega)]; omega
      cbv
      refine ⟨⟨hin8⟩, ⟨hlt8⟩, ⟨hink⟩, ⟨hltk2⟩, ⟨hltk⟩, ⟨hnn⟩, ⟨hin8⟩, ⟨hlt8⟩, ?_⟩
      refine Cv.fold [20, 21, 22, 23, 24, 25, 26, 27, 28, 29, 30, 31, 32, 33, 34, 35, 36, 37, 38, 39, 40] 4 [1] (by exact Nat.le_refl _) (by exact Nat.le_refl _) (by rfl) (by cbv) ?_
      intro js
      refine ⟨(_, _), ?_, js, rfl⟩
      exact ⟨⟨i + 1, hk1, hlt, hval⟩, by show len1 - (vb .add .i64 k 1).toNat < len1 - k.toNat; rw [hk1, hk0]; simp only [nc] at *; omega⟩
    · rename_i hge
      have hin : i = len1 := by rw [qc, lss_false] at hge; simp only [qofN] at hge; simp only [nc] at *; omega
      have hend : l = F := by
        rw [hl', hin, ← hF]
        have e : M.take len1 = M := by rw [List.take_of_length_le (by omega)]
        rw [e, hpk, hMn]
        exact congrArg (packN M) (by omega)
      rw [hFN]
      cbv
      exact ⟨c1, 3, rfl, rfl, by rw [hend]; rfl⟩
end Go.Proofs.Ytbipjekiobmpgaa
namespace Go.Proofs.Ytbipjekiobmpgaa
open Go Go.Sx Go.Proofs
set_option maxHeartbeats 4000000 in
theorem refnew_good (b : List Int) (cap : Nat) (hb : b.getLastD 0 ≠ 0) (hby : ∀ x ∈ b, isByte x) (hl : 8 * b.length ≤ 140737488355328) : Con Try.prog 26 [.slice 0 .z 1 b.length cap] [.ro .u8 b]
    (fun v H R => v = .tup [.ptr 1 .z 2 0, .lit .i64 0] ∧ R = [2] ∧ ∃ (P c : Nat), markAt b = P ∧ P < 8 * b.length ∧ H = [.ro .u8 b, .one 76 [.slice 2 .z 1 P c, .int .i64 P], .buf 5 .u8 (bitsOf b (8 * b.length)) c]) := by
  obtain ⟨PP, hPP, hPl, hP1, hP0⟩ := markAt_spec b hb hby
  have hbb := byte_bit hby
  refine con_cut 3 (by simp) (con_red [2] (con_walk hmix fn26 ?_))
  intro vb vc vw vtoN vofN vaddN vsubN vmaxI vminI vcutN vgd vst vln vrep vsub vonto vsplice vstrEq vbyteV vnotB veqB hw qb qc qw qtoN qofN qaddN qsubN qmaxI qminI qcutN qgd qst qln qrep qsub qonto qsplice qstrEq qbyteV qnotB qeqB
  have hm := hmix
  generalize Try.prog = P at *
  rw [getLastD_eq] at hb
  have h0 : 1 ≤ b.length := by
    rcases b with _ | ⟨x, b⟩
    · exact absurd rfl hb
    · simp
  generalize hBB : bitsOf b (8 * b.length) = BB
  generalize markAt b = MA at *
  generalize hlen : b.length = len at *
  generalize hlast : b.getD (len - 1) 0 = last at *
  cbv
  have e0 : vc .eql (vofN len) 0 = false := by simp only [qc, qofN]; rw [eql_false]; simp only [nc] at *; omega
  rw [e0]
  have hsub : vb .sub .i64 (vofN len) 1 = len - 1 := by simp only [qb, qofN]; simp only [nc] at *; rw [sub_i64 (by omega) (by omega)]
  have hin : 0 ≤ vb .sub .i64 (vofN len) 1 ∧ vb .sub .i64 (vofN len) 1 < len := by rw [hsub]; simp only [nc] at *; omega
  have hi : vtoN (vb .sub .i64 (vofN len) 1) = len - 1 := by rw [hsub]; simp only [qtoN]; simp only [nc] at *; omega
  have hlt2 : vtoN (vb .sub .i64 (vofN len) 1) < vln b := by rw [hi]; simp only [qln]; omega
  have hlt3 : vaddN 0 (vtoN (vb .sub .i64 (vofN len) 1)) < vln b := by simp only [qaddN, Nat.zero_add]; exact hlt2
  have hval : vgd b (vtoN (vb .sub .i64 (vofN len) 1)) = last := by rw [hi]; simp only [qgd]; exact hlast
  have hz : vc .eql (vgd b (vtoN (vb .sub .i64 (vofN len) 1))) 0 = false := by rw [hval, qc, eql_false]; exact hb
  cbv
  refine ⟨⟨hin⟩, ⟨hlt3⟩, ⟨hlt2⟩, ?_⟩
  rw [hz]
  cbv
  refine WX.cv (Cv.nilB 1 0 5 .u8 (by rfl) (by cbv) (Cv.here ?_))
  cbv
  have h8 : vb .mul .i64 8 (vofN len) = ((8 * len : Nat) : Int) := by simp only [qb, qofN]; simp only [nc] at *; rw [mul_i64 (by omega) (by omega)]; omega
  refine loop_fam (α := Int × List Int × Nat × Nat) [20, 21, 22, 23, 24, 25, 26, 27, 28, 29, 30, 31, 32, 33, 34, 35, 36, 37, 38, 39, 40, 41, 42, 43, 44, 45] [2]
    (fun (k, l, n, c) => [(5, .int .i64 k)]) (fun (k, l, n, c) => [(1, .one 76 [.slice 2 .z 1 n c, .int .i64 0]), (2, .buf 5 .u8 l c)])
    (fun (k, l, n, c) => ∃ i : Nat, k = i ∧ i ≤ 8 * len ∧ l = bitsOf b i ∧ n = i ∧ n ≤ c) (fun (k, _) => 8 * len - k.toNat) hw hm ?_ ?_
  · refine Cv.genAt [5] [1] (Cv.fold [20, 21, 22, 23, 24, 25, 26, 27, 28, 29, 30, 31, 32, 33, 34, 35, 36, 37, 38, 39, 40, 41, 42, 43, 44, 45] 3 [2] (by exact Nat.le_refl _) (by exact Nat.le_refl _) (by rfl) (by cbv) ?_)
    intro js
    refine ⟨(_, _, _, _), ?_, js, rfl⟩
    exact ⟨0, rfl, by omega, rfl, rfl, Nat.le_refl _⟩
  · rintro ⟨k, l, n, c⟩ js ⟨i, hk, hile, hl', hn, hnc⟩
    have hll : l.length = i := by rw [hl', bitsOf_length]
    cbv
    split
    · rename_i hlt
      have hlt : i < 8 * len := by rw [h8, qc, lss_true] at hlt; simp only [nc] at *; omega
      have hk1 : vb .add .i64 k 1 = ((i + 1 : Nat) : Int) := by simp only [nc] at *; rw [qb, add_i64 (by omega) (by omega)]; omega
      have hq : vb .quo .i64 k 8 = k / 8 := by simp only [nc] at *; rw [qb, quo_i64 (by omega) (by omega) (by omega)]
      have hr : vb .rem .i64 k 8 = k % 8 := by simp only [nc] at *; rw [qb, rem_i64 (by omega)]
      have hwr : vw .u64 (k % 8) = k % 8 := by simp only [nc] at *; simp only [qw]; exact wrap_u64 (by omega) (by omega)
      have hink : 0 ≤ vb .quo .i64 k 8 ∧ vb .quo .i64 k 8 < len := by rw [hq]; simp only [nc] at *; omega
      have hqn : vtoN (vb .quo .i64 k 8) = (k / 8).toNat := by rw [hq]; simp only [qtoN]
      have hltk : vtoN (vb .quo .i64 k 8) < vln b := by rw [hqn]; simp only [qln]; simp only [nc] at *; omega
      have hltk2 : vaddN 0 (vtoN (vb .quo .i64 k 8)) < vln b := by simp only [qaddN, Nat.zero_add]; exact hltk
      have hnn : 0 ≤ vw .u64 (vb .rem .i64 k 8) := by rw [hr, hwr]; omega
      have hbit : vb .and .u8 (vb .shr .u8 (vgd b (vtoN (vb .quo .i64 k 8))) (vw .u64 (vb .rem .i64 k 8))) 1 = bitAt b i := by
        simp only [nc] at *
        rw [hr, hwr, hqn, qb, shr_eq (by show k % 8 ≤ ((8 : Nat) : Int); omega)]
        simp only [qgd]
        have hby := hbb (k / 8).toNat
        have e : bitAt b (i : Int) = b.getD (k / 8).toNat 0 / 2 ^ (k % 8).toNat % 2 := by rw [← hk]; unfold bitAt; rw [if_pos (by omega)]
        rw [e]
        generalize b.getD (k / 8).toNat 0 = y at *
        have h1 : 0 ≤ y / 2 ^ (k % 8).toNat := Int.ediv_nonneg hby.1 (Int.le_of_lt (Int.pow_pos (by decide)))
        have h2 : y / 2 ^ (k % 8).toNat ≤ y := Int.ediv_le_self _ hby.1
        have h3 := hby.2
        rw [and_one rfl h1 (by show _ < (2 : Int) ^ 8; omega)]
      cbv
      refine ⟨⟨hink⟩, ⟨hltk2⟩, ⟨hltk⟩, ⟨hnn⟩, ⟨⟨hltk⟩, trivial⟩, ⟨by simp only [qaddN, qln]; exact Nat.le_refl _⟩, ⟨by simp only [qln]; omega⟩, ⟨Nat.le_refl _⟩, ⟨by simp only [qaddN]; omega⟩, ?_⟩
      intro c1 js1 hle
      cbv
      refine ⟨⟨⟨hltk⟩, trivial⟩, ?_⟩
      refine Cv.fold [20, 21, 22, 23, 24, 25, 26, 27, 28, 29, 30, 31, 32, 33, 34, 35, 36, 37, 38, 39, 40, 41, 42, 43, 44, 45] 3 [2] (by exact Nat.le_refl _) (by exact Nat.le_of_ble_eq_true rfl) (by rfl) (by cbv) ?_
      intro js
      refine ⟨(_, _, _, _), ?_, js, rfl⟩
      have hnew : vonto l n (vsub [vb .and .u8 (vb .shr .u8 (vgd b (vtoN (vb .quo .i64 k 8))) (vw .u64 (vb .rem .i64 k 8))) 1] 0 1) = bitsOf b (i + 1) := by
        rw [hbit, bitsOf_succ]; simp only [qonto, qsub]; rw [← hl', hn]; simp [← hll]
      have hle' : vaddN n 1 ≤ c1 := hle.out
      exact ⟨⟨i + 1, hk1, hlt, hnew, by simp only [qaddN]; omega, hle'⟩, by show 8 * len - (vb .add .i64 k 1).toNat < 8 * len - k.toNat; rw [hk1, hk]; simp only [nc] at *; omega⟩
    · rename_i hge
      have hin8 : i = 8 * len := by rw [h8, qc, lss_false] at hge; simp only [nc] at *; omega
      have hnn : n = 8 * len := by omega
      have hlB : l = BB := by rw [hl', hin8, hBB]
      have hBn : BB.length = 8 * len := by rw [← hlB, hll, hin8]
      cbv
      refine loop_fam (α := Nat) [46, 47, 48, 49, 50, 51, 52, 53, 54, 55, 56, 57, 58, 59, 60, 61, 62, 63, 64, 65, 66, 67, 68, 69, 70, 71, 72] [2] (fun k => []) (fun k2 => [(1, .one 76 [.slice 2 .z 1 k2 c, .int .i64 0])]) (fun k2 => PP + 1 ≤ k2 ∧ k2 ≤ 8 * len) (fun k2 => k2) hw hm ?_ ?_
      · refine Cv.fold [46, 47, 48, 49, 50, 51, 52, 53, 54, 55, 56, 57, 58, 59, 60, 61, 62, 63, 64, 65, 66, 67, 68, 69, 70, 71, 72] 3 [2] (by exact Nat.le_refl _) (by exact Nat.le_of_ble_eq_true rfl) (by rfl) (by cbv) ?_
        intro js
        refine ⟨n, ⟨by omega, by omega⟩, js, rfl⟩
      · rintro k2 js ⟨hk2, hk2'⟩
        have hs : vb .sub .i64 (vofN k2) 1 = ((k2 - 1 : Nat) : Int) := by simp only [qb, qofN]; simp only [nc] at *; rw [sub_i64 (by omega) (by omega)]; omega
        have hin : 0 ≤ vb .sub .i64 (vofN k2) 1 ∧ vb .sub .i64 (vofN k2) 1 < k2 := by rw [hs]; simp only [nc] at *; omega
        have hc2 : 0 ≤ vb .sub .i64 (vofN k2) 1 ∧ vb .sub .i64 (vofN k2) 1 ≤ c := by rw [hs]; simp only [nc] at *; omega
        have hi2 : vtoN (vb .sub .i64 (vofN k2) 1) = k2 - 1 := by rw [hs]; simp only [qtoN]; omega
        have hlt2 : vtoN (vb .sub .i64 (vofN k2) 1) < vln l := by rw [hi2]; simp only [qln]; omega
        have hlt3 : vaddN 0 (vtoN (vb .sub .i64 (vofN k2) 1)) < vln l := by simp only [qaddN, Nat.zero_add]; exact hlt2
        have hv2 : vgd l (vtoN (vb .sub .i64 (vofN k2) 1)) = bitAt b ((k2 - 1 : Nat) : Int) := by
          rw [hi2, hl']; simp only [qgd]; exact bitsOf_get b i (k2 - 1) (by omega)
        cbv
        refine ⟨⟨hin⟩, ⟨hlt3⟩, ⟨hlt2⟩, ?_⟩
        split
        · rename_i hz
          have hz : bitAt b ((k2 - 1 : Nat) : Int) = 0 := by rw [hv2, qc, eql_true] at hz; exact hz
          have hne : k2 - 1 ≠ PP := fun e => by rw [e] at hz; simp only [nc] at *; omega
          cbv
          refine ⟨⟨hc2⟩, ?_⟩
          refine Cv.fold [46, 47, 48, 49, 50, 51, 52, 53, 54, 55, 56, 57, 58, 59, 60, 61, 62, 63, 64, 65, 66, 67, 68, 69, 70, 71, 72] 3 [2] (by exact Nat.le_refl _) (by exact Nat.le_of_ble_eq_true rfl) (by rfl) (by cbv) ?_
          intro js
          refine ⟨_, ⟨⟨?_, ?_⟩, ?_⟩, js, rfl⟩
          all_goals (rw [hi2]; omega)
        · rename_i hz
          have hz : bitAt b ((k2 - 1 : Nat) : Int) ≠ 0 := by rw [hv2, qc, eql_false] at hz; exact hz
          have hPk : k2 - 1 = PP := Classical.byContradiction fun h => hz (hP0 (k2 - 1) (by omega) (by omega))
          cbv
          have e1 : vtoN (vb .sub .i64 (vofN k2) 1) = PP := by rw [hi2]; exact hPk
          have e2 : vofN PP = (PP : Int) := by simp only [qofN]
          refine ⟨⟨hc2⟩, PP, c, hPP, by omega, ?_⟩
          rw [e1, e2, hlB]
          rfl
theorem refnew_bad (b : List Int) (cap : Nat) (hb : b.getLastD 0 = 0) (hl : b.length ≤ 2 ^ 48) : Con Try.prog 26 [.slice 0 .z 1 b.length cap] [.ro .u8 b] (fun v H R => v = .tup [.val (.pointer none), .lit .i64 11] ∧ H = [.ro .u8 b] ∧ R = []) := by
  refine con_cut 1 (by simp) (con_red [] (con_walk hmix fn26 ?_))
  intro vb vc vw vtoN vofN vaddN vsubN vmaxI vminI vcutN vgd vst vln vrep vsub vonto vsplice vstrEq vbyteV vnotB veqB hw qb qc qw qtoN qofN qaddN qsubN qmaxI qminI qcutN qgd qst qln qrep qsub qonto qsplice qstrEq qbyteV qnotB qeqB
  generalize Try.prog = P at *
  rw [getLastD_eq] at hb
  generalize hlen : b.length = len at *
  cbv
  generalize h0 : vc .eql (vofN len) 0 = z0
  cases z0
  rotate_left
  · cbv
  · have h0 : 1 ≤ len := by rw [qc, qofN, eql_false] at h0; simp only [nc] at *; omega
    have hsub : vb .sub .i64 (vofN len) 1 = len - 1 := by rw [qb, qofN]; simp only [nc] at *; rw [sub_i64 (by omega) (by omega)]
    have hin : 0 ≤ vb .sub .i64 (vofN len) 1 ∧ vb .sub .i64 (vofN len) 1 < len := by rw [hsub]; simp only [nc] at *; omega
    have hi : vtoN (vb .sub .i64 (vofN len) 1) = len - 1 := by rw [hsub, qtoN]; simp only [nc] at *; omega
    have hlt2 : vtoN (vb .sub .i64 (vofN len) 1) < vln b := by rw [hi, qln]; simp only [nc] at *; omega
    have hlt3 : vaddN 0 (vtoN (vb .sub .i64 (vofN len) 1)) < vln b := by rw [qaddN]; simpa using hlt2
    cbv
    refine ⟨⟨hin⟩, ⟨hlt3⟩, ⟨hlt2⟩, ?_⟩
    have hz : vc .eql (vgd b (vtoN (vb .sub .i64 (vofN len) 1))) 0 = true := by rw [hi, qgd, qc, eql_true]; exact hb
    rw [hz]
    cbv
set_option maxHeartbeats 4000000 in
theorem refbits_con (b : List Int) (P0 c : Nat) (p n : Int) (hP : P0 ≤ 8 * b.length) (hl : 8 * b.length ≤ 140737488355328) (hp : -1099511627776 ≤ p ∧ p ≤ P0) :
    Con Try.prog 36 [.ptr 0 .z 2 0, .int .i64 n] [.one 76 [.slice 1 .z 1 P0 c, .int .i64 p], .ro .u8 (bitsOf b (8 * b.length))]
      (fun v H R => v = .int .u64 (rd b p (clampN n)) ∧ R = [] ∧ H = [.one 76 [.slice 1 .z 1 P0 c, .int .i64 (floorP (p - clampN n))], .ro .u8 (bitsOf b (8 * b.length))]) := by
  refine con_gen (con_cut 2 (by simp) (con_red [] (con_walk hmix fn36 ?_)))
  intro vb vc vw vtoN vofN vaddN vsubN vmaxI vminI vcutN vgd vst vln vrep vsub vonto vsplice vstrEq vbyteV vnotB veqB hw qb qc qw qtoN qofN qaddN qsubN qmaxI qminI qcutN qgd qst qln qrep qsub qonto qsplice qstrEq qbyteV qnotB qeqB
  have hm := hmix
  generalize Try.prog = P at *
  have hN : vminI (vmaxI n 0) 56 = (clampN n : Nat) := by rw [qmaxI, qminI]; unfold clampN; simp only [nc]; split <;> split <;> omega
  have hN56 := clampN_le n
  have hF : floorP (p - clampN n) = vmaxI (p - clampN n) (-1099511627776) := by simp only [qmaxI]; unfold floorP; (repeat' split) <;> first | rfl | omega
  rw [hF]
  generalize clampN n = N at *
  generalize hV : rd b p N = V
  generalize hB : bitsOf b (8 * b.length) = B
  have hBn : B.length = 8 * b.length := by rw [← hB, bitsOf_length]
  have hBg : ∀ i : Nat, i < 8 * b.length → B.getD i 0 = bitAt b i := fun i hi => by rw [← hB]; exact bitsOf_get b _ i hi
  generalize hNN : ((N : Nat) : Int) = N0 at *
  have hsub0 : vb .sub .i64 p N0 = p - N0 := by rw [qb, sub_i64 (by omega) (by omega)]
  generalize hq : p - N0 = q at *
  cbv
  rw [hN, hsub0]
  refine loop_fam (α := Int × Int) [20, 21, 22, 23, 24, 25, 26, 27, 28, 29, 30, 31, 32, 33, 34, 35, 36, 37, 38, 39, 40, 41, 42, 43, 44, 45, 46, 47] []
    (fun (x, k) => [(5, .int .u64 x), (6, .int .i64 k)]) (fun (x, k) => [])
    (fun (x, k) => ∃ i : Nat, k = (N : Int) - 1 - i ∧ i ≤ N ∧ x = rd b p i) (fun (x, k) => (k + 1).toNat) hw hm ?_ ?_
  · refine Cv.genAt [5, 6] [] (Cv.fold [20, 21, 22, 23, 24, 25, 26, 27, 28, 29, 30, 31, 32, 33, 34, 35, 36, 37, 38, 39, 40, 41, 42, 43, 44, 45, 46, 47] 2 [] (by exact Nat.le_refl _) (by exact Nat.le_of_ble_eq_true rfl) (by rfl) (by cbv) ?_)
    intro js
    refine ⟨(_, _), ?_, js, rfl⟩
    exact ⟨0, by simp only [nc] at *; rw [qb, sub_i64 (by omega) (by omega)]; omega, by omega, rfl⟩
  · rintro ⟨x, k⟩ js ⟨i, hk, hi, hx⟩
    have hx2 := rd_bound b p i
    cbv
    split
    · rename_i hlt
      have hlt : i < N := by rw [qc, geq_true] at hlt; simp only [nc] at *; omega
      have hqk : vb .add .i64 q k = p - 1 - i := by
        simp only [nc] at *
        rw [qb, add_i64 (by omega) (by omega)]; omega
      have hk1 : vb .sub .i64 k 1 = (N : Int) - 1 - ((i + 1 : Nat) : Int) := by simp only [nc] at *; rw [qb, sub_i64 (by omega) (by omega)]; omega
      have hmu : (vb .sub .i64 k 1 + 1).toNat < (k + 1).toNat := by rw [hk1, hk]; simp only [nc] at *; omega
      have hp56 := pow_le_56 (show i ≤ 56 by omega)
      have hshl : vb .shl .u64 x 1 = rd b p i * 2 := by
        rw [qb, hx, shl_u rfl hx2.1 (by decide) (by show _ * (2 : Int) ^ 1 < 2 ^ 64; omega)]; rfl
      cbv
      rw [hqk]
      generalize hz : p - 1 - (i : Int) = z at *
      cbv
      split
      · rename_i hge
        have hge : 0 ≤ z := by rw [qc, geq_true] at hge; exact hge
        have hzi : 0 ≤ z ∧ z < P0 := by simp only [nc] at *; omega
        have hlt2 : vtoN z < vln B := by simp only [qtoN, qln]; rw [hBn]; simp only [nc] at *; omega
        have hlt3 : vaddN 0 (vtoN z) < vln B := by simp only [qaddN, Nat.zero_add]; exact hlt2
        have hval : vb .or .u64 (vb .shl .u64 x 1) (vw .u64 (vgd B (vtoN z))) = rd b p (i + 1) := by
          have e : vgd B (vtoN z) = bitAt b z := by
            simp only [qgd, qtoN]
            rw [hBg _ (by simp only [nc] at *; omega)]
            exact congrArg (bitAt b) (Int.toNat_of_nonneg hge)
          have hbt := bitAt_bit b z
          rw [hshl, e]
          simp only [qw]
          rw [wrap_u64 hbt.1 (by omega), qb]
          have e2 : rd b p (i + 1) = rd b p i * 2 + bitAt b z := by rw [rd]; simp only [nc] at *; rw [hz]
          rw [e2]
          generalize bitAt b z = t at *
          have := or_add (k := .u64) rfl (x := t) (b := rd b p i) 1 hbt.1 (by omega) hx2.1 (by show _ < (2 : Int) ^ 64; omega)
          rw [or_comm_u rfl]
          simpa [Int.add_comm] using this
        cbv
        refine ⟨⟨by rw [hqk]; exact hzi⟩, ⟨by rw [hqk]; exact hlt3⟩, ⟨by rw [hqk]; exact hlt2⟩, ?_⟩
        refine Cv.fold [20, 21, 22, 23, 24, 25, 26, 27, 28, 29, 30, 31, 32, 33, 34, 35, 36, 37, 38, 39, 40, 41, 42, 43, 44, 45, 46, 47] 2 [] (by exact Nat.le_refl _) (by exact Nat.le_of_ble_eq_true rfl) (by rfl) (by cbv) ?_
        intro js
        refine ⟨(_, _), ?_, js, rfl⟩
        exact ⟨⟨i + 1, hk1, hlt, by rw [hqk]; exact hval⟩, hmu⟩
      · rename_i hge
        have hge : ¬ 0 ≤ z := by rw [qc, geq_false] at hge; exact hge
        have hval : vb .shl .u64 x 1 = rd b p (i + 1) := by
          rw [hshl, rd]
          simp only [nc] at *
          rw [hz]
          have : bitAt b z = 0 := by unfold bitAt; rw [if_neg hge]
          rw [this]; omega
        cbv
        refine Cv.fold [20, 21, 22, 23, 24, 25, 26, 27, 28, 29, 30, 31, 32, 33, 34, 35, 36, 37, 38, 39, 40, 41, 42, 43, 44, 45, 46, 47] 2 [] (by exact Nat.le_refl _) (by exact Nat.le_of_ble_eq_true rfl) (by rfl) (by cbv) ?_
        intro js
        refine ⟨(_, _), ?_, js, rfl⟩
        exact ⟨⟨i + 1, hk1, hlt, hval⟩, hmu⟩
    · rename_i hge
      have hin : i = N := by rw [qc, geq_false] at hge; simp only [nc] at *; omega
      have hxV : x = V := by rw [hx, hin, hV]
      cbv
      rw [hxV]
      exact ⟨rfl, trivial⟩
end Go.Proofs.Ytbipjekiobmpgaa
namespace Go.Proofs.Ytbipjekiobmpgaa
open Go Go.Sx Go.Proofs
/-! balerref09.Bits. -/
set_option maxRecDepth 10000
set_option maxHeartbeats 40000000
theorem one_shl62 {y : Int} (h0 : 0 ≤ y) (h1 : y ≤ 62) : bV .shl .i64 1 y = 2 ^ y.toNat := by
  show IntKind.i64.wrap (1 * 2 ^ (min y.toNat IntKind.i64.bits)) = _
  rw [show min y.toNat IntKind.i64.bits = y.toNat by simp [IntKind.bits]; omega, Int.one_mul]
  have hp : (0 : Int) < 2 ^ y.toNat := Int.pow_pos (by omega)
  have hp2 : (2 : Int) ^ y.toNat ≤ 2 ^ 62 := pow_up (by omega)
  exact wrap_i64 (by omega) (by omega)
theorem Msz.refs {l : List Int} {m : Int} (hl : ∀ c ∈ l, isU8 c) (hm : Msz l m) (h1 : 2 ≤ l.length) (h2 : l.length ≤ 256) (h3 : l.getD (l.length - 1) 0 ≠ 0) (h4 : ∀ i, i < l.length → l.getD i 0 ≤ 11) :
    (∀ K : Nat, K ≤ 11 → sm l l.length = 2 ^ K → 2 ≤ on l l.length → m = K) ∧ ((∀ K : Nat, 1 ≤ K → K ≤ 11 → sm l l.length = 2 ^ K → ¬ 2 ≤ on l l.length) → m = 0) := by
  constructor
  · intro K hK hs ho
    rcases hm with ⟨M, hW, rfl⟩ | ⟨hn, rfl⟩
    · have := hW.2.2.2.2.2.1
      rw [hs] at this
      have := pow_inj this
      omega
    · exact (hn K ⟨h1, h2, h3, h4, ho, hs, hK⟩).elim
  · intro h
    rcases hm with ⟨M, hW, rfl⟩ | ⟨hn, rfl⟩
    · exact (h M hW.pos hW.2.2.2.2.2.2 hW.2.2.2.2.2.1 hW.2.2.2.2.1).elim
    · rfl
theorem refbits9_con (l : List Int) (cap : Nat) (m : Int) (hl : ∀ c ∈ l, isU8 c) (hlen : l.length ≤ 140737488355328) (hm0 : Msz l m) :
    Con Try.prog 19 [.slice 0 .z 1 l.length cap] [.ro .u8 l] (fun v H R => v = .int .i64 m ∧ H = [.ro .u8 l] ∧ R = []) := by
  refine con_gen (con_cut 1 (by simp) (con_drop (con_walk hmix fn19 ?_)))
  intro vb vc vw vtoN vofN vaddN vsubN vmaxI vminI vcutN vgd vst vln vrep vsub vonto vsplice vstrEq vbyteV vnotB veqB hw qb qc qw qtoN qofN qaddN qsubN qmaxI qminI qcutN qgd qst qln qrep qsub qonto qsplice qstrEq qbyteV qnotB qeqB
  have hm := hmix; generalize Try.prog = P at *
  have hends := hm0.refs hl
  have hnone := hm0.none
  have hge := getD_u8 hl
  have hsr := fun i => @sm_range l i
  have hor := on_range l
  have hs0 : sm l 0 = 0 := rfl
  have ho0 : on l 0 = 0 := rfl
  have hss : ∀ i, sm l (i + 1) = sm l i + pw (l.getD i 0) := fun _ => rfl
  have hosu : ∀ i, on l (i + 1) = on l i + (if l.getD i 0 = 1 then 1 else 0) := fun _ => rfl
  have hpr := @pw_range
  have hpz : ∀ w : Int, w ≤ 0 → pw w = 0 := fun w h => by unfold pw; rw [if_pos h]
  have hpwd : ∀ w : Int, 0 < w → w ≤ 11 → vb .shl .i64 1 (w - 1) = pw w := fun w h0 h1 => by rw [qb, one_shl62 (by omega) (by omega)]; unfold pw; rw [if_neg (by omega)]
  clear hm0
  generalize sm l = SM at *
  generalize on l = ON at *
  generalize pw = PW at *
  generalize hn : l.length = n at *
  have hto : ∀ i : Nat, vtoN (i : Int) = i := fun i => by simp only [qtoN, Int.toNat_natCast]
  have hadd0 : ∀ i, vaddN 0 i = i := fun i => by simp only [qaddN, Nat.zero_add]
  have hvln : vln l = n := by simp only [qln, hn]
  have hvgd : ∀ i, vgd l i = l.getD i 0 := fun i => by simp only [qgd]
  obtain ⟨nI, hnI⟩ : ∃ nI : Int, nI = n := ⟨_, rfl⟩
  have en : vofN n = nI := by rw [hnI, qofN]
  cbv
  simp only [nc] at *
  rw [en]
  generalize hz1 : vc .lss nI 2 = z1
  cases z1
  rotate_left
  · rw [qc, lss_true] at hz1
    cbv
    have := hnone (.inl (by ((try simp only [nc] at *); omega)))
    subst this
    exact ⟨rfl, trivial⟩
  rw [qc, lss_false] at hz1
  cbv
  rw [en]
  generalize hz2 : vc .gtr nI 256 = z2
  cases z2
  rotate_left
  · rw [qc, gtr_true] at hz2
    cbv
    have := hnone (.inr (.inl (by ((try simp only [nc] at *); omega))))
    subst this
    exact ⟨rfl, trivial⟩
  rw [qc, gtr_false] at hz2
  obtain ⟨nm, hnm⟩ : ∃ nm : Int, nm = ((n - 1 : Nat) : Int) := ⟨_, rfl⟩
  have enm : vb .sub .i64 nI 1 = nm := by rw [qb, sub_i64 (by ((try simp only [nc] at *); omega)) (by ((try simp only [nc] at *); omega))]; ((try simp only [nc] at *); omega)
  have htm : vtoN nm = n - 1 := by rw [hnm]; exact hto _
  cbv
  rw [en, enm, htm, hadd0, hvgd, hvln]
  refine ⟨⟨by ((try simp only [nc] at *); omega)⟩, ⟨by ((try simp only [nc] at *); omega)⟩, ⟨by ((try simp only [nc] at *); omega)⟩, ?_⟩
  generalize hz3 : vc .eql (l.getD (n - 1) 0) 0 = z3
  cases z3
  rotate_left
  · rw [qc, eql_true] at hz3
    cbv
    have := hnone (.inr (.inr (.inl hz3)))
    subst this
    exact ⟨rfl, trivial⟩
  rw [qc, eql_false] at hz3
  have hends := hends (by ((try simp only [nc] at *); omega)) (by ((try simp only [nc] at *); omega)) hz3
  cbv
  refine loop_fam (α := Int × Int × Int) [24, 25, 26, 27, 28, 29, 30, 31, 32, 33, 34, 35, 36, 37, 38, 39, 40, 41, 42, 43, 44, 45, 46, 47, 48, 49, 50, 51, 52, 53, 54, 55] [] (fun (k, s, o) => [(5, .int .i64 k), (3, .int .i64 s), (4, .int .i64 o)]) (fun _ => [])
    (fun (k, s, o) => ∃ i : Nat, k = i ∧ i ≤ n ∧ s = SM i ∧ o = ON i ∧ ∀ j, j < i → l.getD j 0 ≤ 11) (fun (k, _) => n - k.toNat) hw hm ?_ ?_
  · refine Cv.genAt [5, 3, 4] [] (Cv.fold [24, 25, 26, 27, 28, 29, 30, 31, 32, 33, 34, 35, 36, 37, 38, 39, 40, 41, 42, 43, 44, 45, 46, 47, 48, 49, 50, 51, 52, 53, 54, 55] 1 [] (by exact Nat.le_refl _) (by exact Nat.le_of_ble_eq_true rfl) (by rfl) (by cbv) ?_)
    intro js
    refine ⟨(_, _, _), ?_, js, rfl⟩
    exact ⟨0, rfl, by ((try simp only [nc] at *); omega), hs0.symm, ho0.symm, fun j hj => by ((try simp only [nc] at *); omega)⟩
  · rintro ⟨k, s, o⟩ js ⟨i, hk, hi, hs, ho, hj⟩
    have hsi := hsr i hj
    have hoi := hor i
    cbv
    rw [en]
    generalize hz4 : vc .lss k nI = z4
    cases z4
    rotate_left
    · rw [qc, lss_true] at hz4
      have hlt : i < n := by ((try simp only [nc] at *); omega)
      have hti : vtoN k = i := by rw [hk]; exact hto i
      have hinR : 0 ≤ k ∧ k < (n : Int) := by ((try simp only [nc] at *); omega)
      obtain ⟨k1, hk1⟩ : ∃ k1 : Int, k1 = ((i + 1 : Nat) : Int) := ⟨_, rfl⟩
      have ek : vb .add .i64 k 1 = k1 := by rw [qb, add_i64 (by ((try simp only [nc] at *); omega)) (by ((try simp only [nc] at *); omega))]; ((try simp only [nc] at *); omega)
      have hmu : ∀ _ : Unit, n - k1.toNat < n - k.toNat := fun _ => by ((try simp only [nc] at *); omega)
      have hx := hge i
      have hss1 := hss i
      have hos1 := hosu i
      cbv
      rw [hti, hadd0, hvgd, hvln]
      refine ⟨⟨hinR⟩, ⟨hlt⟩, ⟨hlt⟩, ?_⟩
      generalize hxi : l.getD i 0 = x at *
      generalize hz5 : vc .gtr x 11 = z5
      cases z5
      rotate_left
      · rw [qc, gtr_true] at hz5
        cbv
        have := hnone (.inr (.inr (.inr ⟨i, hlt, by ((try simp only [nc] at *); omega)⟩)))
        subst this
        exact ⟨rfl, trivial⟩
      rw [qc, gtr_false] at hz5
      have hpx := hpr (w := x) (by ((try simp only [nc] at *); omega))
      have hpz1 := hpz x
      have hpw := hpwd x
      obtain ⟨s1, hs1⟩ : ∃ s1, s1 = SM (i + 1) := ⟨_, rfl⟩
      have es : vb .add .i64 s (PW x) = s1 := by
        rw [qb, hs1, hss1, ← hs]
        exact wrap_i64 (by ((try simp only [nc] at *); omega)) (by ((try simp only [nc] at *); omega))
      have hjj : ∀ j, j < i + 1 → l.getD j 0 ≤ 11 := fun j hj2 => by
        by_cases e : j = i
        · subst e; ((try simp only [nc] at *); omega)
        · exact hj j (by ((try simp only [nc] at *); omega))
      cbv
      rw [hti, hadd0, hvgd, hvln, hxi]
      refine ⟨⟨hinR⟩, ⟨hlt⟩, ⟨hlt⟩, ?_⟩
      generalize hz7 : vc .gtr x 0 = z7
      have eo : vb .add .i64 o 1 = o + 1 := by rw [qb, add_i64 (by ((try simp only [nc] at *); omega)) (by ((try simp only [nc] at *); omega))]
      obtain ⟨o1, ho1⟩ : ∃ o1, o1 = o + 1 := ⟨_, rfl⟩
      rw [← ho1] at eo
      cases z7
      · rw [qc, gtr_false] at hz7
        have hx0 : x = 0 := by ((try simp only [nc] at *); omega)
        have hs1s : s = s1 := by rw [hs1, hss1, hpz1 (by ((try simp only [nc] at *); omega)), hs]; ((try simp only [nc] at *); omega)
        rw [if_neg (by ((try simp only [nc] at *); omega))] at hos1
        have e01 : vc .eql x 1 = false := by rw [qc, eql_false]; ((try simp only [nc] at *); omega)
        cbv
        rw [hti, hadd0, hvgd, hvln, hxi, e01]
        refine ⟨⟨hinR⟩, ⟨hlt⟩, ⟨hlt⟩, ?_⟩
        cbv
        rw [ek]
        refine Cv.fold [24, 25, 26, 27, 28, 29, 30, 31, 32, 33, 34, 35, 36, 37, 38, 39, 40, 41, 42, 43, 44, 45, 46, 47, 48, 49, 50, 51, 52, 53, 54, 55] 1 [] (by exact Nat.le_refl _) (by exact Nat.le_of_ble_eq_true rfl) (by rfl) (by cbv) ?_
        intro js
        refine ⟨(_, _, _), ?_, js, rfl⟩
        exact ⟨⟨i + 1, hk1, hlt, hs1s.trans hs1, by ((try simp only [nc] at *); omega), hjj⟩, hmu ()⟩
      rw [qc, gtr_true] at hz7
      have esb : vb .sub .u8 x 1 = x - 1 := by rw [qb]; exact wrap_u8 (by ((try simp only [nc] at *); omega)) (by ((try simp only [nc] at *); omega))
      have ewx : vw .u64 (x - 1) = x - 1 := by rw [qw]; exact wrap_u64 (by ((try simp only [nc] at *); omega)) (by ((try simp only [nc] at *); omega))
      have hpw := hpw hz7 (by ((try simp only [nc] at *); omega))
      obtain ⟨xm, hxm⟩ : ∃ xm, xm = x - 1 := ⟨_, rfl⟩
      rw [← hxm] at esb ewx hpw
      cbv
      rw [hti, hadd0, hvgd, hvln, hxi, esb, ewx, hpw, es]
      refine ⟨⟨hinR⟩, ⟨hlt⟩, ⟨hlt⟩, ⟨by ((try simp only [nc] at *); omega)⟩, ⟨hinR⟩, ⟨hlt⟩, ⟨hlt⟩, ?_⟩
      generalize hz6 : vc .eql x 1 = z6
      cases z6
      · rw [qc, eql_false] at hz6
        rw [if_neg hz6] at hos1
        cbv
        rw [ek]
        refine Cv.fold [24, 25, 26, 27, 28, 29, 30, 31, 32, 33, 34, 35, 36, 37, 38, 39, 40, 41, 42, 43, 44, 45, 46, 47, 48, 49, 50, 51, 52, 53, 54, 55] 1 [] (by exact Nat.le_refl _) (by exact Nat.le_of_ble_eq_true rfl) (by rfl) (by cbv) ?_
        intro js
        refine ⟨(_, _, _), ?_, js, rfl⟩
        exact ⟨⟨i + 1, hk1, hlt, hs1, by ((try simp only [nc] at *); omega), hjj⟩, hmu ()⟩
      · rw [qc, eql_true] at hz6
        rw [if_pos hz6] at hos1
        cbv
        rw [ek, eo]
        refine Cv.fold [24, 25, 26, 27, 28, 29, 30, 31, 32, 33, 34, 35, 36, 37, 38, 39, 40, 41, 42, 43, 44, 45, 46, 47, 48, 49, 50, 51, 52, 53, 54, 55] 1 [] (by exact Nat.le_refl _) (by exact Nat.le_of_ble_eq_true rfl) (by rfl) (by cbv) ?_
        intro js
        refine ⟨(_, _, _), ?_, js, rfl⟩
        exact ⟨⟨i + 1, hk1, hlt, hs1, by ((try simp only [nc] at *); omega), hjj⟩, hmu ()⟩
    · rw [qc, lss_false] at hz4
      obtain rfl : i = n := by ((try simp only [nc] at *); omega)
      obtain ⟨he1, he2⟩ := hends (fun j h => hj j h)
      rw [← hs, ← ho] at he1 he2
      clear hends hnone
      cbv
      refine loop_fam (α := Int) [56, 57, 58, 59, 60, 61, 62, 63, 64, 65, 66, 67, 68, 69] [] (fun q => [(6, .int .i64 q)]) (fun _ => [])
        (fun q => ∃ K : Nat, q = K ∧ 1 ≤ K ∧ K ≤ 12 ∧ ∀ K' : Nat, 1 ≤ K' → K' < K → s = 2 ^ K' → ¬ 2 ≤ o) (fun q => 12 - q.toNat) hw hm ?_ ?_
      · refine Cv.genAt [6] [] (Cv.fold [56, 57, 58, 59, 60, 61, 62, 63, 64, 65, 66, 67, 68, 69] 1 [] (by exact Nat.le_refl _) (by exact Nat.le_of_ble_eq_true rfl) (by rfl) (by cbv) ?_)
        intro js
        refine ⟨_, ?_, js, rfl⟩
        exact ⟨1, rfl, by omega, by omega, fun K' h1 h2 => by omega⟩
      · rintro q js2 ⟨K, hq, hK1, hK2, hKs⟩
        obtain ⟨q1, hq1⟩ : ∃ q1 : Int, q1 = ((K + 1 : Nat) : Int) := ⟨_, rfl⟩
        have eq1 : vb .add .i64 q 1 = q1 := by rw [qb, add_i64 (by ((try simp only [nc] at *); omega)) (by ((try simp only [nc] at *); omega))]; ((try simp only [nc] at *); omega)
        have hmu : ∀ _ : Unit, K < 12 → 12 - q1.toNat < 12 - q.toNat := fun _ => by ((try simp only [nc] at *); omega)
        have ewq : vw .u64 q = q := by rw [qw]; exact wrap_u64 (by ((try simp only [nc] at *); omega)) (by ((try simp only [nc] at *); omega))
        obtain ⟨pq, hpq⟩ : ∃ pq : Int, pq = 2 ^ K := ⟨_, rfl⟩
        have ehl : vb .shl .i64 1 q = pq := by rw [qb, hq, one_shl62 (by omega) (by omega), hpq]; rfl
        have hq0 : 0 ≤ q := by ((try simp only [nc] at *); omega)
        have hKs1 : ¬ (s = pq ∧ 2 ≤ o) → ∀ K' : Nat, 1 ≤ K' → K' < K + 1 → s = 2 ^ K' → ¬ 2 ≤ o := fun h K' h1 h2 h3 h4 => by
          by_cases e : K' = K
          · subst e; exact h ⟨by rw [hpq]; exact h3, h4⟩
          · exact hKs K' h1 (by omega) h3 h4
        cbv
        generalize hz5 : vc .leq q 11 = z5
        cases z5
        · rw [qc, leq_false] at hz5
          have := he2 (fun K' h1 h2 => hKs K' h1 (by ((try simp only [nc] at *); omega)))
          subst this
          cbv
        rw [qc, leq_true] at hz5
        have hK11 : K ≤ 11 := by ((try simp only [nc] at *); omega)
        cbv
        rw [ewq, ehl]
        refine ⟨⟨hq0⟩, ?_⟩
        generalize hz6 : vc .eql s pq = z6
        cases z6
        · rw [qc, eql_false] at hz6
          cbv
          rw [eq1]
          refine Cv.fold [56, 57, 58, 59, 60, 61, 62, 63, 64, 65, 66, 67, 68, 69] 1 [] (by exact Nat.le_refl _) (by exact Nat.le_of_ble_eq_true rfl) (by rfl) (by cbv) ?_
          intro js
          refine ⟨_, ?_, js, rfl⟩
          exact ⟨⟨K + 1, hq1, by omega, by omega, hKs1 (fun h => hz6 h.1)⟩, hmu () (by omega)⟩
        rw [qc, eql_true] at hz6
        cbv
        generalize hz7 : vc .geq o 2 = z7
        cases z7
        · rw [qc, geq_false] at hz7
          cbv
          rw [eq1]
          refine Cv.fold [56, 57, 58, 59, 60, 61, 62, 63, 64, 65, 66, 67, 68, 69] 1 [] (by exact Nat.le_refl _) (by exact Nat.le_of_ble_eq_true rfl) (by rfl) (by cbv) ?_
          intro js
          refine ⟨_, ?_, js, rfl⟩
          exact ⟨⟨K + 1, hq1, by omega, by omega, hKs1 (fun h => hz7 h.2)⟩, hmu () (by omega)⟩
        rw [qc, geq_true] at hz7
        have := he1 K hK11 (by rw [hz6, hpq]) hz7
        have hmq : m = q := by rw [this, hq]
        subst hmq
        cbv
end Go.Proofs.Ytbipjekiobmpgaa
namespace Go.Proofs.Ytbipjekiobmpgaa
open Go Go.Sx Go.Proofs
/-! balerref09.Words. -/
set_option maxRecDepth 10000
set_option maxHeartbeats 40000000
theorem refwords9_con (l : List Int) (cap : Nat) (M : Nat) (hl : ∀ c ∈ l, isU8 c) (hW : Wt l M) :
    Con Try.prog 20 [.slice 0 .z 1 l.length cap] [.ro .u8 l] (fun v H R => v = .slice 1 .z 2 l.length l.length ∧ H = [.ro .u8 l, .arr 60 2 l.length (fun m => [.int .u64 (xA l m), .int .i64 (nA l M m)])] ∧ R = []) := by
  have hsz := refbits9_con l cap M hl (by have := hW.2.1; omega) (.inl ⟨M, hW, rfl⟩)
  refine con_gen (con_cut 2 (by simp) (con_drop (con_walk hmix fn20 ?_)))
  intro vb vc vw vtoN vofN vaddN vsubN vmaxI vminI vcutN vgd vst vln vrep vsub vonto vsplice vstrEq vbyteV vnotB veqB hw qb qc qw qtoN qofN qaddN qsubN qmaxI qminI qcutN qgd qst qln qrep qsub qonto qsplice qstrEq qbyteV qnotB qeqB
  have hm := hmix; generalize Try.prog = P at *
  have hM1 := hW.pos
  have hM11 := hW.2.2.2.2.2.2
  have hn2 := hW.1
  have hn256 := hW.2.1
  have hA0 := wA_zero l
  have hB0 := wB_zero l M
  have hgs0 := gs_one l hl
  have hgss := gs_step l
  have hgsn := fun L hL => @gs_next l L hL
  have hgsr := fun L i h1 h2 h3 => @gs_range l M hW L i h1 h2 h3
  have hgd := fun L i h1 h2 => @gs_dvd l M hW L h1 h2 i
  have hAs := fun L i h => @wA_skip l L i hl h
  have hBs := fun L i h => @wB_skip l M L i hl h
  have hAp := fun L i h1 h2 h3 => @wA_put l L i h1 h2 h3
  have hBp := fun L i h1 h2 h3 => @wB_put l M L i h1 h2 h3
  have hAn := wA_next l
  have hBn := wB_next l M
  have hAa := wA_all hW
  have hBa := wB_all hW
  have hge := getD_u8 hl
  clear hW
  generalize gs l = GS at *
  generalize wA l = WA at *
  generalize wB l M = WB at *
  generalize xA l = XA at *
  generalize nA l M = NA at *
  obtain ⟨mI, hmI⟩ : ∃ mI : Int, mI = M := ⟨_, rfl⟩
  rw [← hmI] at hsz
  generalize hn : l.length = n at *
  have hto : ∀ i : Nat, vtoN (i : Int) = i := fun i => by simp only [qtoN, Int.toNat_natCast]
  have hadd0 : ∀ i, vaddN 0 i = i := fun i => by simp only [qaddN, Nat.zero_add]
  have hvln : vln l = n := by simp only [qln, hn]
  have hvgd : ∀ l i, vgd l i = l.getD i 0 := fun l i => by simp only [qgd]
  obtain ⟨nI, hnI⟩ : ∃ nI : Int, nI = n := ⟨_, rfl⟩
  have en : vofN n = nI := by rw [hnI, qofN]
  have etn : vtoN nI = n := by rw [hnI]; exact hto n
  cbv
  refine call_con (ρ := [(0, .z)]) hsz ⟨by rfl, by rfl, by rfl, by cbv; exact ⟨⟨⟨by omega, fun i _ => by rw [Nat.zero_add]⟩⟩, trivial⟩⟩ ?_
  rintro v H R js ⟨rfl, rfl, rfl⟩
  cbv
  rw [en, etn]
  refine ⟨⟨by ((try simp only [nc] at *); omega)⟩, ⟨by ((try simp only [nc] at *); omega)⟩, ⟨by ((try simp only [nc] at *); omega), by ((try simp only [nc] at *); omega)⟩, ⟨by ((try simp only [nc] at *); omega)⟩, ?_⟩
  refine WX.cv (Cv.arrEq 1 (fun m => [.int .u64 (WA 1 0 m), .int .i64 (WB 1 0 m)]) (by rfl) (by intro i; rw [hA0, hB0]; rfl) (Cv.here ?_))
  obtain ⟨m1, hm1⟩ : ∃ m1 : Int, m1 = mI + 1 := ⟨_, rfl⟩
  have em1 : vb .add .i64 mI 1 = m1 := by (try simp only [nc] at *); rw [qb, add_i64 (by omega) (by omega)]; omega
  refine loop_fam (α := Int × Int × (Nat → Int) × (Nat → Int)) ([7] ++ [13, 14, 15, 16, 17, 18, 19, 20, 21, 22, 23, 24, 25, 26, 27, 28, 29, 30, 31, 32, 33, 34, 35, 36, 37, 38, 39, 40, 41, 42, 43, 44, 45, 46, 47, 48, 49, 50, 51]) [] (fun (k, x, _, _) => [(6, .int .i64 k), (5, .int .i64 x)]) (fun (_, _, A, B) => [(1, .arr 60 2 n (fun m => [.int .u64 (A m), .int .i64 (B m)]))])
    (fun (k, x, A, B) => ∃ L : Nat, k = L ∧ 1 ≤ L ∧ L ≤ M + 2 ∧ x = GS L 0 ∧ A = WA L 0 ∧ B = WB L 0) (fun (k, _) => M + 2 - k.toNat) hw hm ?_ ?_
  · refine Cv.genAt [6, 5] [] (Cv.fold ([7] ++ [13, 14, 15, 16, 17, 18, 19, 20, 21, 22, 23, 24, 25, 26, 27, 28, 29, 30, 31, 32, 33, 34, 35, 36, 37, 38, 39, 40, 41, 42, 43, 44, 45, 46, 47, 48, 49, 50, 51]) 2 [] (by exact Nat.le_refl _) (by exact Nat.le_of_ble_eq_true rfl) (by rfl) (by cbv) ?_)
    intro js
    refine ⟨(_, _, _, _), ?_, js, rfl⟩
    exact ⟨1, rfl, by omega, by omega, hgs0.symm, rfl, rfl⟩
  · rintro ⟨k, x, A, B⟩ js ⟨L, hk, hL1, hL2, hx, hA, hB⟩
    cbv
    rw [em1]
    generalize hz1 : vc .leq k m1 = z1
    cases z1
    rotate_left
    · rw [qc, leq_true] at hz1
      have hlt : L ≤ M + 1 := by ((try simp only [nc] at *); omega)
      have hgn := hgsn L hL1
      have hAn1 := hAn L
      have hBn1 := hBn L
      obtain ⟨k1, hk1⟩ : ∃ k1 : Int, k1 = ((L + 1 : Nat) : Int) := ⟨_, rfl⟩
      have ek : vb .add .i64 k 1 = k1 := by (try simp only [nc] at *); rw [qb, add_i64 (by omega) (by omega)]; omega
      have hmu : ∀ _ : Unit, M + 2 - k1.toNat < M + 2 - k.toNat := fun _ => by ((try simp only [nc] at *); omega)
      cbv
      refine loop_fam (α := Int × Int × (Nat → Int) × (Nat → Int)) [19, 20, 21, 22, 23, 24, 25, 26, 27, 28, 29, 30, 31, 32, 33, 34, 35, 36, 37, 38, 39, 40, 41, 42, 43, 44, 45, 46, 47, 48, 49, 50, 51] [] (fun (q, x, _, _) => [(7, .int .i64 q), (5, .int .i64 x)]) (fun (_, _, A, B) => [(1, .arr 60 2 n (fun m => [.int .u64 (A m), .int .i64 (B m)]))])
        (fun (q, x, A, B) => ∃ i : Nat, q = i ∧ i ≤ n ∧ x = GS L i ∧ A = WA L i ∧ B = WB L i) (fun (q, _) => n - q.toNat) hw hm ?_ ?_
      · refine Cv.genAt [7, 5] [] (Cv.fold [19, 20, 21, 22, 23, 24, 25, 26, 27, 28, 29, 30, 31, 32, 33, 34, 35, 36, 37, 38, 39, 40, 41, 42, 43, 44, 45, 46, 47, 48, 49, 50, 51] 2 [] (by exact Nat.le_refl _) (by exact Nat.le_of_ble_eq_true rfl) (by rfl) (by cbv) ?_)
        intro js
        refine ⟨(_, _, _, _), ?_, js, rfl⟩
        exact ⟨0, rfl, by omega, hx, hA, hB⟩
      · rintro ⟨q, x, A, B⟩ js2 ⟨i, hq, hi, hx, hA, hB⟩
        cbv
        rw [en]
        generalize hz2 : vc .lss q nI = z2
        cases z2
        · rw [qc, lss_false] at hz2
          obtain rfl : i = n := by ((try simp only [nc] at *); omega)
          cbv
          rw [ek]
          refine Cv.fold ([7] ++ [13, 14, 15, 16, 17, 18, 19, 20, 21, 22, 23, 24, 25, 26, 27, 28, 29, 30, 31, 32, 33, 34, 35, 36, 37, 38, 39, 40, 41, 42, 43, 44, 45, 46, 47, 48, 49, 50, 51]) 2 [] (by exact Nat.le_refl _) (by exact Nat.le_of_ble_eq_true rfl) (by rfl) (by cbv) ?_
          intro js
          refine ⟨(_, _, _, _), ?_, js, rfl⟩
          exact ⟨⟨L + 1, hk1, by omega, by omega, by rw [hx, hgn], by rw [hA, hAn1], by rw [hB, hBn1]⟩, hmu ()⟩
        · rw [qc, lss_true] at hz2
          have hlt2 : i < n := by ((try simp only [nc] at *); omega)
          have hti : vtoN q = i := by rw [hq]; exact hto i
          have hinR : 0 ≤ q ∧ q < (n : Int) := by ((try simp only [nc] at *); omega)
          obtain ⟨q1, hq1⟩ : ∃ q1 : Int, q1 = ((i + 1 : Nat) : Int) := ⟨_, rfl⟩
          have eq1 : vb .add .i64 q 1 = q1 := by (try simp only [nc] at *); rw [qb, add_i64 (by omega) (by omega)]; omega
          have hmu2 : ∀ _ : Unit, n - q1.toNat < n - q.toNat := fun _ => by ((try simp only [nc] at *); omega)
          have hx0 := hge i
          have hgs1 := hgss L i
          have hr1 := hgsr L i hL1 hlt (by omega)
          have hr2 := hgsr L (i + 1) hL1 hlt (by omega)
          have hdv := hgd L i hL1 hlt
          have hAs1 := hAs L i
          have hBs1 := hBs L i
          have hAp1 := hAp L i hlt2 hL1
          have hBp1 := hBp L i hlt2 hL1
          have hp11 : (2 : Int) ^ M ≤ 2 ^ 11 := pow_up hM11
          cbv
          rw [hti, hadd0, hvgd, hvln]
          refine ⟨⟨hinR⟩, ⟨by omega⟩, ⟨by omega⟩, ?_⟩
          generalize hxi : l.getD i 0 = y at *
          have ew : vw .i64 y = y := by rw [qw]; exact wrap_i64 (by omega) (by omega)
          rw [ew]
          generalize hz3 : vc .eql y k = z3
          cases z3
          · rw [qc, eql_false] at hz3
            have hne : y ≠ (L : Int) := by ((try simp only [nc] at *); omega)
            rw [if_neg hne] at hgs1
            cbv
            rw [eq1]
            refine Cv.fold [19, 20, 21, 22, 23, 24, 25, 26, 27, 28, 29, 30, 31, 32, 33, 34, 35, 36, 37, 38, 39, 40, 41, 42, 43, 44, 45, 46, 47, 48, 49, 50, 51] 2 [] (by exact Nat.le_refl _) (by exact Nat.le_of_ble_eq_true rfl) (by rfl) (by cbv) ?_
            intro js
            refine ⟨(_, _, _, _), ?_, js, rfl⟩
            exact ⟨⟨i + 1, hq1, hlt2, by rw [hx, hgs1]; omega, by rw [hA, hAs1 hne], by rw [hB, hBs1 hne]⟩, hmu2 ()⟩
          · rw [qc, eql_true] at hz3
            have hyL : y = (L : Int) := by (try simp only [nc] at *); omega
            rw [if_pos hyL] at hgs1
            have hAp2 := hAp1 hyL
            have hBp2 := hBp1 hyL
            obtain ⟨k0, hk0⟩ : ∃ k0 : Int, k0 = ((L - 1 : Nat) : Int) := ⟨_, rfl⟩
            have ek0 : vb .sub .i64 k 1 = k0 := by (try simp only [nc] at *); rw [qb, sub_i64 (by omega) (by omega)]; omega
            have ew0 : vw .u64 k0 = k0 := by (try simp only [nc] at *); rw [qw]; exact wrap_u64 (by omega) (by omega)
            obtain ⟨x1, hx1⟩ : ∃ x1 : Int, x1 = GS L i / 2 ^ (L - 1) := ⟨_, rfl⟩
            have hpL : (0 : Int) < 2 ^ (L - 1) := p2 _
            have hpL2 : (2 : Int) ^ (L - 1) ≤ 2 ^ 11 := pow_up (by omega)
            have hx1r : 0 ≤ x1 ∧ x1 ≤ 2048 := by
              rw [hx1]
              have a1 := Int.ediv_nonneg hr1.1 (Int.le_of_lt hpL)
              have a2 := Int.ediv_le_self (2 ^ (L - 1)) hr1.1
              constructor
              · exact a1
              · (try simp only [nc] at *); omega
            have es : vb .shr .i64 x k0 = x1 := by
              rw [qb, shr_eq (by show k0 ≤ 64; (try simp only [nc] at *); omega), hx1, hx, hk0, Int.toNat_natCast]
            have ew1 : vw .u64 x1 = x1 := by rw [qw]; exact wrap_u64 (by omega) (by omega)
            obtain ⟨n1, hn1⟩ : ∃ n1 : Int, n1 = (M : Int) + 1 - L := ⟨_, rfl⟩
            have en1 : vb .sub .i64 m1 k = n1 := by (try simp only [nc] at *); rw [qb, sub_i64 (by omega) (by omega)]; omega
            have hk00 : 0 ≤ k0 := by ((try simp only [nc] at *); omega)
            rw [← hx1] at hAp2
            rw [← hn1] at hBp2
            obtain ⟨s1, hs1⟩ : ∃ s1 : Int, s1 = 2 ^ (L - 1) := ⟨_, rfl⟩
            have esl : vb .shl .i64 1 k0 = s1 := by
              rw [qb, one_shl62 (by omega) (by omega), hs1, hk0, Int.toNat_natCast]
            obtain ⟨x2, hx2⟩ : ∃ x2 : Int, x2 = GS L (i + 1) := ⟨_, rfl⟩
            have ex2 : vb .add .i64 x s1 = x2 := by
              have e : x + s1 = x2 := by rw [hx2, hgs1, hx, hs1]
              rw [qb, add_i64 (by (try simp only [nc] at *); omega) (by (try simp only [nc] at *); omega), e]
            rw [← hA] at hAp2
            rw [← hB] at hBp2
            cbv
            rw [ek0, ew0, es, ew1, em1, en1, hti, updF_2_0, updF_2_1, esl, ex2, eq1]
            refine ⟨⟨hk00⟩, ⟨hinR⟩, ⟨hlt2⟩, ⟨hlt2⟩, ⟨hk00⟩, ?_⟩
            refine Cv.fold [19, 20, 21, 22, 23, 24, 25, 26, 27, 28, 29, 30, 31, 32, 33, 34, 35, 36, 37, 38, 39, 40, 41, 42, 43, 44, 45, 46, 47, 48, 49, 50, 51] 2 [] (by exact Nat.le_refl _) (by exact Nat.le_of_ble_eq_true rfl) (by rfl) (by cbv) ?_
            intro js
            refine ⟨(_, _, _, _), ?_, js, rfl⟩
            exact ⟨⟨i + 1, hq1, hlt2, hx2, hAp2.symm, hBp2.symm⟩, hmu2 ()⟩
    · rw [qc, leq_false] at hz1
      have hL : L = M + 2 := by ((try simp only [nc] at *); omega)
      subst hL
      rw [hAa] at hA
      rw [hBa] at hB
      cbv
      exact ⟨by rw [hA, hB], trivial⟩
end Go.Proofs.Ytbipjekiobmpgaa
