import Derived.Test.YtgbnngjmjimhiaaP5
namespace Go.Proofs.Ytgbnngjmjimhiaa
open Go Go.Sx Go.Proofs
set_option maxHeartbeats 2000000 in
theorem brefput_con (L : List Int) (c : Nat) (x n : Int) (hx : 0 ≤ x ∧ x < 2 ^ 64) (hl : L.length ≤ 2 ^ 40) :
    Con Try.prog 24 [.ptr 0 .z 1 0, .int .u64 x, .int .i64 n] [.one 58 [.slice 1 .z 1 L.length c], .buf 5 .u8 L c]
      (fun v H R => v = .int .i64 (putErr n) ∧ R = [1] ∧ ∃ c', H = [.one 58 [.slice 1 .z 1 (putBits L x n).length c'], .buf 5 .u8 (putBits L x n) c']) := by
  by_cases hn : 0 ≤ n ∧ n ≤ 56
  · obtain ⟨N, rfl⟩ : ∃ m : Nat, n = m := ⟨n.toNat, by omega⟩
    have e : putBits L x N = L ++ bitsN x N := by unfold putBits; rw [if_pos hn]; rfl
    have e2 : putErr N = 0 := by unfold putErr; rw [if_pos hn]
    rw [e, e2]
    refine con_gen (con_cut 2 (by simp) (con_red [1] (con_walk hmix fn24 ?_)))
    intro vb vc vw vtoN vofN vaddN vsubN vmaxI vminI vcutN vgd vst vln vrep vsub vonto vsplice vstrEq vbyteV vnotB veqB hw qb qc qw qtoN qofN qaddN qsubN qmaxI qminI qcutN qgd qst qln qrep qsub qonto qsplice qstrEq qbyteV qnotB qeqB
    have hm := hmix
    generalize Try.prog = P at *
    generalize hlen0 : L.length = len0
    generalize hF : L ++ bitsN x N = F
    generalize hFn : F.length = Fn
    generalize hn0 : (N : Int) = n0 at *
    cbv
    have e1 : vc .lss n0 0 = false := by rw [qc, lss_false]; omega
    have e2 : vc .gtr n0 56 = false := by rw [qc, gtr_false]; omega
    rw [e1]
    cbv
    rw [e2]
    cbv
    refine loop_fam (α := Int × List Int × Nat × Nat) [14, 15, 16, 17, 18, 19, 20, 21, 22, 23, 24, 25, 26, 27, 28, 29, 30, 31, 32, 33] [1]
      (fun (k, l, len, c) => [(7, .int .i64 k)]) (fun (k, l, len, c) => [(0, .one 58 [.slice 1 .z 1 len c]), (1, .buf 5 .u8 l c)])
      (fun (k, l, len, c) => ∃ i : Nat, k = i ∧ i ≤ N ∧ l = L ++ bitsN x i ∧ len = l.length) (fun (k, _) => N - k.toNat) hw hm ?_ ?_
    · refine Cv.genAt [7] [] (Cv.fold [14, 15, 16, 17, 18, 19, 20, 21, 22, 23, 24, 25, 26, 27, 28, 29, 30, 31, 32, 33] 2 [1] (by exact Nat.le_refl _) (by exact Nat.le_refl _) (by rfl) (by cbv) ?_)
      intro js
      refine ⟨(_, _, _, _), ?_, js, rfl⟩
      exact ⟨0, rfl, by omega, by simp [bitsN_zero], hlen0.symm⟩
    · rintro ⟨k, l, len, c⟩ js ⟨i, hk, hi, hl', hlen⟩
      have hll : l.length = L.length + i := by rw [hl', List.length_append, bitsN_length]
      cbv
      split
      · rename_i hlt
        have hlt : i < N := by rw [qc, lss_true] at hlt; simp only [nc] at *; omega
        have hcv : vw .u64 k = k := by simp only [nc] at *; simp only [qw]; exact wrap_u64 (by omega) (by omega)
        have hbit : vw .u8 (vb .and .u64 (vb .shr .u64 x (vw .u64 k)) 1) = x / 2 ^ i % 2 := by
          simp only [nc] at *
          rw [hcv, hk, qb, shr_eq (by show (i : Int) ≤ ((64 : Nat) : Int); omega)]
          have h1 : 0 ≤ x / 2 ^ i := Int.ediv_nonneg hx.1 (Int.le_of_lt (Int.pow_pos (by decide)))
          have h2 : x / 2 ^ i ≤ x := Int.ediv_le_self _ hx.1
          rw [Int.toNat_natCast, and_one rfl h1 (by show _ < (2 : Int) ^ 64; omega), qw]
          exact wrap_u8 (by omega) (by omega)
        have hk1 : vb .add .i64 k 1 = ((i + 1 : Nat) : Int) := by simp only [nc] at *; rw [qb, add_i64 (by omega) (by omega)]; omega
        cbv
        refine ⟨⟨by rw [hcv]; simp only [nc] at *; omega⟩, ⟨by simp only [qaddN, qln]; exact Nat.le_refl _⟩, ⟨by simp only [qln]; omega⟩, ⟨Nat.le_refl _⟩, ⟨by simp only [nc] at *; simp only [qaddN]; omega⟩, ?_⟩
        intro c1 js1 hle
        cbv
        refine Cv.fold [14, 15, 16, 17, 18, 19, 20, 21, 22, 23, 24, 25, 26, 27, 28, 29, 30, 31, 32, 33] 2 [1] (by exact Nat.le_refl _) (by exact Nat.le_succ _) (by rfl) (by cbv) ?_
        intro js
        refine ⟨(_, _, _, _), ?_, js, rfl⟩
        have hnew : vonto l len (vsub [vw .u8 (vb .and .u64 (vb .shr .u64 x (vw .u64 k)) 1)] 0 1) = L ++ bitsN x (i + 1) := by
          rw [hbit]; simp only [qonto, qsub]; rw [bitsN_succ, ← List.append_assoc, ← hl', hlen]; simp
        exact ⟨⟨i + 1, hk1, hlt, hnew, by rw [hnew]; simp only [qaddN]; rw [List.length_append, bitsN_length]; omega⟩, by show N - (vb .add .i64 k 1).toNat < N - k.toNat; rw [hk1, hk]; simp only [nc] at *; omega⟩
      · rename_i hge
        have hin : i = N := by rw [qc, lss_false] at hge; simp only [nc] at *; omega
        subst hin
        cbv
        refine ⟨c, ?_⟩
        have e3 : l = F := by rw [hl', hF]
        have e4 : len = Fn := by rw [hlen, ← hFn, e3]
        rw [e3, e4]
        rfl
  · have e : putBits L x n = L := by unfold putBits; rw [if_neg hn]
    have e2 : putErr n = 2 := by unfold putErr; rw [if_neg hn]
    rw [e, e2]
    refine con_gen (con_cut 2 (by simp) (con_red [1] (con_walk hmix fn24 ?_)))
    intro vb vc vw vtoN vofN vaddN vsubN vmaxI vminI vcutN vgd vst vln vrep vsub vonto vsplice vstrEq vbyteV vnotB veqB hw qb qc qw qtoN qofN qaddN qsubN qmaxI qminI qcutN qgd qst qln qrep qsub qonto qsplice qstrEq qbyteV qnotB qeqB
    generalize Try.prog = P at *
    generalize L.length = len0 at *
    cbv
    generalize h1 : vc .lss n 0 = z1
    cases z1
    · cbv
      have h2 : vc .gtr n 56 = true := by rw [qc, lss_false] at h1; rw [qc, gtr_true]; omega
      rw [h2]
      cbv
      exact ⟨c, rfl⟩
    · cbv
      exact ⟨c, rfl⟩
set_option maxHeartbeats 2000000 in
theorem brefalign_con (L : List Int) (c : Nat) (hl : L.length ≤ 2 ^ 40) :
    Con Try.prog 22 [.ptr 0 .z 1 0] [.one 58 [.slice 1 .z 1 L.length c], .buf 5 .u8 L c]
      (fun v H R => v = .tup [] ∧ R = [1] ∧ ∃ c', H = [.one 58 [.slice 1 .z 1 (padBits L).length c'], .buf 5 .u8 (padBits L) c']) := by
  have hpl := padBits_length L
  have hpd : padBits L = L ++ List.replicate ((8 - L.length % 8) % 8) 0 := rfl
  refine con_cut 2 (by simp) (con_red [1] (con_walk hmix fn22 ?_))
  intro vb vc vw vtoN vofN vaddN vsubN vmaxI vminI vcutN vgd vst vln vrep vsub vonto vsplice vstrEq vbyteV vnotB veqB hw qb qc qw qtoN qofN qaddN qsubN qmaxI qminI qcutN qgd qst qln qrep qsub qonto qsplice qstrEq qbyteV qnotB qeqB
  have hm := hmix
  generalize Try.prog = P at *
  generalize hF : padBits L = F at *
  generalize hFn : F.length = Fn at *
  generalize hlen0 : L.length = len0 at *
  cbv
  refine loop_fam (α := List Int × Nat × Nat) [2, 3, 4, 5, 6, 7, 8, 9, 10, 11, 12, 13, 14, 15, 16, 17] [1]
    (fun (l, len, c) => []) (fun (l, len, c) => [(0, .one 58 [.slice 1 .z 1 len c]), (1, .buf 5 .u8 l c)])
    (fun (l, len, c) => ∃ i : Nat, i ≤ (8 - len0 % 8) % 8 ∧ l = L ++ List.replicate i 0 ∧ len = len0 + i) (fun (l, len, c) => len0 + (8 - len0 % 8) % 8 - len) hw hm ?_ ?_
  · refine Cv.fold [2, 3, 4, 5, 6, 7, 8, 9, 10, 11, 12, 13, 14, 15, 16, 17] 2 [1] (by exact Nat.le_refl _) (by exact Nat.le_of_ble_eq_true rfl) (by rfl) (by cbv) ?_
    intro js
    refine ⟨(_, _, _), ?_, js, rfl⟩
    exact ⟨0, by omega, by simp, rfl⟩
  · rintro ⟨l, len, c⟩ js ⟨i, hi, hl', hlen⟩
    have hll : l.length = len := by rw [hl', List.length_append, List.length_replicate, hlen0, hlen]
    have hrem : vb .rem .i64 (vofN len) 8 = ((len % 8 : Nat) : Int) := by simp only [qb, qofN]; simp only [nc] at *; rw [rem_i64 (by omega)]; omega
    cbv
    split
    · rename_i hne
      have hne : i < (8 - len0 % 8) % 8 := by rw [hrem, qc, neq_true] at hne; simp only [nc] at *; omega
      cbv
      refine ⟨⟨by simp only [qaddN, qln]; exact Nat.le_refl _⟩, ⟨by simp only [qln]; omega⟩, ⟨Nat.le_refl _⟩, ⟨by simp only [qaddN]; omega⟩, ?_⟩
      intro c1 js1 hle
      cbv
      refine Cv.fold [2, 3, 4, 5, 6, 7, 8, 9, 10, 11, 12, 13, 14, 15, 16, 17] 2 [1] (by exact Nat.le_refl _) (by exact Nat.le_of_ble_eq_true rfl) (by rfl) (by cbv) ?_
      intro js
      refine ⟨(_, _, _), ?_, js, rfl⟩
      refine ⟨⟨i + 1, hne, ?_, by simp only [qaddN]; omega⟩, ?_⟩
      · simp only [qonto, qsub]
        rw [List.take_of_length_le (by omega), hl', List.replicate_succ', List.append_assoc]
        rfl
      · show len0 + (8 - len0 % 8) % 8 - vaddN len 1 < len0 + (8 - len0 % 8) % 8 - len
        simp only [qaddN]; omega
    · rename_i hne
      have hne : i = (8 - len0 % 8) % 8 := by rw [hrem, qc, neq_false] at hne; simp only [nc] at *; omega
      have e1 : l = F := by rw [hl', hne, ← hpd]
      have e2 : len = Fn := by rw [hlen, hne, ← hpl]
      cbv
      refine ⟨c, ?_⟩
      rw [e1, e2]
      rfl
set_option maxHeartbeats 2000000 in
theorem brefbytes_con (M : List Int) (c : Nat) (hb1 : ∀ b ∈ M, isBit b) (hl : M.length ≤ 2 ^ 40) :
    Con Try.prog 26 [.ptr 0 .z 1 0] [.one 58 [.slice 1 .z 1 M.length c], .buf 5 .u8 M c]
      (fun v H R => v = .slice 2 .z 1 (pack M).length (pack M).length ∧ R = [] ∧ H = [.one 58 [.slice 1 .z 1 M.length c], .buf 5 .u8 M c, .ints 5 .u8 (pack M)]) := by
  refine con_cut 3 (by simp) (con_red [] (con_walk hmix fn26 ?_))
  intro vb vc vw vtoN vofN vaddN vsubN vmaxI vminI vcutN vgd vst vln vrep vsub vonto vsplice vstrEq vbyteV vnotB veqB hw qb qc qw qtoN qofN qaddN qsubN qmaxI qminI qcutN qgd qst qln qrep qsub qonto qsplice qstrEq qbyteV qnotB qeqB
  have hm := hmix
  generalize Try.prog = P at *
  have hpk : pack M = packN M ((M.length + 7) / 8) := rfl
  have hFl := pack_length M
  generalize hF : pack M = F at *
  generalize hFn : F.length = Fn at *
  generalize hlen0 : M.length = len0 at *
  have hN1 : vb .quo .i64 (vb .add .i64 (vofN len0) 7) 8 = ((len0 + 7) / 8 : Nat) := by
    simp only [qofN]
    rw [qb, add_i64 (by omega) (by omega), quo_i64 (by omega) (by omega) (by omega)]
    omega
  generalize hNN : (len0 + 7) / 8 = N at *
  have hN2 : vtoN ((N : Nat) : Int) = N := by simp only [qtoN]; rfl
  have hrep : vrep N 0 = packN [] N := by rw [packN_nil]; simp only [qrep]
  generalize hp0 : packN [] N = p0 at *
  generalize hN0 : ((N : Nat) : Int) = N0 at *
  cbv
  rw [hN1, hN2, hrep]
  refine ⟨⟨by simp only [nc] at *; omega⟩, ⟨by simp only [nc] at *; omega⟩, ⟨by simp only [nc] at *; omega⟩, ⟨by simp only [nc] at *; omega⟩, ?_⟩
  refine loop_fam (α := Int × List Int) [13, 14, 15, 16, 17, 18, 19, 20, 21, 22, 23, 24, 25, 26, 27, 28, 29, 30, 31, 32, 33, 34, 35, 36, 37, 38, 39] []
    (fun (k, l) => [(4, .int .i64 k)]) (fun (k, l) => [(2, .ints 5 .u8 l)])
    (fun (k, l) => ∃ i : Nat, k = i ∧ i ≤ len0 ∧ l = packN (M.take i) N) (fun (k, _) => len0 - k.toNat) hw hm ?_ ?_
  · refine Cv.genAt [4] [] (Cv.fold [13, 14, 15, 16, 17, 18, 19, 20, 21, 22, 23, 24, 25, 26, 27, 28, 29, 30, 31, 32, 33, 34, 35, 36, 37, 38, 39] 3 [] (by exact Nat.le_refl _) (by exact Nat.le_of_ble_eq_true rfl) (by rfl) (by cbv) ?_)
    intro js
    refine ⟨(_, _), ?_, js, rfl⟩
    exact ⟨0, rfl, by omega, by rw [← hp0]; rfl⟩
  · rintro ⟨k, l⟩ js ⟨i, hk, hi, hl'⟩
    have hll : l.length = N := by rw [hl', packN_length]
    cbv
    split
    · rename_i hlt
      have hlt : i < len0 := by rw [qc, lss_true] at hlt; simp only [qofN] at hlt; simp only [nc] at *; omega
      have hk0 : k = (i : Int) := hk
      have hz8 : vb .quo .i64 k 8 = k / 8 := by simp only [nc] at *; rw [qb, quo_i64 (by omega) (by omega) (by omega)]
      have hr8 : vb .rem .i64 k 8 = k % 8 := by simp only [nc] at *; rw [qb, rem_i64 (by omega)]
      have hw8 : vw .u64 (k % 8) = k % 8 := by simp only [nc] at *; simp only [qw]; exact wrap_u64 (by omega) (by omega)
      have hin8 : 0 ≤ vb .quo .i64 k 8 ∧ vb .quo .i64 k 8 < N := by rw [hz8]; simp only [nc] at *; omega
      have hq8 : vtoN (vb .quo .i64 k 8) = (k / 8).toNat := by rw [hz8]; simp only [qtoN]
      have hlt8 : vtoN (vb .quo .i64 k 8) < vln l := by rw [hq8]; simp only [qln]; simp only [nc] at *; omega
      have hink : 0 ≤ k ∧ k < len0 := by simp only [nc] at *; omega
      have hki : vtoN k = i := by simp only [qtoN]; simp only [nc] at *; omega
      have hltk : vtoN k < vln M := by rw [hki]; simp only [qln]; omega
      have hltk2 : vaddN 0 (vtoN k) < vln M := by simp only [qaddN, Nat.zero_add]; exact hltk
      have hnn : 0 ≤ vw .u64 (vb .rem .i64 k 8) := by rw [hr8, hw8]; omega
      have hMi : i < M.length := by omega
      have hval : vst l (vtoN (vb .quo .i64 k 8)) (vb .or .u8 (vgd l (vtoN (vb .quo .i64 k 8))) (vb .shl .u8 (vgd M (vtoN k)) (vw .u64 (vb .rem .i64 k 8)))) = packN (M.take (i + 1)) N := by
        have hbits : ∀ b ∈ M.take i, isBit b := fun b hm => hb1 b (List.mem_of_mem_take hm)
        have hbit : isBit (M.getD i 0) := by
          rw [List.getD_eq_getElem?_getD, List.getElem?_eq_getElem hMi]
          exact hb1 _ (List.getElem_mem hMi)
        have := packN_step (M.take i) (M.getD i 0) k N hbits hbit (by rw [List.length_take]; simp only [nc] at *; omega) (by rw [List.length_take]; omega)
        rw [hki, hr8, hw8, hq8, take_snoc hMi, ← this, hl', qb]
        simp only [qst, qgd]
      have hk1 : vb .add .i64 k 1 = ((i + 1 : Nat) : Int) := by simp only [nc] at *; rw [qb, add_i64 (by omega) (by omega)]; omega
      cbv
      refine ⟨⟨hin8⟩, ⟨hlt8⟩, ⟨hink⟩, ⟨hltk2⟩, ⟨hltk⟩, ⟨hnn⟩, ⟨hin8⟩, ⟨hlt8⟩, ?_⟩
      refine Cv.fold [13, 14, 15, 16, 17, 18, 19, 20, 21, 22, 23, 24, 25, 26, 27, 28, 29, 30, 31, 32, 33, 34, 35, 36, 37, 38, 39] 3 [] (by exact Nat.le_refl _) (by exact Nat.le_of_ble_eq_true rfl) (by rfl) (by cbv) ?_
      intro js
      refine ⟨(_, _), ?_, js, rfl⟩
      exact ⟨⟨i + 1, hk1, hlt, hval⟩, by show len0 - (vb .add .i64 k 1).toNat < len0 - k.toNat; rw [hk1, hk0]; simp only [nc] at *; omega⟩
    · rename_i hge
      have hin : i = len0 := by rw [qc, lss_false] at hge; simp only [qofN] at hge; simp only [nc] at *; omega
      have hend : l = F := by
        rw [hl', hin, hpk]
        have e : M.take len0 = M := by rw [List.take_of_length_le (by omega)]
        rw [e]
      rw [hFl]
      cbv
      rw [hend]
end Go.Proofs.Ytgbnngjmjimhiaa
