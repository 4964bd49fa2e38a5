import Derived.Test.YtgbnngjmjimhiaaSx23
import Derived.Test.YtgbnngjmjimhiaaC1
import Derived.Test.YtgbnngjmjimhiaaP1
namespace Go.Proofs.Ytgbnngjmjimhiaa
open Go Go.Sx Go.Proofs
set_option maxHeartbeats 2000000 in
theorem put_con (bs : List Int) (c : Nat) (x : Int) (n : Nat) (hn : n ≤ 56) (hx : 0 ≤ x ∧ x < 2 ^ 64) (hb : ∀ b ∈ bs, isBit b) (hl : bs.length ≤ 2 ^ 40) :
    Con Try.prog 17 [.ptr 0 .z 2 0, .int .u64 x, .int .i64 n] [.one 41 [.slice 1 .z 1 (pack bs).length c, .int .i64 bs.length], .buf 5 .u8 (pack bs) c]
      (fun v H R => v = .lit .i64 0 ∧ R = [1] ∧ ∃ c', H = [.one 41 [.slice 1 .z 1 (pack (bs ++ bitsN x n)).length c', .int .i64 (bs ++ bitsN x n).length], .buf 5 .u8 (pack (bs ++ bitsN x n)) c']) := by
  refine con_cut 2 (by simp) (con_red [1] (con_walk hmix fn17 ?_))
  intro vb vc vw vtoN vofN vaddN vsubN vmaxI vminI vcutN vgd vst vln vrep vsub vonto vsplice vstrEq vbyteV vnotB veqB hw qb qc qw qtoN qofN qaddN qsubN qmaxI qminI qcutN qgd qst qln qrep qsub qonto qsplice qstrEq qbyteV qnotB qeqB
  have hm := hmix
  have f36 := fn36
  have f42 := fn42
  generalize Try.prog = P at *
  generalize hl0 : pack bs = l0
  generalize hm0 : (bs.length : Int) = m0
  generalize hn0 : (n : Int) = n0
  generalize hlen0 : l0.length = len0
  cbv
  have e1 : vc .lss n0 0 = false := by subst_vars; try simp only [nc] at *; simp [cV]
  have e2 : vc .gtr n0 56 = false := by subst_vars; try simp only [nc] at *; simp [cV]; omega
  rw [e1]
  cbv
  rw [e2]
  cbv
  refine inl_walk hw hm f36 (by rfl) ?_
  cbv
  intro js
  refine range_rule (by rfl) (by rfl) (by cbv) (by cbv) (by rfl) ?_
  refine inl_walk hw hm f42 (by rfl) ?_
  cbv
  refine loop_fam (α := Int × Int × List Int × Nat × Nat) [4, 7, 8, 9, 10, 11, 12, 13, 14, 15, 16, 17, 18, 19] [1]
    (fun (k, mk, l, len, c) => [(6, .int .i64 k)]) (fun (k, mk, l, len, c) => [(0, .one 41 [.slice 1 .z 1 len c, .int .i64 mk]), (1, .buf 5 .u8 l c)])
    (fun (k, mk, l, len, c) => ∃ i : Nat, k = i ∧ i ≤ n ∧ mk = (bs ++ bitsN x i).length ∧ l = pack (bs ++ bitsN x i) ∧ len = l.length) (fun (k, _) => n - k.toNat) hw hm ?_ ?_
  · refine Cv.genAt [6] [] (Cv.fold [4, 7, 8, 9, 10, 11, 12, 13, 14, 15, 16, 17, 18, 19] 7 [1] (by exact Nat.le_refl _) (by exact Nat.le_refl _) (by rfl) (by cbv) ?_)
    intro js
    refine ⟨(_, _, _, _, _), ?_, js, rfl⟩
    refine ⟨0, rfl, by omega, ?_, ?_, ?_⟩
    · subst_vars; try simp only [nc] at *; simp [bitsN_zero]
    · subst_vars; try simp only [nc] at *; simp [bitsN_zero]
    · exact hlen0.symm
  · rintro ⟨k, mk, l, len, c⟩ js ⟨i, hk, hi, hmk, hl', hlen⟩
    have hbs : ∀ b ∈ bs ++ bitsN x i, isBit b := fun b h => (List.mem_append.1 h).elim (hb b) (bitsN_bit x i b)
    have hlb : (bs ++ bitsN x i).length ≤ 2 ^ 40 + 56 := by simp [bitsN_length]; omega
    generalize hBS : bs ++ bitsN x i = BS at *
    have hll : l.length = (BS.length + 7) / 8 := by rw [hl', pack_length]
    cbv
    split
    · rename_i hlt
      have hlt : i < n := by subst_vars; try simp only [nc] at *; simpa [cV] using hlt
      have hcv : vw .u64 k = k := by subst_vars; try simp only [nc] at *; exact wrap_u64 (by omega) (by omega)
      have hbit : vw .u8 (vb .and .u64 (vb .shr .u64 x (vw .u64 k)) 1) = x / 2 ^ i % 2 := by
        subst_vars
        try simp only [nc] at *
        rw [hcv, shr_eq (by show (i : Int) ≤ ((64 : Nat) : Int); omega)]
        have h1 : 0 ≤ x / 2 ^ i := Int.ediv_nonneg hx.1 (Int.le_of_lt (Int.pow_pos (by decide)))
        have h2 : x / 2 ^ i ≤ x := Int.ediv_le_self _ hx.1
        rw [Int.toNat_natCast, and_one rfl h1 (by show _ < (2 : Int) ^ 64; omega)]
        exact wrap_u8 (by omega) (by omega)
      generalize hbb : x / 2 ^ i % 2 = bit at *
      have hbi : isBit bit := by rw [← hbb]; exact isBit_mod _
      have hnext : bs ++ bitsN x (i + 1) = BS ++ [bit] := by rw [bitsN_succ, ← List.append_assoc, hBS, hbb]
      have hrem : vb .rem .i64 mk 8 = mk % 8 := by subst_vars; try simp only [nc] at *; exact rem_i64 (by omega)
      have hquo : vtoN (vb .quo .i64 mk 8) = BS.length / 8 := by
        subst_vars
        try simp only [nc] at *
        rw [quo_i64 (by omega) (by omega) (by omega)]
        show Int.toNat _ = _
        omega
      have hmodw : vw .u64 (mk % 8) = mk % 8 := by rw [qw]; simp only [nc] at *; exact wrap_u64 (by omega) (by omega)
      have hpack : (room BS).set (BS.length / 8) (bV .or .u8 ((room BS).getD (BS.length / 8) 0) (bV .shl .u8 bit (mk % 8))) = pack (BS ++ [bit]) := by
        have := pack_step BS bit mk hbs hbi hmk
        have e : (mk / 8).toNat = BS.length / 8 := by simp only [nc] at *; omega
        rw [e] at this
        exact this
      have hd8 : BS.length / 8 < (room BS).length := by rw [room_length]; omega
      cbv
      refine ⟨⟨?_⟩, yield_walk hw hm (by rfl) ?_⟩
      · rw [hcv]; subst_vars; simp only [nc] at *; omega
      cbv
      split
      · rename_i hr8
        have h8 : BS.length % 8 = 0 := by rw [hrem, qc, eql_true] at hr8; simp only [nc] at *; omega
        have hroom : room BS = l ++ [0] := by rw [room, if_pos h8, hl']
        have hsub : vsub [0] 0 1 = [0] := by subst_vars; rfl
        have honto : vonto l len [0] = room BS := by rw [hroom]; subst_vars; simp
        have hin : 0 ≤ vb .quo .i64 mk 8 ∧ vb .quo .i64 mk 8 < (vaddN len 1 : Nat) := by
          have hq : vb .quo .i64 mk 8 = mk / 8 := by subst_vars; simp only [nc] at *; rw [quo_i64 (by omega) (by omega) (by omega)]
          rw [hq]; subst_vars; simp only [nc] at *; omega
        have hlt2 : vtoN (vb .quo .i64 mk 8) < vln (vonto l len (vsub [0] 0 1)) := by rw [hquo, hsub, honto]; subst_vars; simp only [nc] at *; omega
        have hlt3 : vaddN 0 (vtoN (vb .quo .i64 mk 8)) < vln (vonto l len (vsub [0] 0 1)) := by rw [qaddN]; simpa using hlt2
        have hnn : 0 ≤ vw .u64 (vb .rem .i64 mk 8) := by rw [hrem]; subst_vars; simp only [nc] at *; rw [wrap_u64 (by omega) (by omega)]; omega
        cbv
        refine ⟨⟨?_⟩, ⟨?_⟩, ⟨?_⟩, ⟨?_⟩, ?_⟩
        · subst_vars; decide
        · subst_vars; exact Nat.le_refl _
        · exact Nat.le_refl _
        · subst_vars; simp only [nc] at *; omega
        intro c1 js1 hle
        cbv
        refine ⟨⟨hin⟩, ⟨hlt3⟩, ⟨hlt2⟩, ⟨hnn⟩, ⟨hin⟩, ⟨hlt3⟩, ⟨hlt2⟩, ?_⟩
        intro js1
        cbv
        have e3 : vnotB true = false := by subst_vars; rfl
        rw [e3]
        cbv
        refine Cv.genAt [6] [] (Cv.fold [4, 7, 8, 9, 10, 11, 12, 13, 14, 15, 16, 17, 18, 19] 7 [1] (by exact Nat.le_refl _) (by exact Nat.le_succ _) (by rfl) (by cbv) ?_)
        intro js
        refine ⟨(_, _, _, _, _), ?_, js, rfl⟩
        refine ⟨⟨i + 1, ?_, by omega, ?_, ?_, ?_⟩, ?_⟩
        · rw [qb, add_i64 (by simp only [nc] at *; omega) (by simp only [nc] at *; omega)]; simp only [nc] at *; omega
        · rw [qb, add_i64 (by simp only [nc] at *; omega) (by simp only [nc] at *; omega), hnext]; simp only [nc, List.length_append] at *; simp; omega
        · rw [hsub, honto, hbit, hquo, hrem, hmodw, hnext, ← hpack]; subst_vars; rfl
        · rw [hsub, honto, qst]; simp only [List.length_set]; rw [hroom]; subst_vars; simp
        · show n - (vb .add .i64 k 1).toNat < n - k.toNat
          rw [qb, add_i64 (by simp only [nc] at *; omega) (by simp only [nc] at *; omega)]; simp only [nc] at *; omega
      · rename_i hr8
        have h8 : BS.length % 8 ≠ 0 := by rw [hrem, qc, eql_false] at hr8; simp only [nc] at *; omega
        have hroom : room BS = l := by rw [room, if_neg h8, hl']
        have hin : 0 ≤ vb .quo .i64 mk 8 ∧ vb .quo .i64 mk 8 < len := by
          have hq : vb .quo .i64 mk 8 = mk / 8 := by subst_vars; simp only [nc] at *; rw [quo_i64 (by omega) (by omega) (by omega)]
          rw [hq]; rw [hroom] at hd8; subst_vars; simp only [nc] at *; omega
        have hlt2 : vtoN (vb .quo .i64 mk 8) < vln l := by rw [hquo]; rw [hroom] at hd8; subst_vars; simp only [nc] at *; omega
        have hlt3 : vaddN 0 (vtoN (vb .quo .i64 mk 8)) < vln l := by rw [qaddN]; simpa using hlt2
        have hnn : 0 ≤ vw .u64 (vb .rem .i64 mk 8) := by rw [hrem]; subst_vars; simp only [nc] at *; rw [wrap_u64 (by omega) (by omega)]; omega
        cbv
        refine ⟨⟨hin⟩, ⟨hlt3⟩, ⟨hlt2⟩, ⟨hnn⟩, ⟨hin⟩, ⟨hlt3⟩, ⟨hlt2⟩, ?_⟩
        intro js1
        cbv
        have e3 : vnotB true = false := by subst_vars; rfl
        rw [e3]
        cbv
        refine Cv.genAt [6] [] (Cv.fold [4, 7, 8, 9, 10, 11, 12, 13, 14, 15, 16, 17, 18, 19] 7 [1] (by exact Nat.le_refl _) (by exact Nat.le_refl _) (by rfl) (by cbv) ?_)
        intro js
        refine ⟨(_, _, _, _, _), ?_, js, rfl⟩
        refine ⟨⟨i + 1, ?_, by omega, ?_, ?_, ?_⟩, ?_⟩
        · rw [qb, add_i64 (by simp only [nc] at *; omega) (by simp only [nc] at *; omega)]; simp only [nc] at *; omega
        · rw [qb, add_i64 (by simp only [nc] at *; omega) (by simp only [nc] at *; omega), hnext]; simp only [nc, List.length_append] at *; simp; omega
        · rw [hbit, hquo, hrem, hmodw, hnext, ← hpack, hroom]; subst_vars; rfl
        · rw [qst]; simp only [List.length_set]; exact hlen
        · show n - (vb .add .i64 k 1).toNat < n - k.toNat
          rw [qb, add_i64 (by simp only [nc] at *; omega) (by simp only [nc] at *; omega)]; simp only [nc] at *; omega
    · rename_i hge
      have hin : i = n := by rw [qc, lss_false] at hge; simp only [nc] at *; omega
      subst hin
      cbv
      intro js1
      cbv
      refine ⟨c, ?_⟩
      subst_vars
      rfl
end Go.Proofs.Ytgbnngjmjimhiaa
