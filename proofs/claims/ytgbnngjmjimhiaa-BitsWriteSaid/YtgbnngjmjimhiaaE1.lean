import Derived.Test.YtgbnngjmjimhiaaD6
namespace Go.Proofs.Ytgbnngjmjimhiaa
open Go Go.Sx Go.Proofs
theorem rbit_con (b : List Int) (cap i : Nat) (p : Int) (hby : ∀ x ∈ b, isByte x) (hl : b.length ≤ 2 ^ 50) (hi : i < 8 * b.length) :
    Con Try.prog 41 [.ptr 0 .z 2 0, .int .i64 i] [.one 66 [.slice 1 .z 1 b.length cap, .int .i64 p], .ro .u8 b]
      (fun v H R => v = .int .u64 ((bitL b).getD i 0) ∧ R = [] ∧ H = [.one 66 [.slice 1 .z 1 b.length cap, .int .i64 p], .ro .u8 b]) := by
  have hg := bitL_get b i hi
  have hbb := byte_bit hby (i / 8)
  refine con_walk hmix fn41 ?_
  intro vb vc vw vtoN vofN vaddN vsubN vmaxI vminI vcutN vgd vst vln vrep vsub vonto vsplice vstrEq vbyteV vnotB veqB hw qb qc qw qtoN qofN qaddN qsubN qmaxI qminI qcutN qgd qst qln qrep qsub qonto qsplice qstrEq qbyteV qnotB qeqB
  generalize Try.prog = P at *
  generalize (bitL b).getD i 0 = X at *
  generalize hi0 : ((i : Nat) : Int) = i0 at *
  generalize hlen : b.length = len at *
  have hq : vb .quo .i64 i0 8 = i0 / 8 := by rw [qb, quo_i64 (by omega) (by omega) (by omega)]
  have hr : vb .rem .i64 i0 8 = i0 % 8 := by rw [qb, rem_i64 (by omega)]
  have hwr : vw .u64 (i0 % 8) = i0 % 8 := by simp only [qw]; exact wrap_u64 (by omega) (by omega)
  have hin : 0 ≤ vb .quo .i64 i0 8 ∧ vb .quo .i64 i0 8 < len := by rw [hq]; omega
  have hqn : vtoN (vb .quo .i64 i0 8) = i / 8 := by rw [hq]; simp only [qtoN]; omega
  have hlt : vtoN (vb .quo .i64 i0 8) < vln b := by rw [hqn]; simp only [qln]; omega
  have hlt2 : vaddN 0 (vtoN (vb .quo .i64 i0 8)) < vln b := by simp only [qaddN, Nat.zero_add]; exact hlt
  have hnn : 0 ≤ vw .u64 (vb .rem .i64 i0 8) := by rw [hr, hwr]; omega
  have hval : vb .and .u64 (vw .u64 (vb .shr .u8 (vgd b (vtoN (vb .quo .i64 i0 8))) (vw .u64 (vb .rem .i64 i0 8)))) 1 = X := by
    rw [hr, hwr, hqn, qb, shr_eq (by show i0 % 8 ≤ ((8 : Nat) : Int); omega)]
    simp only [qgd, qw]
    have e : X = b.getD (i / 8) 0 / 2 ^ (i0 % 8).toNat % 2 := by
      rw [hg]; unfold bitAt; rw [if_pos (by omega)]
      have : (i0 / 8).toNat = i / 8 := by omega
      rw [this]
    rw [e]
    generalize b.getD (i / 8) 0 = y at *
    have h1 : 0 ≤ y / 2 ^ (i0 % 8).toNat := Int.ediv_nonneg hbb.1 (Int.le_of_lt (Int.pow_pos (by decide)))
    have h2 : y / 2 ^ (i0 % 8).toNat ≤ y := Int.ediv_le_self _ hbb.1
    have h3 := hbb.2
    rw [wrap_u64 h1 (by omega), and_one rfl h1 (by show _ < (2 : Int) ^ 64; omega)]
  cbv
  refine ⟨⟨hin⟩, ⟨hlt2⟩, ⟨hlt⟩, ⟨hnn⟩, ?_⟩
  rw [hval]
  exact ⟨rfl, trivial⟩
theorem refleft_con (b : List Int) (cap pos : Nat) (hl : b.length ≤ 2 ^ 50) (hp : pos ≤ 8 * b.length) :
    Con Try.prog 34 [.ptr 0 .z 2 0] [.one 66 [.slice 1 .z 1 b.length cap, .int .i64 pos], .ro .u8 b]
      (fun v H R => v = .int .i64 (8 * b.length - pos) ∧ R = [] ∧ H = [.one 66 [.slice 1 .z 1 b.length cap, .int .i64 pos], .ro .u8 b]) := by
  refine con_walk hmix fn34 ?_
  intro vb vc vw vtoN vofN vaddN vsubN vmaxI vminI vcutN vgd vst vln vrep vsub vonto vsplice vstrEq vbyteV vnotB veqB hw qb qc qw qtoN qofN qaddN qsubN qmaxI qminI qcutN qgd qst qln qrep qsub qonto qsplice qstrEq qbyteV qnotB qeqB
  generalize Try.prog = P at *
  generalize hL : (8 * (b.length : Int) - pos) = L
  generalize hlen : b.length = len at *
  generalize hp0 : ((pos : Nat) : Int) = p0 at *
  have e1 : vb .sub .i64 (vb .mul .i64 8 (vofN len)) p0 = L := by simp only [qb, qofN]; rw [mul_i64 (by omega) (by omega), sub_i64 (by omega) (by omega)]; omega
  cbv
  rw [e1]
  exact ⟨rfl, trivial⟩
set_option maxHeartbeats 2000000 in
theorem refbits_ok (b : List Int) (cap pos n : Nat) (hby : ∀ x ∈ b, isByte x) (hl : b.length ≤ 2 ^ 50) (hn : n ≤ 56) (hen : pos + n ≤ 8 * b.length) :
    Con Try.prog 32 [.ptr 0 .z 2 0, .int .i64 n] [.one 66 [.slice 1 .z 1 b.length cap, .int .i64 pos], .ro .u8 b]
      (fun v H R => v = .tup [.int .u64 (bval (bitL b) pos n), .lit .i64 0] ∧ R = [] ∧ H = [.one 66 [.slice 1 .z 1 b.length cap, .int .i64 ((pos + n : Nat))], .ro .u8 b]) := by
  have hbit := fun i hi => rbit_con b cap i pos hby hl hi
  have hleft := refleft_con b cap pos hl (by omega)
  refine con_cut 2 (by simp) (con_red [] (con_walk hmix fn32 ?_))
  intro vb vc vw vtoN vofN vaddN vsubN vmaxI vminI vcutN vgd vst vln vrep vsub vonto vsplice vstrEq vbyteV vnotB veqB hw qb qc qw qtoN qofN qaddN qsubN qmaxI qminI qcutN qgd qst qln qrep qsub qonto qsplice qstrEq qbyteV qnotB qeqB
  have hm := hmix
  generalize Try.prog = P at *
  generalize hX : bval (bitL b) pos n = X
  generalize hL : (8 * (b.length : Int) - pos) = L at *
  generalize hp1 : ((pos + n : Nat) : Int) = p1 at *
  generalize hp0 : ((pos : Nat) : Int) = p0 at *
  generalize hn0 : ((n : Nat) : Int) = n0 at *
  have hbd : ∀ i, 0 ≤ bval (bitL b) pos i ∧ bval (bitL b) pos i < 2 ^ i := bval_bound (bitL b) (bitL_bit b) pos
  have hbl : ∀ i, 0 ≤ (bitL b).getD i 0 ∧ (bitL b).getD i 0 < 2 := fun i => by
    rw [List.getD_eq_getElem?_getD]
    cases hg : (bitL b)[i]? with
    | none => exact ⟨by simp, by simp⟩
    | some y => have := bitL_bit b y (List.mem_of_getElem? hg); unfold isBit at this; simp; omega
  generalize hlen : b.length = len at *
  cbv
  have e1 : vc .lss n0 0 = false := by rw [qc, lss_false]; simp only [nc] at *; omega
  have e2 : vc .gtr n0 56 = false := by rw [qc, gtr_false]; simp only [nc] at *; omega
  have e3 : vc .lss L n0 = false := by rw [qc, lss_false]; simp only [nc] at *; omega
  rw [e1]
  cbv
  rw [e2]
  cbv
  refine call_con (ρ := [(0, .z), (1, .z)]) hleft ⟨by rfl, by rfl, by rfl, by cbv; exact ⟨view_refl _, trivial⟩⟩ ?_
  rintro v H R js ⟨rfl, rfl, rfl⟩
  cbv
  rw [e3]
  cbv
  refine loop_fam (α := Int × Int) [18, 19, 20, 21, 22, 23, 24, 25, 26, 27, 28, 29, 30, 31, 32, 33, 34, 35] []
    (fun (x, k) => [(6, .int .u64 x), (7, .int .i64 k)]) (fun (x, k) => [])
    (fun (x, k) => ∃ i : Nat, k = i ∧ i ≤ n ∧ x = bval (bitL b) pos i) (fun (x, k) => n - k.toNat) hw hm ?_ ?_
  · refine Cv.genAt [6, 7] [] (Cv.fold [18, 19, 20, 21, 22, 23, 24, 25, 26, 27, 28, 29, 30, 31, 32, 33, 34, 35] 2 [] (by exact Nat.le_refl _) (by exact Nat.le_of_ble_eq_true rfl) (by rfl) (by cbv) ?_)
    intro js
    refine ⟨(_, _), ?_, js, rfl⟩
    exact ⟨0, rfl, by omega, rfl⟩
  · rintro ⟨x, k⟩ js ⟨i, hk, hi, hx⟩
    cbv
    split
    · rename_i hlt
      have hlt : i < n := by rw [qc, lss_true] at hlt; simp only [nc] at *; omega
      have hbit' := hbit (pos + i) (by omega)
      have hadd : vb .add .i64 p0 k = ((pos + i : Nat) : Int) := by simp only [nc] at *; rw [qb, add_i64 (by omega) (by omega)]; omega
      have hbd' := hbd i
      have hbl' := hbl (pos + i)
      have hsucc : bval (bitL b) pos (i + 1) = bval (bitL b) pos i + (bitL b).getD (pos + i) 0 * 2 ^ i := rfl
      simp only [nc] at hbit' hadd
      rw [← hadd] at hbit'
      generalize hy : (bitL b).getD (pos + i) 0 = y at *
      generalize hz : vb .add .i64 p0 k = z at *
      have hwk : vw .u64 k = k := by simp only [nc] at *; simp only [qw]; exact wrap_u64 (by omega) (by omega)
      have hnn : 0 ≤ vw .u64 k := by rw [hwk]; simp only [nc] at *; omega
      have hk1 : vb .add .i64 k 1 = ((i + 1 : Nat) : Int) := by simp only [nc] at *; rw [qb, add_i64 (by omega) (by omega)]; omega
      have hval : vb .or .u64 x (vb .shl .u64 y (vw .u64 k)) = bval (bitL b) pos (i + 1) := by
        have hp56 := pow_le_56 (show i ≤ 56 by omega)
        have hpp : (0 : Int) < 2 ^ i := Int.pow_pos (by decide)
        have hyb : 0 ≤ y * 2 ^ i ∧ y * 2 ^ i ≤ 2 ^ i := by
          have : y = 0 ∨ y = 1 := by omega
          rcases this with rfl | rfl <;> omega
        have hkn : k.toNat = i := by simp only [nc] at *; omega
        rw [hsucc, hwk, qb, shl_u rfl hbl'.1 (by show k ≤ ((64 : Nat) : Int); simp only [nc] at *; omega) (by rw [hkn]; show _ < (2 : Int) ^ 64; omega), hkn, hx, or_add rfl _ hbd'.1 hbd'.2 hbl'.1 (by show _ < (2 : Int) ^ 64; omega)]
      cbv
      rw [hz]
      refine call_con (ρ := [(0, .z), (1, .z)]) hbit' ⟨by rfl, by rfl, by rfl, by cbv; exact ⟨view_refl _, trivial⟩⟩ ?_
      rintro v H R js ⟨rfl, rfl, rfl⟩
      cbv
      refine ⟨⟨hnn⟩, ?_⟩
      refine Cv.fold [18, 19, 20, 21, 22, 23, 24, 25, 26, 27, 28, 29, 30, 31, 32, 33, 34, 35] 2 [] (by exact Nat.le_refl _) (by exact Nat.le_of_ble_eq_true rfl) (by rfl) (by cbv) ?_
      intro js
      refine ⟨(_, _), ?_, js, rfl⟩
      exact ⟨⟨i + 1, hk1, hlt, hval⟩, by show n - (vb .add .i64 k 1).toNat < n - k.toNat; rw [hk1, hk]; simp only [nc] at *; omega⟩
    · rename_i hge
      have hin : i = n := by rw [qc, lss_false] at hge; simp only [nc] at *; omega
      have hxX : x = X := by rw [hx, hin, hX]
      have hpp : vb .add .i64 p0 n0 = p1 := by simp only [nc] at *; rw [qb, add_i64 (by omega) (by omega)]; omega
      cbv
      rw [hxX, hpp]
      exact ⟨rfl, rfl⟩
theorem refbits_bad (b : List Int) (cap pos : Nat) (n : Int) (hl : b.length ≤ 2 ^ 50) (hp : pos ≤ 8 * b.length) (hn : ¬ (0 ≤ n ∧ n ≤ 56 ∧ pos + n ≤ 8 * b.length)) :
    Con Try.prog 32 [.ptr 0 .z 2 0, .int .i64 n] [.one 66 [.slice 1 .z 1 b.length cap, .int .i64 pos], .ro .u8 b]
      (fun v H R => v = .tup [.int .u64 0, .int .i64 (rbE b pos n)] ∧ R = [] ∧ H = [.one 66 [.slice 1 .z 1 b.length cap, .int .i64 pos], .ro .u8 b]) := by
  have hleft := refleft_con b cap pos hl hp
  have hE : rbE b pos n = if 0 ≤ n ∧ n ≤ 56 then 10 else 2 := by unfold rbE; split <;> (first | rfl | (rw [if_neg (by omega)]))
  rw [hE]
  refine con_gen (con_walk hmix fn32 ?_)
  intro vb vc vw vtoN vofN vaddN vsubN vmaxI vminI vcutN vgd vst vln vrep vsub vonto vsplice vstrEq vbyteV vnotB veqB hw qb qc qw qtoN qofN qaddN qsubN qmaxI qminI qcutN qgd qst qln qrep qsub qonto qsplice qstrEq qbyteV qnotB qeqB
  generalize Try.prog = P at *
  generalize hL : (8 * (b.length : Int) - pos) = L at *
  generalize hp0 : ((pos : Nat) : Int) = p0 at *
  generalize hlen : b.length = len at *
  by_cases h1 : n < 0
  · have e1 : vc .lss n 0 = true := by rw [qc, lss_true]; exact h1
    rw [if_neg (by omega)]
    cbv
    rw [e1]
    cbv
  · have e1 : vc .lss n 0 = false := by rw [qc, lss_false]; exact h1
    by_cases h2 : 56 < n
    · have e2 : vc .gtr n 56 = true := by rw [qc, gtr_true]; exact h2
      rw [if_neg (by omega)]
      cbv
      rw [e1]
      cbv
      rw [e2]
      cbv
    · have e2 : vc .gtr n 56 = false := by rw [qc, gtr_false]; exact h2
      have e3 : vc .lss L n = true := by rw [qc, lss_true]; omega
      rw [if_pos (by omega)]
      cbv
      rw [e1]
      cbv
      rw [e2]
      cbv
      refine call_con (ρ := [(0, .z), (1, .z)]) hleft ⟨by rfl, by rfl, by rfl, by cbv; exact ⟨view_refl _, trivial⟩⟩ ?_
      rintro v H R js ⟨rfl, rfl, rfl⟩
      cbv
      rw [e3]
      cbv
theorem refbitsB_con (b : List Int) (cap pos : Nat) (n : Int) (hby : ∀ x ∈ b, isByte x) (hl : b.length ≤ 2 ^ 50) (hp : pos ≤ 8 * b.length) :
    Con Try.prog 32 [.ptr 0 .z 2 0, .int .i64 n] [.one 66 [.slice 1 .z 1 b.length cap, .int .i64 pos], .ro .u8 b]
      (fun v H R => v = .tup [.int .u64 (rbX b pos n), .int .i64 (rbE b pos n)] ∧ R = [] ∧ H = [.one 66 [.slice 1 .z 1 b.length cap, .int .i64 (rbP b pos n)], .ro .u8 b]) := by
  by_cases hn : 0 ≤ n ∧ n ≤ 56 ∧ pos + n ≤ 8 * b.length
  · obtain ⟨m, rfl⟩ : ∃ m : Nat, n = m := ⟨n.toNat, by omega⟩
    have e1 : rbX b pos m = bval (bitL b) pos m := by unfold rbX; rw [if_pos hn]; rfl
    have e2 : rbE b pos m = 0 := by unfold rbE; rw [if_pos ⟨hn.1, hn.2.1⟩, if_pos hn.2.2]
    have e3 : rbP b pos m = pos + m := by unfold rbP; rw [if_pos hn]; rfl
    rw [e1, e2, e3]
    refine con_gen ((refbits_ok b cap pos m hby hl (by omega) (by omega)).mono ?_)
    rintro v H R ⟨rfl, rfl, rfl⟩
    exact ⟨rfl, rfl, rfl⟩
  · have e1 : rbX b pos n = 0 := by unfold rbX; rw [if_neg hn]
    have e3 : rbP b pos n = pos := by unfold rbP; rw [if_neg hn]
    rw [e1, e3]
    refine con_gen ((refbits_bad b cap pos n hl hp hn).mono ?_)
    rintro v H R ⟨rfl, rfl, rfl⟩
    exact ⟨rfl, rfl, rfl⟩
theorem rbP_le (b : List Int) (pos : Nat) (n : Int) (hp : pos ≤ 8 * b.length) : rbP b pos n ≤ 8 * b.length := by
  unfold rbP; split <;> omega
theorem refalign_con (b : List Int) (cap pos : Nat) (hby : ∀ x ∈ b, isByte x) (hl : b.length ≤ 2 ^ 50) (hp : pos ≤ 8 * b.length) :
    Con Try.prog 30 [.ptr 0 .z 2 0] [.one 66 [.slice 1 .z 1 b.length cap, .int .i64 pos], .ro .u8 b]
      (fun v H R => v = .tup [.int .u64 (rbX b pos (alN pos)), .int .i64 (rbE b pos (alN pos))] ∧ R = [] ∧ H = [.one 66 [.slice 1 .z 1 b.length cap, .int .i64 (rbP b pos (alN pos))], .ro .u8 b]) := by
  have hb := refbitsB_con b cap pos (alN pos) hby hl hp
  generalize hX : rbX b pos (alN pos) = X at *
  generalize hE : rbE b pos (alN pos) = E at *
  generalize hQ : ((rbP b pos (alN pos) : Nat) : Int) = Q at *
  refine con_walk hmix fn30 ?_
  intro vb vc vw vtoN vofN vaddN vsubN vmaxI vminI vcutN vgd vst vln vrep vsub vonto vsplice vstrEq vbyteV vnotB veqB hw qb qc qw qtoN qofN qaddN qsubN qmaxI qminI qcutN qgd qst qln qrep qsub qonto qsplice qstrEq qbyteV qnotB qeqB
  generalize Try.prog = P at *
  generalize hN : alN pos = N0 at *
  generalize hp0 : ((pos : Nat) : Int) = p0 at *
  have e1 : vb .rem .i64 (vb .sub .i64 8 (vb .rem .i64 p0 8)) 8 = N0 := by
    rw [qb, rem_i64 (x := p0) (by omega), sub_i64 (by omega) (by omega), rem_i64 (by omega), ← hN]; unfold alN; omega
  generalize b.length = len at *
  cbv
  rw [e1]
  refine call_con (ρ := [(0, .z), (1, .z)]) hb ⟨by rfl, by rfl, by rfl, by cbv; exact ⟨view_refl _, trivial⟩⟩ ?_
  rintro v H R js ⟨rfl, rfl, rfl⟩
  cbv
end Go.Proofs.Ytgbnngjmjimhiaa
