import Derived.Test.YtgbnngjmjimhiaaD1
namespace Go.Proofs.Ytgbnngjmjimhiaa
open Go Go.Sx Go.Proofs
theorem rb_bad (b : List Int) (pos at' cap : Nat) (n : Int) (hn : ¬ (0 ≤ n ∧ n ≤ 56)) :
    Con Try.prog 31 [.ptr 0 .z 4 0, .int .i64 n] [(.one 83 [.fn 38 [.ptr 1 .z 1 0, .ptr 2 .z 1 0], .int .u64 (bval (bitL b) pos (8 * at' - pos)), .int .i64 (((8 * at' - pos : Nat) : Int)), .fn 39 [.ptr 2 .z 1 0, .ptr 1 .z 1 0]]), .one 3 [.int .i64 at'], .one 22 [.slice 3 .z 1 b.length cap], .ro .u8 b]
      (fun v H R => v = .tup [.lit .u64 0, .lit .i64 2] ∧ R = [] ∧ H = [(.one 83 [.fn 38 [.ptr 1 .z 1 0, .ptr 2 .z 1 0], .int .u64 (bval (bitL b) pos (8 * at' - pos)), .int .i64 (((8 * at' - pos : Nat) : Int)), .fn 39 [.ptr 2 .z 1 0, .ptr 1 .z 1 0]]), .one 3 [.int .i64 at'], .one 22 [.slice 3 .z 1 b.length cap], .ro .u8 b]) := by
  refine con_walk hmix fn31 ?_
  intro vb vc vw vtoN vofN vaddN vsubN vmaxI vminI vcutN vgd vst vln vrep vsub vonto vsplice vstrEq vbyteV vnotB veqB hw qb qc qw qtoN qofN qaddN qsubN qmaxI qminI qcutN qgd qst qln qrep qsub qonto qsplice qstrEq qbyteV qnotB qeqB
  generalize Try.prog = P at *
  generalize hacc : bval (bitL b) pos (8 * at' - pos) = acc at *
  generalize hhave : ((8 * at' - pos : Nat) : Int) = have0 at *
  generalize ha0 : ((at' : Nat) : Int) = a0 at *
  generalize b.length = len at *
  cbv
  generalize h1 : vc .lss n 0 = z1
  cases z1
  · cbv
    have h2 : vc .gtr n 56 = true := by rw [qc, lss_false] at h1; rw [qc, gtr_true]; omega
    rw [h2]
    cbv
  · cbv
theorem rb_short (b : List Int) (pos at' cap n : Nat) (hby : ∀ x ∈ b, isByte x) (hl : b.length ≤ 2 ^ 50) (hp : pos ≤ 8 * at') (hp2 : 8 * at' ≤ pos + 63) (ha : at' ≤ b.length) (hn : n ≤ 56) (hen : 8 * b.length < pos + n) :
    Con Try.prog 31 [.ptr 0 .z 4 0, .int .i64 n] [(.one 83 [.fn 38 [.ptr 1 .z 1 0, .ptr 2 .z 1 0], .int .u64 (bval (bitL b) pos (8 * at' - pos)), .int .i64 (((8 * at' - pos : Nat) : Int)), .fn 39 [.ptr 2 .z 1 0, .ptr 1 .z 1 0]]), .one 3 [.int .i64 at'], .one 22 [.slice 3 .z 1 b.length cap], .ro .u8 b]
      (fun v H R => v = .tup [.lit .u64 0, .lit .i64 10] ∧ R = [] ∧ H = [(.one 83 [.fn 38 [.ptr 1 .z 1 0, .ptr 2 .z 1 0], .int .u64 (bval (bitL b) (pos) (8 * b.length - (pos))), .int .i64 (((8 * b.length - (pos) : Nat) : Int)), .fn 39 [.ptr 2 .z 1 0, .ptr 1 .z 1 0]]), .one 3 [.int .i64 b.length], .one 22 [.slice 3 .z 1 b.length cap], .ro .u8 b]) := by
  have hfill := fill_end b pos at' cap n hby hl hp hp2 ha hn hen
  refine con_walk hmix fn31 ?_
  intro vb vc vw vtoN vofN vaddN vsubN vmaxI vminI vcutN vgd vst vln vrep vsub vonto vsplice vstrEq vbyteV vnotB veqB hw qb qc qw qtoN qofN qaddN qsubN qmaxI qminI qcutN qgd qst qln qrep qsub qonto qsplice qstrEq qbyteV qnotB qeqB
  generalize Try.prog = P at *
  generalize hacc2 : bval (bitL b) pos (8 * b.length - pos) = acc2 at *
  generalize hhave2 : ((8 * b.length - pos : Nat) : Int) = have2 at *
  generalize hlI : ((b.length : Nat) : Int) = lI at *
  generalize hacc : bval (bitL b) pos (8 * at' - pos) = acc at *
  generalize hhave : ((8 * at' - pos : Nat) : Int) = have0 at *
  generalize ha0 : ((at' : Nat) : Int) = a0 at *
  generalize hn0 : ((n : Nat) : Int) = n0 at *
  generalize b.length = len at *
  cbv
  have e1 : vc .lss n0 0 = false := by rw [qc, lss_false]; simp only [nc] at *; omega
  have e2 : vc .gtr n0 56 = false := by rw [qc, gtr_false]; simp only [nc] at *; omega
  have e4 : vnotB false = true := by simp only [qnotB]; rfl
  rw [e1]
  cbv
  rw [e2]
  cbv
  refine call_con (ρ := [(0, .z), (1, .z), (2, .z), (3, .z)]) hfill ⟨by rfl, by rfl, by rfl, by cbv; exact ⟨view_refl _, trivial⟩⟩ ?_
  rintro v H R js ⟨rfl, rfl, rfl⟩
  cbv
  rw [e4]
  cbv
theorem rb_ok (b : List Int) (pos at' cap n : Nat) (hby : ∀ x ∈ b, isByte x) (hl : b.length ≤ 2 ^ 50) (hp : pos ≤ 8 * at') (hp2 : 8 * at' ≤ pos + 63) (ha : at' ≤ b.length) (hn : n ≤ 56) (hen : pos + n ≤ 8 * b.length) :
    Con Try.prog 31 [.ptr 0 .z 4 0, .int .i64 n] [(.one 83 [.fn 38 [.ptr 1 .z 1 0, .ptr 2 .z 1 0], .int .u64 (bval (bitL b) pos (8 * at' - pos)), .int .i64 (((8 * at' - pos : Nat) : Int)), .fn 39 [.ptr 2 .z 1 0, .ptr 1 .z 1 0]]), .one 3 [.int .i64 at'], .one 22 [.slice 3 .z 1 b.length cap], .ro .u8 b]
      (fun v H R => v = .tup [.int .u64 (bval (bitL b) pos n), .lit .i64 0] ∧ R = [] ∧ ∃ a2 : Nat, pos + n ≤ 8 * a2 ∧ 8 * a2 ≤ pos + n + 63 ∧ a2 ≤ b.length ∧ H = [(.one 83 [.fn 38 [.ptr 1 .z 1 0, .ptr 2 .z 1 0], .int .u64 (bval (bitL b) (pos + n) (8 * a2 - (pos + n))), .int .i64 (((8 * a2 - (pos + n) : Nat) : Int)), .fn 39 [.ptr 2 .z 1 0, .ptr 1 .z 1 0]]), .one 3 [.int .i64 a2], .one 22 [.slice 3 .z 1 b.length cap], .ro .u8 b]) := by
  have hfill := fill_ok b pos at' cap n hby hl hp hp2 ha hn hen
  refine con_walk hmix fn31 ?_
  intro vb vc vw vtoN vofN vaddN vsubN vmaxI vminI vcutN vgd vst vln vrep vsub vonto vsplice vstrEq vbyteV vnotB veqB hw qb qc qw qtoN qofN qaddN qsubN qmaxI qminI qcutN qgd qst qln qrep qsub qonto qsplice qstrEq qbyteV qnotB qeqB
  generalize Try.prog = P at *
  generalize hacc : bval (bitL b) pos (8 * at' - pos) = acc at *
  generalize hhave : ((8 * at' - pos : Nat) : Int) = have0 at *
  generalize ha0 : ((at' : Nat) : Int) = a0 at *
  generalize hn0 : ((n : Nat) : Int) = n0 at *
  generalize hX : bval (bitL b) pos n = X
  generalize b.length = len at *
  cbv
  have e1 : vc .lss n0 0 = false := by rw [qc, lss_false]; simp only [nc] at *; omega
  have e2 : vc .gtr n0 56 = false := by rw [qc, gtr_false]; simp only [nc] at *; omega
  have e4 : vnotB true = false := by simp only [qnotB]; rfl
  have hwn : vw .u64 n0 = n0 := by simp only [nc] at *; simp only [qw]; exact wrap_u64 (by omega) (by omega)
  have hnn : 0 ≤ vw .u64 n0 := by rw [hwn]; simp only [nc] at *; omega
  rw [e1]
  cbv
  rw [e2]
  cbv
  simp only [nc] at hfill
  refine call_con (ρ := [(0, .z), (1, .z), (2, .z), (3, .z)]) hfill ⟨by rfl, by rfl, by rfl, by cbv; exact ⟨view_refl _, trivial⟩⟩ ?_
  rintro v H R js ⟨rfl, rfl, a2, h1, h2, h3, rfl⟩
  generalize hacc2 : bval (bitL b) pos (8 * a2 - pos) = acc2
  generalize hhave2 : ((8 * a2 - pos : Nat) : Int) = have2
  generalize hai2 : ((a2 : Nat) : Int) = ai2
  have hbm := bval_mod (bitL b) (bitL_bit b) pos n (8 * a2 - pos - n)
  have hbd := bval_bound (bitL b) (bitL_bit b) pos (8 * a2 - pos)
  rw [show n + (8 * a2 - pos - n) = 8 * a2 - pos by omega] at hbm
  rw [hacc2, hX] at hbm
  rw [hacc2] at hbd
  have hlt64 : acc2 < 2 ^ 64 := by
    have : (2 : Int) ^ (8 * a2 - pos) ≤ 2 ^ 64 := by exact_mod_cast Nat.pow_le_pow_right (by decide) (by omega)
    omega
  have hpn := pow_le_56 hn
  have hp0 : (0 : Int) < 2 ^ n := Int.pow_pos (by decide)
  have hn00 : n0.toNat = n := by simp only [nc] at *; omega
  have hx : vb .and .u64 acc2 (vb .sub .u64 (vb .shl .u64 1 (vw .u64 n0)) 1) = X := by
    have e1 : vb .shl .u64 1 n0 = 2 ^ n := by
      rw [qb, shl_u rfl (by decide) (by show n0 ≤ ((64 : Nat) : Int); simp only [nc] at *; omega) (by rw [hn00]; show _ < (2 : Int) ^ 64; omega), hn00]; omega
    have e2 : vb .sub .u64 (2 ^ n) 1 = 2 ^ n - 1 := by rw [qb]; exact wrap_u64 (by omega) (by omega)
    rw [hwn, e1, e2, qb, and_mask (k := .u64) rfl n (by show n ≤ 64; omega) hbd.1 hlt64]
    exact hbm.1
  have hsh : vb .shr .u64 acc2 (vw .u64 n0) = bval (bitL b) (pos + n) (8 * a2 - pos - n) := by
    rw [hwn, qb, shr_eq (by show n0 ≤ ((64 : Nat) : Int); simp only [nc] at *; omega), hn00]
    exact hbm.2
  have hhs : vb .sub .i64 have2 n0 = ((8 * a2 - (pos + n) : Nat) : Int) := by
    simp only [nc] at *; rw [qb, sub_i64 (by omega) (by omega)]; omega
  cbv
  rw [e4]
  cbv
  refine ⟨⟨hnn⟩, ⟨hnn⟩, ?_⟩
  rw [hx, hsh, hhs]
  refine ⟨rfl, a2, h1, by omega, h3, ?_⟩
  rw [show 8 * a2 - pos - n = 8 * a2 - (pos + n) by omega, ← hai2]
  rfl
/-- What Bits answers. -/
def rbX (b : List Int) (pos : Nat) (n : Int) : Int := if 0 ≤ n ∧ n ≤ 56 ∧ pos + n ≤ 8 * b.length then bval (bitL b) pos n.toNat else 0
def rbE (b : List Int) (pos : Nat) (n : Int) : Int := if 0 ≤ n ∧ n ≤ 56 then (if pos + n ≤ 8 * b.length then 0 else 10) else 2
def rbP (b : List Int) (pos : Nat) (n : Int) : Nat := if 0 ≤ n ∧ n ≤ 56 ∧ pos + n ≤ 8 * b.length then pos + n.toNat else pos
theorem rbits_con (b : List Int) (pos at' cap : Nat) (n : Int) (hby : ∀ x ∈ b, isByte x) (hl : b.length ≤ 2 ^ 50) (hp : pos ≤ 8 * at') (hp2 : 8 * at' ≤ pos + 63) (ha : at' ≤ b.length) :
    Con Try.prog 31 [.ptr 0 .z 4 0, .int .i64 n] [(.one 83 [.fn 38 [.ptr 1 .z 1 0, .ptr 2 .z 1 0], .int .u64 (bval (bitL b) pos (8 * at' - pos)), .int .i64 (((8 * at' - pos : Nat) : Int)), .fn 39 [.ptr 2 .z 1 0, .ptr 1 .z 1 0]]), .one 3 [.int .i64 at'], .one 22 [.slice 3 .z 1 b.length cap], .ro .u8 b]
      (fun v H R => v = .tup [.int .u64 (rbX b pos n), .int .i64 (rbE b pos n)] ∧ R = [] ∧ ∃ a2 : Nat, rbP b pos n ≤ 8 * a2 ∧ 8 * a2 ≤ rbP b pos n + 63 ∧ a2 ≤ b.length ∧ H = [(.one 83 [.fn 38 [.ptr 1 .z 1 0, .ptr 2 .z 1 0], .int .u64 (bval (bitL b) (rbP b pos n) (8 * a2 - (rbP b pos n))), .int .i64 (((8 * a2 - (rbP b pos n) : Nat) : Int)), .fn 39 [.ptr 2 .z 1 0, .ptr 1 .z 1 0]]), .one 3 [.int .i64 a2], .one 22 [.slice 3 .z 1 b.length cap], .ro .u8 b]) := by
  by_cases hn : 0 ≤ n ∧ n ≤ 56
  · obtain ⟨m, rfl⟩ : ∃ m : Nat, n = m := ⟨n.toNat, by omega⟩
    by_cases hen : pos + m ≤ 8 * b.length
    · have e1 : rbX b pos m = bval (bitL b) pos m := by unfold rbX; rw [if_pos ⟨hn.1, hn.2, by omega⟩]; rfl
      have e2 : rbE b pos m = 0 := by unfold rbE; rw [if_pos hn, if_pos (by omega)]
      have e3 : rbP b pos m = pos + m := by unfold rbP; rw [if_pos ⟨hn.1, hn.2, by omega⟩]; rfl
      rw [e1, e2, e3]
      refine con_gen ((rb_ok b pos at' cap m hby hl hp hp2 ha (by omega) hen).mono ?_)
      rintro v H R ⟨rfl, rfl, a2, h1, h2, h3, rfl⟩
      exact ⟨rfl, rfl, a2, h1, h2, h3, rfl⟩
    · have e1 : rbX b pos m = 0 := by unfold rbX; rw [if_neg (by omega)]
      have e2 : rbE b pos m = 10 := by unfold rbE; rw [if_pos hn, if_neg (by omega)]
      have e3 : rbP b pos m = pos := by unfold rbP; rw [if_neg (by omega)]
      rw [e1, e2, e3]
      refine con_gen ((rb_short b pos at' cap m hby hl hp hp2 ha (by omega) (by omega)).mono ?_)
      rintro v H R ⟨rfl, rfl, rfl⟩
      exact ⟨rfl, rfl, b.length, by omega, by omega, Nat.le_refl _, rfl⟩
  · have e1 : rbX b pos n = 0 := by unfold rbX; rw [if_neg (by omega)]
    have e2 : rbE b pos n = 2 := by unfold rbE; rw [if_neg hn]
    have e3 : rbP b pos n = pos := by unfold rbP; rw [if_neg (by omega)]
    rw [e1, e2, e3]
    refine con_gen ((rb_bad b pos at' cap n hn).mono ?_)
    rintro v H R ⟨rfl, rfl, rfl⟩
    exact ⟨rfl, rfl, at', hp, hp2, ha, rfl⟩
end Go.Proofs.Ytgbnngjmjimhiaa
