import Derived.Test.YtgbnngjmjimhiaaD2
namespace Go.Proofs.Ytgbnngjmjimhiaa
open Go Go.Sx Go.Proofs
theorem rleft_con (b : List Int) (pos at' cap : Nat) (hl : b.length ≤ 2 ^ 50) (hp : pos ≤ 8 * at') (ha : at' ≤ b.length) :
    Con Try.prog 33 [.ptr 0 .z 4 0] [(.one 83 [.fn 38 [.ptr 1 .z 1 0, .ptr 2 .z 1 0], .int .u64 (bval (bitL b) pos (8 * at' - pos)), .int .i64 (((8 * at' - pos : Nat) : Int)), .fn 39 [.ptr 2 .z 1 0, .ptr 1 .z 1 0]]), .one 3 [.int .i64 at'], .one 22 [.slice 3 .z 1 b.length cap], .ro .u8 b]
      (fun v H R => v = .int .i64 (8 * b.length - pos) ∧ R = [] ∧ H = [(.one 83 [.fn 38 [.ptr 1 .z 1 0, .ptr 2 .z 1 0], .int .u64 (bval (bitL b) pos (8 * at' - pos)), .int .i64 (((8 * at' - pos : Nat) : Int)), .fn 39 [.ptr 2 .z 1 0, .ptr 1 .z 1 0]]), .one 3 [.int .i64 at'], .one 22 [.slice 3 .z 1 b.length cap], .ro .u8 b]) := by
  have hleft := bleft_con b at' cap ha hl
  refine con_walk hmix fn33 ?_
  intro vb vc vw vtoN vofN vaddN vsubN vmaxI vminI vcutN vgd vst vln vrep vsub vonto vsplice vstrEq vbyteV vnotB veqB hw qb qc qw qtoN qofN qaddN qsubN qmaxI qminI qcutN qgd qst qln qrep qsub qonto qsplice qstrEq qbyteV qnotB qeqB
  generalize Try.prog = P at *
  generalize hr : 8 * ((b.length : Int) - at') = r at *
  generalize hacc : bval (bitL b) pos (8 * at' - pos) = acc at *
  generalize hhave : ((8 * at' - pos : Nat) : Int) = have0 at *
  generalize ha0 : ((at' : Nat) : Int) = a0 at *
  generalize hL : (8 * (b.length : Int) - pos) = L
  generalize hlen : b.length = len at *
  have e1 : vb .add .i64 have0 r = L := by rw [qb, add_i64 (by omega) (by omega)]; omega
  cbv
  refine call_con (ρ := [(1, .z), (2, .z), (3, .z)]) hleft ⟨by rfl, by rfl, by rfl, by cbv; exact ⟨view_refl _, trivial⟩⟩ ?_
  rintro v H R js ⟨rfl, rfl, rfl⟩
  cbv
  rw [e1]
  exact ⟨rfl, trivial⟩
/-- How many bits are ahead of the byte's end. -/
def alN (pos : Nat) : Int := ((8 - pos % 8) % 8 : Nat)
theorem ralign_con (b : List Int) (pos at' cap : Nat) (hby : ∀ x ∈ b, isByte x) (hl : b.length ≤ 2 ^ 50) (hp : pos ≤ 8 * at') (hp2 : 8 * at' ≤ pos + 63) (ha : at' ≤ b.length) :
    Con Try.prog 29 [.ptr 0 .z 4 0] [(.one 83 [.fn 38 [.ptr 1 .z 1 0, .ptr 2 .z 1 0], .int .u64 (bval (bitL b) pos (8 * at' - pos)), .int .i64 (((8 * at' - pos : Nat) : Int)), .fn 39 [.ptr 2 .z 1 0, .ptr 1 .z 1 0]]), .one 3 [.int .i64 at'], .one 22 [.slice 3 .z 1 b.length cap], .ro .u8 b]
      (fun v H R => v = .tup [.int .u64 (rbX b pos (alN pos)), .int .i64 (rbE b pos (alN pos))] ∧ R = [] ∧ ∃ a2 : Nat, rbP b pos (alN pos) ≤ 8 * a2 ∧ 8 * a2 ≤ rbP b pos (alN pos) + 63 ∧ a2 ≤ b.length ∧ H = [(.one 83 [.fn 38 [.ptr 1 .z 1 0, .ptr 2 .z 1 0], .int .u64 (bval (bitL b) (rbP b pos (alN pos)) (8 * a2 - (rbP b pos (alN pos)))), .int .i64 (((8 * a2 - (rbP b pos (alN pos)) : Nat) : Int)), .fn 39 [.ptr 2 .z 1 0, .ptr 1 .z 1 0]]), .one 3 [.int .i64 a2], .one 22 [.slice 3 .z 1 b.length cap], .ro .u8 b]) := by
  have hb := rbits_con b pos at' cap (alN pos) hby hl hp hp2 ha
  generalize hX : rbX b pos (alN pos) = X at *
  generalize hE : rbE b pos (alN pos) = E at *
  generalize hPP : rbP b pos (alN pos) = Q at *
  refine con_walk hmix fn29 ?_
  intro vb vc vw vtoN vofN vaddN vsubN vmaxI vminI vcutN vgd vst vln vrep vsub vonto vsplice vstrEq vbyteV vnotB veqB hw qb qc qw qtoN qofN qaddN qsubN qmaxI qminI qcutN qgd qst qln qrep qsub qonto qsplice qstrEq qbyteV qnotB qeqB
  generalize Try.prog = P at *
  generalize hacc : bval (bitL b) pos (8 * at' - pos) = acc at *
  generalize hhave : ((8 * at' - pos : Nat) : Int) = have0 at *
  generalize ha0 : ((at' : Nat) : Int) = a0 at *
  generalize hN : alN pos = N0 at *
  have e1 : vb .rem .i64 have0 8 = N0 := by rw [qb, rem_i64 (by omega), ← hN]; unfold alN; omega
  generalize b.length = len at *
  cbv
  rw [e1]
  simp only [nc] at hb
  refine call_con (ρ := [(0, .z), (1, .z), (2, .z), (3, .z)]) hb ⟨by rfl, by rfl, by rfl, by cbv; exact ⟨view_refl _, trivial⟩⟩ ?_
  rintro v H R js ⟨rfl, rfl, a2, h1, h2, h3, rfl⟩
  generalize hacc2 : bval (bitL b) Q (8 * a2 - Q) = acc2
  generalize hhave2 : ((8 * a2 - Q : Nat) : Int) = have2
  generalize hai2 : ((a2 : Nat) : Int) = ai2
  cbv
  refine ⟨a2, h1, h2, h3, ?_⟩
  rw [hacc2]
  simp only [nc] at hhave2 hai2
  rw [← hhave2, ← hai2]
  rfl
theorem rnew_con (b : List Int) (cap : Nat) (hl : b.length ≤ 140737488355328) : Con Try.prog 28 [.slice 0 .z 1 b.length cap] [.ro .u8 b]
    (fun v H R => v = .ptr 4 .z 4 0 ∧ R = [1] ∧ ∃ c, H = [.ro .u8 b, .buf 5 .u8 b c, .one 22 [.slice 1 .z 1 b.length c], .one 3 [.int .i64 0], .one 83 [.fn 38 [.ptr 3 .z 1 0, .ptr 2 .z 1 0], .int .u64 0, .int .i64 0, .fn 39 [.ptr 2 .z 1 0, .ptr 3 .z 1 0]]]) := by
  refine con_gen (con_walk hmix fn28 ?_)
  intro vb vc vw vtoN vofN vaddN vsubN vmaxI vminI vcutN vgd vst vln vrep vsub vonto vsplice vstrEq vbyteV vnotB veqB hw qb qc qw qtoN qofN qaddN qsubN qmaxI qminI qcutN qgd qst qln qrep qsub qonto qsplice qstrEq qbyteV qnotB qeqB
  generalize Try.prog = P at *
  generalize hlen : b.length = len at *
  have ha : vaddN 0 len = len := by simp only [qaddN, Nat.zero_add]
  have hpay : vonto [] 0 (vsub b 0 len) = b := by simp only [qonto, qsub]; simp [← hlen]
  cbv
  refine ⟨⟨by rw [ha]; simp only [qln]; omega⟩, ⟨Nat.zero_le _⟩, ⟨Nat.zero_le _⟩, ⟨by rw [ha]; omega⟩, ?_⟩
  intro c1 js1 hle
  cbv
  rw [ha, hpay]
  exact ⟨c1, rfl⟩
end Go.Proofs.Ytgbnngjmjimhiaa
