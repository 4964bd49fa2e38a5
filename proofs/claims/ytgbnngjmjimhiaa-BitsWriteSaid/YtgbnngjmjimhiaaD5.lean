import Derived.Test.YtgbnngjmjimhiaaD4
namespace Go.Proofs.Ytgbnngjmjimhiaa
open Go Go.Sx Go.Proofs
theorem bputA_con (bs : List Int) (c : Nat) (x n : Int) (hx : 0 ≤ x ∧ x < 2 ^ 64) (hb : ∀ b ∈ bs, isBit b) (hl : bs.length ≤ 2 ^ 40) :
    Con Try.prog 23 [.ptr 0 .z 2 0, .int .u64 x, .int .i64 n] [.one 56 [.slice 1 .z 1 (pack bs).length c, .int .i64 bs.length], .buf 5 .u8 (pack bs) c]
      (fun v H R => v = .int .i64 (putErr n) ∧ R = [1] ∧ ∃ c', H = [.one 56 [.slice 1 .z 1 (pack (putBits bs x n)).length c', .int .i64 (putBits bs x n).length], .buf 5 .u8 (pack (putBits bs x n)) c']) := by
  by_cases hn : 0 ≤ n ∧ n ≤ 56
  · obtain ⟨m, rfl⟩ : ∃ m : Nat, n = m := ⟨n.toNat, by omega⟩
    refine con_gen ((bput_con bs c x m (by omega) hx hb hl).mono ?_)
    rintro v H R ⟨rfl, rfl, c', rfl⟩
    have e : putBits bs x m = bs ++ bitsN x m := by unfold putBits; rw [if_pos hn]; rfl
    have e2 : putErr m = 0 := by unfold putErr; rw [if_pos hn]
    rw [e, e2]
    exact ⟨rfl, rfl, c', rfl⟩
  · have e : putBits bs x n = bs := by unfold putBits; rw [if_neg hn]
    have e2 : putErr n = 2 := by unfold putErr; rw [if_neg hn]
    rw [e, e2]
    refine con_gen (con_cut 2 (by simp) (con_red [1] (con_walk hmix fn23 ?_)))
    intro vb vc vw vtoN vofN vaddN vsubN vmaxI vminI vcutN vgd vst vln vrep vsub vonto vsplice vstrEq vbyteV vnotB veqB hw qb qc qw qtoN qofN qaddN qsubN qmaxI qminI qcutN qgd qst qln qrep qsub qonto qsplice qstrEq qbyteV qnotB qeqB
    generalize Try.prog = P at *
    generalize pack bs = l0 at *
    generalize l0.length = len0 at *
    generalize (bs.length : Int) = m0 at *
    cbv
    generalize h1 : vc .lss n 0 = z1
    cases z1
    · cbv
      have h2 : vc .gtr n 56 = true := by rw [qc, lss_false] at h1; rw [qc, gtr_true]; omega
      rw [h2]
      cbv
      exact ⟨c, rfl⟩
    · cbv
      exact ⟨c, rfl⟩
/-- Bits up to the byte's end. -/
def padBits (bs : List Int) : List Int := bs ++ List.replicate ((8 - bs.length % 8) % 8) 0
theorem padBits_bit {bs : List Int} (h : ∀ b ∈ bs, isBit b) : ∀ b ∈ padBits bs, isBit b := by
  intro b hb
  rcases List.mem_append.1 hb with hb | hb
  · exact h b hb
  · exact .inl (List.eq_of_mem_replicate hb)
theorem bval_pad (bs : List Int) (m i : Nat) : ∀ n, bval (bs ++ List.replicate m 0) i n = bval bs i n
  | 0 => rfl
  | n + 1 => by
    simp only [bval]
    rw [bval_pad bs m i n]
    congr 2
    simp only [List.getD_eq_getElem?_getD, List.getElem?_append]
    split
    · rfl
    · rename_i h
      rw [List.getElem?_eq_none (show bs.length ≤ i + n by omega), List.getElem?_replicate]
      split <;> rfl
theorem pack_pad (bs : List Int) : pack (padBits bs) = pack bs ∧ (padBits bs).length = 8 * (pack bs).length := by
  have hl : (padBits bs).length = bs.length + (8 - bs.length % 8) % 8 := by simp [padBits]
  constructor
  · unfold pack
    rw [hl]
    have e : (bs.length + (8 - bs.length % 8) % 8 + 7) / 8 = (bs.length + 7) / 8 := by omega
    rw [e]
    exact List.map_congr_left fun i _ => bval_pad bs _ _ 8
  · rw [hl, pack_length]; omega
theorem balign_con (bs : List Int) (c : Nat) (hl : bs.length ≤ 2 ^ 40) :
    Con Try.prog 21 [.ptr 0 .z 2 0] [.one 56 [.slice 1 .z 1 (pack bs).length c, .int .i64 bs.length], .buf 5 .u8 (pack bs) c]
      (fun v H R => v = .tup [] ∧ R = [] ∧ H = [.one 56 [.slice 1 .z 1 (pack (padBits bs)).length c, .int .i64 (padBits bs).length], .buf 5 .u8 (pack (padBits bs)) c]) := by
  have hp := pack_pad bs
  have hpl : (pack bs).length ≤ 2 ^ 40 := by rw [pack_length]; omega
  rw [hp.1, hp.2]
  refine con_walk hmix fn21 ?_
  intro vb vc vw vtoN vofN vaddN vsubN vmaxI vminI vcutN vgd vst vln vrep vsub vonto vsplice vstrEq vbyteV vnotB veqB hw qb qc qw qtoN qofN qaddN qsubN qmaxI qminI qcutN qgd qst qln qrep qsub qonto qsplice qstrEq qbyteV qnotB qeqB
  generalize Try.prog = P at *
  clear hp
  generalize pack bs = l0 at *
  generalize hM : ((8 * l0.length : Nat) : Int) = M
  generalize hlen0 : l0.length = len0 at *
  generalize (bs.length : Int) = m0 at *
  have e1 : vb .mul .i64 8 (vofN len0) = M := by simp only [qb, qofN]; rw [mul_i64 (by omega) (by omega)]; omega
  cbv
  rw [e1]
theorem bbytes_con (bs : List Int) (c : Nat) (hl : bs.length ≤ 2 ^ 40) :
    Con Try.prog 25 [.ptr 0 .z 2 0] [.one 56 [.slice 1 .z 1 (pack bs).length c, .int .i64 bs.length], .buf 5 .u8 (pack bs) c]
      (fun v H R => R = [2] ∧ ∃ c', v = .slice 2 .z 1 (pack bs).length c' ∧ H = [.one 56 [.slice 1 .z 1 (pack bs).length c, .int .i64 bs.length], .buf 5 .u8 (pack bs) c, .buf 5 .u8 (pack bs) c']) := by
  have hpl : (pack bs).length ≤ 2 ^ 40 := by rw [pack_length]; omega
  refine con_red [2] (con_walk hmix fn25 ?_)
  intro vb vc vw vtoN vofN vaddN vsubN vmaxI vminI vcutN vgd vst vln vrep vsub vonto vsplice vstrEq vbyteV vnotB veqB hw qb qc qw qtoN qofN qaddN qsubN qmaxI qminI qcutN qgd qst qln qrep qsub qonto qsplice qstrEq qbyteV qnotB qeqB
  generalize Try.prog = P at *
  generalize pack bs = l0 at *
  generalize hlen0 : l0.length = len0 at *
  generalize (bs.length : Int) = m0 at *
  have ha : vaddN 0 len0 = len0 := by simp only [qaddN, Nat.zero_add]
  have hpay : vonto [] 0 (vsub l0 0 len0) = l0 := by simp only [qonto, qsub]; simp [← hlen0]
  cbv
  refine ⟨⟨by rw [ha]; simp only [qln]; omega⟩, ⟨Nat.zero_le _⟩, ⟨Nat.zero_le _⟩, ⟨by rw [ha]; omega⟩, ?_⟩
  intro c1 js1 hle
  cbv
  rw [ha, hpay]
  exact ⟨c1, rfl, rfl⟩
theorem bbits_nil (n : Int) : Con Try.prog 31 [.val (.pointer none), .int .i64 n] [] (fun v H R => v = .tup [.lit .u64 0, .lit .i64 1] ∧ H = [] ∧ R = []) := by
  refine con_walk hmix fn31 ?_
  intro vb vc vw vtoN vofN vaddN vsubN vmaxI vminI vcutN vgd vst vln vrep vsub vonto vsplice vstrEq vbyteV vnotB veqB hw qb qc qw qtoN qofN qaddN qsubN qmaxI qminI qcutN qgd qst qln qrep qsub qonto qsplice qstrEq qbyteV qnotB qeqB
  generalize Try.prog = P at *
  cbv
theorem balignr_nil : Con Try.prog 29 [.val (.pointer none)] [] (fun v H R => v = .tup [.lit .u64 0, .lit .i64 1] ∧ H = [] ∧ R = []) := by
  refine con_walk hmix fn29 ?_
  intro vb vc vw vtoN vofN vaddN vsubN vmaxI vminI vcutN vgd vst vln vrep vsub vonto vsplice vstrEq vbyteV vnotB veqB hw qb qc qw qtoN qofN qaddN qsubN qmaxI qminI qcutN qgd qst qln qrep qsub qonto qsplice qstrEq qbyteV qnotB qeqB
  generalize Try.prog = P at *
  cbv
theorem bleft_nil : Con Try.prog 33 [.val (.pointer none)] [] (fun v H R => v = .lit .i64 0 ∧ H = [] ∧ R = []) := by
  refine con_walk hmix fn33 ?_
  intro vb vc vw vtoN vofN vaddN vsubN vmaxI vminI vcutN vgd vst vln vrep vsub vonto vsplice vstrEq vbyteV vnotB veqB hw qb qc qw qtoN qofN qaddN qsubN qmaxI qminI qcutN qgd qst qln qrep qsub qonto qsplice qstrEq qbyteV qnotB qeqB
  generalize Try.prog = P at *
  cbv
theorem balignw_nil : Con Try.prog 21 [.val (.pointer none)] [] (fun v H R => v = .tup [] ∧ H = [] ∧ R = []) := by
  refine con_walk hmix fn21 ?_
  intro vb vc vw vtoN vofN vaddN vsubN vmaxI vminI vcutN vgd vst vln vrep vsub vonto vsplice vstrEq vbyteV vnotB veqB hw qb qc qw qtoN qofN qaddN qsubN qmaxI qminI qcutN qgd qst qln qrep qsub qonto qsplice qstrEq qbyteV qnotB qeqB
  generalize Try.prog = P at *
  cbv
theorem bput_nil (x n : Int) : Con Try.prog 23 [.val (.pointer none), .int .u64 x, .int .i64 n] [] (fun v H R => v = .lit .i64 1 ∧ H = [] ∧ R = []) := by
  refine con_cut 0 (by simp) (con_walk hmix fn23 ?_)
  intro vb vc vw vtoN vofN vaddN vsubN vmaxI vminI vcutN vgd vst vln vrep vsub vonto vsplice vstrEq vbyteV vnotB veqB hw qb qc qw qtoN qofN qaddN qsubN qmaxI qminI qcutN qgd qst qln qrep qsub qonto qsplice qstrEq qbyteV qnotB qeqB
  generalize Try.prog = P at *
  cbv
theorem bbytes_nil : Con Try.prog 25 [.val (.pointer none)] [] (fun v H R => v = .val (.slice none 0 0) ∧ H = [] ∧ R = []) := by
  refine con_walk hmix fn25 ?_
  intro vb vc vw vtoN vofN vaddN vsubN vmaxI vminI vcutN vgd vst vln vrep vsub vonto vsplice vstrEq vbyteV vnotB veqB hw qb qc qw qtoN qofN qaddN qsubN qmaxI qminI qcutN qgd qst qln qrep qsub qonto qsplice qstrEq qbyteV qnotB qeqB
  generalize Try.prog = P at *
  cbv
end Go.Proofs.Ytgbnngjmjimhiaa
