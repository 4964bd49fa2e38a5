import Derived.Test.YtgbnngjmjimhiaaC5
import Derived.Test.YtgbnngjmjimhiaaP2
namespace Go.Proofs.Ytgbnngjmjimhiaa
open Go Go.Sx Go.Proofs
/-- What Put answers. -/
def putErr (n : Int) : Int := if 0 ≤ n ∧ n ≤ 56 then 0 else 2
theorem putA_con (bs : List Int) (c : Nat) (x n : Int) (hx : 0 ≤ x ∧ x < 2 ^ 64) (hb : ∀ b ∈ bs, isBit b) (hl : bs.length ≤ 2 ^ 40) :
    Con Try.prog 17 [.ptr 0 .z 2 0, .int .u64 x, .int .i64 n] [.one 41 [.slice 1 .z 1 (pack bs).length c, .int .i64 bs.length], .buf 5 .u8 (pack bs) c]
      (fun v H R => v = .int .i64 (putErr n) ∧ R = [1] ∧ ∃ c', H = [.one 41 [.slice 1 .z 1 (pack (putBits bs x n)).length c', .int .i64 (putBits bs x n).length], .buf 5 .u8 (pack (putBits bs x n)) c']) := by
  by_cases hn : 0 ≤ n ∧ n ≤ 56
  · obtain ⟨m, rfl⟩ : ∃ m : Nat, n = m := ⟨n.toNat, by omega⟩
    refine con_gen ((put_con bs c x m (by omega) hx hb hl).mono ?_)
    rintro v H R ⟨rfl, rfl, c', rfl⟩
    have e : putBits bs x m = bs ++ bitsN x m := by unfold putBits; rw [if_pos hn]; rfl
    have e2 : putErr m = 0 := by unfold putErr; rw [if_pos hn]
    rw [e, e2]
    exact ⟨rfl, rfl, c', rfl⟩
  · have e : putBits bs x n = bs := by unfold putBits; rw [if_neg hn]
    have e2 : putErr n = 2 := by unfold putErr; rw [if_neg hn]
    rw [e, e2]
    refine con_gen (con_cut 2 (by simp) (con_red [1] (con_walk hmix fn17 ?_)))
    intro vb vc vw vtoN vofN vaddN vsubN vmaxI vminI vcutN vgd vst vln vrep vsub vonto vsplice vstrEq vbyteV vnotB veqB hw qb qc qw qtoN qofN qaddN qsubN qmaxI qminI qcutN qgd qst qln qrep qsub qonto qsplice qstrEq qbyteV qnotB qeqB
    generalize Try.prog = P at *
    generalize pack bs = l0 at *
    generalize l0.length = len0 at *
    generalize (bs.length : Int) = m0 at *
    cbv
    generalize h1 : vc .lss n 0 = z1
    cases z1
    · cbv
      have h2 : vc .gtr n 56 = true := by rw [qc, lss_false] at h1; rw [qc, gtr_true]; omega
      rw [h2]
      cbv
      exact ⟨c, rfl⟩
    · cbv
      exact ⟨c, rfl⟩
/-- A reader of what was put and marked. -/
theorem new_tail (bs : List Int) (cap : Nat) (hb : ∀ b ∈ bs, isBit b) (hl : bs.length ≤ 2 ^ 40) : Con Try.prog 11 [.slice 0 .z 1 (pack (bs ++ [1])).length cap] [.ro .u8 (pack (bs ++ [1]))]
    (fun v H R => v = .tup [.ptr 2 .z 2 0, .lit .i64 0] ∧ R = [1] ∧ ∃ c', H = [.ro .u8 (pack (bs ++ [1])), .buf 5 .u8 (pack (bs ++ [1])) c', .one 74 [.slice 1 .z 1 (pack (bs ++ [1])).length c', .int .i64 bs.length]]) := by
  have h := mark_at bs hb
  have hb1 : ∀ b ∈ bs ++ [1], isBit b := fun b hm => (List.mem_append.1 hm).elim (hb b) (fun e => .inr (by simpa using e))
  have := new_good (pack (bs ++ [1])) cap h.1 (pack_byte _ hb1) (by rw [pack_length]; simp; omega)
  rw [h.2] at this
  exact this
end Go.Proofs.Ytgbnngjmjimhiaa
