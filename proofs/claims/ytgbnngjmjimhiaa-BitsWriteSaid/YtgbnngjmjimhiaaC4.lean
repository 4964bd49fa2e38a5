import Derived.Test.YtgbnngjmjimhiaaC3
namespace Go.Proofs.Ytgbnngjmjimhiaa
open Go Go.Sx Go.Proofs
theorem view_refl (l : List Int) : View 0 l l := ⟨⟨by omega, fun i _ => by rw [Nat.zero_add]⟩⟩
theorem left_con (b : List Int) (len cap : Nat) (p : Int) : Con Try.prog 16 [.ptr 0 .z 2 0] [.one 74 [.slice 1 .z 1 len cap, .int .i64 p], .ro .u8 b]
      (fun v H R => v = .int .i64 p ∧ R = [] ∧ H = [.one 74 [.slice 1 .z 1 len cap, .int .i64 p], .ro .u8 b]) := by
  refine con_walk hmix fn16 ?_
  intro vb vc vw vtoN vofN vaddN vsubN vmaxI vminI vcutN vgd vst vln vrep vsub vonto vsplice vstrEq vbyteV vnotB veqB hw qb qc qw qtoN qofN qaddN qsubN qmaxI qminI qcutN qgd qst qln qrep qsub qonto qsplice qstrEq qbyteV qnotB qeqB
  generalize Try.prog = P at *
  cbv
/-- Behind the writer: its bits and the mark. -/
theorem close_con (bs : List Int) (c : Nat) (hb : ∀ b ∈ bs, isBit b) (hl : bs.length ≤ 2 ^ 40) :
    Con Try.prog 19 [.ptr 0 .z 2 0] [.one 41 [.slice 1 .z 1 (pack bs).length c, .int .i64 bs.length], .buf 5 .u8 (pack bs) c]
      (fun v H R => R = [1] ∧ ∃ c', v = .slice 1 .z 1 (pack (bs ++ [1])).length c' ∧ H = [.one 41 [.val (.slice none 0 0), .int .i64 0], .buf 5 .u8 (pack (bs ++ [1])) c']) := by
  have hput := put_con bs c 1 1 (by decide) (by decide) hb hl
  have e1 : bitsN 1 1 = [1] := by decide
  rw [e1] at hput
  refine con_gen (con_cut 2 (by simp) (con_red [1] (con_walk hmix fn19 ?_)))
  intro vb vc vw vtoN vofN vaddN vsubN vmaxI vminI vcutN vgd vst vln vrep vsub vonto vsplice vstrEq vbyteV vnotB veqB hw qb qc qw qtoN qofN qaddN qsubN qmaxI qminI qcutN qgd qst qln qrep qsub qonto qsplice qstrEq qbyteV qnotB qeqB
  generalize Try.prog = P at *
  generalize pack bs = l0 at *
  generalize pack (bs ++ [1]) = l1 at *
  generalize l0.length = n0 at *
  generalize (bs.length : Int) = m0 at *
  generalize ((bs ++ [1]).length : Int) = m1 at *
  generalize hn1 : l1.length = n1 at *
  cbv
  refine call_con (ρ := [(0, .z), (1, .z)]) hput ⟨by rfl, by rfl, by rfl, by cbv⟩ ?_
  rintro v H R js ⟨rfl, rfl, c', rfl⟩
  cbv
  exact ⟨c', rfl, rfl⟩
def len8 (x : Int) : Int := if x < 1 then 0 else if x < 2 then 1 else if x < 4 then 2 else if x < 8 then 3 else if x < 16 then 4 else if x < 32 then 5 else if x < 64 then 6 else if x < 128 then 7 else 8
def lenTab : List Int := [0, 1, 2, 2, 3, 3, 3, 3, 4, 4, 4, 4, 4, 4, 4, 4, 5, 5, 5, 5, 5, 5, 5, 5, 5, 5, 5, 5, 5, 5, 5, 5, 6, 6, 6, 6, 6, 6, 6, 6, 6, 6, 6, 6, 6, 6, 6, 6, 6, 6, 6, 6, 6, 6, 6, 6, 6, 6, 6, 6, 6, 6, 6, 6, 7, 7, 7, 7, 7, 7, 7, 7, 7, 7, 7, 7, 7, 7, 7, 7, 7, 7, 7, 7, 7, 7, 7, 7, 7, 7, 7, 7, 7, 7, 7, 7, 7, 7, 7, 7, 7, 7, 7, 7, 7, 7, 7, 7, 7, 7, 7, 7, 7, 7, 7, 7, 7, 7, 7, 7, 7, 7, 7, 7, 7, 7, 7, 7, 8, 8, 8, 8, 8, 8, 8, 8, 8, 8, 8, 8, 8, 8, 8, 8, 8, 8, 8, 8, 8, 8, 8, 8, 8, 8, 8, 8, 8, 8, 8, 8, 8, 8, 8, 8, 8, 8, 8, 8, 8, 8, 8, 8, 8, 8, 8, 8, 8, 8, 8, 8, 8, 8, 8, 8, 8, 8, 8, 8, 8, 8, 8, 8, 8, 8, 8, 8, 8, 8, 8, 8, 8, 8, 8, 8, 8, 8, 8, 8, 8, 8, 8, 8, 8, 8, 8, 8, 8, 8, 8, 8, 8, 8, 8, 8, 8, 8, 8, 8, 8, 8, 8, 8, 8, 8, 8, 8, 8, 8, 8, 8, 8, 8, 8, 8, 8, 8, 8, 8, 8, 8, 8, 8, 8, 8, 8, 8]
set_option maxRecDepth 100000 in
theorem lenTab_eq (n : Fin 256) : IntKind.i64.wrap (((UInt8.ofNat (lenTab.getD n.val 0).toNat).toNat : Nat) : Int) = len8 (n.val : Int) := by
  revert n
  decide +kernel
set_option maxRecDepth 100000 in
theorem len8_con (x : Int) (hx : isByte x) : Con Try.prog 35 [.int .u8 x] [] (fun v H R => v = .int .i64 (len8 x) ∧ H = [] ∧ R = []) := by
  obtain ⟨n, rfl⟩ : ∃ n : Nat, x = n := ⟨x.toNat, by have := hx.1; omega⟩
  have hn : n < 256 := by have := hx.2; omega
  have hL := lenTab_eq ⟨n, hn⟩
  refine con_walk hmix fn35 ?_
  intro vb vc vw vtoN vofN vaddN vsubN vmaxI vminI vcutN vgd vst vln vrep vsub vonto vsplice vstrEq vbyteV vnotB veqB hw qb qc qw qtoN qofN qaddN qsubN qmaxI qminI qcutN qgd qst qln qrep qsub qonto qsplice qstrEq qbyteV qnotB qeqB
  generalize Try.prog = P at *
  generalize len8 (n : Int) = L at *
  generalize hnn : (n : Int) = x at *
  have hx35 : x35 = (.seq (.ops [⟨(some 2), .mv (.k (.lit .i64 0)), none, []⟩])
    (.seq (.ops [⟨(some 3), .mv (.t 0), none, []⟩,
      ⟨(some 4), .idxS (.k (.str lenTab)) (.t 3), none, []⟩,
      ⟨(some 5), .conv .i64 (.t 4), none, []⟩,
      ⟨(some 2), .mv (.t 5), none, []⟩])
    (.ret))) := rfl
  rw [hx35]
  have hl : lenTab.length = 256 := by rfl
  generalize lenTab = T at *
  cbv
  refine ⟨⟨?_⟩, ?_⟩
  · simp only [qln, hl]; simp only [nc] at *; omega
  · rw [qw, qbyteV, qgd, qtoN]
    subst hnn
    exact ⟨congrArg (SV.int .i64) hL, trivial⟩
theorem getLastD_eq (b : List Int) : b.getLastD 0 = b.getD (b.length - 1) 0 := by
  rw [List.getLastD_eq_getLast?, List.getLast?_eq_getElem?, List.getD_eq_getElem?_getD]
theorem new_bad (b : List Int) (cap : Nat) (hb : b.getLastD 0 = 0) (hl : b.length ≤ 2 ^ 48) : Con Try.prog 11 [.slice 0 .z 1 b.length cap] [.ro .u8 b] (fun v H R => v = .tup [.val (.pointer none), .lit .i64 11] ∧ H = [.ro .u8 b] ∧ R = []) := by
  refine con_cut 1 (by simp) (con_red [] (con_walk hmix fn11 ?_))
  intro vb vc vw vtoN vofN vaddN vsubN vmaxI vminI vcutN vgd vst vln vrep vsub vonto vsplice vstrEq vbyteV vnotB veqB hw qb qc qw qtoN qofN qaddN qsubN qmaxI qminI qcutN qgd qst qln qrep qsub qonto qsplice qstrEq qbyteV qnotB qeqB
  generalize Try.prog = P at *
  rw [getLastD_eq] at hb
  generalize hlen : b.length = len at *
  cbv
  generalize h0 : vc .eql (vofN len) 0 = z0
  cases z0
  rotate_left
  · cbv
  · have h0 : 1 ≤ len := by rw [qc, qofN, eql_false] at h0; simp only [nc] at *; omega
    have hsub : vb .sub .i64 (vofN len) 1 = len - 1 := by rw [qb, qofN]; simp only [nc] at *; rw [sub_i64 (by omega) (by omega)]
    have hin : 0 ≤ vb .sub .i64 (vofN len) 1 ∧ vb .sub .i64 (vofN len) 1 < len := by rw [hsub]; simp only [nc] at *; omega
    have hi : vtoN (vb .sub .i64 (vofN len) 1) = len - 1 := by rw [hsub, qtoN]; simp only [nc] at *; omega
    have hlt2 : vtoN (vb .sub .i64 (vofN len) 1) < vln b := by rw [hi, qln]; simp only [nc] at *; omega
    have hlt3 : vaddN 0 (vtoN (vb .sub .i64 (vofN len) 1)) < vln b := by rw [qaddN]; simpa using hlt2
    cbv
    refine ⟨⟨hin⟩, ⟨hlt3⟩, ⟨hlt2⟩, ?_⟩
    have hz : vc .eql (vgd b (vtoN (vb .sub .i64 (vofN len) 1))) 0 = true := by rw [hi, qgd, qc, eql_true]; exact hb
    rw [hz]
    cbv
theorem new_good (b : List Int) (cap : Nat) (hb : b.getLastD 0 ≠ 0) (hby : ∀ x ∈ b, isByte x) (hl : b.length ≤ 140737488355328) : Con Try.prog 11 [.slice 0 .z 1 b.length cap] [.ro .u8 b]
    (fun v H R => v = .tup [.ptr 2 .z 2 0, .lit .i64 0] ∧ R = [1] ∧ ∃ c', H = [.ro .u8 b, .buf 5 .u8 b c', .one 74 [.slice 1 .z 1 b.length c', .int .i64 (8 * (b.length - 1) + (len8 (b.getLastD 0) - 1))]]) := by
  have hbyte : isByte (b.getLastD 0) := by
    rw [getLastD_eq, List.getD_eq_getElem?_getD]
    cases hg : b[b.length - 1]? with
    | none => exact ⟨by simp, by simp⟩
    | some y => exact hby y (List.mem_of_getElem? hg)
  have hlen8 := len8_con (b.getLastD 0) hbyte
  have hL8 : 0 ≤ len8 (b.getLastD 0) ∧ len8 (b.getLastD 0) ≤ 8 := by unfold len8; (repeat' split) <;> omega
  refine con_cut 3 (by simp) (con_red [1] (con_walk hmix fn11 ?_))
  intro vb vc vw vtoN vofN vaddN vsubN vmaxI vminI vcutN vgd vst vln vrep vsub vonto vsplice vstrEq vbyteV vnotB veqB hw qb qc qw qtoN qofN qaddN qsubN qmaxI qminI qcutN qgd qst qln qrep qsub qonto qsplice qstrEq qbyteV qnotB qeqB
  generalize Try.prog = P at *
  generalize len8 (b.getLastD 0) = L at *
  generalize hF : (8 * ((b.length : Int) - 1) + (L - 1)) = F
  rw [getLastD_eq] at *
  have h0 : 1 ≤ b.length := by
    rcases b with _ | ⟨x, b⟩
    · exact absurd rfl hb
    · simp
  generalize hlen : b.length = len at *
  generalize hlast : b.getD (len - 1) 0 = last at *
  cbv
  have e0 : vc .eql (vofN len) 0 = false := by rw [qc, qofN, eql_false]; simp only [nc] at *; omega
  rw [e0]
  have hsub : vb .sub .i64 (vofN len) 1 = len - 1 := by rw [qb, qofN]; simp only [nc] at *; rw [sub_i64 (by omega) (by omega)]
  have hin : 0 ≤ vb .sub .i64 (vofN len) 1 ∧ vb .sub .i64 (vofN len) 1 < len := by rw [hsub]; simp only [nc] at *; omega
  have hi : vtoN (vb .sub .i64 (vofN len) 1) = len - 1 := by rw [hsub, qtoN]; simp only [nc] at *; omega
  have hlt2 : vtoN (vb .sub .i64 (vofN len) 1) < vln b := by rw [hi, qln]; simp only [nc] at *; omega
  have hlt3 : vaddN 0 (vtoN (vb .sub .i64 (vofN len) 1)) < vln b := by rw [qaddN]; simpa using hlt2
  have hval : vgd b (vtoN (vb .sub .i64 (vofN len) 1)) = last := by rw [hi, qgd]; exact hlast
  have hz : vc .eql (vgd b (vtoN (vb .sub .i64 (vofN len) 1))) 0 = false := by rw [hval, qc, eql_false]; exact hb
  cbv
  refine ⟨⟨hin⟩, ⟨hlt3⟩, ⟨hlt2⟩, ?_⟩
  rw [hz]
  cbv
  refine ⟨⟨hin⟩, ⟨hlt3⟩, ⟨hlt2⟩, ?_⟩
  rw [hval]
  refine call_con (ρ := []) hlen8 ⟨by rfl, by rfl, by rfl, by cbv⟩ ?_
  rintro v H R js ⟨rfl, rfl, rfl⟩
  cbv
  have ha : vaddN 0 len = len := by simp only [qaddN, Nat.zero_add]
  have hpay : vonto [] 0 (vsub b 0 len) = b := by simp only [qonto, qsub]; simp [← hlen]
  have hpos : vb .add .i64 (vb .mul .i64 8 (vb .sub .i64 (vofN len) 1)) (vb .sub .i64 L 1) = F := by
    rw [hsub, ← hF]; simp only [nc] at *
    rw [qb, mul_i64 (by omega) (by omega), sub_i64 (x := L) (by omega) (by omega), add_i64 (by omega) (by omega)]
  refine ⟨⟨?_⟩, ⟨?_⟩, ⟨?_⟩, ⟨?_⟩, ?_⟩
  · rw [ha, qln]; exact Nat.le_of_eq hlen.symm
  · exact Nat.zero_le _
  · exact Nat.zero_le _
  · rw [ha]; omega
  intro c1 js1 hle
  cbv
  rw [ha, hpay, hpos]
  exact ⟨c1, rfl⟩
end Go.Proofs.Ytgbnngjmjimhiaa
