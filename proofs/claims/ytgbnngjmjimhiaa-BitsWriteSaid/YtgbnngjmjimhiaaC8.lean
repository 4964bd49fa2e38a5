import Derived.Test.YtgbnngjmjimhiaaC7
namespace Go.Proofs.Ytgbnngjmjimhiaa
open Go Go.Sx Go.Proofs
/-- The first k bits of bytes. -/
def bitsOf (b : List Int) (k : Nat) : List Int := (List.range k).map fun (i : Nat) => bitAt b (i : Int)
theorem bitsOf_length (b : List Int) (k : Nat) : (bitsOf b k).length = k := by simp [bitsOf]
theorem bitsOf_get (b : List Int) (k i : Nat) (h : i < k) : (bitsOf b k).getD i 0 = bitAt b i := by simp [bitsOf, List.getD_eq_getElem?_getD, h]
theorem bitsOf_succ (b : List Int) (k : Nat) : bitsOf b (k + 1) = bitsOf b k ++ [bitAt b k] := by simp [bitsOf, List.range_succ]
/-- Where the mark is. -/
def markAt (b : List Int) : Int := 8 * ((b.length : Int) - 1) + (len8 (b.getLastD 0) - 1)
theorem mark_byte {x : Int} (h0 : 0 < x) (h1 : x < 256) : 1 ≤ len8 x ∧ len8 x ≤ 8 ∧ x / 2 ^ (len8 x - 1).toNat % 2 = 1 ∧ ∀ j : Nat, len8 x ≤ j → x / 2 ^ j = 0 := by
  have hlt : x < 2 ^ (len8 x).toNat := by unfold len8; (repeat' split) <;> first | omega | (simp; omega)
  have h8 : 1 ≤ len8 x ∧ len8 x ≤ 8 := by unfold len8; (repeat' split) <;> omega
  refine ⟨h8.1, h8.2, ?_, fun j hj => ?_⟩
  · unfold len8
    (repeat' split) <;> simp <;> omega
  · have hp : (2 : Int) ^ (len8 x).toNat ≤ 2 ^ j := by exact_mod_cast Nat.pow_le_pow_right (by decide) (by omega)
    exact Int.ediv_eq_zero_of_lt (by omega) (by omega)
theorem markAt_spec (b : List Int) (hb : b.getLastD 0 ≠ 0) (hby : ∀ x ∈ b, isByte x) : ∃ P : Nat, markAt b = P ∧ P < 8 * b.length ∧ bitAt b P = 1 ∧ ∀ k : Nat, P < k → k < 8 * b.length → bitAt b k = 0 := by
  have hbyte : isByte (b.getLastD 0) := by
    rw [getLastD_eq, List.getD_eq_getElem?_getD]
    cases hg : b[b.length - 1]? with
    | none => exact ⟨by simp, by simp⟩
    | some y => exact hby y (List.mem_of_getElem? hg)
  have h0 : 1 ≤ b.length := by
    rcases b with _ | ⟨x, b⟩
    · exact absurd rfl hb
    · simp
  obtain ⟨h1, h2, h3, h4⟩ := mark_byte (x := b.getLastD 0) (by have := hbyte.1; omega) hbyte.2
  have hlast := getLastD_eq b
  unfold markAt
  generalize b.getLastD 0 = x at *
  refine ⟨8 * (b.length - 1) + (len8 x - 1).toNat, by omega, by omega, ?_, fun k hk1 hk2 => ?_⟩
  · unfold bitAt
    rw [if_pos (by omega)]
    have e1 : ((((8 * (b.length - 1) + (len8 x - 1).toNat : Nat)) : Int) / 8).toNat = b.length - 1 := by omega
    have e2 : ((((8 * (b.length - 1) + (len8 x - 1).toNat : Nat)) : Int) % 8).toNat = (len8 x - 1).toNat := by omega
    rw [e1, e2, ← hlast]
    exact h3
  · unfold bitAt
    rw [if_pos (by omega)]
    have e1 : ((k : Int) / 8).toNat = b.length - 1 := by omega
    rw [e1, ← hlast, h4 _ (by omega)]
    rfl
theorem byte_bit {b : List Int} (hby : ∀ x ∈ b, isByte x) (i : Nat) : isByte (b.getD i 0) := by
  rw [List.getD_eq_getElem?_getD]
  cases hg : b[i]? with
  | none => exact ⟨by simp, by simp⟩
  | some y => exact hby y (List.mem_of_getElem? hg)
set_option maxHeartbeats 4000000 in
theorem refnew_good (b : List Int) (cap : Nat) (hb : b.getLastD 0 ≠ 0) (hby : ∀ x ∈ b, isByte x) (hl : 8 * b.length ≤ 140737488355328) : Con Try.prog 12 [.slice 0 .z 1 b.length cap] [.ro .u8 b]
    (fun v H R => v = .tup [.ptr 1 .z 2 0, .lit .i64 0] ∧ R = [2] ∧ ∃ (P c : Nat), markAt b = P ∧ P < 8 * b.length ∧ H = [.ro .u8 b, .one 36 [.slice 2 .z 1 P c, .int .i64 P], .buf 5 .u8 (bitsOf b (8 * b.length)) c]) := by
  obtain ⟨PP, hPP, hPl, hP1, hP0⟩ := markAt_spec b hb hby
  have hbb := byte_bit hby
  refine con_cut 3 (by simp) (con_red [2] (con_walk hmix fn12 ?_))
  intro vb vc vw vtoN vofN vaddN vsubN vmaxI vminI vcutN vgd vst vln vrep vsub vonto vsplice vstrEq vbyteV vnotB veqB hw qb qc qw qtoN qofN qaddN qsubN qmaxI qminI qcutN qgd qst qln qrep qsub qonto qsplice qstrEq qbyteV qnotB qeqB
  have hm := hmix
  generalize Try.prog = P at *
  rw [getLastD_eq] at hb
  have h0 : 1 ≤ b.length := by
    rcases b with _ | ⟨x, b⟩
    · exact absurd rfl hb
    · simp
  generalize hBB : bitsOf b (8 * b.length) = BB
  generalize markAt b = MA at *
  generalize hlen : b.length = len at *
  generalize hlast : b.getD (len - 1) 0 = last at *
  cbv
  have e0 : vc .eql (vofN len) 0 = false := by simp only [qc, qofN]; rw [eql_false]; simp only [nc] at *; omega
  rw [e0]
  have hsub : vb .sub .i64 (vofN len) 1 = len - 1 := by simp only [qb, qofN]; simp only [nc] at *; rw [sub_i64 (by omega) (by omega)]
  have hin : 0 ≤ vb .sub .i64 (vofN len) 1 ∧ vb .sub .i64 (vofN len) 1 < len := by rw [hsub]; simp only [nc] at *; omega
  have hi : vtoN (vb .sub .i64 (vofN len) 1) = len - 1 := by rw [hsub]; simp only [qtoN]; simp only [nc] at *; omega
  have hlt2 : vtoN (vb .sub .i64 (vofN len) 1) < vln b := by rw [hi]; simp only [qln]; omega
  have hlt3 : vaddN 0 (vtoN (vb .sub .i64 (vofN len) 1)) < vln b := by simp only [qaddN, Nat.zero_add]; exact hlt2
  have hval : vgd b (vtoN (vb .sub .i64 (vofN len) 1)) = last := by rw [hi]; simp only [qgd]; exact hlast
  have hz : vc .eql (vgd b (vtoN (vb .sub .i64 (vofN len) 1))) 0 = false := by rw [hval, qc, eql_false]; exact hb
  cbv
  refine ⟨⟨hin⟩, ⟨hlt3⟩, ⟨hlt2⟩, ?_⟩
  rw [hz]
  cbv
  refine WX.cv (Cv.nilB 1 0 5 .u8 (by rfl) (by cbv) (Cv.here ?_))
  cbv
  have h8 : vb .mul .i64 8 (vofN len) = ((8 * len : Nat) : Int) := by simp only [qb, qofN]; simp only [nc] at *; rw [mul_i64 (by omega) (by omega)]; omega
  refine loop_fam (α := Int × List Int × Nat × Nat) [20, 21, 22, 23, 24, 25, 26, 27, 28, 29, 30, 31, 32, 33, 34, 35, 36, 37, 38, 39, 40, 41, 42, 43, 44, 45] [2]
    (fun (k, l, n, c) => [(5, .int .i64 k)]) (fun (k, l, n, c) => [(1, .one 36 [.slice 2 .z 1 n c, .int .i64 0]), (2, .buf 5 .u8 l c)])
    (fun (k, l, n, c) => ∃ i : Nat, k = i ∧ i ≤ 8 * len ∧ l = bitsOf b i ∧ n = i ∧ n ≤ c) (fun (k, _) => 8 * len - k.toNat) hw hm ?_ ?_
  · refine Cv.genAt [5] [1] (Cv.fold [20, 21, 22, 23, 24, 25, 26, 27, 28, 29, 30, 31, 32, 33, 34, 35, 36, 37, 38, 39, 40, 41, 42, 43, 44, 45] 3 [2] (by exact Nat.le_refl _) (by exact Nat.le_refl _) (by rfl) (by cbv) ?_)
    intro js
    refine ⟨(_, _, _, _), ?_, js, rfl⟩
    exact ⟨0, rfl, by omega, rfl, rfl, Nat.le_refl _⟩
  · rintro ⟨k, l, n, c⟩ js ⟨i, hk, hile, hl', hn, hnc⟩
    have hll : l.length = i := by rw [hl', bitsOf_length]
    cbv
    split
    · rename_i hlt
      have hlt : i < 8 * len := by rw [h8, qc, lss_true] at hlt; simp only [nc] at *; omega
      have hk1 : vb .add .i64 k 1 = ((i + 1 : Nat) : Int) := by simp only [nc] at *; rw [qb, add_i64 (by omega) (by omega)]; omega
      have hq : vb .quo .i64 k 8 = k / 8 := by simp only [nc] at *; rw [qb, quo_i64 (by omega) (by omega) (by omega)]
      have hr : vb .rem .i64 k 8 = k % 8 := by simp only [nc] at *; rw [qb, rem_i64 (by omega)]
      have hwr : vw .u64 (k % 8) = k % 8 := by simp only [nc] at *; simp only [qw]; exact wrap_u64 (by omega) (by omega)
      have hink : 0 ≤ vb .quo .i64 k 8 ∧ vb .quo .i64 k 8 < len := by rw [hq]; simp only [nc] at *; omega
      have hqn : vtoN (vb .quo .i64 k 8) = (k / 8).toNat := by rw [hq]; simp only [qtoN]
      have hltk : vtoN (vb .quo .i64 k 8) < vln b := by rw [hqn]; simp only [qln]; simp only [nc] at *; omega
      have hltk2 : vaddN 0 (vtoN (vb .quo .i64 k 8)) < vln b := by simp only [qaddN, Nat.zero_add]; exact hltk
      have hnn : 0 ≤ vw .u64 (vb .rem .i64 k 8) := by rw [hr, hwr]; omega
      have hbit : vb .and .u8 (vb .shr .u8 (vgd b (vtoN (vb .quo .i64 k 8))) (vw .u64 (vb .rem .i64 k 8))) 1 = bitAt b i := by
        simp only [nc] at *
        rw [hr, hwr, hqn, qb, shr_eq (by show k % 8 ≤ ((8 : Nat) : Int); omega)]
        simp only [qgd]
        have hby := hbb (k / 8).toNat
        have e : bitAt b (i : Int) = b.getD (k / 8).toNat 0 / 2 ^ (k % 8).toNat % 2 := by rw [← hk]; unfold bitAt; rw [if_pos (by omega)]
        rw [e]
        generalize b.getD (k / 8).toNat 0 = y at *
        have h1 : 0 ≤ y / 2 ^ (k % 8).toNat := Int.ediv_nonneg hby.1 (Int.le_of_lt (Int.pow_pos (by decide)))
        have h2 : y / 2 ^ (k % 8).toNat ≤ y := Int.ediv_le_self _ hby.1
        have h3 := hby.2
        rw [and_one rfl h1 (by show _ < (2 : Int) ^ 8; omega)]
      cbv
      refine ⟨⟨hink⟩, ⟨hltk2⟩, ⟨hltk⟩, ⟨hnn⟩, ⟨⟨hltk⟩, trivial⟩, ⟨by simp only [qaddN, qln]; exact Nat.le_refl _⟩, ⟨by simp only [qln]; omega⟩, ⟨Nat.le_refl _⟩, ⟨by simp only [qaddN]; omega⟩, ?_⟩
      intro c1 js1 hle
      cbv
      refine ⟨⟨⟨hltk⟩, trivial⟩, ?_⟩
      refine Cv.fold [20, 21, 22, 23, 24, 25, 26, 27, 28, 29, 30, 31, 32, 33, 34, 35, 36, 37, 38, 39, 40, 41, 42, 43, 44, 45] 3 [2] (by exact Nat.le_refl _) (by exact Nat.le_of_ble_eq_true rfl) (by rfl) (by cbv) ?_
      intro js
      refine ⟨(_, _, _, _), ?_, js, rfl⟩
      have hnew : vonto l n (vsub [vb .and .u8 (vb .shr .u8 (vgd b (vtoN (vb .quo .i64 k 8))) (vw .u64 (vb .rem .i64 k 8))) 1] 0 1) = bitsOf b (i + 1) := by
        rw [hbit, bitsOf_succ]; simp only [qonto, qsub]; rw [← hl', hn]; simp [← hll]
      have hle' : vaddN n 1 ≤ c1 := hle.out
      exact ⟨⟨i + 1, hk1, hlt, hnew, by simp only [qaddN]; omega, hle'⟩, by show 8 * len - (vb .add .i64 k 1).toNat < 8 * len - k.toNat; rw [hk1, hk]; simp only [nc] at *; omega⟩
    · rename_i hge
      have hin8 : i = 8 * len := by rw [h8, qc, lss_false] at hge; simp only [nc] at *; omega
      have hnn : n = 8 * len := by omega
      have hlB : l = BB := by rw [hl', hin8, hBB]
      have hBn : BB.length = 8 * len := by rw [← hlB, hll, hin8]
      cbv
      refine loop_fam (α := Nat) [46, 47, 48, 49, 50, 51, 52, 53, 54, 55, 56, 57, 58, 59, 60, 61, 62, 63, 64, 65, 66, 67, 68, 69, 70, 71, 72] [2] (fun k => []) (fun k2 => [(1, .one 36 [.slice 2 .z 1 k2 c, .int .i64 0])]) (fun k2 => PP + 1 ≤ k2 ∧ k2 ≤ 8 * len) (fun k2 => k2) hw hm ?_ ?_
      · refine Cv.fold [46, 47, 48, 49, 50, 51, 52, 53, 54, 55, 56, 57, 58, 59, 60, 61, 62, 63, 64, 65, 66, 67, 68, 69, 70, 71, 72] 3 [2] (by exact Nat.le_refl _) (by exact Nat.le_of_ble_eq_true rfl) (by rfl) (by cbv) ?_
        intro js
        refine ⟨n, ⟨by omega, by omega⟩, js, rfl⟩
      · rintro k2 js ⟨hk2, hk2'⟩
        have hs : vb .sub .i64 (vofN k2) 1 = ((k2 - 1 : Nat) : Int) := by simp only [qb, qofN]; simp only [nc] at *; rw [sub_i64 (by omega) (by omega)]; omega
        have hin : 0 ≤ vb .sub .i64 (vofN k2) 1 ∧ vb .sub .i64 (vofN k2) 1 < k2 := by rw [hs]; simp only [nc] at *; omega
        have hc2 : 0 ≤ vb .sub .i64 (vofN k2) 1 ∧ vb .sub .i64 (vofN k2) 1 ≤ c := by rw [hs]; simp only [nc] at *; omega
        have hi2 : vtoN (vb .sub .i64 (vofN k2) 1) = k2 - 1 := by rw [hs]; simp only [qtoN]; omega
        have hlt2 : vtoN (vb .sub .i64 (vofN k2) 1) < vln l := by rw [hi2]; simp only [qln]; omega
        have hlt3 : vaddN 0 (vtoN (vb .sub .i64 (vofN k2) 1)) < vln l := by simp only [qaddN, Nat.zero_add]; exact hlt2
        have hv2 : vgd l (vtoN (vb .sub .i64 (vofN k2) 1)) = bitAt b ((k2 - 1 : Nat) : Int) := by
          rw [hi2, hl']; simp only [qgd]; exact bitsOf_get b i (k2 - 1) (by omega)
        cbv
        refine ⟨⟨hin⟩, ⟨hlt3⟩, ⟨hlt2⟩, ?_⟩
        split
        · rename_i hz
          have hz : bitAt b ((k2 - 1 : Nat) : Int) = 0 := by rw [hv2, qc, eql_true] at hz; exact hz
          have hne : k2 - 1 ≠ PP := fun e => by rw [e] at hz; simp only [nc] at *; omega
          cbv
          refine ⟨⟨hc2⟩, ?_⟩
          refine Cv.fold [46, 47, 48, 49, 50, 51, 52, 53, 54, 55, 56, 57, 58, 59, 60, 61, 62, 63, 64, 65, 66, 67, 68, 69, 70, 71, 72] 3 [2] (by exact Nat.le_refl _) (by exact Nat.le_of_ble_eq_true rfl) (by rfl) (by cbv) ?_
          intro js
          refine ⟨_, ⟨⟨?_, ?_⟩, ?_⟩, js, rfl⟩
          all_goals (rw [hi2]; omega)
        · rename_i hz
          have hz : bitAt b ((k2 - 1 : Nat) : Int) ≠ 0 := by rw [hv2, qc, eql_false] at hz; exact hz
          have hPk : k2 - 1 = PP := Classical.byContradiction fun h => hz (hP0 (k2 - 1) (by omega) (by omega))
          cbv
          have e1 : vtoN (vb .sub .i64 (vofN k2) 1) = PP := by rw [hi2]; exact hPk
          have e2 : vofN PP = (PP : Int) := by simp only [qofN]
          refine ⟨⟨hc2⟩, PP, c, hPP, by omega, ?_⟩
          rw [e1, e2, hlB]
          rfl
end Go.Proofs.Ytgbnngjmjimhiaa
