/-
  For every row of counts, every log and all symbols, balerlaw07.StatesCarry returns true and leaves its arguments as they were. No condition.
-/
import Derived.Test.YtodobmkflimfkaaSF
namespace Go.Proofs.Ytodobmkflimfkaa.statesCarry
open Go Go.Sx Go.ChangeShapes Go.WideShapes Go.ChangeAt Go.RowKit
set_option linter.unusedVariables false
theorem wf_i16 {x : Int} (h : (Lit.int .i16 x).wf = true) : isI16 x := by
  simp [Lit.wf, IntKind.min, IntKind.max, IntKind.signed, IntKind.bits] at h
  unfold isI16
  omega
theorem renL3 (ρ : List (Nat × Ix)) (n : Nat) (k1 k2 k3 : IntKind) (a b c : Int) : renL ρ n [.int k1 a, .int k2 b, .int k3 c] = [.int k1 a, .int k2 b, .int k3 c] := rfl
set_option maxHeartbeats 80000000 in
set_option maxRecDepth 10000 in
theorem law_con (l : List Int) (log : Int) (sy : List Int) (cap cap2 : Nat) (hl : ∀ c ∈ l, isI16 c) (hlog : -9223372036854775808 ≤ log ∧ log ≤ 9223372036854775807) (hsy : ∀ x ∈ sy, isByte x) :
    Con Try.prog 8 [.slice 0 .z 1 l.length cap, .int .i64 log, .slice 1 .z 1 sy.length cap2] [.ro .i16 l, .ro .u8 sy] (fun v H R => v = .bool true ∧ H = [.ro .i16 l, .ro .u8 sy] ∧ R = []) := by
  have hwakes := wakes_con
  by_cases hR : Right l log
  · obtain ⟨N, A, B, C, hN1, hN2, hNp, hbnd, hhit, h1⟩ := table_abc l log cap hl hlog hR
    have hput := fun bs => putA_con bs
    have hclose := fun bs => close_con bs
    have hnew := fun bs => new_tail bs
    have hbits := bits_con
    have hleft := left_con
    have hbe := @bits_enc
    have hahead := ahead_con N A B C
    have hln256 : 1 ≤ l.length ∧ l.length ≤ 256 := ⟨hR.2.2.1, hR.2.2.2.1⟩
    have hlg : 5 ≤ log ∧ log ≤ 12 := ⟨hR.1, hR.2.1⟩
    have hB12 : ∀ k, k < N → (B k).toNat ≤ 12 := fun k hk => by have := hbnd k hk; omega
    have hElt := fun ls v bits => @enc_lt N A B C ls v bits
    have hEbit := fun ls v bits => @enc_bit N A B C ls v bits
    have hElen := fun ls v bits => @enc_length N A B C hB12 ls v bits
    refine con_gen (con_cut 2 (by simp) (con_drop (con_walk hmix fn8 ?_)))
    intro vb vc vw vtoN vofN vaddN vsubN vmaxI vminI vcutN vgd vst vln vrep vsub vonto vsplice vstrEq vbyteV vnotB veqB hw qb qc qw qtoN qofN qaddN qsubN qmaxI qminI qcutN qgd qst qln qrep qsub qonto qsplice qstrEq qbyteV qnotB qeqB
    have hm := hmix; generalize Try.prog = P at *
    have hself : ∀ x, vc .eql x x = true := fun x => by rw [qc, eql_true]
    have hnself : ∀ x, vc .neq x x = false := fun x => by rw [qc, neq_false]; simp
    have hto : ∀ i : Nat, vtoN (i : Int) = i := fun i => by simp only [qtoN, Int.toNat_natCast]
    have hadd0 : ∀ i, vaddN 0 i = i := fun i => by simp only [qaddN, Nat.zero_add]
    have hofn : ∀ n, vofN n = (n : Int) := fun n => by simp only [qofN]
    have hln : ∀ l, vln l = l.length := fun l => by simp only [qln]
    have hvgd : ∀ l i, vgd l i = l.getD i 0 := fun l i => by simp only [qgd]
    have hgsy : ∀ i, 0 ≤ sy.getD i 0 ∧ sy.getD i 0 < 256 := fun i => by
      rcases getD_mem_or (l := sy) i with h | h
      · exact hsy _ h
      · omega
    generalize hnl : l.length = n at *
    generalize hM : sy.length = M at *
    have hn0 : vc .eql (vofN n) 0 = false := by rw [qc, eql_false, hofn]; omega
    cbv
    refine call_con (ρ := [(0, .z)]) h1 ⟨by rfl, by rfl, by rfl, by cbv; exact ⟨view_refl _, trivial⟩⟩ ?_
    rintro v H R js ⟨rfl, rfl, rfl⟩
    cbv
    refine ⟨fun _ => rfl, ?_⟩
    simp only [renL3]
    have hlsy : vln sy = M := by rw [hln]; exact hM
    have hll : vln l = n := by rw [hln]; exact hnl
    rw [hnself]
    cbv
    rw [hn0]
    cbv
    refine WX.cv (Cv.nilT 9 5 .u8 (by rfl) (by cbv; try exact ⟨fun _ => rfl, trivial⟩) (Cv.here ?_))
    cbv
    refine loop_fam (α := Int × List Int × Nat × Nat) ([10, 11] ++ [40, 41, 42, 43, 44, 45, 46, 47, 48, 49, 50, 51, 52, 53, 54, 55, 56, 57, 58, 59, 60, 61]) [3] (fun (k, ls, rl, c) => [(39, .int .i64 k), (9, .slice 3 .z 1 rl c)]) (fun (k, ls, rl, c) => [(3, .buf 5 .u8 ls c)])
      (fun (k, ls, rl, c) => ∃ i : Nat, k = i ∧ i ≤ M ∧ i ≤ 200 ∧ ls.length ≤ i ∧ rl = ls.length ∧ ∀ s ∈ ls, ∃ t : Nat, s = t ∧ t < n ∧ l.getD t 0 ≠ 0) (fun (k, _) => M - k.toNat) hw hm ?_ ?_
    · refine Cv.genAt [39] [] (Cv.fold ([10, 11] ++ [40, 41, 42, 43, 44, 45, 46, 47, 48, 49, 50, 51, 52, 53, 54, 55, 56, 57, 58, 59, 60, 61]) 4 [3] (by exact Nat.le_refl _) (by exact Nat.le_of_ble_eq_true rfl) (by rfl) (by cbv) ?_)
      intro js
      refine ⟨(_, _, _, _), ?_, js, rfl⟩
      exact ⟨0, rfl, by omega, by omega, by simp, rfl, by simp⟩
    · rintro ⟨k, ls, rl, c⟩ js ⟨i, hk, hi, hi2, hli, hrl, hall⟩
      cbv
      by_cases hlt : i < M ∧ i < 200
      · have hc1 : vc .lss k (vofN M) = true := by rw [qc, lss_true, hofn]; simp only [nc] at *; omega
        have hc2 : vc .geq k 200 = false := by rw [qc, geq_false]; simp only [nc] at *; omega
        have hti : vtoN k = i := by rw [hk]; exact hto i
        have hinR : 0 ≤ k ∧ k < (M : Int) := by simp only [nc] at *; omega
        obtain ⟨k1, hk1⟩ : ∃ k1 : Int, k1 = ((i + 1 : Nat) : Int) := ⟨_, rfl⟩
        have ek : vb .add .i64 k 1 = k1 := by simp only [nc] at *; rw [qb, add_i64 (by omega) (by omega)]; omega
        have hmu : M - k1.toNat < M - k.toNat := by simp only [nc] at *; omega
        obtain ⟨d, hd⟩ : ∃ d : Int, d = min (n : Int) 255 := ⟨_, rfl⟩
        have hmin : vminI (vofN n) 255 = d := by rw [qminI, hofn, hd]; simp only [nc] at *; split <;> omega
        have hd1 : 1 ≤ d ∧ d ≤ 255 ∧ d ≤ n := by simp only [nc] at *; omega
        have hwd : vw .u8 d = d := by rw [qw]; exact wrap_u8 (by omega) (by omega)
        have hg := hgsy i
        obtain ⟨g0, hg0⟩ : ∃ g0 : Int, g0 = sy.getD i 0 := ⟨_, rfl⟩
        have hgg : vgd sy i = g0 := by rw [hvgd, hg0]
        rw [← hg0] at hg
        obtain ⟨x, hx⟩ : ∃ x : Int, x = g0 % d := ⟨_, rfl⟩
        have hxd : 0 ≤ x ∧ x < d := by rw [hx]; exact ⟨Int.emod_nonneg _ (by omega), Int.emod_lt_of_pos _ (by omega)⟩
        have hrem : vb .rem .u8 g0 d = x := by rw [qb, hx]; exact Int.tmod_eq_emod_of_nonneg (by omega)
        obtain ⟨t, ht⟩ : ∃ t : Nat, x = t := ⟨x.toNat, by omega⟩
        have htn : t < n := by simp only [nc] at *; omega
        have htx : vtoN x = t := by rw [ht]; exact hto t
        obtain ⟨y, hy⟩ : ∃ y : Int, y = l.getD t 0 := ⟨_, rfl⟩
        have hyy : vgd l t = y := by rw [hvgd, hy]
        have hinX : 0 ≤ x ∧ x < (n : Int) := by simp only [nc] at *; omega
        rw [hc1]
        cbv
        rw [hti]
        refine ⟨⟨hinR⟩, ⟨by rw [hadd0]; omega⟩, ⟨by omega⟩, ?_⟩
        rw [hc2, hgg]
        cbv
        rw [hmin, hwd, hrem, htx]
        refine ⟨⟨by omega⟩, ⟨hinX⟩, ⟨by rw [hadd0]; omega⟩, ⟨by omega⟩, ?_⟩
        rw [hyy]
        cases hz : vc .neq y 0
        · cbv
          rw [ek]
          refine Cv.fold ([10, 11] ++ [40, 41, 42, 43, 44, 45, 46, 47, 48, 49, 50, 51, 52, 53, 54, 55, 56, 57, 58, 59, 60, 61]) 4 [3] (by exact Nat.le_refl _) (by exact Nat.le_of_ble_eq_true rfl) (by rfl) (by cbv) ?_
          intro js
          refine ⟨(_, _, _, _), ?_, js, rfl⟩
          exact ⟨⟨i + 1, hk1, hlt.1, hlt.2, by omega, hrl, hall⟩, hmu⟩
        cbv
        rw [qc, neq_true] at hz
        obtain ⟨ls1, hls1⟩ : ∃ ls1, ls1 = ls ++ [x] := ⟨_, rfl⟩
        have honto : vonto ls rl (vsub [x] 0 1) = ls1 := by simp only [qonto, qsub]; rw [hls1, hrl]; simp
        obtain ⟨rl1, hrl1⟩ : ∃ rl1, rl1 = rl + 1 := ⟨_, rfl⟩
        have hadd1 : vaddN rl 1 = rl1 := by simp only [qaddN]; exact hrl1.symm
        refine ⟨fun _ => rfl, ⟨by rw [hadd0, hln]; exact Nat.le_refl _⟩, ⟨by rw [hln, hrl]; exact Nat.le_refl _⟩, ⟨Nat.le_refl _⟩, ⟨by rw [hadd1]; omega⟩, fun _ => rfl, ?_⟩
        intro c1 js1 hle1
        cbv
        rw [ek, honto, hadd1]
        refine Cv.fold ([10, 11] ++ [40, 41, 42, 43, 44, 45, 46, 47, 48, 49, 50, 51, 52, 53, 54, 55, 56, 57, 58, 59, 60, 61]) 4 [3] (by exact Nat.le_refl _) (by exact Nat.le_of_ble_eq_true rfl) (by rfl) (by cbv) ?_
        intro js
        refine ⟨(_, _, _, _), ?_, js, rfl⟩
        exact ⟨⟨i + 1, hk1, hlt.1, hlt.2, by rw [hls1, List.length_append]; simp; omega, by rw [hls1, List.length_append, hrl1, hrl]; rfl, by
          intro s hs
          rw [hls1] at hs
          rcases List.mem_append.1 hs with hs | hs
          · exact hall s hs
          · rw [List.mem_singleton] at hs
            exact ⟨t, by rw [hs, ht], htn, by rw [← hy]; exact hz⟩⟩, hmu⟩
      · have hls200 : ls.length ≤ 200 := by omega
        obtain ⟨m, hm0⟩ : ∃ m : Nat, m = ls.length := ⟨_, rfl⟩
        rw [← hm0] at hrl
        by_cases hlt2 : i < M
        have hc1 : vc .lss k (vofN M) = true := by rw [qc, lss_true, hofn]; simp only [nc] at *; omega
        have hc2 : vc .geq k 200 = true := by rw [qc, geq_true]; simp only [nc] at *; omega
        have hti : vtoN k = i := by rw [hk]; exact hto i
        have hinR : 0 ≤ k ∧ k < (M : Int) := by simp only [nc] at *; omega
        rw [hc1]
        cbv
        rw [hti]
        refine ⟨⟨hinR⟩, ⟨by rw [hadd0]; omega⟩, ⟨by omega⟩, ?_⟩
        rw [hc2]
        cbv
        rotate_left
        have hc1 : vc .lss k (vofN M) = false := by rw [qc, lss_false, hofn]; simp only [nc] at *; omega
        rw [hc1]
        cbv
        all_goals
          refine ⟨fun _ => rfl, ?_⟩
          refine WX.cv (Cv.nilB 4 0 5 .u8 (by rfl) (by cbv; try exact ⟨fun _ => rfl, trivial⟩) (Cv.here ?_))
          cbv
          refine loop_fam (α := Int × Int × Nat × Nat × Int × List Int) ([15, 16] ++ [67, 68, 69, 70, 71, 72, 73, 74, 75, 76, 77, 78, 79, 80, 81, 82, 83, 84, 85, 86, 87, 88, 89, 90, 91, 92, 93, 94, 95, 96, 97, 98, 99, 100, 101, 102, 103, 104, 105, 106, 107, 108, 109, 110, 111, 112, 113, 114, 115, 116, 117, 118, 119, 120, 121, 122]) [5, 3]
            (fun (k2, st, c2, n1, mm, pk) => [(14, .int .i64 k2), (13, .int .i64 st)])
            (fun (k2, st, c2, n1, mm, pk) => [(4, .one 61 [.slice 5 .z 1 n1 c2, .int .i64 mm]), (5, .buf 5 .u8 pk c2)])
            (fun (k2, st, c2, n1, mm, pk) => ∃ (j v : Nat) (bits : List Int), k2 = (j : Int) - 1 ∧ j ≤ m ∧ st = v ∧ Enc N A B C (ls.drop j) v bits ∧ pk = pack bits ∧ n1 = pk.length ∧ mm = bits.length)
            (fun (k2, _) => (k2 + 1).toNat) hw hm ?_ ?_
          · refine Cv.genAt [13] [4] (Cv.fold ([15, 16] ++ [67, 68, 69, 70, 71, 72, 73, 74, 75, 76, 77, 78, 79, 80, 81, 82, 83, 84, 85, 86, 87, 88, 89, 90, 91, 92, 93, 94, 95, 96, 97, 98, 99, 100, 101, 102, 103, 104, 105, 106, 107, 108, 109, 110, 111, 112, 113, 114, 115, 116, 117, 118, 119, 120, 121, 122]) 6 [5, 3] (by exact Nat.le_refl _) (by exact Nat.le_of_ble_eq_true rfl) (by rfl) (by cbv) ?_)
            intro js
            refine ⟨(_, _, _, _, _, _), ?_, js, rfl⟩
            refine ⟨m, 0, [], ?_, Nat.le_refl _, rfl, ?_, (show pack [] = [] by decide).symm, rfl, rfl⟩
            · rw [hofn, hrl]
              simp only [nc] at *
              rw [qb, sub_i64 (by omega) (by omega)]
            · rw [hm0, List.drop_length]; exact .nil
          · rintro ⟨k2, st, c2, n1, mm, pk⟩ js2 ⟨j, v, bits, hk2, hj, hst, henc, hpk, hn1, hmm⟩
            have hst0 : 0 ≤ st ∧ st < (N : Int) := by
              rw [hst]
              have := hElt _ _ _ henc (by omega)
              omega
            have hst4 : st < 4096 := by simp only [nc] at *; omega
            have hvN := hElt _ _ _ henc (by omega)
            have hbit := hEbit _ _ _ henc
            have hblen := hElen _ _ _ henc
            have hdl : (ls.drop j).length ≤ 200 := by rw [List.length_drop]; omega
            cbv
            by_cases hj1 : 1 ≤ j
            · obtain ⟨j', rfl⟩ : ∃ j', j = j' + 1 := ⟨j - 1, by omega⟩
              have hc3 : vc .geq k2 0 = true := by rw [qc, geq_true]; simp only [nc] at *; omega
              have hk2' : k2 = (j' : Int) := by simp only [nc] at *; omega
              have hti2 : vtoN k2 = j' := by rw [hk2']; exact hto j'
              have hin2 : 0 ≤ k2 ∧ k2 < (rl : Int) := by simp only [nc] at *; omega
              obtain ⟨s, hs⟩ : ∃ s : Int, s = ls.getD j' 0 := ⟨_, rfl⟩
              have hvs : vgd ls j' = s := by rw [hvgd, hs]
              have hj'm : j' < ls.length := by omega
              have hsm : s ∈ ls := by rw [hs, List.getD_eq_getElem?_getD, List.getElem?_eq_getElem hj'm]; exact List.getElem_mem _
              obtain ⟨t, ht, htn, hty⟩ := hall s hsm
              have hA2 := hahead s st N hN2 hbnd ⟨hst0.1, hst4⟩ (by
                obtain ⟨q, h1, h2, h3, h4⟩ := hhit t (by omega) hty st hst0.1 hst0.2
                exact ⟨q, h1, by rw [h2, ht], h3, h4⟩)
              rw [hc3]
              cbv
              rw [hti2]
              refine ⟨⟨hin2⟩, ⟨by rw [hadd0, hln]; omega⟩, ⟨by rw [hln]; omega⟩, ?_⟩
              rw [hvs]
              refine call_con (ρ := [(2, .z)]) hA2 ⟨by rfl, by rfl, by rfl, by cbv; exact ⟨fun _ => rfl, ⟨rfl, trivial⟩, fun _ => rfl, trivial⟩⟩ ?_
              rintro v2 H R js3 ⟨rfl, rfl, q, q1, q2, q3, q4, hv2⟩
              obtain ⟨q', hq'⟩ : ∃ q' : Int, q' = q := ⟨_, rfl⟩
              simp only [nc] at hv2
              rw [← hq'] at hv2
              subst hv2
              cbv
              refine ⟨fun _ => rfl, ?_⟩
              simp only [renL3]
              have hqN : 0 ≤ q' ∧ q' < (N : Int) := by rw [hq']; simp only [nc] at *; omega
              have hc4 : vc .lss q' 0 = false := by rw [qc, lss_false]; exact Int.not_lt.2 hqN.1
              have hc5 : vc .geq q' (vofN N) = false := by rw [qc, geq_false, hofn]; exact Int.not_le.2 hqN.2
              have htq : vtoN q' = q := by rw [hq']; exact hto q
              have hnt : vnotB true = false := by simp only [qnotB]; rfl
              obtain ⟨b1, b2, b3, b4⟩ := hbnd q q1
              obtain ⟨x2, hx2⟩ : ∃ x2 : Int, x2 = st - C q := ⟨_, rfl⟩
              have hwC : vw .i64 (C q) = C q := by rw [qw]; exact wrap_i64 (by omega) (by omega)
              have hwB : vw .i64 (B q) = B q := by rw [qw]; exact wrap_i64 (by omega) (by omega)
              have hsb : vb .sub .i64 st (C q) = x2 := by rw [qb, sub_i64 (by omega) (by omega), hx2]
              have hx2r : 0 ≤ x2 ∧ x2 < 4096 := by omega
              have hwx : vw .u64 x2 = x2 := by rw [qw]; exact wrap_u64 (by omega) (by omega)
              rw [hnt]
              cbv
              rw [hc4]
              cbv
              rw [hc5]
              cbv
              rw [htq, hti2]
              refine ⟨fun _ => rfl, ⟨hqN⟩, ⟨by omega⟩, ⟨hin2⟩, ⟨by rw [hadd0, hln]; omega⟩, ⟨by rw [hln]; omega⟩, ?_⟩
              rw [hvs, q2, hnself]
              have hp2 := hput bits c2 x2 (B q) ⟨hx2r.1, by omega⟩ hbit (by omega)
              rw [← hpk, ← hn1, ← hmm] at hp2
              obtain ⟨bits2, hb2⟩ : ∃ b2, b2 = putBits bits x2 (B q) := ⟨_, rfl⟩
              rw [← hb2] at hp2
              have hb2' : bits2 = bits ++ bitsN ((v : Int) - C q) (B q).toNat := by
                rw [hb2]; unfold putBits; rw [if_pos ⟨b1, by omega⟩, hx2, hst]
              have henc2 : Enc N A B C (ls.drop j') q bits2 := by
                rw [drop_cons hj'm, ← hs, hb2']
                exact Enc.cons henc q1 q2 (by simp only [nc] at *; rw [← hst]; exact q3) (by simp only [nc] at *; rw [← hst]; exact q4)
              obtain ⟨pk2, hpk2⟩ : ∃ p, p = pack bits2 := ⟨_, rfl⟩
              rw [← hpk2] at hp2
              obtain ⟨n2, hn2⟩ : ∃ p, p = pk2.length := ⟨_, rfl⟩
              obtain ⟨mm2, hmm2⟩ : ∃ p : Int, p = bits2.length := ⟨_, rfl⟩
              simp only [nc] at hp2 hmm2
              rw [← hn2, ← hmm2] at hp2
              obtain ⟨k3, hk3⟩ : ∃ k3 : Int, k3 = (j' : Int) - 1 := ⟨_, rfl⟩
              have ek3 : vb .sub .i64 k2 1 = k3 := by simp only [nc] at *; rw [qb, sub_i64 (by omega) (by omega)]; omega
              have hmu2 : (k3 + 1).toNat < (k2 + 1).toNat := by simp only [nc] at *; omega
              obtain ⟨e2, he2⟩ : ∃ e2, e2 = putErr (B q) := ⟨_, rfl⟩
              rw [← he2] at hp2
              cbv
              rw [htq]
              refine ⟨⟨hqN⟩, ⟨by omega⟩, ⟨hqN⟩, ⟨by omega⟩, ?_⟩
              rw [hwC, hwB, hsb, hwx]
              refine call_con (ρ := [(4, .z), (5, .z)]) hp2 ⟨by rfl, by rfl, by rfl, by cbv; exact ⟨fun _ => rfl, trivial⟩⟩ ?_
              rintro v3 H R js4 ⟨rfl, rfl, c', rfl⟩
              cbv
              refine ⟨fun _ => rfl, ⟨⟨q1⟩, trivial⟩, ⟨⟨q1⟩, trivial⟩, ?_⟩
              rw [ek3]
              refine Cv.fold ([15, 16] ++ [67, 68, 69, 70, 71, 72, 73, 74, 75, 76, 77, 78, 79, 80, 81, 82, 83, 84, 85, 86, 87, 88, 89, 90, 91, 92, 93, 94, 95, 96, 97, 98, 99, 100, 101, 102, 103, 104, 105, 106, 107, 108, 109, 110, 111, 112, 113, 114, 115, 116, 117, 118, 119, 120, 121, 122]) 6 [5, 3] (by exact Nat.le_refl _) (by exact Nat.le_of_ble_eq_true rfl) (by rfl) (by cbv) ?_
              intro js
              refine ⟨(_, _, _, _, _, _), ?_, js, rfl⟩
              exact ⟨⟨j', q, bits2, hk3, by omega, hq', henc2, hpk2, hn2, hmm2⟩, hmu2⟩
            · have hj0 : j = 0 := by omega
              subst hj0
              have hc3 : vc .geq k2 0 = false := by rw [qc, geq_false]; simp only [nc] at *; omega
              have hwst : vw .u64 st = st := by rw [qw]; exact wrap_u64 (by omega) (by omega)
              have hp2 := hput bits c2 st log ⟨hst0.1, by omega⟩ hbit (by omega)
              rw [← hpk, ← hn1, ← hmm] at hp2
              obtain ⟨W, hWd⟩ : ∃ b2, b2 = putBits bits st log := ⟨_, rfl⟩
              rw [← hWd] at hp2
              have hW : W = bits ++ bitsN st log.toNat := by rw [hWd]; unfold putBits; rw [if_pos ⟨by omega, by omega⟩]
              have hWl : W.length = bits.length + log.toNat := by rw [hW, List.length_append, bitsN_length]
              have hWb : ∀ b ∈ W, isBit b := fun b hm => by
                rw [hW] at hm
                exact (List.mem_append.1 hm).elim (hbit b) (fun e => bitsN_bit _ _ b e)
              have hcl := fun c => hclose W c hWb (by omega)
              have hnw := fun c => hnew W c hWb (by omega)
              obtain ⟨W1, hW1⟩ : ∃ w, w = W ++ [1] := ⟨_, rfl⟩
              have hW1b : ∀ b ∈ W1, isBit b := fun b hm => by
                rw [hW1] at hm
                exact (List.mem_append.1 hm).elim (hWb b) (fun e => .inr (by simpa using e))
              have hW1l : W1.length ≤ 5000 := by rw [hW1, List.length_append, hWl]; simp only [List.length_cons, List.length_nil]; omega
              have hst1 : st < 2 ^ log.toNat := by rw [← hNp]; exact hst0.2
              have hrd1 := fun c => @hbe W1 bits [1] st log W.length c (by rw [hW1, hW]) hW1b ⟨by omega, by omega⟩ ⟨hst0.1, hst1⟩ (by rw [hWl]; simp only [nc] at *; omega) hW1l
              have hrd2 := fun c bits rest x k p => @hbe W1 bits rest x k p c
              rw [← hW1] at hcl hnw
              obtain ⟨pkW, hpkW⟩ : ∃ p, p = pack W := ⟨_, rfl⟩
              obtain ⟨nW, hnW⟩ : ∃ p, p = pkW.length := ⟨_, rfl⟩
              obtain ⟨mW, hmW⟩ : ∃ p : Int, p = W.length := ⟨_, rfl⟩
              obtain ⟨pk1, hpk1⟩ : ∃ p, p = pack W1 := ⟨_, rfl⟩
              obtain ⟨np1, hnp1⟩ : ∃ p, p = pk1.length := ⟨_, rfl⟩
              obtain ⟨mb, hmb⟩ : ∃ p : Int, p = bits.length := ⟨_, rfl⟩
              obtain ⟨e2, he2⟩ : ∃ e2, e2 = putErr log := ⟨_, rfl⟩
              simp only [nc] at hp2 hmW hcl hnw hrd1 hrd2 hmb
              simp only [← hpkW, ← hnW, ← hmW, ← hpk1, ← hnp1, ← he2, ← hmb] at hp2 hcl hnw hrd1 hrd2
              rw [hc3]
              cbv
              rw [hwst]
              refine call_con (ρ := [(4, .z), (5, .z)]) hp2 ⟨by rfl, by rfl, by rfl, by cbv; exact ⟨fun _ => rfl, trivial⟩⟩ ?_
              rintro v3 H R js4 ⟨rfl, rfl, c3, rfl⟩
              cbv
              refine ⟨fun _ => rfl, ?_⟩
              refine call_con (ρ := [(4, .z), (5, .z)]) (hcl c3) ⟨by rfl, by rfl, by rfl, by cbv; exact ⟨fun _ => rfl, trivial⟩⟩ ?_
              rintro v4 H R js5 ⟨rfl, c4, rfl, rfl⟩
              cbv
              refine ⟨fun _ => rfl, ?_⟩
              refine call_con (ρ := [(5, .z)]) (hnw c4) ⟨by rfl, by rfl, by rfl, by cbv; exact ⟨fun _ => rfl, view_refl _, trivial⟩⟩ ?_
              rintro v5 H R js6 ⟨rfl, rfl, c5, rfl⟩
              have hwsi : vw .i64 st = st := by rw [qw]; exact wrap_i64 (by omega) (by omega)
              cbv
              refine ⟨fun _ => rfl, ?_⟩
              refine call_con (ρ := [(7, .z), (6, .z)]) (hrd1 c5) ⟨by rfl, by rfl, by rfl, by cbv; exact ⟨fun _ => rfl, view_refl _, trivial⟩⟩ ?_
              rintro v6 H R js7 ⟨rfl, rfl, rfl⟩
              cbv
              refine ⟨fun _ => rfl, ?_⟩
              rw [hwsi]
              refine loop_fam (α := Int × Int × Int) ([19] ++ [143, 144, 145, 146, 147, 148, 149, 150, 151, 152, 153, 154, 155, 156, 157, 158, 159, 160, 161, 162, 163, 164, 165, 166, 167, 168, 169, 170, 171, 172, 173, 174, 175, 176, 177, 178, 179]) [5, 3]
                (fun (k5, s5, p5) => [(142, .int .i64 k5), (13, .int .i64 s5)])
                (fun (k5, s5, p5) => [(7, .one 139 [.slice 6 .z 1 np1 c5, .int .i64 p5])])
                (fun (k5, s5, p5) => ∃ (j v : Nat) (bits rest : List Int), k5 = j ∧ j ≤ m ∧ s5 = v ∧ Enc N A B C (ls.drop j) v bits ∧ W1 = bits ++ rest ∧ p5 = bits.length)
                (fun (k5, _) => m - k5.toNat) hw hm ?_ ?_
              · refine Cv.genAt [142] [] (Cv.fold ([19] ++ [143, 144, 145, 146, 147, 148, 149, 150, 151, 152, 153, 154, 155, 156, 157, 158, 159, 160, 161, 162, 163, 164, 165, 166, 167, 168, 169, 170, 171, 172, 173, 174, 175, 176, 177, 178, 179]) 8 [5, 3] (by exact Nat.le_refl _) (by exact Nat.le_of_ble_eq_true rfl) (by rfl) (by cbv) ?_)
                intro js
                refine ⟨(_, _, _), ?_, js, rfl⟩
                exact ⟨0, v, bits, bitsN st log.toNat ++ [1], rfl, by omega, hst, henc, by rw [hW1, hW, List.append_assoc], hmb⟩
              · rintro ⟨k5, s5, p5⟩ js8 ⟨j5, u, bits5, rest5, hk5, hj5, hs5, henc5, hW5, hp5⟩
                have huN := hElt _ _ _ henc5 (by omega)
                have hs5r : 0 ≤ s5 ∧ s5 < (N : Int) := by rw [hs5]; simp only [nc] at *; omega
                cbv
                split
                · rename_i hlt5
                  have hlt5 : j5 < m := by rw [qc, lss_true, hofn] at hlt5; simp only [nc] at *; omega
                  have hj5l : j5 < ls.length := by omega
                  obtain ⟨u1, u2, u', bits', henc', u3, u4, u5⟩ := enc_step henc5 hj5l
                  have hti5 : vtoN k5 = j5 := by rw [hk5]; exact hto j5
                  have hin5 : 0 ≤ k5 ∧ k5 < (rl : Int) := by simp only [nc] at *; omega
                  obtain ⟨s, hs⟩ : ∃ s : Int, s = ls.getD j5 0 := ⟨_, rfl⟩
                  have hvs : vgd ls j5 = s := by rw [hvgd, hs]
                  rw [← hs] at u2
                  have hc6 : vc .lss s5 0 = false := by rw [qc, lss_false]; exact Int.not_lt.2 hs5r.1
                  have hc7 : vc .geq s5 (vofN N) = false := by rw [qc, geq_false, hofn]; exact Int.not_le.2 hs5r.2
                  have hts5 : vtoN s5 = u := by rw [hs5]; exact hto u
                  obtain ⟨b1, b2, b3, b4⟩ := hbnd u u1
                  have hu'N := hElt _ _ _ henc' (by omega)
                  obtain ⟨x5, hx5⟩ : ∃ x5 : Int, x5 = (u' : Int) - C u := ⟨_, rfl⟩
                  obtain ⟨w5, hw5⟩ : ∃ w5 : Int, w5 = (u' : Int) := ⟨_, rfl⟩
                  have hx5r : 0 ≤ x5 ∧ x5 < 4096 := by simp only [nc] at *; omega
                  have hwC : vw .i64 (C u) = C u := by rw [qw]; exact wrap_i64 (by omega) (by omega)
                  have hwB : vw .i64 (B u) = B u := by rw [qw]; exact wrap_i64 (by omega) (by omega)
                  have hwx : vw .i64 x5 = x5 := by rw [qw]; exact wrap_i64 (by omega) (by omega)
                  have had : vb .add .i64 (C u) x5 = w5 := by rw [qb, add_i64 (by omega) (by omega), hx5, hw5]; omega
                  obtain ⟨k6, hk6⟩ : ∃ k6 : Int, k6 = ((j5 + 1 : Nat) : Int) := ⟨_, rfl⟩
                  have ek6 : vb .add .i64 k5 1 = k6 := by simp only [nc] at *; rw [qb, add_i64 (by omega) (by omega)]; omega
                  have hmu6 : m - k6.toNat < m - k5.toNat := by simp only [nc] at *; omega
                  have hW6 : W1 = bits' ++ bitsN x5 (B u).toNat ++ rest5 := by rw [hW5, u5, hx5]
                  have hp6 : p5 = bits'.length + B u := by rw [hp5, u5, List.length_append, bitsN_length]; simp only [nc] at *; omega
                  have hr5 := hrd2 c5 bits' rest5 x5 (B u) p5 hW6 hW1b ⟨b1, by omega⟩ ⟨hx5r.1, by rw [hx5]; exact u4⟩ hp6 hW1l
                  obtain ⟨p7, hp7⟩ : ∃ p7 : Int, p7 = bits'.length := ⟨_, rfl⟩
                  simp only [nc] at hr5 hp7
                  rw [← hp7] at hr5
                  cbv
                  rw [hti5]
                  refine ⟨⟨hin5⟩, ⟨by rw [hadd0, hln]; omega⟩, ⟨by rw [hln]; omega⟩, ?_⟩
                  rw [hvs, hc6]
                  cbv
                  rw [hc7]
                  cbv
                  rw [hts5]
                  refine ⟨⟨hs5r⟩, ⟨u1⟩, ?_⟩
                  rw [u2, hnself]
                  cbv
                  rw [hts5]
                  refine ⟨⟨hs5r⟩, ⟨u1⟩, ⟨hs5r⟩, ⟨u1⟩, ?_⟩
                  rw [hwB]
                  refine call_con (ρ := [(7, .z), (6, .z)]) hr5 ⟨by rfl, by rfl, by rfl, by cbv; exact ⟨fun _ => rfl, view_refl _, trivial⟩⟩ ?_
                  rintro v8 H R js9 ⟨rfl, rfl, rfl⟩
                  cbv
                  refine ⟨fun _ => rfl, ⟨⟨u1⟩, trivial⟩, ⟨⟨u1⟩, trivial⟩, ?_⟩
                  rw [hwC, hwx, had, ek6]
                  refine Cv.fold ([19] ++ [143, 144, 145, 146, 147, 148, 149, 150, 151, 152, 153, 154, 155, 156, 157, 158, 159, 160, 161, 162, 163, 164, 165, 166, 167, 168, 169, 170, 171, 172, 173, 174, 175, 176, 177, 178, 179]) 8 [5, 3] (by exact Nat.le_refl _) (by exact Nat.le_of_ble_eq_true rfl) (by rfl) (by cbv) ?_
                  intro js
                  refine ⟨(_, _, _), ?_, js, rfl⟩
                  exact ⟨⟨j5 + 1, u', bits', bitsN x5 (B u).toNat ++ rest5, hk6, hlt5, hw5, henc', by rw [hW6, List.append_assoc], hp7⟩, hmu6⟩
                · rename_i hge5
                  have hj5m : j5 = m := by rw [qc, lss_false, hofn] at hge5; simp only [nc] at *; omega
                  rw [hj5m, hm0, List.drop_length] at henc5
                  obtain ⟨hu0, hb0⟩ := enc_end henc5
                  have hs50 : s5 = 0 := by rw [hs5, hu0]; rfl
                  have hp50 : p5 = 0 := by rw [hp5, hb0]; rfl
                  have hlf := hleft pk1 np1 c5 0
                  rw [hs50, hp50]
                  cbv
                  refine call_con (ρ := [(7, .z), (6, .z)]) hlf ⟨by rfl, by rfl, by rfl, by cbv; exact ⟨fun _ => rfl, view_refl _, trivial⟩⟩ ?_
                  rintro v8 H R js9 ⟨rfl, rfl, rfl⟩
                  cbv
                  refine ⟨fun _ => rfl, ?_⟩
                  rw [hself]
                  cbv
                  rw [hself]
                  cbv
                  refine call_con (ρ := []) hwakes ⟨by rfl, by rfl, by rfl, by cbv; exact ⟨fun _ => rfl, trivial⟩⟩ ?_
                  rintro v H R js4 ⟨rfl, rfl, rfl⟩
                  cbv
                  all_goals first | exact fun _ => rfl | exact ⟨fun _ => rfl, trivial⟩ | exact ⟨fun _ => rfl, fun _ => rfl⟩ | trace_state
  · have h1 := table_bad l log cap hl hlog hR
    refine con_gen (con_cut 2 (by simp) (con_drop (con_walk hmix fn8 ?_)))
    intro vb vc vw vtoN vofN vaddN vsubN vmaxI vminI vcutN vgd vst vln vrep vsub vonto vsplice vstrEq vbyteV vnotB veqB hw qb qc qw qtoN qofN qaddN qsubN qmaxI qminI qcutN qgd qst qln qrep qsub qonto qsplice qstrEq qbyteV qnotB qeqB
    have hm := hmix; generalize Try.prog = P at *
    have hself : ∀ x, vc .eql x x = true := fun x => by rw [qc, eql_true]
    generalize l.length = n at *
    generalize sy.length = m at *
    have h70 : vc .neq 70 0 = true := by rw [qc]; rfl
    cbv
    refine call_con (ρ := [(0, .z)]) h1 ⟨by rfl, by rfl, by rfl, by cbv; exact ⟨view_refl _, trivial⟩⟩ ?_
    rintro v H R js ⟨rfl, rfl, rfl⟩
    cbv
    rw [h70]
    cbv
    refine call_con (ρ := []) hwakes ⟨by rfl, by rfl, by rfl, by cbv⟩ ?_
    rintro v H R js4 ⟨rfl, rfl, rfl⟩
    cbv
theorem own : ownKnob Try.prog.godebug = none := by kernel_rfl
set_option maxRecDepth 100000 in
theorem lifted (os : Os) (started : os.Started) (H : Type) (enc : TypeId × Value → H) :
    ReturnsInHanded {} Try.checked os 8 .any (Rows.statesCarrySpec.pre6 enc Try.prog Try.f8 Rows.statesCarryRow.domain false) (Rows.statesCarrySpec.post enc Try.prog Try.f8 false true false false) := by
  refine returnsInHanded_of_change (C := Try.checked) own started (by kernel_rfl) Try.func8
    (ChangeSpec.witness6 (enc := enc) (C := Try.checked) false ⟨#[], #[.slice none 0 0, .int .i64 0, .slice none 0 0], []⟩ 8 (by kernel_rfl) (by kernel_rfl) (by kernel_rfl) (by kernel_rfl)) ?_
  intro W base args ds gs before hval0 hW hcnd _
  have hval : ∀ (j : Nat) t v, Try.f8.params[j]? = some t → args[j]? = some v → Value.okWide Try.prog W .any base t v := hval0
  have hW' := hW
  obtain ⟨p, q, hA0, hV, rfl, hfz, hnd⟩ := hW
  have hA : DataW.TrodAll enc Try.prog W 0 (fun _ => true) true Try.f8.params.toList args.toList ds p := hA0
  rw [Try.params8] at hA hval
  obtain ⟨v0, vs0, d0, ds0, p0, q0, hargs0, rfl, rfl, h0, r0⟩ := trodAll_cons hA
  obtain ⟨v1, vs1, d1, ds1, p1, q1, hargs1, rfl, rfl, h1, r1⟩ := trodAll_cons r0
  obtain ⟨v2, vs2, d2, ds2, p2, q2, hargs2, rfl, rfl, h2, r2⟩ := trodAll_cons r1
  obtain ⟨rfl, rfl, rfl⟩ := trodAll_nil r2
  obtain rfl : args = #[v0, v1, v2] := by cases args; simp_all
  obtain ⟨rfl, rfl⟩ := trodVars_none hV
  obtain ⟨s0, l0, cap0, rfl, lt0, ho0, hw0, hc0, hm0⟩ := arg_ints (P := Try.prog) Try.underlying34 Try.underlying47 (by kernel_rfl) (hval 0 34 v0 rfl rfl) h0
  obtain ⟨a1, rfl, rfl, rfl, w1⟩ := open_int Try.underlying3 (hval 1 3 v1 rfl rfl) h1
  obtain ⟨s2, l2, cap2, rfl, lt2, ho2, hw2, hc2, hm2⟩ := arg_ints (P := Try.prog) Try.underlying23 Try.underlying5 (by kernel_rfl) (hval 2 23 v2 rfl rfl) h2
  refine (con_below (law_con l0 a1 l2 cap0 cap2 (fun x hx => wf_i16 (hw0 x hx)) (wf_i64 w1) (fun x hx => wf_u8 (hw2 x hx))) (by intro B hB; simp at hB; rcases hB with rfl | rfl <;> rfl) (ok_args [(s0, .ro .i16 l0), (s2, .ro .u8 l2)] (by intro e he; simp at he; rcases he with rfl | rfl; exact ⟨lt0, rfl, ho0⟩; exact ⟨lt2, rfl, ho2⟩))).mono fun e W' ⟨he, hb⟩ => ⟨_, he, ?_⟩
  exact law_post hW' rfl (by kernel_rfl) Try.underlying4 (by kernel_rfl) (by kernel_rfl) rfl rfl rfl hb

theorem over : Rows.statesCarryRow.holds Try.pinned (OpenSpec.ofChange Rows.statesCarrySpec) :=
  OpenClaim.holds_of_wide 8 Try.f8 rfl rfl rfl rfl rfl rfl rfl ⟨rfl, rfl, rfl, rfl, rfl⟩ rfl rfl rfl rfl rfl (by kernel_rfl) Try.func8 (by kernel_rfl)
    (of_decide_eq_true (by kernel_rfl)) (by unfold Func.isWrapper; first | (rw [if_pos (by decide +kernel)]; kernel_rfl) | (rw [if_neg (by decide +kernel)]; exact ⟨rfl, rfl⟩))
    (fun os started H enc _ => lifted os started H enc)

theorem proved : Rows.StatesCarrySaid :=
  over
#print axioms proved
end Go.Proofs.Ytodobmkflimfkaa.statesCarry
