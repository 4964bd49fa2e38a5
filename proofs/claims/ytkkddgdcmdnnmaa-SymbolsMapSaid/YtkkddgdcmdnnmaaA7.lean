import Derived.Test.YtkkddgdcmdnnmaaA6
import Derived.Test.YtkkddgdcmdnnmaaA2
import Derived.Test.YtkkddgdcmdnnmaaA4
import Derived.Test.YtkkddgdcmdnnmaaA5
set_option linter.unusedVariables false
set_option linter.unusedSimpArgs false
namespace Go.Proofs.Ytkkddgdcmdnnmaa
open Go Go.Sx Go.Proofs
set_option maxRecDepth 10000
set_option maxHeartbeats 40000000
theorem refmap_one (b : List Int) (cap pos : Nat) (pI trees size : Int) (hby : ∀ x ∈ b, isByte x) (hl : b.length ≤ 2 ^ 50) (hp : pos ≤ 8 * b.length) (hpI : pI = pos) (ht : 2 ≤ trees ∧ trees ≤ 256) (hs : 1 ≤ size ∧ size ≤ 16384) (hc : ∀ runs q c q2, runsR b pos = .ok (runs, q) → readR b (trees + runs) q = .ok (c, q2) → ∃ z, c = .inl z) :
  Con Try.prog 21 [.ptr 0 .z 2 0, .int .i64 trees, .int .i64 size] [.one 41 [.slice 1 .z 1 b.length cap, .int .i64 pI], .ro .u8 b] (RefMap b (mapR b trees size pos) (fun p => [.one 41 [.slice 1 .z 1 b.length cap, .int .i64 p], .ro .u8 b])) := by
 have gn := fun (n : Nat) (nI : Int) (pos : Nat) (pI : Int) hp hpI hnI hn => refgt_con b cap pos n pI nI hby hl hp hpI hnI hn
 have gr := fun (s : Int) (pos : Nat) (pI : Int) hp hpI => refread_con b cap pos pI s hby hl hp hpI
 have nx1 := fun (pI one : Int) => refnext_one b b.length cap pI one
 have nx2 := fun (l : List Int) (cap2 pos : Nat) (pI : Int) hp hpI hR h0 hm => refnext_len l b cap cap2 l.length pos pI 0 hby hl hp hpI hR h0 hm
 have hmove := moved_con
 have go15 := Try.call15
 have hgt : ∀ n p x q, gt b n p = .ok (x, q) → 0 ≤ x ∧ x < 2 ^ n ∧ q ≤ 8 * b.length := fun n p x q h => by have := gt_ok h; omega
 have hrd : ∀ s p c q, 1 ≤ s ∧ s ≤ 1024 → p ≤ 8 * b.length → readR b s p = .ok (c, q) → CodeOk s c ∧ q ≤ 8 * b.length := fun s p c q h1 h2 h => readR_ok h1 h2 h
 have herr : ∀ s p e, readR b s p = .error e → e ≠ 0 := fun s p e h => by
  rcases readR_err h with rfl | rfl <;> decide
 have nxr := fun s c (h0 : 0 ≤ s) (hc : CodeOk s c) p q x hp h => @nxC_range b s c h0 hc p q x hp h
 have ra0 : ∀ e, gt b 1 pos = .error e → runsR b pos = .error e := fun e h => by unfold runsR; rw [h]
 have ra1 : ∀ x q, gt b 1 pos = .ok (x, q) → x ≠ 1 → runsR b pos = .ok (0, q) := fun x q h h1 => by unfold runsR; rw [h]; simp only [if_neg h1]
 have ra2 : ∀ q e, gt b 1 pos = .ok (1, q) → gt b 4 q = .error e → runsR b pos = .error e := fun q e h h2 => by unfold runsR; rw [h]; simp [h2]
 have ra3 : ∀ q y q2, gt b 1 pos = .ok (1, q) → gt b 4 q = .ok (y, q2) → runsR b pos = .ok (1 + y, q2) := fun q y q2 h h2 => by unfold runsR; rw [h]; simp [h2]
 have m0 : ∀ e, runsR b pos = .error e → mapR b trees size pos = .error e := fun e h => by unfold mapR; rw [h]
 have m1 : ∀ runs q e, runsR b pos = .ok (runs, q) → readR b (trees + runs) q = .error e → mapR b trees size pos = .error e := fun runs q e h h1 => by unfold mapR; rw [h]; simp only [h1]
 have m2 : ∀ runs q c q2 e, runsR b pos = .ok (runs, q) → readR b (trees + runs) q = .ok (c, q2) → mpL b (nxR b c) runs size (size.toNat + 1) q2 [] = .error e → mapR b trees size pos = .error e := fun runs q c q2 e h h1 h2 => by unfold mapR; rw [h]; simp only [h1, h2]
 have m3 : ∀ runs q c q2 l q3, runsR b pos = .ok (runs, q) → readR b (trees + runs) q = .ok (c, q2) → mpL b (nxR b c) runs size (size.toNat + 1) q2 [] = .ok (l, q3) → mapR b trees size pos = endR5 b trees l q3 := fun runs q c q2 l q3 h h1 h2 => by unfold mapR; rw [h]; simp only [h1, h2]
 have d0 : ∀ l q e, gt b 1 q = .error e → endR5 b trees l q = .error e := fun l q e h => by unfold endR5; rw [h]
 have d1 : ∀ l q q2, gt b 1 q = .ok (1, q2) → ¬ (∀ n ∈ mvS row0 l, n < trees) → endR5 b trees l q = .error 11 := fun l q q2 h h1 => by unfold endR5; rw [h]; simp only [if_true, if_neg h1]
 have d2 : ∀ l q q2, gt b 1 q = .ok (1, q2) → (∀ n ∈ mvS row0 l, n < trees) → endR5 b trees l q = .ok (mvS row0 l, q2) := fun l q q2 h h1 => by unfold endR5; rw [h]; simp only [if_true, if_pos h1]
 have d3 : ∀ l q m q2, gt b 1 q = .ok (m, q2) → m ≠ 1 → ¬ (∀ n ∈ l, n < trees) → endR5 b trees l q = .error 11 := fun l q m q2 h hm h1 => by unfold endR5; rw [h]; simp only [if_neg hm, if_neg h1]
 have d4 : ∀ l q m q2, gt b 1 q = .ok (m, q2) → m ≠ 1 → (∀ n ∈ l, n < trees) → endR5 b trees l q = .ok (l, q2) := fun l q m q2 h hm h1 => by unfold endR5; rw [h]; simp only [if_neg hm, if_pos h1]
 have f_end := fun (nx : Nat → Except Int (Int × Nat)) (runs : Int) (k p : Nat) (l : List Int) => @mpL_end b nx runs size k p l
 have f_e := fun (nx : Nat → Except Int (Int × Nat)) (runs : Int) (k p : Nat) (l : List Int) (e : Int) => @mpL_e b nx runs size k p l e
 have f_a := fun (nx : Nat → Except Int (Int × Nat)) (runs : Int) (k p q : Nat) (l : List Int) (x : Int) => @mpL_a b nx runs size k p q l x
 have f_z := fun (nx : Nat → Except Int (Int × Nat)) (runs : Int) (k p q : Nat) (l : List Int) (x : Int) => @mpL_z b nx runs size k p q l x
 have f_g := fun (nx : Nat → Except Int (Int × Nat)) (runs : Int) (k p q : Nat) (l : List Int) (x e : Int) => @mpL_g b nx runs size k p q l x e
 have f_p := fun (nx : Nat → Except Int (Int × Nat)) (runs : Int) (k p q q2 : Nat) (l : List Int) (x y : Int) => @mpL_p b nx runs size k p q q2 l x y
 have f_r := fun (nx : Nat → Except Int (Int × Nat)) (runs : Int) (k p q q2 : Nat) (l : List Int) (x y : Int) => @mpL_r b nx runs size k p q q2 l x y
 have hmv_len := fun l => mvS_len l row0
 have hmv_mem := fun l h => mvS_mem l row0 row0_len row0_mem h
 generalize mapR b trees size pos = r at *
 generalize endR5 b trees = EN at *
 generalize runsR b pos = RR at *
 generalize readR b = RD at *
 generalize mpL b = ML at *
 generalize mvS row0 = MV at *
 generalize hGT : gt b = GT at *
 clear hGT
 refine con_gen (con_picks (con_drop (con_walk hmix fn21 ?_)))
 intro vb vc vw vtoN vofN vaddN vsubN vmaxI vminI vcutN vgd vst vln vrep vsub vonto vsplice vstrEq vbyteV vnotB veqB hw qb qc qw qtoN qofN qaddN qsubN qmaxI qminI qcutN qgd qst qln qrep qsub qonto qsplice qstrEq qbyteV qnotB qeqB
 have hm := hmix; generalize Try.prog = P at *
 obtain ⟨bl, hbl⟩ : ∃ bl, bl = b.length := ⟨_, rfl⟩
 unfold RefR at gn
 unfold RefCode at gr
 unfold RefMap
 rw [← hbl] at hp hgt hrd
 simp only [← hbl] at gn gr nx1 nx2 ⊢
 clear hl hby
 have g1 := gn 1 1 pos pI hp hpI rfl (by decide)
 have hto : ∀ i : Nat, vtoN (i : Int) = i := fun i => by simp only [qtoN, Int.toNat_natCast]
 have hadd0 : ∀ i, vaddN 0 i = i := fun i => by simp only [qaddN, Nat.zero_add]
 have hlnq : ∀ l, vln l = l.length := fun l => by rw [qln]
 have hgd : ∀ l j, vgd l j = l.getD j 0 := fun l j => by rw [qgd]
 have e00 : vc .neq 0 0 = false := by rw [qc]; rfl
 have ez0 : vc .eql 0 0 = true := by rw [qc]; rfl
 have e1 : vc .lss trees 2 = false := by rw [qc, lss_false]; omega
 have e2 : vc .gtr trees 256 = false := by rw [qc, gtr_false]; omega
 have e3 : vc .lss size 1 = false := by rw [qc, lss_false]; omega
 have e4 : vc .gtr size 16384 = false := by rw [qc, gtr_false]; omega
 cbv
 rw [e1]
 cbv
 rw [e2]
 cbv
 rw [e3]
 cbv
 rw [e4]
 cbv
 refine call_con (ρ := [(0, .z), (1, .z)]) g1 ⟨by rfl, by rfl, by rfl, by cbv; exact ⟨view_refl _, trivial⟩⟩ ?_
 rintro v H R js ⟨rfl, q0, qI0, hq0, hq08, rfl, ⟨x0, hg, rfl⟩ | ⟨e, hg, he0, he1, rfl⟩⟩
 rotate_left
 ·have hk := m0 e (ra0 e hg)
  have ene : vc .neq e 0 = true := by rw [qc, neq_true]; omega
  have eqe : vc .eql e 0 = false := by rw [qc, eql_false]; omega
  cbv
  rw [eqe]
  cbv
  rw [ene]
  cbv
  exact ⟨[0, 1], .tup [.val (.slice none 0 0), .int .i64 e], [.one 41 [.slice 1 .z 1 bl cap, .int .i64 qI0], .ro .u8 b], rfl, rfl, rfl, rfl, ⟨rfl, rfl, trivial⟩, rfl, q0, qI0, hq0, hq08, .inr ⟨e, hk, he0, he1, rfl, rfl⟩⟩
 have hx0 := hgt 1 pos x0 q0 hg
 have hqq0 : qI0 = (q0 : Int) := hq0

 refine' key4 _ (fun (js7 : Nat → Value) (runs tr qI1 : Int) => ∃ q1 : Nat, RR = .ok (runs, q1) ∧ (0 ≤ runs ∧ runs ≤ 16) ∧ tr = trees + runs ∧ qI1 = (q1 : Int) ∧ q1 ≤ 8 * bl) (fun key => ?_) ?_
 rotate_left
 ·by_cases hx1 : x0 = 1
  ·subst hx1
   have e11 : vc .eql 1 1 = true := by rw [qc]; rfl
   have g4 := gn 4 4 q0 qI0 hq08 hq0 rfl (by decide)
   cbv
   rw [ez0]
   cbv
   rw [e11]
   cbv
   refine call_con (ρ := [(0, .z), (1, .z)]) g4 ⟨by rfl, by rfl, by rfl, by cbv; exact ⟨view_refl _, trivial⟩⟩ ?_
   rintro v H R js2 ⟨rfl, q1, qI1, hq1, hq18, rfl, ⟨y0, hg4, rfl⟩ | ⟨e, hg4, he0, he1, rfl⟩⟩
   rotate_left
   ·have hk := m0 e (ra2 q0 e hg hg4)
    have ene : vc .neq e 0 = true := by rw [qc, neq_true]; omega
    cbv
    rw [ene]
    cbv
    exact ⟨[0, 1], .tup [.val (.slice none 0 0), .int .i64 e], [.one 41 [.slice 1 .z 1 bl cap, .int .i64 qI1], .ro .u8 b], rfl, rfl, rfl, rfl, ⟨rfl, rfl, trivial⟩, rfl, q1, qI1, hq1, hq18, .inr ⟨e, hk, he0, he1, rfl, rfl⟩⟩
   have hy0 := hgt 4 q0 y0 q1 hg4
   obtain ⟨runs, hruns⟩ : ∃ runs : Int, runs = 1 + y0 := ⟨_, rfl⟩
   have hRR := ra3 q0 y0 q1 hg hg4
   rw [← hruns] at hRR
   have hrr : 0 ≤ runs ∧ runs ≤ 16 := by omega
   have ewy0 : vw .i64 y0 = y0 := by rw [qw]; exact wrap_i64 (by omega) (by omega)
   have erun : vb .add .i64 y0 1 = runs := by rw [qb, add_i64 (by omega) (by omega)]; omega
   obtain ⟨tr, htr⟩ : ∃ tr : Int, tr = trees + runs := ⟨_, rfl⟩
   have etr : vb .add .i64 trees runs = tr := by rw [qb, add_i64 (by omega) (by omega)]; exact htr.symm
   cbv
   rw [e00]
   cbv
   rw [ewy0, erun, etr]
   refine CallX.cv go15 (Cv.hav (8 :: 9 :: (List.range' 32 27)) fun js7 => Cv.genAt [10] [] (Cv.here ?_)) (by rfl)
   cbv
   exact key js7 runs tr qI1 ⟨q1, hRR, hrr, htr, hq1, hq18⟩
  ·have e11 : vc .eql x0 1 = false := by rw [qc, eql_false]; exact hx1
   have hRR := ra1 x0 q0 hg hx1
   obtain ⟨tr, htr⟩ : ∃ tr : Int, tr = trees + 0 := ⟨_, rfl⟩
   have etr : vb .add .i64 trees 0 = tr := by rw [qb, add_i64 (by omega) (by omega)]; omega
   cbv
   rw [ez0]
   cbv
   rw [e11]
   cbv
   rw [e00]
   cbv
   rw [etr]
   refine CallX.cv go15 (Cv.hav (8 :: 9 :: (List.range' 32 27)) fun js7 => Cv.genAt [10] [] (Cv.here ?_)) (by rfl)
   cbv
   exact key js7 0 tr qI0 ⟨q0, hRR, by decide, htr, hq0, hq08⟩
 rintro js7 runs tr qI1 ⟨q1, hRR, hrr, htr, hq1, hq18⟩
 have hgr := gr tr q1 qI1 hq18 hq1
 rw [if_pos (show 1 ≤ tr ∧ tr ≤ 1024 by omega)] at hgr
 refine call_con (ρ := [(0, .z), (1, .z)]) hgr ⟨by rfl, by rfl, by rfl, by cbv; exact ⟨view_refl _, trivial⟩⟩ ?_
 rintro v H R js3 ⟨rfl, q2, qI2, hq2, hq28, ⟨one, hXe, rfl, rfl⟩ | ⟨L, cp, hXe, rfl, rfl⟩ | ⟨e, hXe, he0, he1, rfl, rfl⟩⟩
 ·rw [htr] at hXe
  have hcode := hrd _ _ _ _ (by omega) hq18 hXe
  have hnx : ∀ (p : Nat) (pI : Int), pI = p → p ≤ 8 * bl → Con P 17 [.ptr 0 .z 2 0, .agg [.val (.slice none 0 0), .val (.slice none 0 0), .int .i64 one]] [.one 41 [.slice 1 .z 1 bl cap, .int .i64 pI], .ro .u8 b] (fun v H R => R = [] ∧ ∃ (q : Nat) (qI : Int), qI = q ∧ q ≤ 8 * bl ∧ H = [.one 41 [.slice 1 .z 1 bl cap, .int .i64 qI], .ro .u8 b] ∧ ((∃ x, nxR b (.inl one) p = .ok (x, q) ∧ v = .tup [.int .i64 x, .int .i64 0]) ∨ ∃ e, nxR b (.inl one) p = .error e ∧ 0 < e ∧ e < 100 ∧ v = .tup [.int .i64 0, .int .i64 e])) := fun p pI h1 h2 => by
   refine (nx1 pI one).mono ?_
   rintro v H R ⟨rfl, rfl, rfl⟩
   exact ⟨rfl, p, pI, h1, h2, rfl, .inl ⟨one, rfl, rfl⟩⟩
  obtain ⟨S, hS⟩ : ∃ S, S = size.toNat := ⟨_, rfl⟩
  have hSs : (S : Int) = size := by omega
  have m2 := fun e => m2 runs q1 (.inl one) q2 e hRR hXe
  have m3 := fun l q3 => m3 runs q1 (.inl one) q2 l q3 hRR hXe
  rw [← hS] at m2 m3
  have f_end := f_end (nxR b (.inl one)) runs
  have f_e := f_e (nxR b (.inl one)) runs
  have f_a := f_a (nxR b (.inl one)) runs
  have f_z := f_z (nxR b (.inl one)) runs
  have f_g := f_g (nxR b (.inl one)) runs
  have f_p := f_p (nxR b (.inl one)) runs
  have f_r := f_r (nxR b (.inl one)) runs
  have hnr := fun p q x => nxr (trees + runs) (.inl one) (by omega) hcode.1 p q x
  rw [← hbl] at hnr
  clear hbl
  obtain ⟨NX, hNX⟩ : ∃ NX, NX = nxR b (.inl one) := ⟨_, rfl⟩
  rw [← hNX] at m2 m3 f_end f_e f_a f_z f_g f_p f_r hnx hnr
  obtain ⟨F, hF⟩ : ∃ F, F = ML NX runs size := ⟨_, rfl⟩
  rw [← hF] at m2 m3 f_end f_e f_a f_z f_g f_p f_r
  obtain ⟨r1, hr1⟩ : ∃ r1, F (S + 1) q2 [] = r1 := ⟨_, rfl⟩
  rw [hr1] at m2 m3
  have hqq2 : qI2 = (q2 : Int) := hq2
  clear hNX hF nx1 nx2 gr hrd nxr hgr hcode g1 ra0 ra1 ra2 ra3 m0 m1
  cbv
  rw [e00]
  cbv
  refine WX.cv (Cv.nilT 12 5 .u8 (by rfl) (by cbv) (Cv.here ?_))
  refine loop_fam (α := List Int × Nat × Nat × Nat × Int) (([13, 14, 15, 16] ++ (List.range' 65 26)) ++ ((List.range' 91 20) ++ (List.range' 111 15))) [3]
   (fun (l, rl, c, p, pI) => [(12, .slice 3 .z 1 rl c)])
   (fun (l, rl, c, p, pI) => [(0, .one 41 [.slice 1 .z 1 bl cap, .int .i64 pI]), (3, .buf 5 .u8 l c)])
   (fun (l, rl, c, p, pI) => ∃ k : Nat, F (k + 1) p l = r1 ∧ S + 1 - rl ≤ k + 1 ∧ rl = l.length ∧ rl ≤ c ∧ rl ≤ S ∧ pI = p ∧ p ≤ 8 * bl ∧ ∀ x ∈ l, isT x)
   (fun (l, rl, c, p, pI) => S - rl) hw hm ?_ ?_
  ·refine Cv.genAt [] [0] (Cv.fold (([13, 14, 15, 16] ++ (List.range' 65 26)) ++ ((List.range' 91 20) ++ (List.range' 111 15))) 4 [3] (by exact Nat.le_refl _) (by exact Nat.le_of_ble_eq_true rfl) (by rfl) (by cbv) ?_)
   intro js
   refine ⟨(_, _, _, q2, _), ?_, js, rfl⟩
   exact ⟨S, hr1, by omega, rfl, Nat.le_refl _, Nat.zero_le _, hqq2, hq28, fun x hx => by cases hx⟩
  rintro ⟨l, rl, c, p, pI⟩ js5 ⟨k, hFk, hkS, hrl, hrc, hrS, hpI, hp5, hlT⟩
  obtain ⟨rlI, hrlI⟩ : ∃ rlI : Int, rlI = rl := ⟨_, rfl⟩
  have hofn : vofN rl = rlI := by rw [qofN]; exact hrlI.symm
  have hlI : rlI = (l.length : Int) := by rw [hrlI, hrl]
  have hSs : (S : Int) = size := hSs
  have hcA : rl < S → vc .lss rlI size = true := fun h => by rw [qc, lss_true]; omega
  have hcB : ¬ rl < S → vc .lss rlI size = false := fun h => by rw [qc, lss_false]; omega
  have hlA : rl < S → (l.length : Int) < size := fun h => by omega
  have hlB : ¬ rl < S → ¬ (l.length : Int) < size := fun h => by omega
  have hsz : size ≤ 16384 := hs.2
  have hrlb : 0 ≤ rlI ∧ rlI ≤ 16384 := by omega
  have hfit1 : rl + 1 ≤ 140737488355328 := by omega
  have hnxp := hnx p pI hpI hp5
  have hvl : vln l = rl := by rw [hlnq, hrl]
  have g1 := gn 1 1 p pI hp5 hpI rfl (by decide)
  have hrlS : ¬ rl < S → rl = S := fun h => Nat.le_antisymm hrS (Nat.le_of_not_lt h)
  have hrl16 : rl ≤ 16384 := by omega
  have hrl0 : ¬ rl < S → 0 < rl := fun h => by omega
  cbv
  rw [hofn]
  by_cases hlt : rl < S
  rotate_left
  ·have hr1' : r1 = .ok (l, p) := by rw [← hFk]; exact f_end k p l (hlB hlt)
   have m3 := m3 _ _ hr1'
   rw [hcB hlt]
   clear hcA hcB hlA hlB f_end f_e f_a f_z f_g f_p f_r hnx hnxp hnr
   cbv
   refine call_con (ρ := [(0, .z), (1, .z)]) g1 ⟨by rfl, by rfl, by rfl, by cbv; exact ⟨view_refl _, trivial⟩⟩ ?_
   rintro v H R js6 ⟨rfl, q7, qI7, hq7, hq78, rfl, ⟨m, hgm, rfl⟩ | ⟨e, hge, he0, he1, rfl⟩⟩
   rotate_left
   ·rw [d0 l _ _ hge] at m3
    have ene : vc .neq e 0 = true := by rw [qc, neq_true]; omega
    cbv
    rw [ene]
    cbv
    exact ⟨[0, 1], .tup [.val (.slice none 0 0), .int .i64 e], [.one 41 [.slice 1 .z 1 bl cap, .int .i64 qI7], .ro .u8 b], rfl, rfl, rfl, rfl, ⟨rfl, rfl, trivial⟩, rfl, q7, qI7, hq7, hq78, .inr ⟨e, m3, he0, he1, rfl, rfl⟩⟩
   have hrl0 := hrl0 hlt
   by_cases hm1 : m = 1
   ·subst hm1
    have d1 := d1 l _ _ hgm
    have d2 := d2 l _ _ hgm
    rw [← m3] at d1 d2
    have hmovl := hmove l c (by rw [← hrl]; exact hrl16) hlT (by rw [← hrl]; exact hrl0)
    obtain ⟨l2, hl2⟩ : ∃ l2, l2 = MV l := ⟨_, rfl⟩
    have hl2l : rl = l2.length := by rw [hl2, hmv_len]; exact hrl
    have hl2T : ∀ x ∈ l2, isT x := by rw [hl2]; exact hmv_mem l hlT
    rw [← hl2] at d1 d2 hmovl
    rw [← hrl] at hmovl
    have e11 : vc .eql 1 1 = true := by rw [qc]; rfl
    cbv
    rw [e00]
    cbv
    rw [e11]
    cbv
    refine call_con (ρ := [(3, .z)]) hmovl ⟨by rfl, by rfl, by rfl, by cbv; exact ⟨view_refl _, trivial⟩⟩ ?_
    rintro v H R js7 ⟨cz, rfl, rfl, rfl⟩
    have hvl2 : vln l2 = rl := by rw [hlnq]; exact hl2l.symm
    cbv
    refine loop_fam (α := Int) ((List.range' 138 13)) [3] (fun k => [(17, .int .i64 k)]) (fun _ => [])
     (fun k => ∃ i : Nat, k = i ∧ i ≤ rl ∧ ∀ j, j < i → l2.getD j 0 < trees) (fun k => rl - k.toNat) hw hm ?_ ?_
    ·refine Cv.genAt [17] [] (Cv.fold ((List.range' 138 13)) 5 [3] (by exact Nat.le_refl _) (by exact Nat.le_of_ble_eq_true rfl) (by rfl) (by cbv) ?_)
     intro js
     refine ⟨_, ?_, js, rfl⟩
     exact ⟨0, rfl, Nat.zero_le _, fun j hj => absurd hj (Nat.not_lt_zero _)⟩
    rintro kk js9 ⟨i, hk, hi, hall⟩
    have hk : kk = (i : Int) := hk
    have hrlI : rlI = (rl : Int) := hrlI
    have hti : vtoN kk = i := by rw [hk]; exact hto i
    have hc1 : i < rl → vc .lss kk rlI = true := fun h => by rw [qc, lss_true]; omega
    have hc2 : ¬ i < rl → vc .lss kk rlI = false := fun h => by rw [qc, lss_false]; omega
    obtain ⟨kn, hkn⟩ : ∃ kn : Int, kn = ((i + 1 : Nat) : Int) := ⟨_, rfl⟩
    have hkkb : kk ≤ 16384 ∧ 0 ≤ kk := by
     have hrlb : 0 ≤ rlI ∧ rlI ≤ 16384 := hrlb
     omega
    have ek : vb .add .i64 kk 1 = kn := by rw [qb, add_i64 (by omega) (by omega)]; omega
    have hmu : i < rl → rl - kn.toNat < rl - kk.toNat := fun h => lp_mu6 hk hkn h
    have hR : i < rl → 0 ≤ kk ∧ kk < ((rl : Nat) : Int) := fun h => by omega
    obtain ⟨n, hn⟩ : ∃ n, n = l2.getD i 0 := ⟨_, rfl⟩
    have hlg : vgd l2 i = n := by rw [hgd, hn]
    have hnT : i < rl → isT n := fun h => hl2T n (by rw [hn, List.getD_eq_getElem?_getD, List.getElem?_eq_getElem (by omega)]; simp)
    cbv
    rw [hofn]
    by_cases hlt2 : i < rl
    ·have hnT := hnT hlt2
     have hn0 : 0 ≤ n ∧ n < 256 := hnT
     have ewn : vw .i64 n = n := by rw [qw]; exact wrap_i64 (by omega) (by omega)
     have hmu := hmu hlt2
     have hR := hR hlt2
     have hmem : n ∈ l2 := by rw [hn, List.getD_eq_getElem?_getD, List.getElem?_eq_getElem (by rw [← hl2l]; exact hlt2)]; simp
     rw [hc1 hlt2]
     cbv
     rw [hti, hadd0, hlg, ewn]
     refine ⟨⟨hR⟩, ⟨by rw [hvl2]; exact hlt2⟩, ⟨by rw [hvl2]; exact hlt2⟩, ?_⟩
     by_cases hz2 : n < trees
     rotate_left
     ·have hk := d1 (fun h => hz2 (h n hmem))
      have ege : vc .geq n trees = true := by rw [qc, geq_true]; omega
      rw [ege]
      cbv
      exact ⟨[0, 1], .tup [.val (.slice none 0 0), .lit .i64 11], [.one 41 [.slice 1 .z 1 bl cap, .int .i64 qI7], .ro .u8 b], rfl, rfl, rfl, rfl, ⟨rfl, rfl, trivial⟩, rfl, q7, qI7, hq7, hq78, .inr ⟨11, hk, by decide, by decide, rfl, rfl⟩⟩
     have ege : vc .geq n trees = false := by rw [qc, geq_false]; omega
     rw [ege]
     cbv
     rw [ek]
     refine Cv.fold ((List.range' 138 13)) 5 [3] (by exact Nat.le_refl _) (by exact Nat.le_of_ble_eq_true rfl) (by rfl) (by cbv) ?_
     intro js
     refine ⟨_, ?_, js, rfl⟩
     refine ⟨⟨i + 1, hkn, hlt2, fun j hj => ?_⟩, hmu⟩
     rcases Nat.lt_or_ge j i with h | h
     ·exact hall j h
     ·obtain rfl : j = i := Nat.le_antisymm (Nat.le_of_lt_succ hj) h
      rw [← hn]; exact hz2
    ·have hin : i = rl := Nat.le_antisymm hi (Nat.le_of_not_lt hlt2)
     have hall2 : ∀ n ∈ l2, n < trees := fun n hn => by
      obtain ⟨j, hj, rfl⟩ := List.getElem_of_mem hn
      have := hall j (by rw [hin, hl2l]; exact hj)
      rwa [List.getD_eq_getElem?_getD, List.getElem?_eq_getElem hj] at this
     have hk := d2 hall2
     rw [hc2 hlt2]
     cbv
     clear hvl hrl hrc hrS hofn hrlI hvl2 hlI hFk hkS hc1 hc2 hR hmu hnT hrlb hfit1 hrlS hin hi hlt hlt2 hrl16 hrl0 hmovl
     subst hl2l
     exact ⟨[0, 1, 4], .tup [.slice 2 .z 1 l2.length cz, .lit .i64 0], [.one 41 [.slice 1 .z 1 bl cap, .int .i64 qI7], .ro .u8 b, .buf 5 .u8 l2 cz], rfl, rfl, rfl, rfl, ⟨rfl, rfl, rfl, trivial⟩, rfl, q7, qI7, hq7, hq78, .inl ⟨l2, cz, cz, hk, rfl, rfl⟩⟩
   ·have e11 : vc .eql m 1 = false := by rw [qc, eql_false]; exact hm1
    have d1 := d3 l _ _ _ hgm hm1
    have d2 := d4 l _ _ _ hgm hm1
    rw [← m3] at d1 d2
    obtain ⟨l2, hl2⟩ : ∃ l2, l2 = l := ⟨_, rfl⟩
    have hl2l : rl = l2.length := by rw [hl2]; exact hrl
    have hl2T : ∀ x ∈ l2, isT x := by rw [hl2]; exact hlT
    rw [← hl2] at d1 d2
    obtain ⟨cz, hcz⟩ : ∃ cz, cz = c := ⟨_, rfl⟩
    cbv
    rw [e00]
    cbv
    rw [e11, ← hl2, ← hcz]
    have hvl2 : vln l2 = rl := by rw [hlnq]; exact hl2l.symm
    cbv
    refine loop_fam (α := Int) ((List.range' 138 13)) [3] (fun k => [(17, .int .i64 k)]) (fun _ => [])
     (fun k => ∃ i : Nat, k = i ∧ i ≤ rl ∧ ∀ j, j < i → l2.getD j 0 < trees) (fun k => rl - k.toNat) hw hm ?_ ?_
    ·refine Cv.genAt [17] [] (Cv.fold ((List.range' 138 13)) 4 [3] (by exact Nat.le_refl _) (by exact Nat.le_of_ble_eq_true rfl) (by rfl) (by cbv) ?_)
     intro js
     refine ⟨_, ?_, js, rfl⟩
     exact ⟨0, rfl, Nat.zero_le _, fun j hj => absurd hj (Nat.not_lt_zero _)⟩
    rintro kk js9 ⟨i, hk, hi, hall⟩
    have hk : kk = (i : Int) := hk
    have hrlI : rlI = (rl : Int) := hrlI
    have hti : vtoN kk = i := by rw [hk]; exact hto i
    have hc1 : i < rl → vc .lss kk rlI = true := fun h => by rw [qc, lss_true]; omega
    have hc2 : ¬ i < rl → vc .lss kk rlI = false := fun h => by rw [qc, lss_false]; omega
    obtain ⟨kn, hkn⟩ : ∃ kn : Int, kn = ((i + 1 : Nat) : Int) := ⟨_, rfl⟩
    have hkkb : kk ≤ 16384 ∧ 0 ≤ kk := by
     have hrlb : 0 ≤ rlI ∧ rlI ≤ 16384 := hrlb
     omega
    have ek : vb .add .i64 kk 1 = kn := by rw [qb, add_i64 (by omega) (by omega)]; omega
    have hmu : i < rl → rl - kn.toNat < rl - kk.toNat := fun h => lp_mu6 hk hkn h
    have hR : i < rl → 0 ≤ kk ∧ kk < ((rl : Nat) : Int) := fun h => by omega
    obtain ⟨n, hn⟩ : ∃ n, n = l2.getD i 0 := ⟨_, rfl⟩
    have hlg : vgd l2 i = n := by rw [hgd, hn]
    have hnT : i < rl → isT n := fun h => hl2T n (by rw [hn, List.getD_eq_getElem?_getD, List.getElem?_eq_getElem (by omega)]; simp)
    cbv
    rw [hofn]
    by_cases hlt2 : i < rl
    ·have hnT := hnT hlt2
     have hn0 : 0 ≤ n ∧ n < 256 := hnT
     have ewn : vw .i64 n = n := by rw [qw]; exact wrap_i64 (by omega) (by omega)
     have hmu := hmu hlt2
     have hR := hR hlt2
     have hmem : n ∈ l2 := by rw [hn, List.getD_eq_getElem?_getD, List.getElem?_eq_getElem (by rw [← hl2l]; exact hlt2)]; simp
     rw [hc1 hlt2]
     cbv
     rw [hti, hadd0, hlg, ewn]
     refine ⟨⟨hR⟩, ⟨by rw [hvl2]; exact hlt2⟩, ⟨by rw [hvl2]; exact hlt2⟩, ?_⟩
     by_cases hz2 : n < trees
     rotate_left
     ·have hk := d1 (fun h => hz2 (h n hmem))
      have ege : vc .geq n trees = true := by rw [qc, geq_true]; omega
      rw [ege]
      cbv
      exact ⟨[0, 1], .tup [.val (.slice none 0 0), .lit .i64 11], [.one 41 [.slice 1 .z 1 bl cap, .int .i64 qI7], .ro .u8 b], rfl, rfl, rfl, rfl, ⟨rfl, rfl, trivial⟩, rfl, q7, qI7, hq7, hq78, .inr ⟨11, hk, by decide, by decide, rfl, rfl⟩⟩
     have ege : vc .geq n trees = false := by rw [qc, geq_false]; omega
     rw [ege]
     cbv
     rw [ek]
     refine Cv.fold ((List.range' 138 13)) 4 [3] (by exact Nat.le_refl _) (by exact Nat.le_of_ble_eq_true rfl) (by rfl) (by cbv) ?_
     intro js
     refine ⟨_, ?_, js, rfl⟩
     refine ⟨⟨i + 1, hkn, hlt2, fun j hj => ?_⟩, hmu⟩
     rcases Nat.lt_or_ge j i with h | h
     ·exact hall j h
     ·obtain rfl : j = i := Nat.le_antisymm (Nat.le_of_lt_succ hj) h
      rw [← hn]; exact hz2
    ·have hin : i = rl := Nat.le_antisymm hi (Nat.le_of_not_lt hlt2)
     have hall2 : ∀ n ∈ l2, n < trees := fun n hn => by
      obtain ⟨j, hj, rfl⟩ := List.getElem_of_mem hn
      have := hall j (by rw [hin, hl2l]; exact hj)
      rwa [List.getD_eq_getElem?_getD, List.getElem?_eq_getElem hj] at this
     have hk := d2 hall2
     rw [hc2 hlt2]
     cbv
     clear hvl hrl hrc hrS hofn hrlI hvl2 hlI hFk hkS hc1 hc2 hR hmu hnT hrlb hfit1 hrlS hin hi hlt hlt2 hrl16 hrl0
     subst hl2l
     exact ⟨[0, 1, 3], .tup [.slice 2 .z 1 l2.length cz, .lit .i64 0], [.one 41 [.slice 1 .z 1 bl cap, .int .i64 qI7], .ro .u8 b, .buf 5 .u8 l2 cz], rfl, rfl, rfl, rfl, ⟨rfl, rfl, rfl, trivial⟩, rfl, q7, qI7, hq7, hq78, .inl ⟨l2, cz, cz, hk, rfl, rfl⟩⟩
  have hlA := hlA hlt
  rw [hcA hlt]
  clear hcA hcB hlB f_end g1 d0 d1 d2 d3 d4 m3 hmv_len hmv_mem hmove
  cbv
  refine call_con (ρ := [(0, .z), (1, .z)]) hnxp ⟨by rfl, by rfl, by rfl, by cbv; exact ⟨view_refl _, trivial⟩⟩ ?_
  rintro v H R js6 ⟨rfl, q5, qI5, hq5, hq58, rfl, ⟨x, hgx, rfl⟩ | ⟨e, hge, he0, he1, rfl⟩⟩
  rotate_left
  ·have hS1 := f_e k p l e hlA hge
   rw [hFk] at hS1
   have hk := m2 _ hS1
   have ene : vc .neq e 0 = true := by rw [qc, neq_true]; omega
   cbv
   rw [ene]
   cbv
   exact ⟨[0, 1], .tup [.val (.slice none 0 0), .int .i64 e], [.one 41 [.slice 1 .z 1 bl cap, .int .i64 qI5], .ro .u8 b], rfl, rfl, rfl, rfl, ⟨rfl, rfl, trivial⟩, rfl, q5, qI5, hq5, hq58, .inr ⟨e, hk, he0, he1, rfl, rfl⟩⟩
  have hxr := hnr p q5 x hp5 hgx
  by_cases hxR : x > runs
  ·have hN := f_a k p q5 l x hlA hgx hxR
   rw [hFk] at hN
   have ez : vc .eql x 0 = false := by rw [qc, eql_false]; omega
   have eg : vc .gtr x runs = true := by rw [qc, gtr_true]; omega
   obtain ⟨y, hy⟩ : ∃ y : Int, y = x - runs := ⟨_, rfl⟩
   have ey : vb .sub .i64 x runs = y := by rw [qb, sub_i64 (by omega) (by omega)]; omega
   have emx : vmaxI y 0 = y := by rw [qmaxI]; show (if (0 : Int) > y then 0 else y) = y; rw [if_neg (by omega)]
   have ewy : vw .u8 y = y := by rw [qw]; exact wrap_u8 (by omega) (by omega)
   have hyT : isT y := ⟨by omega, by omega⟩
   rw [← hy] at hN
   have hsub : vsub [y] 0 1 = [y] := by simp only [qsub]; rfl
   have honto : vonto l rl [y] = l ++ [y] := by rw [qonto, hrl]; simp
   have ha1 : vaddN rl 1 = rl + 1 := by simp only [qaddN]
   have ha01 : vaddN 0 1 = 1 := by simp only [qaddN]
   have hln1 : vln [y] = 1 := by rw [hlnq]; rfl
   obtain ⟨l2, hl2⟩ : ∃ l2, l2 = l ++ [y] := ⟨_, rfl⟩
   rw [← hl2] at honto hN
   obtain ⟨rl2, hrl2⟩ : ∃ rl2, rl2 = rl + 1 := ⟨_, rfl⟩
   rw [← hrl2] at ha1 hfit1
   have hl2l : rl2 = l2.length := by rw [hrl2, hl2, List.length_append, ← hrl]; rfl
   have hl2S : rl2 ≤ S := by rw [hrl2]; exact hlt
   have hl2T : ∀ x ∈ l2, isT x := by rw [hl2]; exact isT_app hlT (isT_one hyT)
   have hltt : rl < rl2 := by rw [hrl2]; exact Nat.lt_succ_self _
   have hmu := lp_mu5 hltt hl2S
   have hk2 := lp_k5 hkS hltt hl2S
   have hkk : ∃ k2, k = k2 + 1 := ⟨k - 1, by omega⟩
   obtain ⟨k2, hkk⟩ := hkk
   cbv
   rw [e00]
   cbv
   rw [ez]
   cbv
   rw [eg]
   cbv
   rw [ey, emx, ewy]
   refine ⟨⟨by rw [ha01, hln1]; exact Nat.le_refl _⟩, ⟨by rw [hvl]; exact Nat.le_refl _⟩, ⟨Nat.le_refl _⟩, ⟨by rw [ha1]; omega⟩, ?_⟩
   intro c2 js9 hc2
   have hc3 : vaddN rl 1 ≤ c2 := hc2.1
   rw [ha1] at hc3
   cbv
   rw [hsub, honto, ha1]
   refine Cv.fold (([13, 14, 15, 16] ++ (List.range' 65 26)) ++ ((List.range' 91 20) ++ (List.range' 111 15))) 4 [3] (by exact Nat.le_refl _) (by exact Nat.le_of_ble_eq_true rfl) (by rfl) (by cbv) ?_
   intro js
   refine ⟨(_, _, _, q5, _), ?_, js, rfl⟩
   exact ⟨⟨k2, by rw [← hkk]; exact hN.symm, by rw [← hkk]; exact hk2, hl2l, hc3, hl2S, hq5, hq58, hl2T⟩, hmu⟩
  ·have eg : vc .gtr x runs = false := by rw [qc, gtr_false]; omega
   by_cases hx0 : x = 0
   ·have hN := f_z k p q5 l x hlA hgx hxR hx0
    rw [hFk] at hN
    have ez : vc .eql x 0 = true := by rw [qc, eql_true]; exact hx0
    obtain ⟨z, hz⟩ : ∃ z : Int, z = x - runs := ⟨_, rfl⟩
    have ey : vb .sub .i64 x runs = z := by rw [qb, sub_i64 (by omega) (by omega)]; omega
    obtain ⟨y, hy⟩ : ∃ y : Int, y = 0 := ⟨_, rfl⟩
    have emx : vmaxI z 0 = y := by rw [qmaxI]; show (if (0 : Int) > z then 0 else z) = y; split <;> omega
    have ewy : vw .u8 y = y := by rw [qw]; exact wrap_u8 (by omega) (by omega)
    have hyT : isT y := by rw [hy]; exact ⟨by decide, by decide⟩
    rw [← hy] at hN
    have hsub : vsub [y] 0 1 = [y] := by simp only [qsub]; rfl
    have honto : vonto l rl [y] = l ++ [y] := by rw [qonto, hrl]; simp
    have ha1 : vaddN rl 1 = rl + 1 := by simp only [qaddN]
    have ha01 : vaddN 0 1 = 1 := by simp only [qaddN]
    have hln1 : vln [y] = 1 := by rw [hlnq]; rfl
    obtain ⟨l2, hl2⟩ : ∃ l2, l2 = l ++ [y] := ⟨_, rfl⟩
    rw [← hl2] at honto hN
    obtain ⟨rl2, hrl2⟩ : ∃ rl2, rl2 = rl + 1 := ⟨_, rfl⟩
    rw [← hrl2] at ha1 hfit1
    have hl2l : rl2 = l2.length := by rw [hrl2, hl2, List.length_append, ← hrl]; rfl
    have hl2S : rl2 ≤ S := by rw [hrl2]; exact hlt
    have hl2T : ∀ x ∈ l2, isT x := by rw [hl2]; exact isT_app hlT (isT_one hyT)
    have hltt : rl < rl2 := by rw [hrl2]; exact Nat.lt_succ_self _
    have hmu := lp_mu5 hltt hl2S
    have hk2 := lp_k5 hkS hltt hl2S
    have hkk : ∃ k2, k = k2 + 1 := ⟨k - 1, by omega⟩
    obtain ⟨k2, hkk⟩ := hkk
    cbv
    rw [e00]
    cbv
    rw [ez]
    cbv
    rw [ey, emx, ewy]
    refine ⟨⟨by rw [ha01, hln1]; exact Nat.le_refl _⟩, ⟨by rw [hvl]; exact Nat.le_refl _⟩, ⟨Nat.le_refl _⟩, ⟨by rw [ha1]; omega⟩, ?_⟩
    intro c2 js9 hc2
    have hc3 : vaddN rl 1 ≤ c2 := hc2.1
    rw [ha1] at hc3
    cbv
    rw [hsub, honto, ha1]
    refine Cv.fold (([13, 14, 15, 16] ++ (List.range' 65 26)) ++ ((List.range' 91 20) ++ (List.range' 111 15))) 4 [3] (by exact Nat.le_refl _) (by exact Nat.le_of_ble_eq_true rfl) (by rfl) (by cbv) ?_
    intro js
    refine ⟨(_, _, _, q5, _), ?_, js, rfl⟩
    exact ⟨⟨k2, by rw [← hkk]; exact hN.symm, by rw [← hkk]; exact hk2, hl2l, hc3, hl2S, hq5, hq58, hl2T⟩, hmu⟩
   ·have ez : vc .eql x 0 = false := by rw [qc, eql_false]; exact hx0
    have hx16 : 1 ≤ x ∧ x ≤ 16 := by omega
    obtain ⟨xN, hxN⟩ : ∃ xN, xN = x.toNat := ⟨_, rfl⟩
    have hxc : x = (xN : Int) := by omega
    have gx := gn xN x q5 qI5 hq58 hq5 hxc (by omega)
    have hFe := fun e => f_g k p q5 l x e hlA hgx hxR hx0
    have hFp := fun q6 y => f_p k p q5 q6 l x y hlA hgx hxR hx0
    have hFr := fun q6 y => f_r k p q5 q6 l x y hlA hgx hxR hx0
    have hgy := fun y q6 => hgt xN q5 y q6
    rw [← hxN, hFk] at hFe
    rw [← hxN, hFk] at hFp hFr
    obtain ⟨s, hs9⟩ : ∃ s : Int, s = 2 ^ xN := ⟨_, rfl⟩
    have hsr : 1 ≤ s ∧ s ≤ 65536 := by
     have h1 : (2 : Int) ^ xN ≤ 2 ^ 16 := pow_up (by omega)
     have h2 : (0 : Int) < 2 ^ xN := Int.pow_pos (by omega)
     rw [hs9]
     constructor
     ·omega
     ·exact h1
    have ewx : vw .u64 x = x := by rw [qw]; exact wrap_u64 (by omega) (by omega)
    have esh : vb .shl .i64 1 x = s := by
     rw [qb, hs9]
     show IntKind.i64.wrap (1 * 2 ^ (min x.toNat IntKind.i64.bits)) = _
     rw [show min x.toNat IntKind.i64.bits = xN by
      rw [← hxN]; exact Nat.min_eq_left (Nat.le_trans (show xN ≤ 16 by omega) (by decide)), Int.one_mul, ← hs9]
     exact wrap_i64 (by omega) (by omega)
    have hx00 : 0 ≤ x := by omega
    cbv
    rw [e00]
    cbv
    rw [ez]
    cbv
    rw [eg]
    cbv
    refine call_con (ρ := [(0, .z), (1, .z)]) gx ⟨by rfl, by rfl, by rfl, by cbv; exact ⟨view_refl _, trivial⟩⟩ ?_
    rintro v H R js7 ⟨rfl, q6, qI6, hq6, hq68, rfl, ⟨y, hgq, rfl⟩ | ⟨e, hge, he0, he1, rfl⟩⟩
    rotate_left
    ·have hk := m2 _ (hFe e hge)
     have ene : vc .neq e 0 = true := by rw [qc, neq_true]; omega
     cbv
     rw [ene]
     cbv
     exact ⟨[0, 1], .tup [.val (.slice none 0 0), .int .i64 e], [.one 41 [.slice 1 .z 1 bl cap, .int .i64 qI6], .ro .u8 b], rfl, rfl, rfl, rfl, ⟨rfl, rfl, trivial⟩, rfl, q6, qI6, hq6, hq68, .inr ⟨e, hk, he0, he1, rfl, rfl⟩⟩
    have hyr := hgy y q6 hgq
    rw [← hs9] at hyr
    have ewy : vw .i64 y = y := by rw [qw]; exact wrap_i64 (by omega) (by omega)
    obtain ⟨n, hn⟩ : ∃ n : Int, n = s + y := ⟨_, rfl⟩
    have en : vb .add .i64 s y = n := by rw [qb, add_i64 (by omega) (by omega)]; exact hn.symm
    obtain ⟨s1, hs1⟩ : ∃ s1 : Int, s1 = rlI + s := ⟨_, rfl⟩
    have es1 : vb .add .i64 rlI s = s1 := by rw [qb, add_i64 (by omega) (by omega)]; exact hs1.symm
    obtain ⟨s2, hs2⟩ : ∃ s2 : Int, s2 = rlI + n := ⟨_, rfl⟩
    have es2 : vb .add .i64 s1 y = s2 := by rw [qb, add_i64 (by omega) (by omega)]; omega
    have hFp := hFp q6 y hgq
    have hFr := hFr q6 y hgq
    rw [← hs9, ← hn, ← hlI, ← hs2] at hFp hFr
    cbv
    rw [e00]
    cbv
    rw [hofn, ewx, esh, es1, ewy, es2]
    refine ⟨⟨hx00⟩, ?_⟩
    by_cases hz2 : s2 ≤ size
    rotate_left
    ·have hk := m2 _ (hFp hz2)
     have egt : vc .gtr s2 size = true := by rw [qc, gtr_true]; omega
     rw [egt]
     cbv
     exact ⟨[0, 1], .tup [.val (.slice none 0 0), .lit .i64 11], [.one 41 [.slice 1 .z 1 bl cap, .int .i64 qI6], .ro .u8 b], rfl, rfl, rfl, rfl, ⟨rfl, rfl, trivial⟩, rfl, q6, qI6, hq6, hq68, .inr ⟨11, hk, by decide, by decide, rfl, rfl⟩⟩
    have egt : vc .gtr s2 size = false := by rw [qc, gtr_false]; omega
    have hN := hFr hz2
    obtain ⟨nN, hnN⟩ : ∃ nN, nN = n.toNat := ⟨_, rfl⟩
    have hnN1 : 1 ≤ nN ∧ nN ≤ 200000 := by omega
    obtain ⟨l2, hl2⟩ : ∃ l2, l2 = l ++ List.replicate nN (0 : Int) := ⟨_, rfl⟩
    rw [← hnN, ← hl2] at hN
    obtain ⟨rl2, hrl2⟩ : ∃ rl2, rl2 = rl + nN := ⟨_, rfl⟩
    have hl2l : rl2 = l2.length := by rw [hrl2, hl2, List.length_append, List.length_replicate, ← hrl]
    have hnI : n = (nN : Int) := by omega
    have hl2S : rl2 ≤ S := by
     have hSs : (S : Int) = size := hSs
     have hrlI : rlI = (rl : Int) := hrlI
     have h9 : (rl2 : Int) ≤ (S : Int) := by rw [hrl2]; omega
     exact Int.ofNat_le.1 h9
    have hl2T : ∀ x ∈ l2, isT x := by rw [hl2]; exact isT_app hlT isT_rep
    have hltt : rl < rl2 := by rw [hrl2]; exact Nat.lt_add_of_pos_right hnN1.1
    have hmu := lp_mu5 hltt hl2S
    have hk2 := lp_k5 hkS hltt hl2S
    have hrl2f : rl + nN ≤ 200000 := by
     have hsS : S ≤ 16384 := by
      have hSs : (S : Int) = size := hSs
      omega
     rw [← hrl2]
     omega
    have hkk : ∃ k2, k = k2 + 1 := ⟨k - 1, by omega⟩
    obtain ⟨k2, hkk⟩ := hkk
    rw [egt]
    cbv
    refine loop_fam (α := Int × List Int × Nat × Nat) (65 :: 85 :: 102 :: (List.range' 113 13)) [3]
     (fun (i, l3, rl3, c3) => [(16, .int .i64 i), (12, .slice 3 .z 1 rl3 c3)])
     (fun (i, l3, rl3, c3) => [(3, .buf 5 .u8 l3 c3)])
     (fun (i, l3, rl3, c3) => ∃ t : Nat, i = t ∧ t ≤ nN ∧ l3 = l ++ List.replicate t 0 ∧ rl3 = rl + t ∧ rl3 ≤ c3)
     (fun (i, l3, rl3, c3) => nN - i.toNat) hw hm ?_ ?_
    ·refine Cv.genAt [16] [] (Cv.fold (65 :: 85 :: 102 :: (List.range' 113 13)) 4 [3] (by exact Nat.le_refl _) (by exact Nat.le_of_ble_eq_true rfl) (by rfl) (by cbv) ?_)
     intro js
     refine ⟨(_, _, _, _), ?_, js, rfl⟩
     exact ⟨0, rfl, Nat.zero_le _, by simp, rfl, hrc⟩
    rintro ⟨i, l3, rl3, c3⟩ js8 ⟨t, hi, ht9, hl3, hrl3, hrc3⟩
    have hi : i = (t : Int) := hi
    have hnI : n = (nN : Int) := hnI
    have hc1 : t < nN → vc .lss i n = true := fun h => by rw [qc, lss_true]; omega
    have hc2 : ¬ t < nN → vc .lss i n = false := fun h => by rw [qc, lss_false]; omega
    obtain ⟨i1, hi1⟩ : ∃ i1 : Int, i1 = ((t + 1 : Nat) : Int) := ⟨_, rfl⟩
    have htb : t ≤ 200000 := Nat.le_trans ht9 hnN1.2
    have ei1 : vb .add .i64 i 1 = i1 := by rw [qb, add_i64 (by omega) (by omega)]; omega
    have hmu3 : t < nN → nN - i1.toNat < nN - i.toNat := fun h => lp_mu6 hi hi1 h
    have hl3l : l3.length = rl3 := by rw [hl3, hrl3, List.length_append, List.length_replicate, ← hrl]
    have hvl3 : vln l3 = rl3 := by rw [hlnq]; exact hl3l
    have hsub : vsub [0] 0 1 = [0] := by simp only [qsub]; rfl
    obtain ⟨l4, hl4⟩ : ∃ l4, l4 = l ++ List.replicate (t + 1) (0 : Int) := ⟨_, rfl⟩
    have honto : vonto l3 rl3 [0] = l4 := by
     rw [qonto]
     show List.take rl3 l3 ++ [0] = l4
     rw [List.take_of_length_le (by rw [hl3l]; exact Nat.le_refl _), hl3, hl4, List.replicate_succ', List.append_assoc]
    have ha1 : vaddN rl3 1 = rl3 + 1 := by simp only [qaddN]
    have ha01 : vaddN 0 1 = 1 := by simp only [qaddN]
    have hln1 : vln [0] = 1 := by rw [hlnq]; rfl
    obtain ⟨rl4, hrl4⟩ : ∃ rl4, rl4 = rl3 + 1 := ⟨_, rfl⟩
    rw [← hrl4] at ha1
    have hrl4e : rl4 = rl + (t + 1) := by rw [hrl4, hrl3, Nat.add_assoc]
    have hfit4 : t < nN → rl4 ≤ 140737488355328 := fun h => by
     rw [hrl4e]
     exact Nat.le_trans (Nat.le_trans (Nat.add_le_add_left h rl) hrl2f) (by decide)
    cbv
    rw [ewx, esh, ewy, en]
    refine ⟨⟨hx00⟩, ?_⟩
    by_cases hlt9 : t < nN
    ·have hmu3 := hmu3 hlt9
     have hfit4 := hfit4 hlt9
     rw [hc1 hlt9]
     cbv
     refine ⟨⟨by rw [ha01, hln1]; exact Nat.le_refl _⟩, ⟨by rw [hvl3]; exact Nat.le_refl _⟩, ⟨Nat.le_refl _⟩, ⟨by rw [ha1]; omega⟩, ?_⟩
     intro c4 js9 hc4
     have hc5 : vaddN rl3 1 ≤ c4 := hc4.1
     rw [ha1] at hc5
     cbv
     rw [hsub, honto, ha1, ei1]
     refine Cv.fold (65 :: 85 :: 102 :: (List.range' 113 13)) 4 [3] (by exact Nat.le_refl _) (by exact Nat.le_of_ble_eq_true rfl) (by rfl) (by cbv) ?_
     intro js
     refine ⟨(_, _, _, _), ?_, js, rfl⟩
     exact ⟨⟨t + 1, hi1, hlt9, hl4, hrl4e, hc5⟩, hmu3⟩
    ·have htn : t = nN := Nat.le_antisymm ht9 (Nat.le_of_not_lt hlt9)
     have hl32 : l3 = l2 := by rw [hl3, hl2, htn]
     have hrl32 : rl3 = rl2 := by rw [hrl3, hrl2, htn]
     subst hl32
     subst hrl32
     rw [hc2 hlt9]
     cbv
     refine Cv.fold (([13, 14, 15, 16] ++ (List.range' 65 26)) ++ ((List.range' 91 20) ++ (List.range' 111 15))) 4 [3] (by exact Nat.le_refl _) (by exact Nat.le_of_ble_eq_true rfl) (by rfl) (by cbv) ?_
     intro js
     refine ⟨(_, _, _, q6, _), ?_, js, rfl⟩
     exact ⟨⟨k2, by rw [← hkk]; exact hN.symm, by rw [← hkk]; exact hk2, hl2l, hrc3, hl2S, hq6, hq68, hl2T⟩, hmu⟩
 ·rw [htr] at hXe
  have hcode := hrd _ _ _ _ (by omega) hq18 hXe
  obtain ⟨z, hz⟩ := hc _ _ _ _ hRR hXe
  cases hz
 ·rw [htr] at hXe
  have hk := m1 runs q1 e hRR hXe
  have ene : vc .neq e 0 = true := by rw [qc, neq_true]; omega
  cbv
  rw [ene]
  cbv
  exact ⟨[0, 1], .tup [.val (.slice none 0 0), .int .i64 e], [.one 41 [.slice 1 .z 1 bl cap, .int .i64 qI2], .ro .u8 b], rfl, rfl, rfl, rfl, ⟨rfl, rfl, trivial⟩, rfl, q2, qI2, hq2, hq28, .inr ⟨e, hk, he0, he1, rfl, rfl⟩⟩
end Go.Proofs.Ytkkddgdcmdnnmaa
namespace Go.Proofs.Ytkkddgdcmdnnmaa
open Go Go.Sx Go.Proofs
set_option maxRecDepth 10000
set_option maxHeartbeats 40000000
theorem refmap_len (b : List Int) (cap pos : Nat) (pI trees size : Int) (hby : ∀ x ∈ b, isByte x) (hl : b.length ≤ 2 ^ 50) (hp : pos ≤ 8 * b.length) (hpI : pI = pos) (ht : 2 ≤ trees ∧ trees ≤ 256) (hs : 1 ≤ size ∧ size ≤ 16384) (hc : ∀ runs q c q2, runsR b pos = .ok (runs, q) → readR b (trees + runs) q = .ok (c, q2) → ∃ z, c = .inr z) :
  Con Try.prog 21 [.ptr 0 .z 2 0, .int .i64 trees, .int .i64 size] [.one 41 [.slice 1 .z 1 b.length cap, .int .i64 pI], .ro .u8 b] (RefMap b (mapR b trees size pos) (fun p => [.one 41 [.slice 1 .z 1 b.length cap, .int .i64 p], .ro .u8 b])) := by
 have gn := fun (n : Nat) (nI : Int) (pos : Nat) (pI : Int) hp hpI hnI hn => refgt_con b cap pos n pI nI hby hl hp hpI hnI hn
 have gr := fun (s : Int) (pos : Nat) (pI : Int) hp hpI => refread_con b cap pos pI s hby hl hp hpI
 have nx1 := fun (pI one : Int) => refnext_one b b.length cap pI one
 have nx2 := fun (l : List Int) (cap2 pos : Nat) (pI : Int) hp hpI hR h0 hm => refnext_len l b cap cap2 l.length pos pI 0 hby hl hp hpI hR h0 hm
 have hmove := moved_con
 have go15 := Try.call15
 have hgt : ∀ n p x q, gt b n p = .ok (x, q) → 0 ≤ x ∧ x < 2 ^ n ∧ q ≤ 8 * b.length := fun n p x q h => by have := gt_ok h; omega
 have hrd : ∀ s p c q, 1 ≤ s ∧ s ≤ 1024 → p ≤ 8 * b.length → readR b s p = .ok (c, q) → CodeOk s c ∧ q ≤ 8 * b.length := fun s p c q h1 h2 h => readR_ok h1 h2 h
 have herr : ∀ s p e, readR b s p = .error e → e ≠ 0 := fun s p e h => by
  rcases readR_err h with rfl | rfl <;> decide
 have nxr := fun s c (h0 : 0 ≤ s) (hc : CodeOk s c) p q x hp h => @nxC_range b s c h0 hc p q x hp h
 have ra0 : ∀ e, gt b 1 pos = .error e → runsR b pos = .error e := fun e h => by unfold runsR; rw [h]
 have ra1 : ∀ x q, gt b 1 pos = .ok (x, q) → x ≠ 1 → runsR b pos = .ok (0, q) := fun x q h h1 => by unfold runsR; rw [h]; simp only [if_neg h1]
 have ra2 : ∀ q e, gt b 1 pos = .ok (1, q) → gt b 4 q = .error e → runsR b pos = .error e := fun q e h h2 => by unfold runsR; rw [h]; simp [h2]
 have ra3 : ∀ q y q2, gt b 1 pos = .ok (1, q) → gt b 4 q = .ok (y, q2) → runsR b pos = .ok (1 + y, q2) := fun q y q2 h h2 => by unfold runsR; rw [h]; simp [h2]
 have m0 : ∀ e, runsR b pos = .error e → mapR b trees size pos = .error e := fun e h => by unfold mapR; rw [h]
 have m1 : ∀ runs q e, runsR b pos = .ok (runs, q) → readR b (trees + runs) q = .error e → mapR b trees size pos = .error e := fun runs q e h h1 => by unfold mapR; rw [h]; simp only [h1]
 have m2 : ∀ runs q c q2 e, runsR b pos = .ok (runs, q) → readR b (trees + runs) q = .ok (c, q2) → mpL b (nxR b c) runs size (size.toNat + 1) q2 [] = .error e → mapR b trees size pos = .error e := fun runs q c q2 e h h1 h2 => by unfold mapR; rw [h]; simp only [h1, h2]
 have m3 : ∀ runs q c q2 l q3, runsR b pos = .ok (runs, q) → readR b (trees + runs) q = .ok (c, q2) → mpL b (nxR b c) runs size (size.toNat + 1) q2 [] = .ok (l, q3) → mapR b trees size pos = endR5 b trees l q3 := fun runs q c q2 l q3 h h1 h2 => by unfold mapR; rw [h]; simp only [h1, h2]
 have d0 : ∀ l q e, gt b 1 q = .error e → endR5 b trees l q = .error e := fun l q e h => by unfold endR5; rw [h]
 have d1 : ∀ l q q2, gt b 1 q = .ok (1, q2) → ¬ (∀ n ∈ mvS row0 l, n < trees) → endR5 b trees l q = .error 11 := fun l q q2 h h1 => by unfold endR5; rw [h]; simp only [if_true, if_neg h1]
 have d2 : ∀ l q q2, gt b 1 q = .ok (1, q2) → (∀ n ∈ mvS row0 l, n < trees) → endR5 b trees l q = .ok (mvS row0 l, q2) := fun l q q2 h h1 => by unfold endR5; rw [h]; simp only [if_true, if_pos h1]
 have d3 : ∀ l q m q2, gt b 1 q = .ok (m, q2) → m ≠ 1 → ¬ (∀ n ∈ l, n < trees) → endR5 b trees l q = .error 11 := fun l q m q2 h hm h1 => by unfold endR5; rw [h]; simp only [if_neg hm, if_neg h1]
 have d4 : ∀ l q m q2, gt b 1 q = .ok (m, q2) → m ≠ 1 → (∀ n ∈ l, n < trees) → endR5 b trees l q = .ok (l, q2) := fun l q m q2 h hm h1 => by unfold endR5; rw [h]; simp only [if_neg hm, if_pos h1]
 have f_end := fun (nx : Nat → Except Int (Int × Nat)) (runs : Int) (k p : Nat) (l : List Int) => @mpL_end b nx runs size k p l
 have f_e := fun (nx : Nat → Except Int (Int × Nat)) (runs : Int) (k p : Nat) (l : List Int) (e : Int) => @mpL_e b nx runs size k p l e
 have f_a := fun (nx : Nat → Except Int (Int × Nat)) (runs : Int) (k p q : Nat) (l : List Int) (x : Int) => @mpL_a b nx runs size k p q l x
 have f_z := fun (nx : Nat → Except Int (Int × Nat)) (runs : Int) (k p q : Nat) (l : List Int) (x : Int) => @mpL_z b nx runs size k p q l x
 have f_g := fun (nx : Nat → Except Int (Int × Nat)) (runs : Int) (k p q : Nat) (l : List Int) (x e : Int) => @mpL_g b nx runs size k p q l x e
 have f_p := fun (nx : Nat → Except Int (Int × Nat)) (runs : Int) (k p q q2 : Nat) (l : List Int) (x y : Int) => @mpL_p b nx runs size k p q q2 l x y
 have f_r := fun (nx : Nat → Except Int (Int × Nat)) (runs : Int) (k p q q2 : Nat) (l : List Int) (x y : Int) => @mpL_r b nx runs size k p q q2 l x y
 have hmv_len := fun l => mvS_len l row0
 have hmv_mem := fun l h => mvS_mem l row0 row0_len row0_mem h
 generalize mapR b trees size pos = r at *
 generalize endR5 b trees = EN at *
 generalize runsR b pos = RR at *
 generalize readR b = RD at *
 generalize mpL b = ML at *
 generalize mvS row0 = MV at *
 generalize hGT : gt b = GT at *
 clear hGT
 refine con_gen (con_picks (con_drop (con_walk hmix fn21 ?_)))
 intro vb vc vw vtoN vofN vaddN vsubN vmaxI vminI vcutN vgd vst vln vrep vsub vonto vsplice vstrEq vbyteV vnotB veqB hw qb qc qw qtoN qofN qaddN qsubN qmaxI qminI qcutN qgd qst qln qrep qsub qonto qsplice qstrEq qbyteV qnotB qeqB
 have hm := hmix; generalize Try.prog = P at *
 obtain ⟨bl, hbl⟩ : ∃ bl, bl = b.length := ⟨_, rfl⟩
 unfold RefR at gn
 unfold RefCode at gr
 unfold RefMap
 rw [← hbl] at hp hgt hrd
 simp only [← hbl] at gn gr nx1 nx2 ⊢
 clear hl hby
 have g1 := gn 1 1 pos pI hp hpI rfl (by decide)
 have hto : ∀ i : Nat, vtoN (i : Int) = i := fun i => by simp only [qtoN, Int.toNat_natCast]
 have hadd0 : ∀ i, vaddN 0 i = i := fun i => by simp only [qaddN, Nat.zero_add]
 have hlnq : ∀ l, vln l = l.length := fun l => by rw [qln]
 have hgd : ∀ l j, vgd l j = l.getD j 0 := fun l j => by rw [qgd]
 have e00 : vc .neq 0 0 = false := by rw [qc]; rfl
 have ez0 : vc .eql 0 0 = true := by rw [qc]; rfl
 have e1 : vc .lss trees 2 = false := by rw [qc, lss_false]; omega
 have e2 : vc .gtr trees 256 = false := by rw [qc, gtr_false]; omega
 have e3 : vc .lss size 1 = false := by rw [qc, lss_false]; omega
 have e4 : vc .gtr size 16384 = false := by rw [qc, gtr_false]; omega
 cbv
 rw [e1]
 cbv
 rw [e2]
 cbv
 rw [e3]
 cbv
 rw [e4]
 cbv
 refine call_con (ρ := [(0, .z), (1, .z)]) g1 ⟨by rfl, by rfl, by rfl, by cbv; exact ⟨view_refl _, trivial⟩⟩ ?_
 rintro v H R js ⟨rfl, q0, qI0, hq0, hq08, rfl, ⟨x0, hg, rfl⟩ | ⟨e, hg, he0, he1, rfl⟩⟩
 rotate_left
 ·have hk := m0 e (ra0 e hg)
  have ene : vc .neq e 0 = true := by rw [qc, neq_true]; omega
  have eqe : vc .eql e 0 = false := by rw [qc, eql_false]; omega
  cbv
  rw [eqe]
  cbv
  rw [ene]
  cbv
  exact ⟨[0, 1], .tup [.val (.slice none 0 0), .int .i64 e], [.one 41 [.slice 1 .z 1 bl cap, .int .i64 qI0], .ro .u8 b], rfl, rfl, rfl, rfl, ⟨rfl, rfl, trivial⟩, rfl, q0, qI0, hq0, hq08, .inr ⟨e, hk, he0, he1, rfl, rfl⟩⟩
 have hx0 := hgt 1 pos x0 q0 hg
 have hqq0 : qI0 = (q0 : Int) := hq0

 refine' key4 _ (fun (js7 : Nat → Value) (runs tr qI1 : Int) => ∃ q1 : Nat, RR = .ok (runs, q1) ∧ (0 ≤ runs ∧ runs ≤ 16) ∧ tr = trees + runs ∧ qI1 = (q1 : Int) ∧ q1 ≤ 8 * bl) (fun key => ?_) ?_
 rotate_left
 ·by_cases hx1 : x0 = 1
  ·subst hx1
   have e11 : vc .eql 1 1 = true := by rw [qc]; rfl
   have g4 := gn 4 4 q0 qI0 hq08 hq0 rfl (by decide)
   cbv
   rw [ez0]
   cbv
   rw [e11]
   cbv
   refine call_con (ρ := [(0, .z), (1, .z)]) g4 ⟨by rfl, by rfl, by rfl, by cbv; exact ⟨view_refl _, trivial⟩⟩ ?_
   rintro v H R js2 ⟨rfl, q1, qI1, hq1, hq18, rfl, ⟨y0, hg4, rfl⟩ | ⟨e, hg4, he0, he1, rfl⟩⟩
   rotate_left
   ·have hk := m0 e (ra2 q0 e hg hg4)
    have ene : vc .neq e 0 = true := by rw [qc, neq_true]; omega
    cbv
    rw [ene]
    cbv
    exact ⟨[0, 1], .tup [.val (.slice none 0 0), .int .i64 e], [.one 41 [.slice 1 .z 1 bl cap, .int .i64 qI1], .ro .u8 b], rfl, rfl, rfl, rfl, ⟨rfl, rfl, trivial⟩, rfl, q1, qI1, hq1, hq18, .inr ⟨e, hk, he0, he1, rfl, rfl⟩⟩
   have hy0 := hgt 4 q0 y0 q1 hg4
   obtain ⟨runs, hruns⟩ : ∃ runs : Int, runs = 1 + y0 := ⟨_, rfl⟩
   have hRR := ra3 q0 y0 q1 hg hg4
   rw [← hruns] at hRR
   have hrr : 0 ≤ runs ∧ runs ≤ 16 := by omega
   have ewy0 : vw .i64 y0 = y0 := by rw [qw]; exact wrap_i64 (by omega) (by omega)
   have erun : vb .add .i64 y0 1 = runs := by rw [qb, add_i64 (by omega) (by omega)]; omega
   obtain ⟨tr, htr⟩ : ∃ tr : Int, tr = trees + runs := ⟨_, rfl⟩
   have etr : vb .add .i64 trees runs = tr := by rw [qb, add_i64 (by omega) (by omega)]; exact htr.symm
   cbv
   rw [e00]
   cbv
   rw [ewy0, erun, etr]
   refine CallX.cv go15 (Cv.hav (8 :: 9 :: (List.range' 32 27)) fun js7 => Cv.genAt [10] [] (Cv.here ?_)) (by rfl)
   cbv
   exact key js7 runs tr qI1 ⟨q1, hRR, hrr, htr, hq1, hq18⟩
  ·have e11 : vc .eql x0 1 = false := by rw [qc, eql_false]; exact hx1
   have hRR := ra1 x0 q0 hg hx1
   obtain ⟨tr, htr⟩ : ∃ tr : Int, tr = trees + 0 := ⟨_, rfl⟩
   have etr : vb .add .i64 trees 0 = tr := by rw [qb, add_i64 (by omega) (by omega)]; omega
   cbv
   rw [ez0]
   cbv
   rw [e11]
   cbv
   rw [e00]
   cbv
   rw [etr]
   refine CallX.cv go15 (Cv.hav (8 :: 9 :: (List.range' 32 27)) fun js7 => Cv.genAt [10] [] (Cv.here ?_)) (by rfl)
   cbv
   exact key js7 0 tr qI0 ⟨q0, hRR, by decide, htr, hq0, hq08⟩
 rintro js7 runs tr qI1 ⟨q1, hRR, hrr, htr, hq1, hq18⟩
 have hgr := gr tr q1 qI1 hq18 hq1
 rw [if_pos (show 1 ≤ tr ∧ tr ≤ 1024 by omega)] at hgr
 refine call_con (ρ := [(0, .z), (1, .z)]) hgr ⟨by rfl, by rfl, by rfl, by cbv; exact ⟨view_refl _, trivial⟩⟩ ?_
 rintro v H R js3 ⟨rfl, q2, qI2, hq2, hq28, ⟨one, hXe, rfl, rfl⟩ | ⟨L, cp, hXe, rfl, rfl⟩ | ⟨e, hXe, he0, he1, rfl, rfl⟩⟩
 ·rw [htr] at hXe
  have hcode := hrd _ _ _ _ (by omega) hq18 hXe
  obtain ⟨z, hz⟩ := hc _ _ _ _ hRR hXe
  cases hz
 ·rw [htr] at hXe
  have hcode := hrd _ _ _ _ (by omega) hq18 hXe
  have hLl : L.length = (trees + runs).toNat := hcode.1.1
  have hLb : 0 < L.length ∧ L.length ≤ 1024 := by omega
  obtain ⟨ll, hll⟩ : ∃ ll, ll = L.length := ⟨_, rfl⟩
  obtain ⟨W, hW⟩ : ∃ W, W = WL L := ⟨_, rfl⟩
  have hnx : ∀ (p : Nat) (pI : Int), pI = p → p ≤ 8 * bl → Con P 17 [.ptr 0 .z 2 0, .agg [.slice 2 .z 1 ll cp, .slice 3 .z 1 ll ll, .int .i64 0]] [.one 41 [.slice 1 .z 1 bl cap, .int .i64 pI], .ro .u8 b, .ro .u8 L, .ro .u16 W] (fun v H R => R = [] ∧ ∃ (q : Nat) (qI : Int), qI = q ∧ q ≤ 8 * bl ∧ H = [.one 41 [.slice 1 .z 1 bl cap, .int .i64 qI], .ro .u8 b, .ro .u8 L, .ro .u16 W] ∧ ((∃ x, nxR b (.inr L) p = .ok (x, q) ∧ v = .tup [.int .i64 x, .int .i64 0]) ∨ ∃ e, nxR b (.inr L) p = .error e ∧ 0 < e ∧ e < 100 ∧ v = .tup [.int .i64 0, .int .i64 e])) := fun p pI h1 h2 => by
   rw [hll, hW]
   refine (nx2 L cp p pI h2 h1 hcode.1.2.2.2 hLb.1 hLb.2).mono ?_
   rintro v H R ⟨s, e, q, qI, rfl, hq, hd, rfl, rfl⟩
   rcases hd.e with rfl | rfl
   ·exact ⟨rfl, q, qI, hq, by have := hd.ok_range; omega, rfl, .inl ⟨s, decR_ok hd, rfl⟩⟩
   ·refine ⟨rfl, q, qI, hq, ?_, rfl, .inr ⟨10, decR_err hd, by decide, by decide, ?_⟩⟩
    ·rcases hd with ⟨_, _, _, _, _, _, _, _, _, _, _, h, _⟩ | ⟨_, _, h, _, _, _, h2⟩
     ·cases h
     ·omega
    ·rcases hd with ⟨_, _, _, _, _, _, _, _, _, _, _, h, _⟩ | ⟨_, _, _, _, h, _, _⟩
     ·cases h
     ·rw [h]
  rw [← hll, ← hW]
  obtain ⟨S, hS⟩ : ∃ S, S = size.toNat := ⟨_, rfl⟩
  have hSs : (S : Int) = size := by omega
  have m2 := fun e => m2 runs q1 (.inr L) q2 e hRR hXe
  have m3 := fun l q3 => m3 runs q1 (.inr L) q2 l q3 hRR hXe
  rw [← hS] at m2 m3
  have f_end := f_end (nxR b (.inr L)) runs
  have f_e := f_e (nxR b (.inr L)) runs
  have f_a := f_a (nxR b (.inr L)) runs
  have f_z := f_z (nxR b (.inr L)) runs
  have f_g := f_g (nxR b (.inr L)) runs
  have f_p := f_p (nxR b (.inr L)) runs
  have f_r := f_r (nxR b (.inr L)) runs
  have hnr := fun p q x => nxr (trees + runs) (.inr L) (by omega) hcode.1 p q x
  rw [← hbl] at hnr
  clear hbl
  obtain ⟨NX, hNX⟩ : ∃ NX, NX = nxR b (.inr L) := ⟨_, rfl⟩
  rw [← hNX] at m2 m3 f_end f_e f_a f_z f_g f_p f_r hnx hnr
  obtain ⟨F, hF⟩ : ∃ F, F = ML NX runs size := ⟨_, rfl⟩
  rw [← hF] at m2 m3 f_end f_e f_a f_z f_g f_p f_r
  obtain ⟨r1, hr1⟩ : ∃ r1, F (S + 1) q2 [] = r1 := ⟨_, rfl⟩
  rw [hr1] at m2 m3
  have hqq2 : qI2 = (q2 : Int) := hq2
  clear hNX hF nx1 nx2 gr hrd nxr hgr hcode g1 ra0 ra1 ra2 ra3 m0 m1
  cbv
  rw [e00]
  cbv
  refine WX.cv (Cv.nilT 12 5 .u8 (by rfl) (by cbv) (Cv.here ?_))
  refine loop_fam (α := List Int × Nat × Nat × Nat × Int) (([13, 14, 15, 16] ++ (List.range' 65 26)) ++ ((List.range' 91 20) ++ (List.range' 111 15))) [5]
   (fun (l, rl, c, p, pI) => [(12, .slice 5 .z 1 rl c)])
   (fun (l, rl, c, p, pI) => [(0, .one 41 [.slice 1 .z 1 bl cap, .int .i64 pI]), (5, .buf 5 .u8 l c)])
   (fun (l, rl, c, p, pI) => ∃ k : Nat, F (k + 1) p l = r1 ∧ S + 1 - rl ≤ k + 1 ∧ rl = l.length ∧ rl ≤ c ∧ rl ≤ S ∧ pI = p ∧ p ≤ 8 * bl ∧ ∀ x ∈ l, isT x)
   (fun (l, rl, c, p, pI) => S - rl) hw hm ?_ ?_
  ·refine Cv.genAt [] [0] (Cv.fold (([13, 14, 15, 16] ++ (List.range' 65 26)) ++ ((List.range' 91 20) ++ (List.range' 111 15))) 6 [5] (by exact Nat.le_refl _) (by exact Nat.le_of_ble_eq_true rfl) (by rfl) (by cbv) ?_)
   intro js
   refine ⟨(_, _, _, q2, _), ?_, js, rfl⟩
   exact ⟨S, hr1, by omega, rfl, Nat.le_refl _, Nat.zero_le _, hqq2, hq28, fun x hx => by cases hx⟩
  rintro ⟨l, rl, c, p, pI⟩ js5 ⟨k, hFk, hkS, hrl, hrc, hrS, hpI, hp5, hlT⟩
  obtain ⟨rlI, hrlI⟩ : ∃ rlI : Int, rlI = rl := ⟨_, rfl⟩
  have hofn : vofN rl = rlI := by rw [qofN]; exact hrlI.symm
  have hlI : rlI = (l.length : Int) := by rw [hrlI, hrl]
  have hSs : (S : Int) = size := hSs
  have hcA : rl < S → vc .lss rlI size = true := fun h => by rw [qc, lss_true]; omega
  have hcB : ¬ rl < S → vc .lss rlI size = false := fun h => by rw [qc, lss_false]; omega
  have hlA : rl < S → (l.length : Int) < size := fun h => by omega
  have hlB : ¬ rl < S → ¬ (l.length : Int) < size := fun h => by omega
  have hsz : size ≤ 16384 := hs.2
  have hrlb : 0 ≤ rlI ∧ rlI ≤ 16384 := by omega
  have hfit1 : rl + 1 ≤ 140737488355328 := by omega
  have hnxp := hnx p pI hpI hp5
  have hvl : vln l = rl := by rw [hlnq, hrl]
  have g1 := gn 1 1 p pI hp5 hpI rfl (by decide)
  have hrlS : ¬ rl < S → rl = S := fun h => Nat.le_antisymm hrS (Nat.le_of_not_lt h)
  have hrl16 : rl ≤ 16384 := by omega
  have hrl0 : ¬ rl < S → 0 < rl := fun h => by omega
  cbv
  rw [hofn]
  by_cases hlt : rl < S
  rotate_left
  ·have hr1' : r1 = .ok (l, p) := by rw [← hFk]; exact f_end k p l (hlB hlt)
   have m3 := m3 _ _ hr1'
   rw [hcB hlt]
   clear hcA hcB hlA hlB f_end f_e f_a f_z f_g f_p f_r hnx hnxp hnr
   cbv
   refine call_con (ρ := [(0, .z), (1, .z)]) g1 ⟨by rfl, by rfl, by rfl, by cbv; exact ⟨view_refl _, trivial⟩⟩ ?_
   rintro v H R js6 ⟨rfl, q7, qI7, hq7, hq78, rfl, ⟨m, hgm, rfl⟩ | ⟨e, hge, he0, he1, rfl⟩⟩
   rotate_left
   ·rw [d0 l _ _ hge] at m3
    have ene : vc .neq e 0 = true := by rw [qc, neq_true]; omega
    cbv
    rw [ene]
    cbv
    exact ⟨[0, 1], .tup [.val (.slice none 0 0), .int .i64 e], [.one 41 [.slice 1 .z 1 bl cap, .int .i64 qI7], .ro .u8 b], rfl, rfl, rfl, rfl, ⟨rfl, rfl, trivial⟩, rfl, q7, qI7, hq7, hq78, .inr ⟨e, m3, he0, he1, rfl, rfl⟩⟩
   have hrl0 := hrl0 hlt
   by_cases hm1 : m = 1
   ·subst hm1
    have d1 := d1 l _ _ hgm
    have d2 := d2 l _ _ hgm
    rw [← m3] at d1 d2
    have hmovl := hmove l c (by rw [← hrl]; exact hrl16) hlT (by rw [← hrl]; exact hrl0)
    obtain ⟨l2, hl2⟩ : ∃ l2, l2 = MV l := ⟨_, rfl⟩
    have hl2l : rl = l2.length := by rw [hl2, hmv_len]; exact hrl
    have hl2T : ∀ x ∈ l2, isT x := by rw [hl2]; exact hmv_mem l hlT
    rw [← hl2] at d1 d2 hmovl
    rw [← hrl] at hmovl
    have e11 : vc .eql 1 1 = true := by rw [qc]; rfl
    cbv
    rw [e00]
    cbv
    rw [e11]
    cbv
    refine call_con (ρ := [(5, .z)]) hmovl ⟨by rfl, by rfl, by rfl, by cbv; exact ⟨view_refl _, trivial⟩⟩ ?_
    rintro v H R js7 ⟨cz, rfl, rfl, rfl⟩
    have hvl2 : vln l2 = rl := by rw [hlnq]; exact hl2l.symm
    cbv
    refine loop_fam (α := Int) ((List.range' 138 13)) [5] (fun k => [(17, .int .i64 k)]) (fun _ => [])
     (fun k => ∃ i : Nat, k = i ∧ i ≤ rl ∧ ∀ j, j < i → l2.getD j 0 < trees) (fun k => rl - k.toNat) hw hm ?_ ?_
    ·refine Cv.genAt [17] [] (Cv.fold ((List.range' 138 13)) 7 [5] (by exact Nat.le_refl _) (by exact Nat.le_of_ble_eq_true rfl) (by rfl) (by cbv) ?_)
     intro js
     refine ⟨_, ?_, js, rfl⟩
     exact ⟨0, rfl, Nat.zero_le _, fun j hj => absurd hj (Nat.not_lt_zero _)⟩
    rintro kk js9 ⟨i, hk, hi, hall⟩
    have hk : kk = (i : Int) := hk
    have hrlI : rlI = (rl : Int) := hrlI
    have hti : vtoN kk = i := by rw [hk]; exact hto i
    have hc1 : i < rl → vc .lss kk rlI = true := fun h => by rw [qc, lss_true]; omega
    have hc2 : ¬ i < rl → vc .lss kk rlI = false := fun h => by rw [qc, lss_false]; omega
    obtain ⟨kn, hkn⟩ : ∃ kn : Int, kn = ((i + 1 : Nat) : Int) := ⟨_, rfl⟩
    have hkkb : kk ≤ 16384 ∧ 0 ≤ kk := by
     have hrlb : 0 ≤ rlI ∧ rlI ≤ 16384 := hrlb
     omega
    have ek : vb .add .i64 kk 1 = kn := by rw [qb, add_i64 (by omega) (by omega)]; omega
    have hmu : i < rl → rl - kn.toNat < rl - kk.toNat := fun h => lp_mu6 hk hkn h
    have hR : i < rl → 0 ≤ kk ∧ kk < ((rl : Nat) : Int) := fun h => by omega
    obtain ⟨n, hn⟩ : ∃ n, n = l2.getD i 0 := ⟨_, rfl⟩
    have hlg : vgd l2 i = n := by rw [hgd, hn]
    have hnT : i < rl → isT n := fun h => hl2T n (by rw [hn, List.getD_eq_getElem?_getD, List.getElem?_eq_getElem (by omega)]; simp)
    cbv
    rw [hofn]
    by_cases hlt2 : i < rl
    ·have hnT := hnT hlt2
     have hn0 : 0 ≤ n ∧ n < 256 := hnT
     have ewn : vw .i64 n = n := by rw [qw]; exact wrap_i64 (by omega) (by omega)
     have hmu := hmu hlt2
     have hR := hR hlt2
     have hmem : n ∈ l2 := by rw [hn, List.getD_eq_getElem?_getD, List.getElem?_eq_getElem (by rw [← hl2l]; exact hlt2)]; simp
     rw [hc1 hlt2]
     cbv
     rw [hti, hadd0, hlg, ewn]
     refine ⟨⟨hR⟩, ⟨by rw [hvl2]; exact hlt2⟩, ⟨by rw [hvl2]; exact hlt2⟩, ?_⟩
     by_cases hz2 : n < trees
     rotate_left
     ·have hk := d1 (fun h => hz2 (h n hmem))
      have ege : vc .geq n trees = true := by rw [qc, geq_true]; omega
      rw [ege]
      cbv
      exact ⟨[0, 1], .tup [.val (.slice none 0 0), .lit .i64 11], [.one 41 [.slice 1 .z 1 bl cap, .int .i64 qI7], .ro .u8 b], rfl, rfl, rfl, rfl, ⟨rfl, rfl, trivial⟩, rfl, q7, qI7, hq7, hq78, .inr ⟨11, hk, by decide, by decide, rfl, rfl⟩⟩
     have ege : vc .geq n trees = false := by rw [qc, geq_false]; omega
     rw [ege]
     cbv
     rw [ek]
     refine Cv.fold ((List.range' 138 13)) 7 [5] (by exact Nat.le_refl _) (by exact Nat.le_of_ble_eq_true rfl) (by rfl) (by cbv) ?_
     intro js
     refine ⟨_, ?_, js, rfl⟩
     refine ⟨⟨i + 1, hkn, hlt2, fun j hj => ?_⟩, hmu⟩
     rcases Nat.lt_or_ge j i with h | h
     ·exact hall j h
     ·obtain rfl : j = i := Nat.le_antisymm (Nat.le_of_lt_succ hj) h
      rw [← hn]; exact hz2
    ·have hin : i = rl := Nat.le_antisymm hi (Nat.le_of_not_lt hlt2)
     have hall2 : ∀ n ∈ l2, n < trees := fun n hn => by
      obtain ⟨j, hj, rfl⟩ := List.getElem_of_mem hn
      have := hall j (by rw [hin, hl2l]; exact hj)
      rwa [List.getD_eq_getElem?_getD, List.getElem?_eq_getElem hj] at this
     have hk := d2 hall2
     rw [hc2 hlt2]
     cbv
     clear hvl hrl hrc hrS hofn hrlI hvl2 hlI hFk hkS hc1 hc2 hR hmu hnT hrlb hfit1 hrlS hin hi hlt hlt2 hrl16 hrl0 hmovl
     subst hl2l
     exact ⟨[0, 1, 6], .tup [.slice 2 .z 1 l2.length cz, .lit .i64 0], [.one 41 [.slice 1 .z 1 bl cap, .int .i64 qI7], .ro .u8 b, .buf 5 .u8 l2 cz], rfl, rfl, rfl, rfl, ⟨rfl, rfl, rfl, trivial⟩, rfl, q7, qI7, hq7, hq78, .inl ⟨l2, cz, cz, hk, rfl, rfl⟩⟩
   ·have e11 : vc .eql m 1 = false := by rw [qc, eql_false]; exact hm1
    have d1 := d3 l _ _ _ hgm hm1
    have d2 := d4 l _ _ _ hgm hm1
    rw [← m3] at d1 d2
    obtain ⟨l2, hl2⟩ : ∃ l2, l2 = l := ⟨_, rfl⟩
    have hl2l : rl = l2.length := by rw [hl2]; exact hrl
    have hl2T : ∀ x ∈ l2, isT x := by rw [hl2]; exact hlT
    rw [← hl2] at d1 d2
    obtain ⟨cz, hcz⟩ : ∃ cz, cz = c := ⟨_, rfl⟩
    cbv
    rw [e00]
    cbv
    rw [e11, ← hl2, ← hcz]
    have hvl2 : vln l2 = rl := by rw [hlnq]; exact hl2l.symm
    cbv
    refine loop_fam (α := Int) ((List.range' 138 13)) [5] (fun k => [(17, .int .i64 k)]) (fun _ => [])
     (fun k => ∃ i : Nat, k = i ∧ i ≤ rl ∧ ∀ j, j < i → l2.getD j 0 < trees) (fun k => rl - k.toNat) hw hm ?_ ?_
    ·refine Cv.genAt [17] [] (Cv.fold ((List.range' 138 13)) 6 [5] (by exact Nat.le_refl _) (by exact Nat.le_of_ble_eq_true rfl) (by rfl) (by cbv) ?_)
     intro js
     refine ⟨_, ?_, js, rfl⟩
     exact ⟨0, rfl, Nat.zero_le _, fun j hj => absurd hj (Nat.not_lt_zero _)⟩
    rintro kk js9 ⟨i, hk, hi, hall⟩
    have hk : kk = (i : Int) := hk
    have hrlI : rlI = (rl : Int) := hrlI
    have hti : vtoN kk = i := by rw [hk]; exact hto i
    have hc1 : i < rl → vc .lss kk rlI = true := fun h => by rw [qc, lss_true]; omega
    have hc2 : ¬ i < rl → vc .lss kk rlI = false := fun h => by rw [qc, lss_false]; omega
    obtain ⟨kn, hkn⟩ : ∃ kn : Int, kn = ((i + 1 : Nat) : Int) := ⟨_, rfl⟩
    have hkkb : kk ≤ 16384 ∧ 0 ≤ kk := by
     have hrlb : 0 ≤ rlI ∧ rlI ≤ 16384 := hrlb
     omega
    have ek : vb .add .i64 kk 1 = kn := by rw [qb, add_i64 (by omega) (by omega)]; omega
    have hmu : i < rl → rl - kn.toNat < rl - kk.toNat := fun h => lp_mu6 hk hkn h
    have hR : i < rl → 0 ≤ kk ∧ kk < ((rl : Nat) : Int) := fun h => by omega
    obtain ⟨n, hn⟩ : ∃ n, n = l2.getD i 0 := ⟨_, rfl⟩
    have hlg : vgd l2 i = n := by rw [hgd, hn]
    have hnT : i < rl → isT n := fun h => hl2T n (by rw [hn, List.getD_eq_getElem?_getD, List.getElem?_eq_getElem (by omega)]; simp)
    cbv
    rw [hofn]
    by_cases hlt2 : i < rl
    ·have hnT := hnT hlt2
     have hn0 : 0 ≤ n ∧ n < 256 := hnT
     have ewn : vw .i64 n = n := by rw [qw]; exact wrap_i64 (by omega) (by omega)
     have hmu := hmu hlt2
     have hR := hR hlt2
     have hmem : n ∈ l2 := by rw [hn, List.getD_eq_getElem?_getD, List.getElem?_eq_getElem (by rw [← hl2l]; exact hlt2)]; simp
     rw [hc1 hlt2]
     cbv
     rw [hti, hadd0, hlg, ewn]
     refine ⟨⟨hR⟩, ⟨by rw [hvl2]; exact hlt2⟩, ⟨by rw [hvl2]; exact hlt2⟩, ?_⟩
     by_cases hz2 : n < trees
     rotate_left
     ·have hk := d1 (fun h => hz2 (h n hmem))
      have ege : vc .geq n trees = true := by rw [qc, geq_true]; omega
      rw [ege]
      cbv
      exact ⟨[0, 1], .tup [.val (.slice none 0 0), .lit .i64 11], [.one 41 [.slice 1 .z 1 bl cap, .int .i64 qI7], .ro .u8 b], rfl, rfl, rfl, rfl, ⟨rfl, rfl, trivial⟩, rfl, q7, qI7, hq7, hq78, .inr ⟨11, hk, by decide, by decide, rfl, rfl⟩⟩
     have ege : vc .geq n trees = false := by rw [qc, geq_false]; omega
     rw [ege]
     cbv
     rw [ek]
     refine Cv.fold ((List.range' 138 13)) 6 [5] (by exact Nat.le_refl _) (by exact Nat.le_of_ble_eq_true rfl) (by rfl) (by cbv) ?_
     intro js
     refine ⟨_, ?_, js, rfl⟩
     refine ⟨⟨i + 1, hkn, hlt2, fun j hj => ?_⟩, hmu⟩
     rcases Nat.lt_or_ge j i with h | h
     ·exact hall j h
     ·obtain rfl : j = i := Nat.le_antisymm (Nat.le_of_lt_succ hj) h
      rw [← hn]; exact hz2
    ·have hin : i = rl := Nat.le_antisymm hi (Nat.le_of_not_lt hlt2)
     have hall2 : ∀ n ∈ l2, n < trees := fun n hn => by
      obtain ⟨j, hj, rfl⟩ := List.getElem_of_mem hn
      have := hall j (by rw [hin, hl2l]; exact hj)
      rwa [List.getD_eq_getElem?_getD, List.getElem?_eq_getElem hj] at this
     have hk := d2 hall2
     rw [hc2 hlt2]
     cbv
     clear hvl hrl hrc hrS hofn hrlI hvl2 hlI hFk hkS hc1 hc2 hR hmu hnT hrlb hfit1 hrlS hin hi hlt hlt2 hrl16 hrl0
     subst hl2l
     exact ⟨[0, 1, 5], .tup [.slice 2 .z 1 l2.length cz, .lit .i64 0], [.one 41 [.slice 1 .z 1 bl cap, .int .i64 qI7], .ro .u8 b, .buf 5 .u8 l2 cz], rfl, rfl, rfl, rfl, ⟨rfl, rfl, rfl, trivial⟩, rfl, q7, qI7, hq7, hq78, .inl ⟨l2, cz, cz, hk, rfl, rfl⟩⟩
  have hlA := hlA hlt
  rw [hcA hlt]
  clear hcA hcB hlB f_end g1 d0 d1 d2 d3 d4 m3 hmv_len hmv_mem hmove
  cbv
  refine call_con (ρ := [(0, .z), (1, .z), (2, .z), (3, .z)]) hnxp ⟨by rfl, by rfl, by rfl, by cbv; exact ⟨view_refl _, view_refl _, view_refl _, trivial⟩⟩ ?_
  rintro v H R js6 ⟨rfl, q5, qI5, hq5, hq58, rfl, ⟨x, hgx, rfl⟩ | ⟨e, hge, he0, he1, rfl⟩⟩
  rotate_left
  ·have hS1 := f_e k p l e hlA hge
   rw [hFk] at hS1
   have hk := m2 _ hS1
   have ene : vc .neq e 0 = true := by rw [qc, neq_true]; omega
   cbv
   rw [ene]
   cbv
   exact ⟨[0, 1], .tup [.val (.slice none 0 0), .int .i64 e], [.one 41 [.slice 1 .z 1 bl cap, .int .i64 qI5], .ro .u8 b], rfl, rfl, rfl, rfl, ⟨rfl, rfl, trivial⟩, rfl, q5, qI5, hq5, hq58, .inr ⟨e, hk, he0, he1, rfl, rfl⟩⟩
  have hxr := hnr p q5 x hp5 hgx
  by_cases hxR : x > runs
  ·have hN := f_a k p q5 l x hlA hgx hxR
   rw [hFk] at hN
   have ez : vc .eql x 0 = false := by rw [qc, eql_false]; omega
   have eg : vc .gtr x runs = true := by rw [qc, gtr_true]; omega
   obtain ⟨y, hy⟩ : ∃ y : Int, y = x - runs := ⟨_, rfl⟩
   have ey : vb .sub .i64 x runs = y := by rw [qb, sub_i64 (by omega) (by omega)]; omega
   have emx : vmaxI y 0 = y := by rw [qmaxI]; show (if (0 : Int) > y then 0 else y) = y; rw [if_neg (by omega)]
   have ewy : vw .u8 y = y := by rw [qw]; exact wrap_u8 (by omega) (by omega)
   have hyT : isT y := ⟨by omega, by omega⟩
   rw [← hy] at hN
   have hsub : vsub [y] 0 1 = [y] := by simp only [qsub]; rfl
   have honto : vonto l rl [y] = l ++ [y] := by rw [qonto, hrl]; simp
   have ha1 : vaddN rl 1 = rl + 1 := by simp only [qaddN]
   have ha01 : vaddN 0 1 = 1 := by simp only [qaddN]
   have hln1 : vln [y] = 1 := by rw [hlnq]; rfl
   obtain ⟨l2, hl2⟩ : ∃ l2, l2 = l ++ [y] := ⟨_, rfl⟩
   rw [← hl2] at honto hN
   obtain ⟨rl2, hrl2⟩ : ∃ rl2, rl2 = rl + 1 := ⟨_, rfl⟩
   rw [← hrl2] at ha1 hfit1
   have hl2l : rl2 = l2.length := by rw [hrl2, hl2, List.length_append, ← hrl]; rfl
   have hl2S : rl2 ≤ S := by rw [hrl2]; exact hlt
   have hl2T : ∀ x ∈ l2, isT x := by rw [hl2]; exact isT_app hlT (isT_one hyT)
   have hltt : rl < rl2 := by rw [hrl2]; exact Nat.lt_succ_self _
   have hmu := lp_mu5 hltt hl2S
   have hk2 := lp_k5 hkS hltt hl2S
   have hkk : ∃ k2, k = k2 + 1 := ⟨k - 1, by omega⟩
   obtain ⟨k2, hkk⟩ := hkk
   cbv
   rw [e00]
   cbv
   rw [ez]
   cbv
   rw [eg]
   cbv
   rw [ey, emx, ewy]
   refine ⟨⟨by rw [ha01, hln1]; exact Nat.le_refl _⟩, ⟨by rw [hvl]; exact Nat.le_refl _⟩, ⟨Nat.le_refl _⟩, ⟨by rw [ha1]; omega⟩, ?_⟩
   intro c2 js9 hc2
   have hc3 : vaddN rl 1 ≤ c2 := hc2.1
   rw [ha1] at hc3
   cbv
   rw [hsub, honto, ha1]
   refine Cv.fold (([13, 14, 15, 16] ++ (List.range' 65 26)) ++ ((List.range' 91 20) ++ (List.range' 111 15))) 6 [5] (by exact Nat.le_refl _) (by exact Nat.le_of_ble_eq_true rfl) (by rfl) (by cbv) ?_
   intro js
   refine ⟨(_, _, _, q5, _), ?_, js, rfl⟩
   exact ⟨⟨k2, by rw [← hkk]; exact hN.symm, by rw [← hkk]; exact hk2, hl2l, hc3, hl2S, hq5, hq58, hl2T⟩, hmu⟩
  ·have eg : vc .gtr x runs = false := by rw [qc, gtr_false]; omega
   by_cases hx0 : x = 0
   ·have hN := f_z k p q5 l x hlA hgx hxR hx0
    rw [hFk] at hN
    have ez : vc .eql x 0 = true := by rw [qc, eql_true]; exact hx0
    obtain ⟨z, hz⟩ : ∃ z : Int, z = x - runs := ⟨_, rfl⟩
    have ey : vb .sub .i64 x runs = z := by rw [qb, sub_i64 (by omega) (by omega)]; omega
    obtain ⟨y, hy⟩ : ∃ y : Int, y = 0 := ⟨_, rfl⟩
    have emx : vmaxI z 0 = y := by rw [qmaxI]; show (if (0 : Int) > z then 0 else z) = y; split <;> omega
    have ewy : vw .u8 y = y := by rw [qw]; exact wrap_u8 (by omega) (by omega)
    have hyT : isT y := by rw [hy]; exact ⟨by decide, by decide⟩
    rw [← hy] at hN
    have hsub : vsub [y] 0 1 = [y] := by simp only [qsub]; rfl
    have honto : vonto l rl [y] = l ++ [y] := by rw [qonto, hrl]; simp
    have ha1 : vaddN rl 1 = rl + 1 := by simp only [qaddN]
    have ha01 : vaddN 0 1 = 1 := by simp only [qaddN]
    have hln1 : vln [y] = 1 := by rw [hlnq]; rfl
    obtain ⟨l2, hl2⟩ : ∃ l2, l2 = l ++ [y] := ⟨_, rfl⟩
    rw [← hl2] at honto hN
    obtain ⟨rl2, hrl2⟩ : ∃ rl2, rl2 = rl + 1 := ⟨_, rfl⟩
    rw [← hrl2] at ha1 hfit1
    have hl2l : rl2 = l2.length := by rw [hrl2, hl2, List.length_append, ← hrl]; rfl
    have hl2S : rl2 ≤ S := by rw [hrl2]; exact hlt
    have hl2T : ∀ x ∈ l2, isT x := by rw [hl2]; exact isT_app hlT (isT_one hyT)
    have hltt : rl < rl2 := by rw [hrl2]; exact Nat.lt_succ_self _
    have hmu := lp_mu5 hltt hl2S
    have hk2 := lp_k5 hkS hltt hl2S
    have hkk : ∃ k2, k = k2 + 1 := ⟨k - 1, by omega⟩
    obtain ⟨k2, hkk⟩ := hkk
    cbv
    rw [e00]
    cbv
    rw [ez]
    cbv
    rw [ey, emx, ewy]
    refine ⟨⟨by rw [ha01, hln1]; exact Nat.le_refl _⟩, ⟨by rw [hvl]; exact Nat.le_refl _⟩, ⟨Nat.le_refl _⟩, ⟨by rw [ha1]; omega⟩, ?_⟩
    intro c2 js9 hc2
    have hc3 : vaddN rl 1 ≤ c2 := hc2.1
    rw [ha1] at hc3
    cbv
    rw [hsub, honto, ha1]
    refine Cv.fold (([13, 14, 15, 16] ++ (List.range' 65 26)) ++ ((List.range' 91 20) ++ (List.range' 111 15))) 6 [5] (by exact Nat.le_refl _) (by exact Nat.le_of_ble_eq_true rfl) (by rfl) (by cbv) ?_
    intro js
    refine ⟨(_, _, _, q5, _), ?_, js, rfl⟩
    exact ⟨⟨k2, by rw [← hkk]; exact hN.symm, by rw [← hkk]; exact hk2, hl2l, hc3, hl2S, hq5, hq58, hl2T⟩, hmu⟩
   ·have ez : vc .eql x 0 = false := by rw [qc, eql_false]; exact hx0
    have hx16 : 1 ≤ x ∧ x ≤ 16 := by omega
    obtain ⟨xN, hxN⟩ : ∃ xN, xN = x.toNat := ⟨_, rfl⟩
    have hxc : x = (xN : Int) := by omega
    have gx := gn xN x q5 qI5 hq58 hq5 hxc (by omega)
    have hFe := fun e => f_g k p q5 l x e hlA hgx hxR hx0
    have hFp := fun q6 y => f_p k p q5 q6 l x y hlA hgx hxR hx0
    have hFr := fun q6 y => f_r k p q5 q6 l x y hlA hgx hxR hx0
    have hgy := fun y q6 => hgt xN q5 y q6
    rw [← hxN, hFk] at hFe
    rw [← hxN, hFk] at hFp hFr
    obtain ⟨s, hs9⟩ : ∃ s : Int, s = 2 ^ xN := ⟨_, rfl⟩
    have hsr : 1 ≤ s ∧ s ≤ 65536 := by
     have h1 : (2 : Int) ^ xN ≤ 2 ^ 16 := pow_up (by omega)
     have h2 : (0 : Int) < 2 ^ xN := Int.pow_pos (by omega)
     rw [hs9]
     constructor
     ·omega
     ·exact h1
    have ewx : vw .u64 x = x := by rw [qw]; exact wrap_u64 (by omega) (by omega)
    have esh : vb .shl .i64 1 x = s := by
     rw [qb, hs9]
     show IntKind.i64.wrap (1 * 2 ^ (min x.toNat IntKind.i64.bits)) = _
     rw [show min x.toNat IntKind.i64.bits = xN by
      rw [← hxN]; exact Nat.min_eq_left (Nat.le_trans (show xN ≤ 16 by omega) (by decide)), Int.one_mul, ← hs9]
     exact wrap_i64 (by omega) (by omega)
    have hx00 : 0 ≤ x := by omega
    cbv
    rw [e00]
    cbv
    rw [ez]
    cbv
    rw [eg]
    cbv
    refine call_con (ρ := [(0, .z), (1, .z)]) gx ⟨by rfl, by rfl, by rfl, by cbv; exact ⟨view_refl _, trivial⟩⟩ ?_
    rintro v H R js7 ⟨rfl, q6, qI6, hq6, hq68, rfl, ⟨y, hgq, rfl⟩ | ⟨e, hge, he0, he1, rfl⟩⟩
    rotate_left
    ·have hk := m2 _ (hFe e hge)
     have ene : vc .neq e 0 = true := by rw [qc, neq_true]; omega
     cbv
     rw [ene]
     cbv
     exact ⟨[0, 1], .tup [.val (.slice none 0 0), .int .i64 e], [.one 41 [.slice 1 .z 1 bl cap, .int .i64 qI6], .ro .u8 b], rfl, rfl, rfl, rfl, ⟨rfl, rfl, trivial⟩, rfl, q6, qI6, hq6, hq68, .inr ⟨e, hk, he0, he1, rfl, rfl⟩⟩
    have hyr := hgy y q6 hgq
    rw [← hs9] at hyr
    have ewy : vw .i64 y = y := by rw [qw]; exact wrap_i64 (by omega) (by omega)
    obtain ⟨n, hn⟩ : ∃ n : Int, n = s + y := ⟨_, rfl⟩
    have en : vb .add .i64 s y = n := by rw [qb, add_i64 (by omega) (by omega)]; exact hn.symm
    obtain ⟨s1, hs1⟩ : ∃ s1 : Int, s1 = rlI + s := ⟨_, rfl⟩
    have es1 : vb .add .i64 rlI s = s1 := by rw [qb, add_i64 (by omega) (by omega)]; exact hs1.symm
    obtain ⟨s2, hs2⟩ : ∃ s2 : Int, s2 = rlI + n := ⟨_, rfl⟩
    have es2 : vb .add .i64 s1 y = s2 := by rw [qb, add_i64 (by omega) (by omega)]; omega
    have hFp := hFp q6 y hgq
    have hFr := hFr q6 y hgq
    rw [← hs9, ← hn, ← hlI, ← hs2] at hFp hFr
    cbv
    rw [e00]
    cbv
    rw [hofn, ewx, esh, es1, ewy, es2]
    refine ⟨⟨hx00⟩, ?_⟩
    by_cases hz2 : s2 ≤ size
    rotate_left
    ·have hk := m2 _ (hFp hz2)
     have egt : vc .gtr s2 size = true := by rw [qc, gtr_true]; omega
     rw [egt]
     cbv
     exact ⟨[0, 1], .tup [.val (.slice none 0 0), .lit .i64 11], [.one 41 [.slice 1 .z 1 bl cap, .int .i64 qI6], .ro .u8 b], rfl, rfl, rfl, rfl, ⟨rfl, rfl, trivial⟩, rfl, q6, qI6, hq6, hq68, .inr ⟨11, hk, by decide, by decide, rfl, rfl⟩⟩
    have egt : vc .gtr s2 size = false := by rw [qc, gtr_false]; omega
    have hN := hFr hz2
    obtain ⟨nN, hnN⟩ : ∃ nN, nN = n.toNat := ⟨_, rfl⟩
    have hnN1 : 1 ≤ nN ∧ nN ≤ 200000 := by omega
    obtain ⟨l2, hl2⟩ : ∃ l2, l2 = l ++ List.replicate nN (0 : Int) := ⟨_, rfl⟩
    rw [← hnN, ← hl2] at hN
    obtain ⟨rl2, hrl2⟩ : ∃ rl2, rl2 = rl + nN := ⟨_, rfl⟩
    have hl2l : rl2 = l2.length := by rw [hrl2, hl2, List.length_append, List.length_replicate, ← hrl]
    have hnI : n = (nN : Int) := by omega
    have hl2S : rl2 ≤ S := by
     have hSs : (S : Int) = size := hSs
     have hrlI : rlI = (rl : Int) := hrlI
     have h9 : (rl2 : Int) ≤ (S : Int) := by rw [hrl2]; omega
     exact Int.ofNat_le.1 h9
    have hl2T : ∀ x ∈ l2, isT x := by rw [hl2]; exact isT_app hlT isT_rep
    have hltt : rl < rl2 := by rw [hrl2]; exact Nat.lt_add_of_pos_right hnN1.1
    have hmu := lp_mu5 hltt hl2S
    have hk2 := lp_k5 hkS hltt hl2S
    have hrl2f : rl + nN ≤ 200000 := by
     have hsS : S ≤ 16384 := by
      have hSs : (S : Int) = size := hSs
      omega
     rw [← hrl2]
     omega
    have hkk : ∃ k2, k = k2 + 1 := ⟨k - 1, by omega⟩
    obtain ⟨k2, hkk⟩ := hkk
    rw [egt]
    cbv
    refine loop_fam (α := Int × List Int × Nat × Nat) (65 :: 85 :: 102 :: (List.range' 113 13)) [5]
     (fun (i, l3, rl3, c3) => [(16, .int .i64 i), (12, .slice 5 .z 1 rl3 c3)])
     (fun (i, l3, rl3, c3) => [(5, .buf 5 .u8 l3 c3)])
     (fun (i, l3, rl3, c3) => ∃ t : Nat, i = t ∧ t ≤ nN ∧ l3 = l ++ List.replicate t 0 ∧ rl3 = rl + t ∧ rl3 ≤ c3)
     (fun (i, l3, rl3, c3) => nN - i.toNat) hw hm ?_ ?_
    ·refine Cv.genAt [16] [] (Cv.fold (65 :: 85 :: 102 :: (List.range' 113 13)) 6 [5] (by exact Nat.le_refl _) (by exact Nat.le_of_ble_eq_true rfl) (by rfl) (by cbv) ?_)
     intro js
     refine ⟨(_, _, _, _), ?_, js, rfl⟩
     exact ⟨0, rfl, Nat.zero_le _, by simp, rfl, hrc⟩
    rintro ⟨i, l3, rl3, c3⟩ js8 ⟨t, hi, ht9, hl3, hrl3, hrc3⟩
    have hi : i = (t : Int) := hi
    have hnI : n = (nN : Int) := hnI
    have hc1 : t < nN → vc .lss i n = true := fun h => by rw [qc, lss_true]; omega
    have hc2 : ¬ t < nN → vc .lss i n = false := fun h => by rw [qc, lss_false]; omega
    obtain ⟨i1, hi1⟩ : ∃ i1 : Int, i1 = ((t + 1 : Nat) : Int) := ⟨_, rfl⟩
    have htb : t ≤ 200000 := Nat.le_trans ht9 hnN1.2
    have ei1 : vb .add .i64 i 1 = i1 := by rw [qb, add_i64 (by omega) (by omega)]; omega
    have hmu3 : t < nN → nN - i1.toNat < nN - i.toNat := fun h => lp_mu6 hi hi1 h
    have hl3l : l3.length = rl3 := by rw [hl3, hrl3, List.length_append, List.length_replicate, ← hrl]
    have hvl3 : vln l3 = rl3 := by rw [hlnq]; exact hl3l
    have hsub : vsub [0] 0 1 = [0] := by simp only [qsub]; rfl
    obtain ⟨l4, hl4⟩ : ∃ l4, l4 = l ++ List.replicate (t + 1) (0 : Int) := ⟨_, rfl⟩
    have honto : vonto l3 rl3 [0] = l4 := by
     rw [qonto]
     show List.take rl3 l3 ++ [0] = l4
     rw [List.take_of_length_le (by rw [hl3l]; exact Nat.le_refl _), hl3, hl4, List.replicate_succ', List.append_assoc]
    have ha1 : vaddN rl3 1 = rl3 + 1 := by simp only [qaddN]
    have ha01 : vaddN 0 1 = 1 := by simp only [qaddN]
    have hln1 : vln [0] = 1 := by rw [hlnq]; rfl
    obtain ⟨rl4, hrl4⟩ : ∃ rl4, rl4 = rl3 + 1 := ⟨_, rfl⟩
    rw [← hrl4] at ha1
    have hrl4e : rl4 = rl + (t + 1) := by rw [hrl4, hrl3, Nat.add_assoc]
    have hfit4 : t < nN → rl4 ≤ 140737488355328 := fun h => by
     rw [hrl4e]
     exact Nat.le_trans (Nat.le_trans (Nat.add_le_add_left h rl) hrl2f) (by decide)
    cbv
    rw [ewx, esh, ewy, en]
    refine ⟨⟨hx00⟩, ?_⟩
    by_cases hlt9 : t < nN
    ·have hmu3 := hmu3 hlt9
     have hfit4 := hfit4 hlt9
     rw [hc1 hlt9]
     cbv
     refine ⟨⟨by rw [ha01, hln1]; exact Nat.le_refl _⟩, ⟨by rw [hvl3]; exact Nat.le_refl _⟩, ⟨Nat.le_refl _⟩, ⟨by rw [ha1]; omega⟩, ?_⟩
     intro c4 js9 hc4
     have hc5 : vaddN rl3 1 ≤ c4 := hc4.1
     rw [ha1] at hc5
     cbv
     rw [hsub, honto, ha1, ei1]
     refine Cv.fold (65 :: 85 :: 102 :: (List.range' 113 13)) 6 [5] (by exact Nat.le_refl _) (by exact Nat.le_of_ble_eq_true rfl) (by rfl) (by cbv) ?_
     intro js
     refine ⟨(_, _, _, _), ?_, js, rfl⟩
     exact ⟨⟨t + 1, hi1, hlt9, hl4, hrl4e, hc5⟩, hmu3⟩
    ·have htn : t = nN := Nat.le_antisymm ht9 (Nat.le_of_not_lt hlt9)
     have hl32 : l3 = l2 := by rw [hl3, hl2, htn]
     have hrl32 : rl3 = rl2 := by rw [hrl3, hrl2, htn]
     subst hl32
     subst hrl32
     rw [hc2 hlt9]
     cbv
     refine Cv.fold (([13, 14, 15, 16] ++ (List.range' 65 26)) ++ ((List.range' 91 20) ++ (List.range' 111 15))) 6 [5] (by exact Nat.le_refl _) (by exact Nat.le_of_ble_eq_true rfl) (by rfl) (by cbv) ?_
     intro js
     refine ⟨(_, _, _, q6, _), ?_, js, rfl⟩
     exact ⟨⟨k2, by rw [← hkk]; exact hN.symm, by rw [← hkk]; exact hk2, hl2l, hrc3, hl2S, hq6, hq68, hl2T⟩, hmu⟩
 ·rw [htr] at hXe
  have hk := m1 runs q1 e hRR hXe
  have ene : vc .neq e 0 = true := by rw [qc, neq_true]; omega
  cbv
  rw [ene]
  cbv
  exact ⟨[0, 1], .tup [.val (.slice none 0 0), .int .i64 e], [.one 41 [.slice 1 .z 1 bl cap, .int .i64 qI2], .ro .u8 b], rfl, rfl, rfl, rfl, ⟨rfl, rfl, trivial⟩, rfl, q2, qI2, hq2, hq28, .inr ⟨e, hk, he0, he1, rfl, rfl⟩⟩
end Go.Proofs.Ytkkddgdcmdnnmaa
namespace Go.Proofs.Ytkkddgdcmdnnmaa
open Go Go.Sx Go.Proofs
set_option maxRecDepth 10000
set_option maxHeartbeats 40000000
theorem refmap_con (b : List Int) (cap pos : Nat) (pI trees size : Int) (hby : ∀ x ∈ b, isByte x) (hl : b.length ≤ 2 ^ 50) (hp : pos ≤ 8 * b.length) (hpI : pI = pos) :
  Con Try.prog 21 [.ptr 0 .z 2 0, .int .i64 trees, .int .i64 size] [.one 41 [.slice 1 .z 1 b.length cap, .int .i64 pI], .ro .u8 b] (RefMap b (if (2 ≤ trees ∧ trees ≤ 256) ∧ 1 ≤ size ∧ size ≤ 16384 then mapR b trees size pos else .error 2) (fun p => [.one 41 [.slice 1 .z 1 b.length cap, .int .i64 p], .ro .u8 b])) := by
 by_cases hts : (2 ≤ trees ∧ trees ≤ 256) ∧ 1 ≤ size ∧ size ≤ 16384
 rotate_left
 ·rw [if_neg hts]
  unfold RefMap
  obtain ⟨bl, hbl⟩ : ∃ bl, bl = b.length := ⟨_, rfl⟩
  rw [← hbl] at hp
  simp only [← hbl]
  clear hl hby hbl
  refine con_gen (con_picks (con_drop (con_walk hmix fn21 ?_)))
  intro vb vc vw vtoN vofN vaddN vsubN vmaxI vminI vcutN vgd vst vln vrep vsub vonto vsplice vstrEq vbyteV vnotB veqB hw qb qc qw qtoN qofN qaddN qsubN qmaxI qminI qcutN qgd qst qln qrep qsub qonto qsplice qstrEq qbyteV qnotB qeqB
  have hm := hmix; generalize Try.prog = P at *
  by_cases h1 : trees < 2
  ·have e1 : vc .lss trees 2 = true := by rw [qc, lss_true]; exact h1
   cbv
   rw [e1]
   cbv
   exact ⟨[0, 1], .tup [.val (.slice none 0 0), .lit .i64 2], [.one 41 [.slice 1 .z 1 bl cap, .int .i64 pI], .ro .u8 b], rfl, rfl, rfl, rfl, ⟨rfl, rfl, trivial⟩, rfl, pos, pI, hpI, hp, .inr ⟨2, rfl, by decide, by decide, rfl, rfl⟩⟩
  have e1 : vc .lss trees 2 = false := by rw [qc, lss_false]; exact h1
  by_cases h2 : trees > 256
  ·have e2 : vc .gtr trees 256 = true := by rw [qc, gtr_true]; exact h2
   cbv
   rw [e1]
   cbv
   rw [e2]
   cbv
   exact ⟨[0, 1], .tup [.val (.slice none 0 0), .lit .i64 2], [.one 41 [.slice 1 .z 1 bl cap, .int .i64 pI], .ro .u8 b], rfl, rfl, rfl, rfl, ⟨rfl, rfl, trivial⟩, rfl, pos, pI, hpI, hp, .inr ⟨2, rfl, by decide, by decide, rfl, rfl⟩⟩
  have e2 : vc .gtr trees 256 = false := by rw [qc, gtr_false]; exact h2
  by_cases h3 : size < 1
  ·have e3 : vc .lss size 1 = true := by rw [qc, lss_true]; exact h3
   cbv
   rw [e1]
   cbv
   rw [e2]
   cbv
   rw [e3]
   cbv
   exact ⟨[0, 1], .tup [.val (.slice none 0 0), .lit .i64 2], [.one 41 [.slice 1 .z 1 bl cap, .int .i64 pI], .ro .u8 b], rfl, rfl, rfl, rfl, ⟨rfl, rfl, trivial⟩, rfl, pos, pI, hpI, hp, .inr ⟨2, rfl, by decide, by decide, rfl, rfl⟩⟩
  have e3 : vc .lss size 1 = false := by rw [qc, lss_false]; exact h3
  have e4 : vc .gtr size 16384 = true := by rw [qc, gtr_true]; omega
  cbv
  rw [e1]
  cbv
  rw [e2]
  cbv
  rw [e3]
  cbv
  rw [e4]
  cbv
  exact ⟨[0, 1], .tup [.val (.slice none 0 0), .lit .i64 2], [.one 41 [.slice 1 .z 1 bl cap, .int .i64 pI], .ro .u8 b], rfl, rfl, rfl, rfl, ⟨rfl, rfl, trivial⟩, rfl, pos, pI, hpI, hp, .inr ⟨2, rfl, by decide, by decide, rfl, rfl⟩⟩
 rw [if_pos hts]
 by_cases h1 : ∃ runs q n q2, runsR b pos = .ok (runs, q) ∧ readR b (trees + runs) q = .ok (.inl n, q2)
 ·obtain ⟨runs, q, n, q2, e1, e2⟩ := h1
  refine refmap_one b cap pos pI trees size hby hl hp hpI hts.1 hts.2 (fun runs' q' c q2' h h2 => ?_)
  rw [e1] at h; cases h
  rw [e2] at h2; cases h2
  exact ⟨n, rfl⟩
 ·refine refmap_len b cap pos pI trees size hby hl hp hpI hts.1 hts.2 (fun runs q c q2 h h2 => ?_)
  cases c with
  | inl n => exact absurd ⟨runs, q, n, q2, h, h2⟩ h1
  | inr L => exact ⟨L, rfl⟩
end Go.Proofs.Ytkkddgdcmdnnmaa
namespace Go.Proofs.Ytkkddgdcmdnnmaa
open Go Go.Sx Go.Proofs
set_option maxRecDepth 10000
set_option maxHeartbeats 4000000
theorem countX38_con (b : List Int) (pos cap : Nat) (acc hv ai : Int) (hby : ∀ x ∈ b, isByte x) (hl : b.length ≤ 2 ^ 50) (h : RS b pos acc hv ai) :
  ConX Try.prog 38 [.ptr 0 .z 1 0] [.one 33 [.ptr 1 .z 4 0], (.one 81 [.fn 39 [.ptr 2 .z 1 0, .ptr 3 .z 1 0], .int .u64 acc, .int .i64 hv, .fn 40 [.ptr 3 .z 1 0, .ptr 2 .z 1 0]]), .one 3 [.int .i64 ai], .one 22 [.slice 4 .z 1 b.length cap], .ro .u8 b] (PostR b (countR b pos) (.int .i64) (fun a h i => [.one 33 [.ptr 1 .z 4 0], (.one 81 [.fn 39 [.ptr 2 .z 1 0, .ptr 3 .z 1 0], .int .u64 a, .int .i64 h, .fn 40 [.ptr 3 .z 1 0, .ptr 2 .z 1 0]]), .one 3 [.int .i64 i], .one 22 [.slice 4 .z 1 b.length cap], .ro .u8 b])) (PanR (countR b pos) (fun a h i => [.one 33 [.ptr 1 .z 4 0], (.one 81 [.fn 39 [.ptr 2 .z 1 0, .ptr 3 .z 1 0], .int .u64 a, .int .i64 h, .fn 40 [.ptr 3 .z 1 0, .ptr 2 .z 1 0]]), .one 3 [.int .i64 i], .one 22 [.slice 4 .z 1 b.length cap], .ro .u8 b])) := by
 have g := fun (n : Nat) pos acc hv ai h hn => getX_con b pos cap n acc hv ai hby hl h hn
 have k0 : ∀ e, gt b 1 pos = .error e → countR b pos = .error e := fun e h => by unfold countR; rw [h]
 have k1 : ∀ q, gt b 1 pos = .ok (0, q) → countR b pos = .ok (1, q) := fun q h => by unfold countR; rw [h]; rfl
 have k2 : ∀ q e, gt b 1 pos = .ok (1, q) → gt b 3 q = .error e → countR b pos = .error e := fun q e h h2 => by unfold countR; rw [h]; simp [h2]
 have k3 : ∀ q k q2 e, gt b 1 pos = .ok (1, q) → gt b 3 q = .ok (k, q2) → gt b k.toNat q2 = .error e → countR b pos = .error e := fun q k q2 e h h2 h3 => by unfold countR; rw [h]; simp [h2, h3]
 have k4 : ∀ q k q2 y q3, gt b 1 pos = .ok (1, q) → gt b 3 q = .ok (k, q2) → gt b k.toNat q2 = .ok (y, q3) → countR b pos = .ok (2 ^ k.toNat + 1 + y, q3) := fun q k q2 y q3 h h2 h3 => by unfold countR; rw [h]; simp [h2, h3]
 have hx1 : ∀ x q, gt b 1 pos = .ok (x, q) → x = 0 ∨ x = 1 := fun x q h => by have := gt_ok h; omega
 have hx3 : ∀ p x q, gt b 3 p = .ok (x, q) → 0 ≤ x ∧ x < 8 := fun p x q h => by have := gt_ok h; omega
 have hxn : ∀ n p x q, n ≤ 7 → gt b n p = .ok (x, q) → 0 ≤ x ∧ x < 128 := fun n p x q hn h => by
  have := gt_ok h
  have h7 : (2 : Int) ^ n ≤ 2 ^ 7 := pow_up hn
  omega
 generalize countR b pos = r at *
 generalize gt b = G at *
 refine conX_gen (conX_cut 5 (by simp) (conX_drop (conX_walk hmix fn38 ?_)))
 intro vb vc vw vtoN vofN vaddN vsubN vmaxI vminI vcutN vgd vst vln vrep vsub vonto vsplice vstrEq vbyteV vnotB veqB hw qb qc qw qtoN qofN qaddN qsubN qmaxI qminI qcutN qgd qst qln qrep qsub qonto qsplice qstrEq qbyteV qnotB qeqB
 have hm := hmix; generalize Try.prog = P at *
 obtain ⟨bl, hbl⟩ : ∃ bl, bl = b.length := ⟨_, rfl⟩
 rw [← hbl]
 simp only [← hbl] at g
 clear hbl hl hby
 have g1 : ConX P _ _ _ _ _ := g 1 pos acc hv ai h (by decide)
 cbv
 refine call_conX (ρ := [(1, .z), (2, .z), (3, .z), (4, .z)]) g1 ⟨by rfl, by rfl, by rfl, by cbv; exact ⟨view_refl _, trivial⟩⟩ ?_ ?_
 rotate_left
 ·rintro v H R js ⟨e, hg, rfl, rfl, a, h, i, rfl⟩
  cbv
  exact ⟨e, k0 e hg, rfl, rfl, a, h, i, rfl⟩
 rintro v H R js ⟨x, q, hg, rfl, rfl, acc2, hv2, ai2, h2, rfl⟩
 have g3 : ConX P _ _ _ _ _ := g 3 q acc2 hv2 ai2 h2 (by decide)
 rcases hx1 x q hg with rfl | rfl
 ·have e00 : vc .eql 0 0 = true := by rw [qc]; rfl
  cbv
  rw [e00]
  cbv
  exact ⟨1, q, k1 q hg, rfl, rfl, acc2, hv2, ai2, h2, rfl⟩
 have e10 : vc .eql 1 0 = false := by rw [qc]; rfl
 cbv
 rw [e10]
 cbv
 refine call_conX (ρ := [(1, .z), (2, .z), (3, .z), (4, .z)]) g3 ⟨by rfl, by rfl, by rfl, by cbv; exact ⟨view_refl _, trivial⟩⟩ ?_ ?_
 rotate_left
 ·rintro v H R js2 ⟨e, hg3, rfl, rfl, a, h, i, rfl⟩
  cbv
  exact ⟨e, k2 q e hg hg3, rfl, rfl, a, h, i, rfl⟩
 rintro v H R js2 ⟨k, q2, hg3, rfl, rfl, acc3, hv3, ai3, h3, rfl⟩
 have hk := hx3 q k q2 hg3
 have gk := g k.toNat q2 acc3 hv3 ai3 h3 (by omega)
 simp only [nc] at gk
 rw [show ((k.toNat : Nat) : Int) = k by omega] at gk
 obtain ⟨s, hs⟩ : ∃ s : Int, s = 2 ^ k.toNat := ⟨_, rfl⟩
 have hk8 : k = 0 ∨ k = 1 ∨ k = 2 ∨ k = 3 ∨ k = 4 ∨ k = 5 ∨ k = 6 ∨ k = 7 := by omega
 have ewk : vw .u64 k = k := by rw [qw]; exact wrap_u64 (by omega) (by omega)
 have esh : vb .shl .i64 1 k = s := by rw [qb, hs]; rcases hk8 with rfl | rfl | rfl | rfl | rfl | rfl | rfl | rfl <;> decide
 have hsr : 1 ≤ s ∧ s ≤ 128 := by rw [hs]; rcases hk8 with rfl | rfl | rfl | rfl | rfl | rfl | rfl | rfl <;> decide
 obtain ⟨s1, hs1⟩ : ∃ s1 : Int, s1 = s + 1 := ⟨_, rfl⟩
 have es1 : vb .add .i64 s 1 = s1 := by rw [qb, add_i64 (by omega) (by omega)]; exact hs1.symm
 cbv
 rw [ewk, esh, es1]
 refine ⟨⟨hk.1⟩, ?_⟩
 refine call_conX (ρ := [(1, .z), (2, .z), (3, .z), (4, .z)]) gk ⟨by rfl, by rfl, by rfl, by cbv; exact ⟨view_refl _, trivial⟩⟩ ?_ ?_
 rotate_left
 ·rintro v H R js3 ⟨e, hg4, rfl, rfl, a, h, i, rfl⟩
  cbv
  exact ⟨e, k3 q k q2 e hg hg3 hg4, rfl, rfl, a, h, i, rfl⟩
 rintro v H R js3 ⟨y, q3, hg4, rfl, rfl, acc4, hv4, ai4, h4, rfl⟩
 have hy := hxn _ _ _ _ (by omega) hg4
 have ey : vb .add .i64 s1 y = s1 + y := by rw [qb, add_i64 (by omega) (by omega)]
 have hr := k4 q k q2 y q3 hg hg3 hg4
 rw [← hs, ← hs1] at hr
 cbv
 rw [ey]
 exact ⟨s1 + y, q3, hr, rfl, rfl, acc4, hv4, ai4, h4, rfl⟩
def CountPost (b : List Int) (r : Except Int (Int × Nat)) (B : Int → Int → Int → List SB) : SV → List SB → List Nat → Prop := fun v H R =>
 R = [] ∧ ∃ a h i, H = B a h i ∧ ((∃ e, r = .error e ∧ v = .tup [.int .i64 0, .int .i64 e]) ∨ ∃ x q, r = .ok (x, q) ∧ RS b q a h i ∧ v = .tup [.int .i64 x, .int .i64 0])
theorem countX37_con (b : List Int) (pos cap : Nat) (acc hv ai : Int) (hby : ∀ x ∈ b, isByte x) (hl : b.length ≤ 2 ^ 50) (h : RS b pos acc hv ai) :
  Con Try.prog 37 [.ptr 1 .z 4 0, .fn 38 [.ptr 0 .z 1 0]] [.one 33 [.ptr 1 .z 4 0], (.one 81 [.fn 39 [.ptr 2 .z 1 0, .ptr 3 .z 1 0], .int .u64 acc, .int .i64 hv, .fn 40 [.ptr 3 .z 1 0, .ptr 2 .z 1 0]]), .one 3 [.int .i64 ai], .one 22 [.slice 4 .z 1 b.length cap], .ro .u8 b] (CountPost b (countR b pos) (fun a h i => [.one 33 [.ptr 1 .z 4 0], (.one 81 [.fn 39 [.ptr 2 .z 1 0, .ptr 3 .z 1 0], .int .u64 a, .int .i64 h, .fn 40 [.ptr 3 .z 1 0, .ptr 2 .z 1 0]]), .one 3 [.int .i64 i], .one 22 [.slice 4 .z 1 b.length cap], .ro .u8 b])) := by
 have g := countX38_con b pos cap acc hv ai hby hl h
 generalize countR b pos = r at *
 clear hl hby h
 generalize b.length = bl at *
 refine con_gen (con_cut 5 (by simp) (con_drop (con_of_deferX hmix fd37 lp37 Try.call62 rec62 quiet62 ?_)))
 generalize Try.prog = P at *
 cbv
 intro D
 cbv
 refine call_conX (ρ := [(0, .z), (1, .z), (2, .z), (3, .z), (4, .z)]) g ⟨by rfl, by rfl, by rfl, by cbv; exact ⟨view_refl _, trivial⟩⟩ ?_ ?_
 rotate_left
 ·rintro v H R js2 ⟨e, rfl, rfl, rfl, a, h, i, rfl⟩
  cbv
  intro js
  refine ⟨by rfl, ?_⟩
  cbv
  exact ⟨a, h, i, rfl, .inl ⟨e, rfl, rfl⟩⟩
 rintro v H R js2 ⟨x, q, rfl, rfl, rfl, acc3, hv3, ai3, h3, rfl⟩
 cbv
 exact ⟨acc3, hv3, ai3, rfl, .inr ⟨x, q, rfl, h3, rfl⟩⟩
theorem countX10_con (b : List Int) (pos cap : Nat) (acc hv ai : Int) (hby : ∀ x ∈ b, isByte x) (hl : b.length ≤ 2 ^ 50) (h : RS b pos acc hv ai) :
  Con Try.prog 10 [.ptr 0 .z 4 0] [(.one 81 [.fn 39 [.ptr 1 .z 1 0, .ptr 2 .z 1 0], .int .u64 acc, .int .i64 hv, .fn 40 [.ptr 2 .z 1 0, .ptr 1 .z 1 0]]), .one 3 [.int .i64 ai], .one 22 [.slice 3 .z 1 b.length cap], .ro .u8 b] (CountPost b (countR b pos) (fun a h i => [(.one 81 [.fn 39 [.ptr 1 .z 1 0, .ptr 2 .z 1 0], .int .u64 a, .int .i64 h, .fn 40 [.ptr 2 .z 1 0, .ptr 1 .z 1 0]]), .one 3 [.int .i64 i], .one 22 [.slice 3 .z 1 b.length cap], .ro .u8 b])) := by
 have g := countX37_con b pos cap acc hv ai hby hl h
 generalize countR b pos = r at *
 clear hl hby h
 generalize b.length = bl at *
 refine con_gen (con_cut 4 (by simp) (con_drop (con_walk hmix fn10 ?_)))
 intro vb vc vw vtoN vofN vaddN vsubN vmaxI vminI vcutN vgd vst vln vrep vsub vonto vsplice vstrEq vbyteV vnotB veqB hw qb qc qw qtoN qofN qaddN qsubN qmaxI qminI qcutN qgd qst qln qrep qsub qonto qsplice qstrEq qbyteV qnotB qeqB
 have hm := hmix; generalize Try.prog = P at *
 cbv
 refine call_con (ρ := [(4, .z), (0, .z), (1, .z), (2, .z), (3, .z)]) g ⟨by rfl, by rfl, by rfl, by cbv; exact ⟨view_refl _, trivial⟩⟩ ?_
 rintro v H R js2 ⟨rfl, a, h, i, rfl, ⟨e, rfl, rfl⟩ | ⟨x, q, rfl, h3, rfl⟩⟩
 ·cbv
  exact ⟨a, h, i, rfl, .inl ⟨e, rfl, rfl⟩⟩
 ·cbv
  exact ⟨a, h, i, rfl, .inr ⟨x, q, rfl, h3, rfl⟩⟩
theorem refcount_con (b : List Int) (cap pos : Nat) (pI : Int) (hby : ∀ x ∈ b, isByte x) (hl : b.length ≤ 2 ^ 50) (hp : pos ≤ 8 * b.length) (hpI : pI = pos) :
  Con Try.prog 20 [.ptr 0 .z 2 0] [.one 41 [.slice 1 .z 1 b.length cap, .int .i64 pI], .ro .u8 b] (fun v H R => R = [] ∧ ∃ (q : Nat) (qI : Int), qI = q ∧ q ≤ 8 * b.length ∧ H = [.one 41 [.slice 1 .z 1 b.length cap, .int .i64 qI], .ro .u8 b] ∧ ((∃ x, countR b pos = .ok (x, q) ∧ v = .tup [.int .i64 x, .int .i64 0]) ∨ ∃ e z, countR b pos = .error e ∧ 0 < e ∧ e < 100 ∧ v = .tup [.int .i64 z, .int .i64 e])) := by
 have g := fun (n pos : Nat) (pI nI : Int) hp hpI hnI hn => refgt_con b cap pos n pI nI hby hl hp hpI hnI hn
 have k0 : ∀ e, gt b 1 pos = .error e → countR b pos = .error e := fun e h => by unfold countR; rw [h]
 have k1 : ∀ q, gt b 1 pos = .ok (0, q) → countR b pos = .ok (1, q) := fun q h => by unfold countR; rw [h]; rfl
 have k2 : ∀ q e, gt b 1 pos = .ok (1, q) → gt b 3 q = .error e → countR b pos = .error e := fun q e h h2 => by unfold countR; rw [h]; simp [h2]
 have k3 : ∀ q k q2 e, gt b 1 pos = .ok (1, q) → gt b 3 q = .ok (k, q2) → gt b k.toNat q2 = .error e → countR b pos = .error e := fun q k q2 e h h2 h3 => by unfold countR; rw [h]; simp [h2, h3]
 have k4 : ∀ q k q2 y q3, gt b 1 pos = .ok (1, q) → gt b 3 q = .ok (k, q2) → gt b k.toNat q2 = .ok (y, q3) → countR b pos = .ok (2 ^ k.toNat + 1 + y, q3) := fun q k q2 y q3 h h2 h3 => by unfold countR; rw [h]; simp [h2, h3]
 have hx1 : ∀ x q, gt b 1 pos = .ok (x, q) → x = 0 ∨ x = 1 := fun x q h => by have := gt_ok h; omega
 have hx3 : ∀ p x q, gt b 3 p = .ok (x, q) → 0 ≤ x ∧ x < 8 := fun p x q h => by have := gt_ok h; omega
 have hxn : ∀ n p x q, n ≤ 7 → gt b n p = .ok (x, q) → 0 ≤ x ∧ x < 128 := fun n p x q hn h => by
  have := gt_ok h
  have h7 : (2 : Int) ^ n ≤ 2 ^ 7 := pow_up hn
  omega
 generalize countR b pos = r at *
 generalize gt b = G at *
 refine con_gen (con_cut 2 (by simp) (con_drop (con_walk hmix fn20 ?_)))
 intro vb vc vw vtoN vofN vaddN vsubN vmaxI vminI vcutN vgd vst vln vrep vsub vonto vsplice vstrEq vbyteV vnotB veqB hw qb qc qw qtoN qofN qaddN qsubN qmaxI qminI qcutN qgd qst qln qrep qsub qonto qsplice qstrEq qbyteV qnotB qeqB
 have hm := hmix; generalize Try.prog = P at *
 obtain ⟨bl, hbl⟩ : ∃ bl, bl = b.length := ⟨_, rfl⟩
 unfold RefR at g
 rw [← hbl] at hp ⊢
 simp only [← hbl] at g
 clear hbl hl hby
 have g1 := g 1 pos pI 1 hp hpI rfl (by decide)
 have e00 : vc .neq 0 0 = false := by rw [qc]; rfl
 cbv
 refine call_con (ρ := [(0, .z), (1, .z)]) g1 ⟨by rfl, by rfl, by rfl, by cbv; exact ⟨view_refl _, trivial⟩⟩ ?_
 rintro v H R js ⟨rfl, q, qI, hq, hq8, rfl, ⟨x, hg, rfl⟩ | ⟨e, hg, he0, he1, rfl⟩⟩
 rotate_left
 ·have ene : vc .neq e 0 = true := by rw [qc, neq_true]; omega
  have hk := k0 e hg
  cbv
  rw [ene]
  cbv
  exact ⟨q, qI, hq, hq8, rfl, .inr ⟨e, 1, hk, he0, he1, rfl⟩⟩
 have g3 := g 3 q qI 3 hq8 hq rfl (by decide)
 rcases hx1 x q hg with rfl | rfl
 ·have e10 : vc .eql 0 0 = true := by rw [qc]; rfl
  have hk := k1 q hg
  cbv
  rw [e00]
  cbv
  rw [e10]
  cbv
  exact ⟨q, qI, hq, hq8, rfl, .inl ⟨1, hk, rfl⟩⟩
 have e10 : vc .eql 1 0 = false := by rw [qc]; rfl
 cbv
 rw [e00]
 cbv
 rw [e10]
 cbv
 refine call_con (ρ := [(0, .z), (1, .z)]) g3 ⟨by rfl, by rfl, by rfl, by cbv; exact ⟨view_refl _, trivial⟩⟩ ?_
 rintro v H R js2 ⟨rfl, q2, qI2, hq2, hq28, rfl, ⟨k, hg3, rfl⟩ | ⟨e, hg3, he0, he1, rfl⟩⟩
 rotate_left
 ·have ene : vc .neq e 0 = true := by rw [qc, neq_true]; omega
  have hk := k2 q e hg hg3
  cbv
  rw [ene]
  cbv
  exact ⟨q2, qI2, hq2, hq28, rfl, .inr ⟨e, 0, hk, he0, he1, rfl⟩⟩
 have hk := hx3 q k q2 hg3
 have gk := g k.toNat q2 qI2 k hq28 hq2 (by simp only [nc]; omega) (by omega)
 obtain ⟨s, hs⟩ : ∃ s : Int, s = 2 ^ k.toNat := ⟨_, rfl⟩
 have hk8 : k = 0 ∨ k = 1 ∨ k = 2 ∨ k = 3 ∨ k = 4 ∨ k = 5 ∨ k = 6 ∨ k = 7 := by omega
 have ewk : vw .i64 k = k := by rw [qw]; exact wrap_i64 (by omega) (by omega)
 have esh : vb .shl .i64 1 k = s := by rw [qb, hs]; rcases hk8 with rfl | rfl | rfl | rfl | rfl | rfl | rfl | rfl <;> decide
 have hsr : 1 ≤ s ∧ s ≤ 128 := by rw [hs]; rcases hk8 with rfl | rfl | rfl | rfl | rfl | rfl | rfl | rfl <;> decide
 obtain ⟨s1, hs1⟩ : ∃ s1 : Int, s1 = s + 1 := ⟨_, rfl⟩
 have es1 : vb .add .i64 s 1 = s1 := by rw [qb, add_i64 (by omega) (by omega)]; exact hs1.symm
 cbv
 rw [e00]
 cbv
 rw [ewk]
 refine call_con (ρ := [(0, .z), (1, .z)]) gk ⟨by rfl, by rfl, by rfl, by cbv; exact ⟨view_refl _, trivial⟩⟩ ?_
 rintro v H R js3 ⟨rfl, q3, qI3, hq3, hq38, rfl, ⟨y, hg4, rfl⟩ | ⟨e, hg4, he0, he1, rfl⟩⟩
 rotate_left
 ·have ene : vc .neq e 0 = true := by rw [qc, neq_true]; omega
  have hk := k3 q k q2 e hg hg3 hg4
  cbv
  rw [ene]
  cbv
  exact ⟨q3, qI3, hq3, hq38, rfl, .inr ⟨e, 0, hk, he0, he1, rfl⟩⟩
 have hy := hxn _ _ _ _ (by omega) hg4
 have ewy : vw .i64 y = y := by rw [qw]; exact wrap_i64 (by omega) (by omega)
 have ey : vb .add .i64 s1 y = s1 + y := by rw [qb, add_i64 (by omega) (by omega)]
 have hr := k4 q k q2 y q3 hg hg3 hg4
 rw [← hs, ← hs1] at hr
 cbv
 rw [e00]
 cbv
 rw [esh, es1, ewy, ey]
 refine ⟨⟨hk.1⟩, ?_⟩
 exact ⟨q3, qI3, hq3, hq38, rfl, .inl ⟨s1 + y, hr, rfl⟩⟩
end Go.Proofs.Ytkkddgdcmdnnmaa
namespace Go.Proofs.Ytkkddgdcmdnnmaa
open Go Go.Sx Go.Proofs
set_option maxRecDepth 10000
set_option maxHeartbeats 4000000
theorem refleft19_con (b : List Int) (cap pos : Nat) (pI lf : Int) (hl : b.length ≤ 2 ^ 50) (hp : pos ≤ 8 * b.length) (hpI : pI = pos) (hlf : lf = 8 * (b.length : Int) - pos) :
  Con Try.prog 19 [.ptr 0 .z 2 0] [.one 41 [.slice 1 .z 1 b.length cap, .int .i64 pI], .ro .u8 b] (fun v H R => v = .int .i64 lf ∧ R = [] ∧ H = [.one 41 [.slice 1 .z 1 b.length cap, .int .i64 pI], .ro .u8 b]) := by
 subst hpI hlf
 exact refleft_con b cap pos hl hp
theorem rleft18_con (b : List Int) (pos cap : Nat) (acc hv ai lf : Int) (hl : b.length ≤ 2 ^ 50) (h : RS b pos acc hv ai) (hlf : lf = 8 * (b.length : Int) - pos) :
  Con Try.prog 18 [.ptr 0 .z 4 0] [(.one 81 [.fn 39 [.ptr 1 .z 1 0, .ptr 2 .z 1 0], .int .u64 acc, .int .i64 hv, .fn 40 [.ptr 2 .z 1 0, .ptr 1 .z 1 0]]), .one 3 [.int .i64 ai], .one 22 [.slice 3 .z 1 b.length cap], .ro .u8 b] (fun v H R => v = .int .i64 lf ∧ R = [] ∧ H = [(.one 81 [.fn 39 [.ptr 1 .z 1 0, .ptr 2 .z 1 0], .int .u64 acc, .int .i64 hv, .fn 40 [.ptr 2 .z 1 0, .ptr 1 .z 1 0]]), .one 3 [.int .i64 ai], .one 22 [.slice 3 .z 1 b.length cap], .ro .u8 b]) := by
 subst hlf
 exact rleft_rs b pos cap acc hv ai hl h
end Go.Proofs.Ytkkddgdcmdnnmaa
