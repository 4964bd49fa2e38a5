import Derived.Test.YtkkddgdcmdnnmaaA2
import Derived.Test.YtkkddgdcmdnnmaaA3
import Derived.Test.YtkkddgdcmdnnmaaA4
import Derived.Test.YtkkddgdcmdnnmaaA1
set_option linter.unusedVariables false
set_option linter.unusedSimpArgs false
namespace Go.Proofs.Ytkkddgdcmdnnmaa
open Go Go.Sx Go.Proofs
set_option maxRecDepth 10000
set_option maxHeartbeats 40000000
def MapPost (b : List Int) (r : Except Int (List Int × Nat)) (k : Nat) (B : Int → Int → Int → List SB) : SV → List SB → List Nat → Prop := fun v H R =>
 ∃ L q, r = .ok (L, q) ∧ R = [] ∧ ∃ a h i, RS b q a h i ∧ ∃ cp cq, v = .slice k .z 1 L.length cp ∧ H = B a h i ++ [.buf 5 .u8 L cq]
theorem lp_mu5 {S a c : Nat} (h : a < c) (h2 : c ≤ S) : S - c < S - a := by omega
theorem lp_k5 {S k a c : Nat} (h : S + 1 - a ≤ k + 1) (h1 : a < c) (h2 : c ≤ S) : S + 1 - c ≤ k := by omega
theorem isT_app {l m : List Int} (h : ∀ x ∈ l, isT x) (h2 : ∀ x ∈ m, isT x) : ∀ x ∈ l ++ m, isT x := fun x hx => (List.mem_append.1 hx).elim (h x) (h2 x)
theorem isT_rep {n : Nat} : ∀ x ∈ List.replicate n (0 : Int), isT x := fun x hx => by rw [(List.mem_replicate.1 hx).2]; exact ⟨by decide, by decide⟩
theorem isT_one {y : Int} (h : isT y) : ∀ x ∈ [y], isT x := fun x hx => by rw [List.mem_singleton.1 hx]; exact h
def Er (e : Int) : Prop := e = 10 ∨ e = 11
theorem smR_err {b : List Int} {p : Nat} {e : Int} (h : smR b p = .error e) : Er e := by
 unfold smR at h
 split at h
 ·rename_i h1
  cases h
  exact .inl (gt_err h1).1
 split at h
 ·split at h
  ·rename_i h1
   cases h
   exact .inl (gt_err h1).1
  split at h
  ·cases h
  split at h
  ·rename_i h1
   cases h
   exact .inl (gt_err h1).1
  ·cases h
 ·split at h <;> cases h
theorem innR_err {b : List Int} : ∀ (k i p : Nat) (L : List Int) (left cnt one e : Int), innR b k i p L left cnt one = .error e → Er e
 | 0, i, p, L, left, cnt, one, e, h => by cases h
 | k + 1, i, p, L, left, cnt, one, e, h => by
  simp only [innR] at h
  split at h
  ·rename_i h1
   cases h
   exact smR_err h1
  ·split at h
   ·exact innR_err k _ _ _ _ _ _ e h
   ·split at h
    ·cases h
    ·exact innR_err k _ _ _ _ _ _ e h
theorem innerR_err {b : List Int} {s p : Nat} {e : Int} (h : innerR b s p = .error e) : Er e := by
 unfold innerR at h
 split at h
 ·rename_i h1
  cases h
  exact innR_err _ _ _ _ _ _ _ _ h1
 ·split at h
  ·cases h
  ·split at h
   ·cases h
   ·cases h; exact .inr rfl
theorem symsR_err {b : List Int} {w : Nat} {size : Int} : ∀ (k p : Nat) (l : List Int) (e : Int), symsR b w size k p l = .error e → Er e
 | 0, p, l, e, h => by cases h
 | k + 1, p, l, e, h => by
  simp only [symsR] at h
  split at h
  ·rename_i h1
   cases h
   exact .inl (gt_err h1).1
  ·split at h
   ·exact symsR_err k _ _ e h
   ·cases h; exact .inr rfl
theorem fewR_err {b : List Int} {size : Int} {p : Nat} {e : Int} (h : fewR b size p = .error e) : Er e := by
 unfold fewR at h
 split at h
 ·rename_i h1
  cases h
  exact .inl (gt_err h1).1
 split at h
 ·rename_i h1
  cases h
  exact symsR_err _ _ _ _ h1
 split at h
 ·split at h
  ·cases h
  split at h
  ·split at h
   ·rename_i h1
    cases h
    exact .inl (gt_err h1).1
   ·cases h
  ·cases h
 ·cases h; exact .inr rfl
theorem nxR_err {b : List Int} {c : Int ⊕ List Int} {p : Nat} {e : Int} (h : nxR b c p = .error e) : Er e := by
 cases c with
 | inl n => cases h
 | inr L =>
  simp only [nxR] at h
  unfold decR at h
  split at h
  ·cases h
  ·cases h; exact .inl rfl
theorem rdR_err {b : List Int} {nx : Nat → Except Int (Int × Nat)} {size : Int} (hnx : ∀ p e, nx p = .error e → Er e) : ∀ (k p : Nat) (last row kind : Int) (lens : List Int) (left e : Int), rdR b nx size k p last row kind lens left = .error e → Er e
 | 0, p, last, row, kind, lens, left, e, h => by cases h; exact .inr rfl
 | k + 1, p, last, row, kind, lens, left, e, h => by
  have key : ∀ q last row kind l m, rdN size (rdR b nx size k) q last row kind lens left l m = .error e → Er e := fun q last row kind l m h => by
   unfold rdN at h
   split at h
   ·split at h
    ·cases h
    ·exact rdR_err hnx k _ _ _ _ _ _ e h
   ·cases h; exact .inr rfl
  simp only [rdR] at h
  split at h
  ·rename_i h1
   cases h
   exact hnx _ _ h1
  ·split at h
   ·exact key _ _ _ _ _ _ h
   ·split at h
    ·rename_i h1
     cases h
     exact .inl (gt_err h1).1
    ·exact key _ _ _ _ _ _ h
theorem readR_err {b : List Int} {size : Int} {p : Nat} {e : Int} (h : readR b size p = .error e) : Er e := by
 unfold readR at h
 split at h
 ·rename_i h1
  cases h
  exact .inl (gt_err h1).1
 split at h
 ·exact fewR_err h
 split at h
 ·rename_i h1
  cases h
  exact innerR_err h1
 split at h
 ·rename_i h1
  cases h
  exact rdR_err (fun _ _ h => nxR_err h) _ _ _ _ _ _ _ _ h1
 ·split at h
  ·cases h
  ·cases h; exact .inr rfl
theorem key6 {A B C D E F : Type} {Goal : Prop} (G Fc : A → B → C → D → E → F → Prop) (hm : (∀ a b c d e f, Fc a b c d e f → G a b c d e f) → Goal) (hk : ∀ a b c d e f, Fc a b c d e f → G a b c d e f) : Goal := hm hk
theorem map34_con (b : List Int) (pos cap : Nat) (acc hv ai trees size : Int) (hby : ∀ x ∈ b, isByte x) (hl : b.length ≤ 2 ^ 50) (h : RS b pos acc hv ai) (hp : pos ≤ 8 * b.length) (ht : 2 ≤ trees ∧ trees ≤ 256) (hs : 1 ≤ size ∧ size ≤ 16384) :
  ConX Try.prog 34 [.ptr 0 .z 1 0, .ptr 1 .z 1 0, .ptr 2 .z 1 0] [.one 33 [.ptr 3 .z 4 0], .one 3 [.int .i64 trees], .one 3 [.int .i64 size], (.one 81 [.fn 39 [.ptr 4 .z 1 0, .ptr 5 .z 1 0], .int .u64 acc, .int .i64 hv, .fn 40 [.ptr 5 .z 1 0, .ptr 4 .z 1 0]]), .one 3 [.int .i64 ai], .one 22 [.slice 6 .z 1 b.length cap], .ro .u8 b] (MapPost b (mapR b trees size pos) 7 (fun a h i => [.one 33 [.ptr 3 .z 4 0], .one 3 [.int .i64 trees], .one 3 [.int .i64 size], (.one 81 [.fn 39 [.ptr 4 .z 1 0, .ptr 5 .z 1 0], .int .u64 a, .int .i64 h, .fn 40 [.ptr 5 .z 1 0, .ptr 4 .z 1 0]]), .one 3 [.int .i64 i], .one 22 [.slice 6 .z 1 b.length cap], .ro .u8 b])) (PanR (mapR b trees size pos) (fun a h i => [.one 33 [.ptr 3 .z 4 0], .one 3 [.int .i64 trees], .one 3 [.int .i64 size], (.one 81 [.fn 39 [.ptr 4 .z 1 0, .ptr 5 .z 1 0], .int .u64 a, .int .i64 h, .fn 40 [.ptr 5 .z 1 0, .ptr 4 .z 1 0]]), .one 3 [.int .i64 i], .one 22 [.slice 6 .z 1 b.length cap], .ro .u8 b])) := by
 have gn := fun (n : Nat) (nI : Int) pos acc hv ai h (hnI : nI = n) hn => by
  have := getX_con b pos cap n acc hv ai hby hl h hn
  rw [← hnI] at this
  exact this
 have gr := fun (s : Int) pos acc hv ai h hp => readX7_con b pos cap acc hv ai s hby hl h hp
 have nx1 := fun one pos acc hv ai h => nextX_one b pos cap acc hv ai one hby hl h
 have nx2 := fun L pos cap2 acc hv ai hR h h0 h1 hp => nextX_con L b pos cap cap2 acc hv ai 0 hR hby hl h h0 h1 hp
 have hmust := mustX_con
 have hmove := move_con
 have go7 := Try.call7
 have hgt : ∀ n p x q, gt b n p = .ok (x, q) → 0 ≤ x ∧ x < 2 ^ n ∧ q ≤ 8 * b.length := fun n p x q h => by have := gt_ok h; omega
 have hrd : ∀ s p c q, 1 ≤ s ∧ s ≤ 1024 → p ≤ 8 * b.length → readR b s p = .ok (c, q) → CodeOk s c ∧ q ≤ 8 * b.length := fun s p c q h1 h2 h => readR_ok h1 h2 h
 have herr : ∀ s p e, readR b s p = .error e → e ≠ 0 := fun s p e h => by
  rcases readR_err h with rfl | rfl <;> decide
 have nxr := fun s c (h0 : 0 ≤ s) (hc : CodeOk s c) p q x hp h => @nxC_range b s c h0 hc p q x hp h
 have ra0 : ∀ e, gt b 1 pos = .error e → runsR b pos = .error e := fun e h => by unfold runsR; rw [h]
 have ra1 : ∀ x q, gt b 1 pos = .ok (x, q) → x ≠ 1 → runsR b pos = .ok (0, q) := fun x q h h1 => by unfold runsR; rw [h]; simp only [if_neg h1]
 have ra2 : ∀ q e, gt b 1 pos = .ok (1, q) → gt b 4 q = .error e → runsR b pos = .error e := fun q e h h2 => by unfold runsR; rw [h]; simp [h2]
 have ra3 : ∀ q y q2, gt b 1 pos = .ok (1, q) → gt b 4 q = .ok (y, q2) → runsR b pos = .ok (1 + y, q2) := fun q y q2 h h2 => by unfold runsR; rw [h]; simp [h2]
 have m0 : ∀ e, runsR b pos = .error e → mapR b trees size pos = .error e := fun e h => by unfold mapR; rw [h]
 have m1 : ∀ runs q e, runsR b pos = .ok (runs, q) → readR b (trees + runs) q = .error e → mapR b trees size pos = .error e := fun runs q e h h1 => by unfold mapR; rw [h]; simp only [h1]
 have m2 : ∀ runs q c q2 e, runsR b pos = .ok (runs, q) → readR b (trees + runs) q = .ok (c, q2) → mpL b (nxR b c) runs size (size.toNat + 1) q2 [] = .error e → mapR b trees size pos = .error e := fun runs q c q2 e h h1 h2 => by unfold mapR; rw [h]; simp only [h1, h2]
 have m3 : ∀ runs q c q2 l q3, runsR b pos = .ok (runs, q) → readR b (trees + runs) q = .ok (c, q2) → mpL b (nxR b c) runs size (size.toNat + 1) q2 [] = .ok (l, q3) → mapR b trees size pos = endR5 b trees l q3 := fun runs q c q2 l q3 h h1 h2 => by unfold mapR; rw [h]; simp only [h1, h2]
 have d0 : ∀ l q e, gt b 1 q = .error e → endR5 b trees l q = .error e := fun l q e h => by unfold endR5; rw [h]
 have d1 : ∀ l q q2, gt b 1 q = .ok (1, q2) → ¬ (∀ n ∈ mvS row0 l, n < trees) → endR5 b trees l q = .error 11 := fun l q q2 h h1 => by unfold endR5; rw [h]; simp only [if_true, if_neg h1]
 have d2 : ∀ l q q2, gt b 1 q = .ok (1, q2) → (∀ n ∈ mvS row0 l, n < trees) → endR5 b trees l q = .ok (mvS row0 l, q2) := fun l q q2 h h1 => by unfold endR5; rw [h]; simp only [if_true, if_pos h1]
 have d3 : ∀ l q m q2, gt b 1 q = .ok (m, q2) → m ≠ 1 → ¬ (∀ n ∈ l, n < trees) → endR5 b trees l q = .error 11 := fun l q m q2 h hm h1 => by unfold endR5; rw [h]; simp only [if_neg hm, if_neg h1]
 have d4 : ∀ l q m q2, gt b 1 q = .ok (m, q2) → m ≠ 1 → (∀ n ∈ l, n < trees) → endR5 b trees l q = .ok (l, q2) := fun l q m q2 h hm h1 => by unfold endR5; rw [h]; simp only [if_neg hm, if_pos h1]
 have f_end := fun (nx : Nat → Except Int (Int × Nat)) (runs : Int) (k p : Nat) (l : List Int) => @mpL_end b nx runs size k p l
 have f_e := fun (nx : Nat → Except Int (Int × Nat)) (runs : Int) (k p : Nat) (l : List Int) (e : Int) => @mpL_e b nx runs size k p l e
 have f_a := fun (nx : Nat → Except Int (Int × Nat)) (runs : Int) (k p q : Nat) (l : List Int) (x : Int) => @mpL_a b nx runs size k p q l x
 have f_z := fun (nx : Nat → Except Int (Int × Nat)) (runs : Int) (k p q : Nat) (l : List Int) (x : Int) => @mpL_z b nx runs size k p q l x
 have f_g := fun (nx : Nat → Except Int (Int × Nat)) (runs : Int) (k p q : Nat) (l : List Int) (x e : Int) => @mpL_g b nx runs size k p q l x e
 have f_p := fun (nx : Nat → Except Int (Int × Nat)) (runs : Int) (k p q q2 : Nat) (l : List Int) (x y : Int) => @mpL_p b nx runs size k p q q2 l x y
 have f_r := fun (nx : Nat → Except Int (Int × Nat)) (runs : Int) (k p q q2 : Nat) (l : List Int) (x y : Int) => @mpL_r b nx runs size k p q q2 l x y
 have hmv_len := fun l => mvS_len l row0
 have hmv_mem := fun l h => mvS_mem l row0 row0_len row0_mem h
 generalize mapR b trees size pos = r at *
 generalize endR5 b trees = EN at *
 generalize runsR b pos = RR at *
 generalize readR b = RD at *
 generalize mpL b = ML at *
 generalize mvS row0 = MV at *
 generalize hGT : gt b = GT at *
 clear hGT
 refine conX_gen (conX_picks (conX_drop (conX_walk hmix fn34 ?_)))
 intro vb vc vw vtoN vofN vaddN vsubN vmaxI vminI vcutN vgd vst vln vrep vsub vonto vsplice vstrEq vbyteV vnotB veqB hw qb qc qw qtoN qofN qaddN qsubN qmaxI qminI qcutN qgd qst qln qrep qsub qonto qsplice qstrEq qbyteV qnotB qeqB
 have hm := hmix; generalize Try.prog = P at *
 obtain ⟨bl, hbl⟩ : ∃ bl, bl = b.length := ⟨_, rfl⟩
 unfold ReadPost at gr
 rw [← hbl] at hp hgt hrd ⊢
 simp only [← hbl] at gn gr nx1 nx2
 clear hl hby
 have g1 : ConX P _ _ _ _ _ := gn 1 1 pos acc hv ai h rfl (by decide)
 have hto : ∀ i : Nat, vtoN (i : Int) = i := fun i => by simp only [qtoN, Int.toNat_natCast]
 have hadd0 : ∀ i, vaddN 0 i = i := fun i => by simp only [qaddN, Nat.zero_add]
 have hlnq : ∀ l, vln l = l.length := fun l => by rw [qln]
 have hgd : ∀ l j, vgd l j = l.getD j 0 := fun l j => by rw [qgd]
 have e00 : vc .neq 0 0 = false := by rw [qc]; rfl
 cbv
 refine call_conX (ρ := [(3, .z), (4, .z), (5, .z), (6, .z)]) g1 ⟨by rfl, by rfl, by rfl, by cbv; exact ⟨view_refl _, trivial⟩⟩ ?_ ?_
 rotate_left
 ·rintro v H R js ⟨e, hg, rfl, rfl, a, h, i, rfl⟩
  have hk := m0 e (ra0 e hg)
  cbv
  exact ⟨[0, 1, 2, 3, 4, 5, 6], .iface 75 (.agg [.int .i64 e]), [.one 33 [.ptr 3 .z 4 0], .one 3 [.int .i64 trees], .one 3 [.int .i64 size], (.one 81 [.fn 39 [.ptr 4 .z 1 0, .ptr 5 .z 1 0], .int .u64 a, .int .i64 h, .fn 40 [.ptr 5 .z 1 0, .ptr 4 .z 1 0]]), .one 3 [.int .i64 i], .one 22 [.slice 6 .z 1 bl cap], .ro .u8 b], rfl, rfl, rfl, rfl, ⟨rfl, rfl, rfl, rfl, rfl, rfl, rfl, trivial⟩, e, hk, rfl, rfl, a, h, i, rfl⟩
 rintro v H R js ⟨x0, q0, hg, rfl, rfl, acc2, hv2, ai2, h2, rfl⟩
 have hx0 := hgt 1 pos x0 q0 hg
 refine' key6 _ (fun (js7 : Nat → Value) (runs tr acc3 hv3 ai3 : Int) => ∃ q1, RR = .ok (runs, q1) ∧ (0 ≤ runs ∧ runs ≤ 16) ∧ q1 ≤ 8 * bl ∧ tr = trees + runs ∧ RS b q1 acc3 hv3 ai3) (fun key => ?_) ?_
 rotate_left
 ·by_cases hx1 : x0 = 1
  ·subst hx1
   have e11 : vc .eql 1 1 = true := by rw [qc]; rfl
   have g4 : ConX P _ _ _ _ _ := gn 4 4 q0 acc2 hv2 ai2 h2 rfl (by decide)
   cbv
   rw [e11]
   cbv
   refine call_conX (ρ := [(3, .z), (4, .z), (5, .z), (6, .z)]) g4 ⟨by rfl, by rfl, by rfl, by cbv; exact ⟨view_refl _, trivial⟩⟩ ?_ ?_
   rotate_left
   ·rintro v H R js2 ⟨e, hg4, rfl, rfl, a, h, i, rfl⟩
    have hk := m0 e (ra2 q0 e hg hg4)
    cbv
    exact ⟨[0, 1, 2, 3, 4, 5, 6], .iface 75 (.agg [.int .i64 e]), [.one 33 [.ptr 3 .z 4 0], .one 3 [.int .i64 trees], .one 3 [.int .i64 size], (.one 81 [.fn 39 [.ptr 4 .z 1 0, .ptr 5 .z 1 0], .int .u64 a, .int .i64 h, .fn 40 [.ptr 5 .z 1 0, .ptr 4 .z 1 0]]), .one 3 [.int .i64 i], .one 22 [.slice 6 .z 1 bl cap], .ro .u8 b], rfl, rfl, rfl, rfl, ⟨rfl, rfl, rfl, rfl, rfl, rfl, rfl, trivial⟩, e, hk, rfl, rfl, a, h, i, rfl⟩
   rintro v H R js2 ⟨y0, q1, hg4, rfl, rfl, acc3, hv3, ai3, h3, rfl⟩
   have hy0 := hgt 4 q0 y0 q1 hg4
   obtain ⟨runs, hruns⟩ : ∃ runs : Int, runs = 1 + y0 := ⟨_, rfl⟩
   have hRR := ra3 q0 y0 q1 hg hg4
   rw [← hruns] at hRR
   have hrr : 0 ≤ runs ∧ runs ≤ 16 := by omega
   have hq1 := hy0.2.2
   have erun : vb .add .i64 1 y0 = runs := by rw [qb, add_i64 (by omega) (by omega)]; exact hruns.symm
   obtain ⟨tr, htr⟩ : ∃ tr : Int, tr = trees + runs := ⟨_, rfl⟩
   have etr : vb .add .i64 trees runs = tr := by rw [qb, add_i64 (by omega) (by omega)]; exact htr.symm
   cbv
   rw [erun, etr]
   refine CallX.cv go7 (Cv.hav (List.range' 12 11) fun js7 => Cv.genAt [4] [] (Cv.here ?_)) (by rfl)
   cbv
   exact key js7 runs tr acc3 hv3 ai3 ⟨q1, hRR, hrr, hq1, htr, h3⟩
  ·have e11 : vc .eql x0 1 = false := by rw [qc, eql_false]; exact hx1
   have hRR := ra1 x0 q0 hg hx1
   have hq1 := hx0.2.2
   obtain ⟨tr, htr⟩ : ∃ tr : Int, tr = trees + 0 := ⟨_, rfl⟩
   have etr : vb .add .i64 trees 0 = tr := by rw [qb, add_i64 (by omega) (by omega)]; omega
   cbv
   rw [e11]
   cbv
   rw [etr]
   refine CallX.cv go7 (Cv.hav (List.range' 12 11) fun js7 => Cv.genAt [4] [] (Cv.here ?_)) (by rfl)
   cbv
   exact key js7 0 tr acc2 hv2 ai2 ⟨q0, hRR, by decide, hq1, htr, h2⟩
 rintro js7 runs tr acc3 hv3 ai3 ⟨q1, hRR, hrr, hq1, htr, h3⟩
 have hgr := gr tr q1 acc3 hv3 ai3 h3 hq1
 rw [if_pos (show 1 ≤ tr ∧ tr ≤ 1024 by omega)] at hgr
 refine call_con (ρ := [(3, .z), (4, .z), (5, .z), (6, .z)]) hgr ⟨by rfl, by rfl, by rfl, by cbv; exact ⟨view_refl _, trivial⟩⟩ ?_
 rintro v H R js3 ⟨rfl, acc4, hv4, ai4, ⟨e, hXe, rfl, rfl⟩ | ⟨c0, q2, hXe, h4, ⟨one, rfl, rfl, rfl⟩ | ⟨L, cp, cq, rfl, rfl, rfl⟩⟩⟩
 ·rw [htr] at hXe
  have hk := m1 runs q1 e hRR hXe
  have he9 : e ≠ 0 := herr _ _ _ hXe
  have ene : vc .neq e 0 = true := by rw [qc, neq_true]; exact he9
  cbv
  rw [ene]
  cbv
  exact ⟨[0, 1, 2, 3, 4, 5, 6], .iface 75 (.agg [.int .i64 e]), [.one 33 [.ptr 3 .z 4 0], .one 3 [.int .i64 trees], .one 3 [.int .i64 size], (.one 81 [.fn 39 [.ptr 4 .z 1 0, .ptr 5 .z 1 0], .int .u64 acc4, .int .i64 hv4, .fn 40 [.ptr 5 .z 1 0, .ptr 4 .z 1 0]]), .one 3 [.int .i64 ai4], .one 22 [.slice 6 .z 1 bl cap], .ro .u8 b], rfl, rfl, rfl, rfl, ⟨rfl, rfl, rfl, rfl, rfl, rfl, rfl, trivial⟩, e, hk, rfl, rfl, acc4, hv4, ai4, rfl⟩
 ·rw [htr] at hXe
  have hcode := hrd _ _ _ _ (by omega) hq1 hXe
  have hnx : ∀ p acc hv ai, RS b p acc hv ai → p ≤ 8 * bl → ConX P 35 [.ptr 0 .z 4 0, .agg [.val (.slice none 0 0), .int .i64 one]] [(.one 81 [.fn 39 [.ptr 1 .z 1 0, .ptr 2 .z 1 0], .int .u64 acc, .int .i64 hv, .fn 40 [.ptr 2 .z 1 0, .ptr 1 .z 1 0]]), .one 3 [.int .i64 ai], .one 22 [.slice 3 .z 1 bl cap], .ro .u8 b] (PostR b (nxR b (.inl one) p) (.int .i64) (fun a h i => [(.one 81 [.fn 39 [.ptr 1 .z 1 0, .ptr 2 .z 1 0], .int .u64 a, .int .i64 h, .fn 40 [.ptr 2 .z 1 0, .ptr 1 .z 1 0]]), .one 3 [.int .i64 i], .one 22 [.slice 3 .z 1 bl cap], .ro .u8 b])) (PanR (nxR b (.inl one) p) (fun a h i => [(.one 81 [.fn 39 [.ptr 1 .z 1 0, .ptr 2 .z 1 0], .int .u64 a, .int .i64 h, .fn 40 [.ptr 2 .z 1 0, .ptr 1 .z 1 0]]), .one 3 [.int .i64 i], .one 22 [.slice 3 .z 1 bl cap], .ro .u8 b])) := fun p acc hv ai h _ => nx1 one p acc hv ai h
  obtain ⟨S, hS⟩ : ∃ S, S = size.toNat := ⟨_, rfl⟩
  have hSs : (S : Int) = size := by omega
  have m2 := fun e => m2 runs q1 (.inl one) q2 e hRR hXe
  have m3 := fun l q3 => m3 runs q1 (.inl one) q2 l q3 hRR hXe
  rw [← hS] at m2 m3
  have f_end := f_end (nxR b (.inl one)) runs
  have f_e := f_e (nxR b (.inl one)) runs
  have f_a := f_a (nxR b (.inl one)) runs
  have f_z := f_z (nxR b (.inl one)) runs
  have f_g := f_g (nxR b (.inl one)) runs
  have f_p := f_p (nxR b (.inl one)) runs
  have f_r := f_r (nxR b (.inl one)) runs
  have hnr := fun p q x => nxr (trees + runs) (.inl one) (by omega) hcode.1 p q x
  rw [← hbl] at hnr
  clear hbl
  obtain ⟨NX, hNX⟩ : ∃ NX, NX = nxR b (.inl one) := ⟨_, rfl⟩
  rw [← hNX] at m2 m3 f_end f_e f_a f_z f_g f_p f_r hnx hnr
  obtain ⟨F, hF⟩ : ∃ F, F = ML NX runs size := ⟨_, rfl⟩
  rw [← hF] at m2 m3 f_end f_e f_a f_z f_g f_p f_r
  obtain ⟨r1, hr1⟩ : ∃ r1, F (S + 1) q2 [] = r1 := ⟨_, rfl⟩
  rw [hr1] at m2 m3
  have hq2 := hcode.2
  clear hNX hF nx1 nx2 gr hrd nxr hgr hcode g1 ra0 ra1 ra2 ra3 m0 m1
  cbv
  rw [e00]
  cbv
  refine WX.cv (Cv.nilT 7 5 .u8 (by rfl) (by cbv) (Cv.here ?_))
  refine loop_fam (α := List Int × Nat × Nat × Nat × Int × Int × Int) (8 :: 9 :: ((List.range' 31 20) ++ (List.range' 51 21))) [8]
   (fun (l, rl, c, p, acc, hv, ai) => [(7, .slice 8 .z 1 rl c)])
   (fun (l, rl, c, p, acc, hv, ai) => [(3, (.one 81 [.fn 39 [.ptr 4 .z 1 0, .ptr 5 .z 1 0], .int .u64 acc, .int .i64 hv, .fn 40 [.ptr 5 .z 1 0, .ptr 4 .z 1 0]])), (4, .one 3 [.int .i64 ai]), (8, .buf 5 .u8 l c)])
   (fun (l, rl, c, p, acc, hv, ai) => ∃ k : Nat, F (k + 1) p l = r1 ∧ S + 1 - rl ≤ k + 1 ∧ rl = l.length ∧ rl ≤ c ∧ rl ≤ S ∧ RS b p acc hv ai ∧ p ≤ 8 * bl ∧ ∀ x ∈ l, isT x)
   (fun (l, rl, c, p, acc, hv, ai) => S - rl) hw hm ?_ ?_
  ·refine Cv.genAt [] [] (Cv.fold (8 :: 9 :: ((List.range' 31 20) ++ (List.range' 51 21))) 9 [8] (by exact Nat.le_refl _) (by exact Nat.le_of_ble_eq_true rfl) (by rfl) (by cbv) ?_)
   intro js
   refine ⟨(_, _, _, q2, _, _, _), ?_, js, rfl⟩
   exact ⟨S, hr1, by omega, rfl, Nat.le_refl _, Nat.zero_le _, h4, hq2, fun x hx => by cases hx⟩
  rintro ⟨l, rl, c, p, acc5, hv5, ai5⟩ js5 ⟨k, hFk, hkS, hrl, hrc, hrS, h5, hp5, hlT⟩
  obtain ⟨rlI, hrlI⟩ : ∃ rlI : Int, rlI = rl := ⟨_, rfl⟩
  have hofn : vofN rl = rlI := by rw [qofN]; exact hrlI.symm
  have hlI : rlI = (l.length : Int) := by rw [hrlI, hrl]
  have hSs : (S : Int) = size := hSs
  have hcA : rl < S → vc .lss rlI size = true := fun h => by rw [qc, lss_true]; omega
  have hcB : ¬ rl < S → vc .lss rlI size = false := fun h => by rw [qc, lss_false]; omega
  have hlA : rl < S → (l.length : Int) < size := fun h => by omega
  have hlB : ¬ rl < S → ¬ (l.length : Int) < size := fun h => by omega
  have hsz : size ≤ 16384 := hs.2
  have hrlb : 0 ≤ rlI ∧ rlI ≤ 16384 := by omega
  have hfit1 : rl + 1 ≤ 140737488355328 := by omega
  have hnxp := hnx p acc5 hv5 ai5 h5 hp5
  have hvl : vln l = rl := by rw [hlnq, hrl]
  have g1 : ConX P _ _ _ _ _ := gn 1 1 p acc5 hv5 ai5 h5 rfl (by decide)
  have hrlS : ¬ rl < S → rl = S := fun h => Nat.le_antisymm hrS (Nat.le_of_not_lt h)
  cbv
  rw [hofn]
  by_cases hlt : rl < S
  rotate_left
  ·have hr1' : r1 = .ok (l, p) := by rw [← hFk]; exact f_end _ _ _ (hlB hlt)
   have m3 := m3 _ _ hr1'
   rw [hcB hlt]
   clear hcA hcB hlA hlB f_end f_e f_a f_z f_g f_p f_r hnx hnxp hnr
   cbv
   refine call_conX (ρ := [(3, .z), (4, .z), (5, .z), (6, .z)]) g1 ⟨by rfl, by rfl, by rfl, by cbv; exact ⟨view_refl _, trivial⟩⟩ ?_ ?_
   rotate_left
   ·rintro v H R js6 ⟨e, hge, rfl, rfl, a, h, i2, rfl⟩
    rw [d0 l _ _ hge] at m3
    cbv
    exact ⟨[0, 1, 2, 3, 4, 5, 6], .iface 75 (.agg [.int .i64 e]), [.one 33 [.ptr 3 .z 4 0], .one 3 [.int .i64 trees], .one 3 [.int .i64 size], (.one 81 [.fn 39 [.ptr 4 .z 1 0, .ptr 5 .z 1 0], .int .u64 a, .int .i64 h, .fn 40 [.ptr 5 .z 1 0, .ptr 4 .z 1 0]]), .one 3 [.int .i64 i2], .one 22 [.slice 6 .z 1 bl cap], .ro .u8 b], rfl, rfl, rfl, rfl, ⟨rfl, rfl, rfl, rfl, rfl, rfl, rfl, trivial⟩, e, m3, rfl, rfl, a, h, i2, rfl⟩
   rintro v H R js6 ⟨m, q7, hgm, rfl, rfl, acc6, hv6, ai6, h6, rfl⟩
   have hrlS := hrlS hlt
   by_cases hm1 : m = 1
   ·subst hm1
    have d1 := d1 l _ _ hgm
    have d2 := d2 l _ _ hgm
    rw [← m3] at d1 d2
    have hmovl := hmove l c c (by rw [← hrl]; omega) hlT
    obtain ⟨l2, hl2⟩ : ∃ l2, l2 = MV l := ⟨_, rfl⟩
    have hl2l : rl = l2.length := by rw [hl2, hmv_len]; exact hrl
    have hl2T : ∀ x ∈ l2, isT x := by rw [hl2]; exact hmv_mem l hlT
    rw [← hl2] at d1 d2 hmovl
    rw [← hrl] at hmovl
    have e11 : vc .eql 1 1 = true := by rw [qc]; rfl
    cbv
    rw [e11]
    cbv
    refine call_con (ρ := [(8, .z)]) hmovl ⟨by rfl, by rfl, by rfl, by cbv⟩ ?_
    rintro v H R js7 ⟨rfl, rfl, rfl⟩
    have hvl2 : vln l2 = rl := by rw [hlnq]; exact hl2l.symm
    cbv
    rw [hofn]
    refine loop_fam (α := Int) (11 :: (List.range' 80 9)) [8] (fun k => [(79, .int .i64 k)]) (fun _ => [])
     (fun k => ∃ i : Nat, k = i ∧ i ≤ rl ∧ ∀ j, j < i → l2.getD j 0 < trees) (fun k => rl - k.toNat) hw hm ?_ ?_
    ·refine Cv.genAt [79] [] (Cv.fold (11 :: (List.range' 80 9)) 9 [8] (by exact Nat.le_refl _) (by exact Nat.le_of_ble_eq_true rfl) (by rfl) (by cbv) ?_)
     intro js
     refine ⟨_, ?_, js, rfl⟩
     exact ⟨0, rfl, Nat.zero_le _, fun j hj => absurd hj (Nat.not_lt_zero _)⟩
    rintro kk js9 ⟨i, hk, hi, hall⟩
    have hk : kk = (i : Int) := hk
    have hrlI : rlI = (rl : Int) := hrlI
    have hti : vtoN kk = i := by rw [hk]; exact hto i
    have hc1 : i < rl → vc .lss kk rlI = true := fun h => by rw [qc, lss_true]; omega
    have hc2 : ¬ i < rl → vc .lss kk rlI = false := fun h => by rw [qc, lss_false]; omega
    obtain ⟨kn, hkn⟩ : ∃ kn : Int, kn = ((i + 1 : Nat) : Int) := ⟨_, rfl⟩
    have hkkb : kk ≤ 16384 ∧ 0 ≤ kk := by
     have hrlb : 0 ≤ rlI ∧ rlI ≤ 16384 := hrlb
     omega
    have ek : vb .add .i64 kk 1 = kn := by rw [qb, add_i64 (by omega) (by omega)]; omega
    have hmu : i < rl → rl - kn.toNat < rl - kk.toNat := fun h => by omega
    have hR : i < rl → 0 ≤ kk ∧ kk < ((rl : Nat) : Int) := fun h => by omega
    obtain ⟨n, hn⟩ : ∃ n, n = l2.getD i 0 := ⟨_, rfl⟩
    have hlg : vgd l2 i = n := by rw [hgd, hn]
    have hnT : i < rl → isT n := fun h => hl2T n (by rw [hn, List.getD_eq_getElem?_getD, List.getElem?_eq_getElem (by omega)]; simp)
    cbv
    by_cases hlt2 : i < rl
    ·have hnT := hnT hlt2
     have hn0 : 0 ≤ n ∧ n < 256 := hnT
     have ewn : vw .i64 n = n := by rw [qw]; exact wrap_i64 (by omega) (by omega)
     have hmu := hmu hlt2
     have hR := hR hlt2
     have hmem : n ∈ l2 := by rw [hn, List.getD_eq_getElem?_getD, List.getElem?_eq_getElem (by rw [← hl2l]; exact hlt2)]; simp
     rw [hc1 hlt2]
     cbv
     rw [hti, hadd0, hlg, ewn]
     refine ⟨⟨hR⟩, ⟨by rw [hvl2]; exact hlt2⟩, ⟨by rw [hvl2]; exact hlt2⟩, ?_⟩
     refine call_conX (ρ := []) (hmust _) ⟨by rfl, by rfl, by rfl, by cbv⟩ ?_ ?_
     rotate_left
     ·rintro v H R js8 ⟨hz, rfl, rfl, rfl⟩
      have hz2 : ¬ n < trees := by rw [qc, lss_false] at hz; exact hz
      have hk := d1 (fun h => hz2 (h n hmem))
      cbv
      exact ⟨[0, 1, 2, 3, 4, 5, 6], .iface 75 (.agg [.int .i64 11]), [.one 33 [.ptr 3 .z 4 0], .one 3 [.int .i64 trees], .one 3 [.int .i64 size], (.one 81 [.fn 39 [.ptr 4 .z 1 0, .ptr 5 .z 1 0], .int .u64 acc6, .int .i64 hv6, .fn 40 [.ptr 5 .z 1 0, .ptr 4 .z 1 0]]), .one 3 [.int .i64 ai6], .one 22 [.slice 6 .z 1 bl cap], .ro .u8 b], rfl, rfl, rfl, rfl, ⟨rfl, rfl, rfl, rfl, rfl, rfl, rfl, trivial⟩, 11, hk, rfl, rfl, acc6, hv6, ai6, rfl⟩
     rintro v H R js8 ⟨hz, rfl, rfl, rfl⟩
     have hz2 : n < trees := by rw [qc, lss_true] at hz; exact hz
     cbv
     rw [ek]
     refine Cv.fold (11 :: (List.range' 80 9)) 9 [8] (by exact Nat.le_refl _) (by exact Nat.le_of_ble_eq_true rfl) (by rfl) (by cbv) ?_
     intro js
     refine ⟨_, ?_, js, rfl⟩
     refine ⟨⟨i + 1, hkn, hlt2, fun j hj => ?_⟩, hmu⟩
     rcases Nat.lt_or_ge j i with h | h
     ·exact hall j h
     ·obtain rfl : j = i := Nat.le_antisymm (Nat.le_of_lt_succ hj) h
      rw [← hn]; exact hz2
    ·have hin : i = rl := Nat.le_antisymm hi (Nat.le_of_not_lt hlt2)
     have hall2 : ∀ n ∈ l2, n < trees := fun n hn => by
      obtain ⟨j, hj, rfl⟩ := List.getElem_of_mem hn
      have := hall j (by rw [hin, hl2l]; exact hj)
      rwa [List.getD_eq_getElem?_getD, List.getElem?_eq_getElem hj] at this
     have hk := d2 hall2
     rw [hc2 hlt2]
     cbv
     clear hvl hrl hrc hrS hofn hrlI hvl2 hlI hFk hkS hc1 hc2 hR hmu hnT hrlb hfit1 hrlS hin hi hlt hlt2
     subst hl2l
     exact ⟨[0, 1, 2, 3, 4, 5, 6, 8], .slice 7 .z 1 l2.length c, [.one 33 [.ptr 3 .z 4 0], .one 3 [.int .i64 trees], .one 3 [.int .i64 size], (.one 81 [.fn 39 [.ptr 4 .z 1 0, .ptr 5 .z 1 0], .int .u64 acc6, .int .i64 hv6, .fn 40 [.ptr 5 .z 1 0, .ptr 4 .z 1 0]]), .one 3 [.int .i64 ai6], .one 22 [.slice 6 .z 1 bl cap], .ro .u8 b, .buf 5 .u8 l2 c], rfl, rfl, rfl, rfl, ⟨rfl, rfl, rfl, rfl, rfl, rfl, rfl, rfl, trivial⟩, l2, q7, hk, rfl, acc6, hv6, ai6, h6, c, c, rfl, rfl⟩
   ·have e11 : vc .eql m 1 = false := by rw [qc, eql_false]; exact hm1
    have d1 := d3 l _ _ _ hgm hm1
    have d2 := d4 l _ _ _ hgm hm1
    rw [← m3] at d1 d2
    obtain ⟨l2, hl2⟩ : ∃ l2, l2 = l := ⟨_, rfl⟩
    have hl2l : rl = l2.length := by rw [hl2]; exact hrl
    have hl2T : ∀ x ∈ l2, isT x := by rw [hl2]; exact hlT
    rw [← hl2] at d1 d2
    cbv
    rw [e11, ← hl2]
    have hvl2 : vln l2 = rl := by rw [hlnq]; exact hl2l.symm
    cbv
    rw [hofn]
    refine loop_fam (α := Int) (11 :: (List.range' 80 9)) [8] (fun k => [(79, .int .i64 k)]) (fun _ => [])
     (fun k => ∃ i : Nat, k = i ∧ i ≤ rl ∧ ∀ j, j < i → l2.getD j 0 < trees) (fun k => rl - k.toNat) hw hm ?_ ?_
    ·refine Cv.genAt [79] [] (Cv.fold (11 :: (List.range' 80 9)) 9 [8] (by exact Nat.le_refl _) (by exact Nat.le_of_ble_eq_true rfl) (by rfl) (by cbv) ?_)
     intro js
     refine ⟨_, ?_, js, rfl⟩
     exact ⟨0, rfl, Nat.zero_le _, fun j hj => absurd hj (Nat.not_lt_zero _)⟩
    rintro kk js9 ⟨i, hk, hi, hall⟩
    have hk : kk = (i : Int) := hk
    have hrlI : rlI = (rl : Int) := hrlI
    have hti : vtoN kk = i := by rw [hk]; exact hto i
    have hc1 : i < rl → vc .lss kk rlI = true := fun h => by rw [qc, lss_true]; omega
    have hc2 : ¬ i < rl → vc .lss kk rlI = false := fun h => by rw [qc, lss_false]; omega
    obtain ⟨kn, hkn⟩ : ∃ kn : Int, kn = ((i + 1 : Nat) : Int) := ⟨_, rfl⟩
    have hkkb : kk ≤ 16384 ∧ 0 ≤ kk := by
     have hrlb : 0 ≤ rlI ∧ rlI ≤ 16384 := hrlb
     omega
    have ek : vb .add .i64 kk 1 = kn := by rw [qb, add_i64 (by omega) (by omega)]; omega
    have hmu : i < rl → rl - kn.toNat < rl - kk.toNat := fun h => by omega
    have hR : i < rl → 0 ≤ kk ∧ kk < ((rl : Nat) : Int) := fun h => by omega
    obtain ⟨n, hn⟩ : ∃ n, n = l2.getD i 0 := ⟨_, rfl⟩
    have hlg : vgd l2 i = n := by rw [hgd, hn]
    have hnT : i < rl → isT n := fun h => hl2T n (by rw [hn, List.getD_eq_getElem?_getD, List.getElem?_eq_getElem (by omega)]; simp)
    cbv
    by_cases hlt2 : i < rl
    ·have hnT := hnT hlt2
     have hn0 : 0 ≤ n ∧ n < 256 := hnT
     have ewn : vw .i64 n = n := by rw [qw]; exact wrap_i64 (by omega) (by omega)
     have hmu := hmu hlt2
     have hR := hR hlt2
     have hmem : n ∈ l2 := by rw [hn, List.getD_eq_getElem?_getD, List.getElem?_eq_getElem (by rw [← hl2l]; exact hlt2)]; simp
     rw [hc1 hlt2]
     cbv
     rw [hti, hadd0, hlg, ewn]
     refine ⟨⟨hR⟩, ⟨by rw [hvl2]; exact hlt2⟩, ⟨by rw [hvl2]; exact hlt2⟩, ?_⟩
     refine call_conX (ρ := []) (hmust _) ⟨by rfl, by rfl, by rfl, by cbv⟩ ?_ ?_
     rotate_left
     ·rintro v H R js8 ⟨hz, rfl, rfl, rfl⟩
      have hz2 : ¬ n < trees := by rw [qc, lss_false] at hz; exact hz
      have hk := d1 (fun h => hz2 (h n hmem))
      cbv
      exact ⟨[0, 1, 2, 3, 4, 5, 6], .iface 75 (.agg [.int .i64 11]), [.one 33 [.ptr 3 .z 4 0], .one 3 [.int .i64 trees], .one 3 [.int .i64 size], (.one 81 [.fn 39 [.ptr 4 .z 1 0, .ptr 5 .z 1 0], .int .u64 acc6, .int .i64 hv6, .fn 40 [.ptr 5 .z 1 0, .ptr 4 .z 1 0]]), .one 3 [.int .i64 ai6], .one 22 [.slice 6 .z 1 bl cap], .ro .u8 b], rfl, rfl, rfl, rfl, ⟨rfl, rfl, rfl, rfl, rfl, rfl, rfl, trivial⟩, 11, hk, rfl, rfl, acc6, hv6, ai6, rfl⟩
     rintro v H R js8 ⟨hz, rfl, rfl, rfl⟩
     have hz2 : n < trees := by rw [qc, lss_true] at hz; exact hz
     cbv
     rw [ek]
     refine Cv.fold (11 :: (List.range' 80 9)) 9 [8] (by exact Nat.le_refl _) (by exact Nat.le_of_ble_eq_true rfl) (by rfl) (by cbv) ?_
     intro js
     refine ⟨_, ?_, js, rfl⟩
     refine ⟨⟨i + 1, hkn, hlt2, fun j hj => ?_⟩, hmu⟩
     rcases Nat.lt_or_ge j i with h | h
     ·exact hall j h
     ·obtain rfl : j = i := Nat.le_antisymm (Nat.le_of_lt_succ hj) h
      rw [← hn]; exact hz2
    ·have hin : i = rl := Nat.le_antisymm hi (Nat.le_of_not_lt hlt2)
     have hall2 : ∀ n ∈ l2, n < trees := fun n hn => by
      obtain ⟨j, hj, rfl⟩ := List.getElem_of_mem hn
      have := hall j (by rw [hin, hl2l]; exact hj)
      rwa [List.getD_eq_getElem?_getD, List.getElem?_eq_getElem hj] at this
     have hk := d2 hall2
     rw [hc2 hlt2]
     cbv
     clear hvl hrl hrc hrS hofn hrlI hvl2 hlI hFk hkS hc1 hc2 hR hmu hnT hrlb hfit1 hrlS hin hi hlt hlt2
     subst hl2l
     exact ⟨[0, 1, 2, 3, 4, 5, 6, 8], .slice 7 .z 1 l2.length c, [.one 33 [.ptr 3 .z 4 0], .one 3 [.int .i64 trees], .one 3 [.int .i64 size], (.one 81 [.fn 39 [.ptr 4 .z 1 0, .ptr 5 .z 1 0], .int .u64 acc6, .int .i64 hv6, .fn 40 [.ptr 5 .z 1 0, .ptr 4 .z 1 0]]), .one 3 [.int .i64 ai6], .one 22 [.slice 6 .z 1 bl cap], .ro .u8 b, .buf 5 .u8 l2 c], rfl, rfl, rfl, rfl, ⟨rfl, rfl, rfl, rfl, rfl, rfl, rfl, rfl, trivial⟩, l2, q7, hk, rfl, acc6, hv6, ai6, h6, c, c, rfl, rfl⟩
  have hlA := hlA hlt
  rw [hcA hlt]
  clear hcA hcB hlB f_end g1 d0 d1 d2 d3 d4 m3 hmv_len hmv_mem hmove
  cbv
  refine call_conX (ρ := [(3, .z), (4, .z), (5, .z), (6, .z)]) hnxp ⟨by rfl, by rfl, by rfl, by cbv; exact ⟨view_refl _, trivial⟩⟩ ?_ ?_
  rotate_left
  ·rintro v H R js6 ⟨e, hge, rfl, rfl, a, h, i2, rfl⟩
   have hS1 := f_e k p l e hlA hge
   rw [hFk] at hS1
   have hk := m2 _ hS1
   cbv
   exact ⟨[0, 1, 2, 3, 4, 5, 6], .iface 75 (.agg [.int .i64 e]), [.one 33 [.ptr 3 .z 4 0], .one 3 [.int .i64 trees], .one 3 [.int .i64 size], (.one 81 [.fn 39 [.ptr 4 .z 1 0, .ptr 5 .z 1 0], .int .u64 a, .int .i64 h, .fn 40 [.ptr 5 .z 1 0, .ptr 4 .z 1 0]]), .one 3 [.int .i64 i2], .one 22 [.slice 6 .z 1 bl cap], .ro .u8 b], rfl, rfl, rfl, rfl, ⟨rfl, rfl, rfl, rfl, rfl, rfl, rfl, trivial⟩, e, hk, rfl, rfl, a, h, i2, rfl⟩
  rintro v H R js6 ⟨x, q5, hgx, rfl, rfl, acc6, hv6, ai6, h6, rfl⟩
  have hxr := hnr p q5 x hp5 hgx
  by_cases hxR : x > runs
  ·have hN := f_a k p q5 l x hlA hgx hxR
   rw [hFk] at hN
   have eg : vc .gtr x runs = true := by rw [qc, gtr_true]; omega
   obtain ⟨y, hy⟩ : ∃ y : Int, y = x - runs := ⟨_, rfl⟩
   have ey : vb .sub .i64 x runs = y := by rw [qb, sub_i64 (by omega) (by omega)]; omega
   have ewy : vw .u8 y = y := by rw [qw]; exact wrap_u8 (by omega) (by omega)
   have hyT : isT y := ⟨by omega, by omega⟩
   rw [← hy] at hN
   have hsub : vsub [y] 0 1 = [y] := by simp only [qsub]; rfl
   have honto : vonto l rl [y] = l ++ [y] := by rw [qonto, hrl]; simp
   have ha1 : vaddN rl 1 = rl + 1 := by simp only [qaddN]
   have ha01 : vaddN 0 1 = 1 := by simp only [qaddN]
   have hln1 : vln [y] = 1 := by rw [hlnq]; rfl
   obtain ⟨l2, hl2⟩ : ∃ l2, l2 = l ++ [y] := ⟨_, rfl⟩
   rw [← hl2] at honto hN
   obtain ⟨rl2, hrl2⟩ : ∃ rl2, rl2 = rl + 1 := ⟨_, rfl⟩
   rw [← hrl2] at ha1 hfit1
   have hl2l : rl2 = l2.length := by rw [hrl2, hl2, List.length_append, ← hrl]; rfl
   have hl2S : rl2 ≤ S := by rw [hrl2]; exact hlt
   have hl2T : ∀ x ∈ l2, isT x := by rw [hl2]; exact isT_app hlT (isT_one hyT)
   have hltt : rl < rl2 := by rw [hrl2]; exact Nat.lt_succ_self _
   have hmu := lp_mu5 hltt hl2S
   have hk2 := lp_k5 hkS hltt hl2S
   have hkk : ∃ k2, k = k2 + 1 := ⟨k - 1, by omega⟩
   obtain ⟨k2, hkk⟩ := hkk
   cbv
   rw [eg]
   cbv
   rw [ey, ewy]
   refine ⟨⟨by rw [ha01, hln1]; exact Nat.le_refl _⟩, ⟨by rw [hvl]; exact Nat.le_refl _⟩, ⟨Nat.le_refl _⟩, ⟨by rw [ha1]; omega⟩, ?_⟩
   intro c2 js9 hc2
   have hc3 : vaddN rl 1 ≤ c2 := hc2.1
   rw [ha1] at hc3
   cbv
   rw [hsub, honto, ha1]
   refine Cv.fold (8 :: 9 :: ((List.range' 31 20) ++ (List.range' 51 21))) 9 [8] (by exact Nat.le_refl _) (by exact Nat.le_of_ble_eq_true rfl) (by rfl) (by cbv) ?_
   intro js
   refine ⟨(_, _, _, q5, _, _, _), ?_, js, rfl⟩
   exact ⟨⟨k2, by rw [← hkk]; exact hN.symm, by rw [← hkk]; exact hk2, hl2l, hc3, hl2S, h6, hxr.2.2.2, hl2T⟩, hmu⟩
  ·have eg : vc .gtr x runs = false := by rw [qc, gtr_false]; omega
   by_cases hx0 : x = 0
   ·have hN := f_z k p q5 l x hlA hgx hxR hx0
    rw [hFk] at hN
    have ez : vc .eql x 0 = true := by rw [qc, eql_true]; exact hx0
    obtain ⟨y, hy⟩ : ∃ y : Int, y = 0 := ⟨_, rfl⟩
    have hyT : isT y := by rw [hy]; exact ⟨by decide, by decide⟩
    rw [← hy] at hN
    have hsub : vsub [y] 0 1 = [y] := by simp only [qsub]; rfl
    have honto : vonto l rl [y] = l ++ [y] := by rw [qonto, hrl]; simp
    have ha1 : vaddN rl 1 = rl + 1 := by simp only [qaddN]
    have ha01 : vaddN 0 1 = 1 := by simp only [qaddN]
    have hln1 : vln [y] = 1 := by rw [hlnq]; rfl
    obtain ⟨l2, hl2⟩ : ∃ l2, l2 = l ++ [y] := ⟨_, rfl⟩
    rw [← hl2] at honto hN
    obtain ⟨rl2, hrl2⟩ : ∃ rl2, rl2 = rl + 1 := ⟨_, rfl⟩
    rw [← hrl2] at ha1 hfit1
    have hl2l : rl2 = l2.length := by rw [hrl2, hl2, List.length_append, ← hrl]; rfl
    have hl2S : rl2 ≤ S := by rw [hrl2]; exact hlt
    have hl2T : ∀ x ∈ l2, isT x := by rw [hl2]; exact isT_app hlT (isT_one hyT)
    have hltt : rl < rl2 := by rw [hrl2]; exact Nat.lt_succ_self _
    have hmu := lp_mu5 hltt hl2S
    have hk2 := lp_k5 hkS hltt hl2S
    have hkk : ∃ k2, k = k2 + 1 := ⟨k - 1, by omega⟩
    obtain ⟨k2, hkk⟩ := hkk
    cbv
    rw [eg]
    cbv
    rw [ez]
    cbv
    rw [← hy]
    refine ⟨⟨by rw [ha01, hln1]; exact Nat.le_refl _⟩, ⟨by rw [hvl]; exact Nat.le_refl _⟩, ⟨Nat.le_refl _⟩, ⟨by rw [ha1]; omega⟩, ?_⟩
    intro c2 js9 hc2
    have hc3 : vaddN rl 1 ≤ c2 := hc2.1
    rw [ha1] at hc3
    cbv
    rw [hsub, honto, ha1]
    refine Cv.fold (8 :: 9 :: ((List.range' 31 20) ++ (List.range' 51 21))) 9 [8] (by exact Nat.le_refl _) (by exact Nat.le_of_ble_eq_true rfl) (by rfl) (by cbv) ?_
    intro js
    refine ⟨(_, _, _, q5, _, _, _), ?_, js, rfl⟩
    exact ⟨⟨k2, by rw [← hkk]; exact hN.symm, by rw [← hkk]; exact hk2, hl2l, hc3, hl2S, h6, hxr.2.2.2, hl2T⟩, hmu⟩
   ·have ez : vc .eql x 0 = false := by rw [qc, eql_false]; exact hx0
    have hx16 : 1 ≤ x ∧ x ≤ 16 := by omega
    obtain ⟨xN, hxN⟩ : ∃ xN, xN = x.toNat := ⟨_, rfl⟩
    have hxc : x = (xN : Int) := by omega
    have gx : ConX P _ _ _ _ _ := gn xN x q5 acc6 hv6 ai6 h6 hxc (by omega)
    have hFe := fun e => f_g k p q5 l x e hlA hgx hxR hx0
    have hFp := fun q6 y => f_p k p q5 q6 l x y hlA hgx hxR hx0
    have hFr := fun q6 y => f_r k p q5 q6 l x y hlA hgx hxR hx0
    have hgy := fun y q6 => hgt xN q5 y q6
    rw [← hxN, hFk] at hFe
    rw [← hxN, hFk] at hFp hFr
    obtain ⟨s, hs9⟩ : ∃ s : Int, s = 2 ^ xN := ⟨_, rfl⟩
    have hsr : 1 ≤ s ∧ s ≤ 65536 := by
     have h1 : (2 : Int) ^ xN ≤ 2 ^ 16 := pow_up (by omega)
     have h2 : (0 : Int) < 2 ^ xN := Int.pow_pos (by omega)
     rw [hs9]
     constructor
     ·omega
     ·exact h1
    have ewx : vw .u64 x = x := by rw [qw]; exact wrap_u64 (by omega) (by omega)
    have esh : vb .shl .i64 1 x = s := by
     rw [qb, hs9]
     show IntKind.i64.wrap (1 * 2 ^ (min x.toNat IntKind.i64.bits)) = _
     rw [show min x.toNat IntKind.i64.bits = xN by
      rw [← hxN]; exact Nat.min_eq_left (Nat.le_trans (show xN ≤ 16 by omega) (by decide)), Int.one_mul, ← hs9]
     exact wrap_i64 (by omega) (by omega)
    have hx00 : 0 ≤ x := by omega
    cbv
    rw [eg]
    cbv
    rw [ez]
    cbv
    rw [ewx, esh]
    refine ⟨⟨hx00⟩, ?_⟩
    refine call_conX (ρ := [(3, .z), (4, .z), (5, .z), (6, .z)]) gx ⟨by rfl, by rfl, by rfl, by cbv; exact ⟨view_refl _, trivial⟩⟩ ?_ ?_
    rotate_left
    ·rintro v H R js7 ⟨e, hge, rfl, rfl, a, h, i2, rfl⟩
     have hk := m2 _ (hFe e hge)
     cbv
     exact ⟨[0, 1, 2, 3, 4, 5, 6], .iface 75 (.agg [.int .i64 e]), [.one 33 [.ptr 3 .z 4 0], .one 3 [.int .i64 trees], .one 3 [.int .i64 size], (.one 81 [.fn 39 [.ptr 4 .z 1 0, .ptr 5 .z 1 0], .int .u64 a, .int .i64 h, .fn 40 [.ptr 5 .z 1 0, .ptr 4 .z 1 0]]), .one 3 [.int .i64 i2], .one 22 [.slice 6 .z 1 bl cap], .ro .u8 b], rfl, rfl, rfl, rfl, ⟨rfl, rfl, rfl, rfl, rfl, rfl, rfl, trivial⟩, e, hk, rfl, rfl, a, h, i2, rfl⟩
    rintro v H R js7 ⟨y, q6, hgq, rfl, rfl, acc7, hv7, ai7, h7, rfl⟩
    have hyr := hgy y q6 hgq
    rw [← hs9] at hyr
    obtain ⟨n, hn⟩ : ∃ n : Int, n = s + y := ⟨_, rfl⟩
    have en : vb .add .i64 s y = n := by rw [qb, add_i64 (by omega) (by omega)]; exact hn.symm
    obtain ⟨s2, hs2⟩ : ∃ s2 : Int, s2 = rlI + n := ⟨_, rfl⟩
    have es2 : vb .add .i64 rlI n = s2 := by rw [qb, add_i64 (by omega) (by omega)]; exact hs2.symm
    have hFp := hFp q6 y hgq
    have hFr := hFr q6 y hgq
    rw [← hs9, ← hn, ← hlI, ← hs2] at hFp hFr
    cbv
    rw [en, hofn, es2]
    refine call_conX (ρ := []) (hmust _) ⟨by rfl, by rfl, by rfl, by cbv⟩ ?_ ?_
    rotate_left
    ·rintro v H R js8 ⟨hz, rfl, rfl, rfl⟩
     have hz2 : ¬ s2 ≤ size := by rw [qc, leq_false] at hz; exact hz
     have hk := m2 _ (hFp hz2)
     cbv
     exact ⟨[0, 1, 2, 3, 4, 5, 6], .iface 75 (.agg [.int .i64 11]), [.one 33 [.ptr 3 .z 4 0], .one 3 [.int .i64 trees], .one 3 [.int .i64 size], (.one 81 [.fn 39 [.ptr 4 .z 1 0, .ptr 5 .z 1 0], .int .u64 acc7, .int .i64 hv7, .fn 40 [.ptr 5 .z 1 0, .ptr 4 .z 1 0]]), .one 3 [.int .i64 ai7], .one 22 [.slice 6 .z 1 bl cap], .ro .u8 b], rfl, rfl, rfl, rfl, ⟨rfl, rfl, rfl, rfl, rfl, rfl, rfl, trivial⟩, 11, hk, rfl, rfl, acc7, hv7, ai7, rfl⟩
    rintro v H R js8 ⟨hz, rfl, rfl, rfl⟩
    have hz2 : s2 ≤ size := by rw [qc, leq_true] at hz; exact hz
    have hN := hFr hz2
    obtain ⟨nN, hnN⟩ : ∃ nN, nN = n.toNat := ⟨_, rfl⟩
    have hnN1 : 1 ≤ nN ∧ nN ≤ 200000 := by omega
    have htn : vtoN n = nN := by rw [qtoN, hnN]
    have hrep : vrep nN 0 = List.replicate nN 0 := by rw [qrep]
    obtain ⟨Z, hZ⟩ : ∃ Z, Z = List.replicate nN (0 : Int) := ⟨_, rfl⟩
    obtain ⟨l2, hl2⟩ : ∃ l2, l2 = l ++ Z := ⟨_, rfl⟩
    have honto : vonto l rl Z = l2 := by rw [qonto, hl2, hrl]; simp
    rw [← hnN, ← hZ, ← hl2] at hN
    obtain ⟨rl2, hrl2⟩ : ∃ rl2, rl2 = rl + nN := ⟨_, rfl⟩
    have ha1 : vaddN rl nN = rl2 := by rw [qaddN, hrl2]
    have hl2l : rl2 = l2.length := by rw [hrl2, hl2, hZ, List.length_append, List.length_replicate, ← hrl]
    have hnI : n = (nN : Int) := by omega
    have hl2S : rl2 ≤ S := by
     have hSs : (S : Int) = size := hSs
     have hrlI : rlI = (rl : Int) := hrlI
     have h9 : (rl2 : Int) ≤ (S : Int) := by rw [hrl2]; omega
     exact Int.ofNat_le.1 h9
    have hl2T : ∀ x ∈ l2, isT x := by rw [hl2, hZ]; exact isT_app hlT isT_rep
    have hltt : rl < rl2 := by rw [hrl2]; exact Nat.lt_add_of_pos_right hnN1.1
    have hmu := lp_mu5 hltt hl2S
    have hk2 := lp_k5 hkS hltt hl2S
    have hfit2 : rl2 ≤ 140737488355328 := by
     have hsS : S ≤ 16384 := by
      have hSs : (S : Int) = size := hSs
      omega
     omega
    have hn0 : 0 ≤ n ∧ n * 1 ≤ 281474976710656 := by omega
    cbv
    rw [htn, hrep, ← hZ]
    refine ⟨⟨hn0.1⟩, ⟨hn0.2⟩, ⟨by rw [hvl]; exact Nat.le_refl _⟩, ⟨Nat.le_refl _⟩, ⟨by rw [ha1]; omega⟩, ?_⟩
    intro c2 js9 hc2
    have hc3 : vaddN rl nN ≤ c2 := hc2.1
    rw [ha1] at hc3
    cbv
    rw [honto, ha1]
    have hkk : ∃ k2, k = k2 + 1 := ⟨k - 1, by omega⟩
    obtain ⟨k2, hkk⟩ := hkk
    refine Cv.fold (8 :: 9 :: ((List.range' 31 20) ++ (List.range' 51 21))) 9 [8] (by exact Nat.le_refl _) (by exact Nat.le_of_ble_eq_true rfl) (by rfl) (by cbv) ?_
    intro js
    refine ⟨(_, _, _, q6, _, _, _), ?_, js, rfl⟩
    exact ⟨⟨k2, by rw [← hkk]; exact hN.symm, by rw [← hkk]; exact hk2, hl2l, hc3, hl2S, h7, hyr.2.2, hl2T⟩, hmu⟩
 ·rw [htr] at hXe
  have hcode := hrd _ _ _ _ (by omega) hq1 hXe
  have hLl : L.length = (trees + runs).toNat := hcode.1.1
  have hLb : 0 < L.length ∧ L.length ≤ 1024 := by omega
  obtain ⟨ll, hll⟩ : ∃ ll, ll = L.length := ⟨_, rfl⟩
  have hnx : ∀ p acc hv ai, RS b p acc hv ai → p ≤ 8 * bl → ConX P 35 [.ptr 0 .z 4 0, .agg [.slice 4 .z 1 ll cp, .int .i64 0]] [(.one 81 [.fn 39 [.ptr 1 .z 1 0, .ptr 2 .z 1 0], .int .u64 acc, .int .i64 hv, .fn 40 [.ptr 2 .z 1 0, .ptr 1 .z 1 0]]), .one 3 [.int .i64 ai], .one 22 [.slice 3 .z 1 bl cap], .ro .u8 b, .ro .u8 L] (PostR b (nxR b (.inr L) p) (.int .i64) (fun a h i => [(.one 81 [.fn 39 [.ptr 1 .z 1 0, .ptr 2 .z 1 0], .int .u64 a, .int .i64 h, .fn 40 [.ptr 2 .z 1 0, .ptr 1 .z 1 0]]), .one 3 [.int .i64 i], .one 22 [.slice 3 .z 1 bl cap], .ro .u8 b, .ro .u8 L])) (PanR (nxR b (.inr L) p) (fun a h i => [(.one 81 [.fn 39 [.ptr 1 .z 1 0, .ptr 2 .z 1 0], .int .u64 a, .int .i64 h, .fn 40 [.ptr 2 .z 1 0, .ptr 1 .z 1 0]]), .one 3 [.int .i64 i], .one 22 [.slice 3 .z 1 bl cap], .ro .u8 b, .ro .u8 L])) := fun p acc hv ai h hp => by rw [hll]; exact nx2 L p cp acc hv ai hcode.1.2.2.2 h hLb.1 hLb.2 hp
  rw [← hll]
  obtain ⟨S, hS⟩ : ∃ S, S = size.toNat := ⟨_, rfl⟩
  have hSs : (S : Int) = size := by omega
  have m2 := fun e => m2 runs q1 (.inr L) q2 e hRR hXe
  have m3 := fun l q3 => m3 runs q1 (.inr L) q2 l q3 hRR hXe
  rw [← hS] at m2 m3
  have f_end := f_end (nxR b (.inr L)) runs
  have f_e := f_e (nxR b (.inr L)) runs
  have f_a := f_a (nxR b (.inr L)) runs
  have f_z := f_z (nxR b (.inr L)) runs
  have f_g := f_g (nxR b (.inr L)) runs
  have f_p := f_p (nxR b (.inr L)) runs
  have f_r := f_r (nxR b (.inr L)) runs
  have hnr := fun p q x => nxr (trees + runs) (.inr L) (by omega) hcode.1 p q x
  rw [← hbl] at hnr
  clear hbl
  obtain ⟨NX, hNX⟩ : ∃ NX, NX = nxR b (.inr L) := ⟨_, rfl⟩
  rw [← hNX] at m2 m3 f_end f_e f_a f_z f_g f_p f_r hnx hnr
  obtain ⟨F, hF⟩ : ∃ F, F = ML NX runs size := ⟨_, rfl⟩
  rw [← hF] at m2 m3 f_end f_e f_a f_z f_g f_p f_r
  obtain ⟨r1, hr1⟩ : ∃ r1, F (S + 1) q2 [] = r1 := ⟨_, rfl⟩
  rw [hr1] at m2 m3
  have hq2 := hcode.2
  clear hNX hF nx1 nx2 gr hrd nxr hgr hcode g1 ra0 ra1 ra2 ra3 m0 m1
  cbv
  rw [e00]
  cbv
  refine WX.cv (Cv.nilT 7 5 .u8 (by rfl) (by cbv) (Cv.here ?_))
  refine loop_fam (α := List Int × Nat × Nat × Nat × Int × Int × Int) (8 :: 9 :: ((List.range' 31 20) ++ (List.range' 51 21))) [9]
   (fun (l, rl, c, p, acc, hv, ai) => [(7, .slice 9 .z 1 rl c)])
   (fun (l, rl, c, p, acc, hv, ai) => [(3, (.one 81 [.fn 39 [.ptr 4 .z 1 0, .ptr 5 .z 1 0], .int .u64 acc, .int .i64 hv, .fn 40 [.ptr 5 .z 1 0, .ptr 4 .z 1 0]])), (4, .one 3 [.int .i64 ai]), (9, .buf 5 .u8 l c)])
   (fun (l, rl, c, p, acc, hv, ai) => ∃ k : Nat, F (k + 1) p l = r1 ∧ S + 1 - rl ≤ k + 1 ∧ rl = l.length ∧ rl ≤ c ∧ rl ≤ S ∧ RS b p acc hv ai ∧ p ≤ 8 * bl ∧ ∀ x ∈ l, isT x)
   (fun (l, rl, c, p, acc, hv, ai) => S - rl) hw hm ?_ ?_
  ·refine Cv.genAt [] [] (Cv.fold (8 :: 9 :: ((List.range' 31 20) ++ (List.range' 51 21))) 10 [9] (by exact Nat.le_refl _) (by exact Nat.le_of_ble_eq_true rfl) (by rfl) (by cbv) ?_)
   intro js
   refine ⟨(_, _, _, q2, _, _, _), ?_, js, rfl⟩
   exact ⟨S, hr1, by omega, rfl, Nat.le_refl _, Nat.zero_le _, h4, hq2, fun x hx => by cases hx⟩
  rintro ⟨l, rl, c, p, acc5, hv5, ai5⟩ js5 ⟨k, hFk, hkS, hrl, hrc, hrS, h5, hp5, hlT⟩
  obtain ⟨rlI, hrlI⟩ : ∃ rlI : Int, rlI = rl := ⟨_, rfl⟩
  have hofn : vofN rl = rlI := by rw [qofN]; exact hrlI.symm
  have hlI : rlI = (l.length : Int) := by rw [hrlI, hrl]
  have hSs : (S : Int) = size := hSs
  have hcA : rl < S → vc .lss rlI size = true := fun h => by rw [qc, lss_true]; omega
  have hcB : ¬ rl < S → vc .lss rlI size = false := fun h => by rw [qc, lss_false]; omega
  have hlA : rl < S → (l.length : Int) < size := fun h => by omega
  have hlB : ¬ rl < S → ¬ (l.length : Int) < size := fun h => by omega
  have hsz : size ≤ 16384 := hs.2
  have hrlb : 0 ≤ rlI ∧ rlI ≤ 16384 := by omega
  have hfit1 : rl + 1 ≤ 140737488355328 := by omega
  have hnxp := hnx p acc5 hv5 ai5 h5 hp5
  have hvl : vln l = rl := by rw [hlnq, hrl]
  have g1 : ConX P _ _ _ _ _ := gn 1 1 p acc5 hv5 ai5 h5 rfl (by decide)
  have hrlS : ¬ rl < S → rl = S := fun h => Nat.le_antisymm hrS (Nat.le_of_not_lt h)
  cbv
  rw [hofn]
  by_cases hlt : rl < S
  rotate_left
  ·have hr1' : r1 = .ok (l, p) := by rw [← hFk]; exact f_end _ _ _ (hlB hlt)
   have m3 := m3 _ _ hr1'
   rw [hcB hlt]
   clear hcA hcB hlA hlB f_end f_e f_a f_z f_g f_p f_r hnx hnxp hnr
   cbv
   refine call_conX (ρ := [(3, .z), (4, .z), (5, .z), (6, .z)]) g1 ⟨by rfl, by rfl, by rfl, by cbv; exact ⟨view_refl _, trivial⟩⟩ ?_ ?_
   rotate_left
   ·rintro v H R js6 ⟨e, hge, rfl, rfl, a, h, i2, rfl⟩
    rw [d0 l _ _ hge] at m3
    cbv
    exact ⟨[0, 1, 2, 3, 4, 5, 6], .iface 75 (.agg [.int .i64 e]), [.one 33 [.ptr 3 .z 4 0], .one 3 [.int .i64 trees], .one 3 [.int .i64 size], (.one 81 [.fn 39 [.ptr 4 .z 1 0, .ptr 5 .z 1 0], .int .u64 a, .int .i64 h, .fn 40 [.ptr 5 .z 1 0, .ptr 4 .z 1 0]]), .one 3 [.int .i64 i2], .one 22 [.slice 6 .z 1 bl cap], .ro .u8 b], rfl, rfl, rfl, rfl, ⟨rfl, rfl, rfl, rfl, rfl, rfl, rfl, trivial⟩, e, m3, rfl, rfl, a, h, i2, rfl⟩
   rintro v H R js6 ⟨m, q7, hgm, rfl, rfl, acc6, hv6, ai6, h6, rfl⟩
   have hrlS := hrlS hlt
   by_cases hm1 : m = 1
   ·subst hm1
    have d1 := d1 l _ _ hgm
    have d2 := d2 l _ _ hgm
    rw [← m3] at d1 d2
    have hmovl := hmove l c c (by rw [← hrl]; omega) hlT
    obtain ⟨l2, hl2⟩ : ∃ l2, l2 = MV l := ⟨_, rfl⟩
    have hl2l : rl = l2.length := by rw [hl2, hmv_len]; exact hrl
    have hl2T : ∀ x ∈ l2, isT x := by rw [hl2]; exact hmv_mem l hlT
    rw [← hl2] at d1 d2 hmovl
    rw [← hrl] at hmovl
    have e11 : vc .eql 1 1 = true := by rw [qc]; rfl
    cbv
    rw [e11]
    cbv
    refine call_con (ρ := [(9, .z)]) hmovl ⟨by rfl, by rfl, by rfl, by cbv⟩ ?_
    rintro v H R js7 ⟨rfl, rfl, rfl⟩
    have hvl2 : vln l2 = rl := by rw [hlnq]; exact hl2l.symm
    cbv
    rw [hofn]
    refine loop_fam (α := Int) (11 :: (List.range' 80 9)) [9] (fun k => [(79, .int .i64 k)]) (fun _ => [])
     (fun k => ∃ i : Nat, k = i ∧ i ≤ rl ∧ ∀ j, j < i → l2.getD j 0 < trees) (fun k => rl - k.toNat) hw hm ?_ ?_
    ·refine Cv.genAt [79] [] (Cv.fold (11 :: (List.range' 80 9)) 10 [9] (by exact Nat.le_refl _) (by exact Nat.le_of_ble_eq_true rfl) (by rfl) (by cbv) ?_)
     intro js
     refine ⟨_, ?_, js, rfl⟩
     exact ⟨0, rfl, Nat.zero_le _, fun j hj => absurd hj (Nat.not_lt_zero _)⟩
    rintro kk js9 ⟨i, hk, hi, hall⟩
    have hk : kk = (i : Int) := hk
    have hrlI : rlI = (rl : Int) := hrlI
    have hti : vtoN kk = i := by rw [hk]; exact hto i
    have hc1 : i < rl → vc .lss kk rlI = true := fun h => by rw [qc, lss_true]; omega
    have hc2 : ¬ i < rl → vc .lss kk rlI = false := fun h => by rw [qc, lss_false]; omega
    obtain ⟨kn, hkn⟩ : ∃ kn : Int, kn = ((i + 1 : Nat) : Int) := ⟨_, rfl⟩
    have hkkb : kk ≤ 16384 ∧ 0 ≤ kk := by
     have hrlb : 0 ≤ rlI ∧ rlI ≤ 16384 := hrlb
     omega
    have ek : vb .add .i64 kk 1 = kn := by rw [qb, add_i64 (by omega) (by omega)]; omega
    have hmu : i < rl → rl - kn.toNat < rl - kk.toNat := fun h => by omega
    have hR : i < rl → 0 ≤ kk ∧ kk < ((rl : Nat) : Int) := fun h => by omega
    obtain ⟨n, hn⟩ : ∃ n, n = l2.getD i 0 := ⟨_, rfl⟩
    have hlg : vgd l2 i = n := by rw [hgd, hn]
    have hnT : i < rl → isT n := fun h => hl2T n (by rw [hn, List.getD_eq_getElem?_getD, List.getElem?_eq_getElem (by omega)]; simp)
    cbv
    by_cases hlt2 : i < rl
    ·have hnT := hnT hlt2
     have hn0 : 0 ≤ n ∧ n < 256 := hnT
     have ewn : vw .i64 n = n := by rw [qw]; exact wrap_i64 (by omega) (by omega)
     have hmu := hmu hlt2
     have hR := hR hlt2
     have hmem : n ∈ l2 := by rw [hn, List.getD_eq_getElem?_getD, List.getElem?_eq_getElem (by rw [← hl2l]; exact hlt2)]; simp
     rw [hc1 hlt2]
     cbv
     rw [hti, hadd0, hlg, ewn]
     refine ⟨⟨hR⟩, ⟨by rw [hvl2]; exact hlt2⟩, ⟨by rw [hvl2]; exact hlt2⟩, ?_⟩
     refine call_conX (ρ := []) (hmust _) ⟨by rfl, by rfl, by rfl, by cbv⟩ ?_ ?_
     rotate_left
     ·rintro v H R js8 ⟨hz, rfl, rfl, rfl⟩
      have hz2 : ¬ n < trees := by rw [qc, lss_false] at hz; exact hz
      have hk := d1 (fun h => hz2 (h n hmem))
      cbv
      exact ⟨[0, 1, 2, 3, 4, 5, 6], .iface 75 (.agg [.int .i64 11]), [.one 33 [.ptr 3 .z 4 0], .one 3 [.int .i64 trees], .one 3 [.int .i64 size], (.one 81 [.fn 39 [.ptr 4 .z 1 0, .ptr 5 .z 1 0], .int .u64 acc6, .int .i64 hv6, .fn 40 [.ptr 5 .z 1 0, .ptr 4 .z 1 0]]), .one 3 [.int .i64 ai6], .one 22 [.slice 6 .z 1 bl cap], .ro .u8 b], rfl, rfl, rfl, rfl, ⟨rfl, rfl, rfl, rfl, rfl, rfl, rfl, trivial⟩, 11, hk, rfl, rfl, acc6, hv6, ai6, rfl⟩
     rintro v H R js8 ⟨hz, rfl, rfl, rfl⟩
     have hz2 : n < trees := by rw [qc, lss_true] at hz; exact hz
     cbv
     rw [ek]
     refine Cv.fold (11 :: (List.range' 80 9)) 10 [9] (by exact Nat.le_refl _) (by exact Nat.le_of_ble_eq_true rfl) (by rfl) (by cbv) ?_
     intro js
     refine ⟨_, ?_, js, rfl⟩
     refine ⟨⟨i + 1, hkn, hlt2, fun j hj => ?_⟩, hmu⟩
     rcases Nat.lt_or_ge j i with h | h
     ·exact hall j h
     ·obtain rfl : j = i := Nat.le_antisymm (Nat.le_of_lt_succ hj) h
      rw [← hn]; exact hz2
    ·have hin : i = rl := Nat.le_antisymm hi (Nat.le_of_not_lt hlt2)
     have hall2 : ∀ n ∈ l2, n < trees := fun n hn => by
      obtain ⟨j, hj, rfl⟩ := List.getElem_of_mem hn
      have := hall j (by rw [hin, hl2l]; exact hj)
      rwa [List.getD_eq_getElem?_getD, List.getElem?_eq_getElem hj] at this
     have hk := d2 hall2
     rw [hc2 hlt2]
     cbv
     clear hvl hrl hrc hrS hofn hrlI hvl2 hlI hFk hkS hc1 hc2 hR hmu hnT hrlb hfit1 hrlS hin hi hlt hlt2
     subst hl2l
     exact ⟨[0, 1, 2, 3, 4, 5, 6, 9], .slice 7 .z 1 l2.length c, [.one 33 [.ptr 3 .z 4 0], .one 3 [.int .i64 trees], .one 3 [.int .i64 size], (.one 81 [.fn 39 [.ptr 4 .z 1 0, .ptr 5 .z 1 0], .int .u64 acc6, .int .i64 hv6, .fn 40 [.ptr 5 .z 1 0, .ptr 4 .z 1 0]]), .one 3 [.int .i64 ai6], .one 22 [.slice 6 .z 1 bl cap], .ro .u8 b, .buf 5 .u8 l2 c], rfl, rfl, rfl, rfl, ⟨rfl, rfl, rfl, rfl, rfl, rfl, rfl, rfl, trivial⟩, l2, q7, hk, rfl, acc6, hv6, ai6, h6, c, c, rfl, rfl⟩
   ·have e11 : vc .eql m 1 = false := by rw [qc, eql_false]; exact hm1
    have d1 := d3 l _ _ _ hgm hm1
    have d2 := d4 l _ _ _ hgm hm1
    rw [← m3] at d1 d2
    obtain ⟨l2, hl2⟩ : ∃ l2, l2 = l := ⟨_, rfl⟩
    have hl2l : rl = l2.length := by rw [hl2]; exact hrl
    have hl2T : ∀ x ∈ l2, isT x := by rw [hl2]; exact hlT
    rw [← hl2] at d1 d2
    cbv
    rw [e11, ← hl2]
    have hvl2 : vln l2 = rl := by rw [hlnq]; exact hl2l.symm
    cbv
    rw [hofn]
    refine loop_fam (α := Int) (11 :: (List.range' 80 9)) [9] (fun k => [(79, .int .i64 k)]) (fun _ => [])
     (fun k => ∃ i : Nat, k = i ∧ i ≤ rl ∧ ∀ j, j < i → l2.getD j 0 < trees) (fun k => rl - k.toNat) hw hm ?_ ?_
    ·refine Cv.genAt [79] [] (Cv.fold (11 :: (List.range' 80 9)) 10 [9] (by exact Nat.le_refl _) (by exact Nat.le_of_ble_eq_true rfl) (by rfl) (by cbv) ?_)
     intro js
     refine ⟨_, ?_, js, rfl⟩
     exact ⟨0, rfl, Nat.zero_le _, fun j hj => absurd hj (Nat.not_lt_zero _)⟩
    rintro kk js9 ⟨i, hk, hi, hall⟩
    have hk : kk = (i : Int) := hk
    have hrlI : rlI = (rl : Int) := hrlI
    have hti : vtoN kk = i := by rw [hk]; exact hto i
    have hc1 : i < rl → vc .lss kk rlI = true := fun h => by rw [qc, lss_true]; omega
    have hc2 : ¬ i < rl → vc .lss kk rlI = false := fun h => by rw [qc, lss_false]; omega
    obtain ⟨kn, hkn⟩ : ∃ kn : Int, kn = ((i + 1 : Nat) : Int) := ⟨_, rfl⟩
    have hkkb : kk ≤ 16384 ∧ 0 ≤ kk := by
     have hrlb : 0 ≤ rlI ∧ rlI ≤ 16384 := hrlb
     omega
    have ek : vb .add .i64 kk 1 = kn := by rw [qb, add_i64 (by omega) (by omega)]; omega
    have hmu : i < rl → rl - kn.toNat < rl - kk.toNat := fun h => by omega
    have hR : i < rl → 0 ≤ kk ∧ kk < ((rl : Nat) : Int) := fun h => by omega
    obtain ⟨n, hn⟩ : ∃ n, n = l2.getD i 0 := ⟨_, rfl⟩
    have hlg : vgd l2 i = n := by rw [hgd, hn]
    have hnT : i < rl → isT n := fun h => hl2T n (by rw [hn, List.getD_eq_getElem?_getD, List.getElem?_eq_getElem (by omega)]; simp)
    cbv
    by_cases hlt2 : i < rl
    ·have hnT := hnT hlt2
     have hn0 : 0 ≤ n ∧ n < 256 := hnT
     have ewn : vw .i64 n = n := by rw [qw]; exact wrap_i64 (by omega) (by omega)
     have hmu := hmu hlt2
     have hR := hR hlt2
     have hmem : n ∈ l2 := by rw [hn, List.getD_eq_getElem?_getD, List.getElem?_eq_getElem (by rw [← hl2l]; exact hlt2)]; simp
     rw [hc1 hlt2]
     cbv
     rw [hti, hadd0, hlg, ewn]
     refine ⟨⟨hR⟩, ⟨by rw [hvl2]; exact hlt2⟩, ⟨by rw [hvl2]; exact hlt2⟩, ?_⟩
     refine call_conX (ρ := []) (hmust _) ⟨by rfl, by rfl, by rfl, by cbv⟩ ?_ ?_
     rotate_left
     ·rintro v H R js8 ⟨hz, rfl, rfl, rfl⟩
      have hz2 : ¬ n < trees := by rw [qc, lss_false] at hz; exact hz
      have hk := d1 (fun h => hz2 (h n hmem))
      cbv
      exact ⟨[0, 1, 2, 3, 4, 5, 6], .iface 75 (.agg [.int .i64 11]), [.one 33 [.ptr 3 .z 4 0], .one 3 [.int .i64 trees], .one 3 [.int .i64 size], (.one 81 [.fn 39 [.ptr 4 .z 1 0, .ptr 5 .z 1 0], .int .u64 acc6, .int .i64 hv6, .fn 40 [.ptr 5 .z 1 0, .ptr 4 .z 1 0]]), .one 3 [.int .i64 ai6], .one 22 [.slice 6 .z 1 bl cap], .ro .u8 b], rfl, rfl, rfl, rfl, ⟨rfl, rfl, rfl, rfl, rfl, rfl, rfl, trivial⟩, 11, hk, rfl, rfl, acc6, hv6, ai6, rfl⟩
     rintro v H R js8 ⟨hz, rfl, rfl, rfl⟩
     have hz2 : n < trees := by rw [qc, lss_true] at hz; exact hz
     cbv
     rw [ek]
     refine Cv.fold (11 :: (List.range' 80 9)) 10 [9] (by exact Nat.le_refl _) (by exact Nat.le_of_ble_eq_true rfl) (by rfl) (by cbv) ?_
     intro js
     refine ⟨_, ?_, js, rfl⟩
     refine ⟨⟨i + 1, hkn, hlt2, fun j hj => ?_⟩, hmu⟩
     rcases Nat.lt_or_ge j i with h | h
     ·exact hall j h
     ·obtain rfl : j = i := Nat.le_antisymm (Nat.le_of_lt_succ hj) h
      rw [← hn]; exact hz2
    ·have hin : i = rl := Nat.le_antisymm hi (Nat.le_of_not_lt hlt2)
     have hall2 : ∀ n ∈ l2, n < trees := fun n hn => by
      obtain ⟨j, hj, rfl⟩ := List.getElem_of_mem hn
      have := hall j (by rw [hin, hl2l]; exact hj)
      rwa [List.getD_eq_getElem?_getD, List.getElem?_eq_getElem hj] at this
     have hk := d2 hall2
     rw [hc2 hlt2]
     cbv
     clear hvl hrl hrc hrS hofn hrlI hvl2 hlI hFk hkS hc1 hc2 hR hmu hnT hrlb hfit1 hrlS hin hi hlt hlt2
     subst hl2l
     exact ⟨[0, 1, 2, 3, 4, 5, 6, 9], .slice 7 .z 1 l2.length c, [.one 33 [.ptr 3 .z 4 0], .one 3 [.int .i64 trees], .one 3 [.int .i64 size], (.one 81 [.fn 39 [.ptr 4 .z 1 0, .ptr 5 .z 1 0], .int .u64 acc6, .int .i64 hv6, .fn 40 [.ptr 5 .z 1 0, .ptr 4 .z 1 0]]), .one 3 [.int .i64 ai6], .one 22 [.slice 6 .z 1 bl cap], .ro .u8 b, .buf 5 .u8 l2 c], rfl, rfl, rfl, rfl, ⟨rfl, rfl, rfl, rfl, rfl, rfl, rfl, rfl, trivial⟩, l2, q7, hk, rfl, acc6, hv6, ai6, h6, c, c, rfl, rfl⟩
  have hlA := hlA hlt
  rw [hcA hlt]
  clear hcA hcB hlB f_end g1 d0 d1 d2 d3 d4 m3 hmv_len hmv_mem hmove
  cbv
  refine call_conX (ρ := [(3, .z), (4, .z), (5, .z), (6, .z), (7, .z)]) hnxp ⟨by rfl, by rfl, by rfl, by cbv; exact ⟨view_refl _, view_refl _, trivial⟩⟩ ?_ ?_
  rotate_left
  ·rintro v H R js6 ⟨e, hge, rfl, rfl, a, h, i2, rfl⟩
   have hS1 := f_e k p l e hlA hge
   rw [hFk] at hS1
   have hk := m2 _ hS1
   cbv
   exact ⟨[0, 1, 2, 3, 4, 5, 6], .iface 75 (.agg [.int .i64 e]), [.one 33 [.ptr 3 .z 4 0], .one 3 [.int .i64 trees], .one 3 [.int .i64 size], (.one 81 [.fn 39 [.ptr 4 .z 1 0, .ptr 5 .z 1 0], .int .u64 a, .int .i64 h, .fn 40 [.ptr 5 .z 1 0, .ptr 4 .z 1 0]]), .one 3 [.int .i64 i2], .one 22 [.slice 6 .z 1 bl cap], .ro .u8 b], rfl, rfl, rfl, rfl, ⟨rfl, rfl, rfl, rfl, rfl, rfl, rfl, trivial⟩, e, hk, rfl, rfl, a, h, i2, rfl⟩
  rintro v H R js6 ⟨x, q5, hgx, rfl, rfl, acc6, hv6, ai6, h6, rfl⟩
  have hxr := hnr p q5 x hp5 hgx
  by_cases hxR : x > runs
  ·have hN := f_a k p q5 l x hlA hgx hxR
   rw [hFk] at hN
   have eg : vc .gtr x runs = true := by rw [qc, gtr_true]; omega
   obtain ⟨y, hy⟩ : ∃ y : Int, y = x - runs := ⟨_, rfl⟩
   have ey : vb .sub .i64 x runs = y := by rw [qb, sub_i64 (by omega) (by omega)]; omega
   have ewy : vw .u8 y = y := by rw [qw]; exact wrap_u8 (by omega) (by omega)
   have hyT : isT y := ⟨by omega, by omega⟩
   rw [← hy] at hN
   have hsub : vsub [y] 0 1 = [y] := by simp only [qsub]; rfl
   have honto : vonto l rl [y] = l ++ [y] := by rw [qonto, hrl]; simp
   have ha1 : vaddN rl 1 = rl + 1 := by simp only [qaddN]
   have ha01 : vaddN 0 1 = 1 := by simp only [qaddN]
   have hln1 : vln [y] = 1 := by rw [hlnq]; rfl
   obtain ⟨l2, hl2⟩ : ∃ l2, l2 = l ++ [y] := ⟨_, rfl⟩
   rw [← hl2] at honto hN
   obtain ⟨rl2, hrl2⟩ : ∃ rl2, rl2 = rl + 1 := ⟨_, rfl⟩
   rw [← hrl2] at ha1 hfit1
   have hl2l : rl2 = l2.length := by rw [hrl2, hl2, List.length_append, ← hrl]; rfl
   have hl2S : rl2 ≤ S := by rw [hrl2]; exact hlt
   have hl2T : ∀ x ∈ l2, isT x := by rw [hl2]; exact isT_app hlT (isT_one hyT)
   have hltt : rl < rl2 := by rw [hrl2]; exact Nat.lt_succ_self _
   have hmu := lp_mu5 hltt hl2S
   have hk2 := lp_k5 hkS hltt hl2S
   have hkk : ∃ k2, k = k2 + 1 := ⟨k - 1, by omega⟩
   obtain ⟨k2, hkk⟩ := hkk
   cbv
   rw [eg]
   cbv
   rw [ey, ewy]
   refine ⟨⟨by rw [ha01, hln1]; exact Nat.le_refl _⟩, ⟨by rw [hvl]; exact Nat.le_refl _⟩, ⟨Nat.le_refl _⟩, ⟨by rw [ha1]; omega⟩, ?_⟩
   intro c2 js9 hc2
   have hc3 : vaddN rl 1 ≤ c2 := hc2.1
   rw [ha1] at hc3
   cbv
   rw [hsub, honto, ha1]
   refine Cv.fold (8 :: 9 :: ((List.range' 31 20) ++ (List.range' 51 21))) 10 [9] (by exact Nat.le_refl _) (by exact Nat.le_of_ble_eq_true rfl) (by rfl) (by cbv) ?_
   intro js
   refine ⟨(_, _, _, q5, _, _, _), ?_, js, rfl⟩
   exact ⟨⟨k2, by rw [← hkk]; exact hN.symm, by rw [← hkk]; exact hk2, hl2l, hc3, hl2S, h6, hxr.2.2.2, hl2T⟩, hmu⟩
  ·have eg : vc .gtr x runs = false := by rw [qc, gtr_false]; omega
   by_cases hx0 : x = 0
   ·have hN := f_z k p q5 l x hlA hgx hxR hx0
    rw [hFk] at hN
    have ez : vc .eql x 0 = true := by rw [qc, eql_true]; exact hx0
    obtain ⟨y, hy⟩ : ∃ y : Int, y = 0 := ⟨_, rfl⟩
    have hyT : isT y := by rw [hy]; exact ⟨by decide, by decide⟩
    rw [← hy] at hN
    have hsub : vsub [y] 0 1 = [y] := by simp only [qsub]; rfl
    have honto : vonto l rl [y] = l ++ [y] := by rw [qonto, hrl]; simp
    have ha1 : vaddN rl 1 = rl + 1 := by simp only [qaddN]
    have ha01 : vaddN 0 1 = 1 := by simp only [qaddN]
    have hln1 : vln [y] = 1 := by rw [hlnq]; rfl
    obtain ⟨l2, hl2⟩ : ∃ l2, l2 = l ++ [y] := ⟨_, rfl⟩
    rw [← hl2] at honto hN
    obtain ⟨rl2, hrl2⟩ : ∃ rl2, rl2 = rl + 1 := ⟨_, rfl⟩
    rw [← hrl2] at ha1 hfit1
    have hl2l : rl2 = l2.length := by rw [hrl2, hl2, List.length_append, ← hrl]; rfl
    have hl2S : rl2 ≤ S := by rw [hrl2]; exact hlt
    have hl2T : ∀ x ∈ l2, isT x := by rw [hl2]; exact isT_app hlT (isT_one hyT)
    have hltt : rl < rl2 := by rw [hrl2]; exact Nat.lt_succ_self _
    have hmu := lp_mu5 hltt hl2S
    have hk2 := lp_k5 hkS hltt hl2S
    have hkk : ∃ k2, k = k2 + 1 := ⟨k - 1, by omega⟩
    obtain ⟨k2, hkk⟩ := hkk
    cbv
    rw [eg]
    cbv
    rw [ez]
    cbv
    rw [← hy]
    refine ⟨⟨by rw [ha01, hln1]; exact Nat.le_refl _⟩, ⟨by rw [hvl]; exact Nat.le_refl _⟩, ⟨Nat.le_refl _⟩, ⟨by rw [ha1]; omega⟩, ?_⟩
    intro c2 js9 hc2
    have hc3 : vaddN rl 1 ≤ c2 := hc2.1
    rw [ha1] at hc3
    cbv
    rw [hsub, honto, ha1]
    refine Cv.fold (8 :: 9 :: ((List.range' 31 20) ++ (List.range' 51 21))) 10 [9] (by exact Nat.le_refl _) (by exact Nat.le_of_ble_eq_true rfl) (by rfl) (by cbv) ?_
    intro js
    refine ⟨(_, _, _, q5, _, _, _), ?_, js, rfl⟩
    exact ⟨⟨k2, by rw [← hkk]; exact hN.symm, by rw [← hkk]; exact hk2, hl2l, hc3, hl2S, h6, hxr.2.2.2, hl2T⟩, hmu⟩
   ·have ez : vc .eql x 0 = false := by rw [qc, eql_false]; exact hx0
    have hx16 : 1 ≤ x ∧ x ≤ 16 := by omega
    obtain ⟨xN, hxN⟩ : ∃ xN, xN = x.toNat := ⟨_, rfl⟩
    have hxc : x = (xN : Int) := by omega
    have gx : ConX P _ _ _ _ _ := gn xN x q5 acc6 hv6 ai6 h6 hxc (by omega)
    have hFe := fun e => f_g k p q5 l x e hlA hgx hxR hx0
    have hFp := fun q6 y => f_p k p q5 q6 l x y hlA hgx hxR hx0
    have hFr := fun q6 y => f_r k p q5 q6 l x y hlA hgx hxR hx0
    have hgy := fun y q6 => hgt xN q5 y q6
    rw [← hxN, hFk] at hFe
    rw [← hxN, hFk] at hFp hFr
    obtain ⟨s, hs9⟩ : ∃ s : Int, s = 2 ^ xN := ⟨_, rfl⟩
    have hsr : 1 ≤ s ∧ s ≤ 65536 := by
     have h1 : (2 : Int) ^ xN ≤ 2 ^ 16 := pow_up (by omega)
     have h2 : (0 : Int) < 2 ^ xN := Int.pow_pos (by omega)
     rw [hs9]
     constructor
     ·omega
     ·exact h1
    have ewx : vw .u64 x = x := by rw [qw]; exact wrap_u64 (by omega) (by omega)
    have esh : vb .shl .i64 1 x = s := by
     rw [qb, hs9]
     show IntKind.i64.wrap (1 * 2 ^ (min x.toNat IntKind.i64.bits)) = _
     rw [show min x.toNat IntKind.i64.bits = xN by
      rw [← hxN]; exact Nat.min_eq_left (Nat.le_trans (show xN ≤ 16 by omega) (by decide)), Int.one_mul, ← hs9]
     exact wrap_i64 (by omega) (by omega)
    have hx00 : 0 ≤ x := by omega
    cbv
    rw [eg]
    cbv
    rw [ez]
    cbv
    rw [ewx, esh]
    refine ⟨⟨hx00⟩, ?_⟩
    refine call_conX (ρ := [(3, .z), (4, .z), (5, .z), (6, .z)]) gx ⟨by rfl, by rfl, by rfl, by cbv; exact ⟨view_refl _, trivial⟩⟩ ?_ ?_
    rotate_left
    ·rintro v H R js7 ⟨e, hge, rfl, rfl, a, h, i2, rfl⟩
     have hk := m2 _ (hFe e hge)
     cbv
     exact ⟨[0, 1, 2, 3, 4, 5, 6], .iface 75 (.agg [.int .i64 e]), [.one 33 [.ptr 3 .z 4 0], .one 3 [.int .i64 trees], .one 3 [.int .i64 size], (.one 81 [.fn 39 [.ptr 4 .z 1 0, .ptr 5 .z 1 0], .int .u64 a, .int .i64 h, .fn 40 [.ptr 5 .z 1 0, .ptr 4 .z 1 0]]), .one 3 [.int .i64 i2], .one 22 [.slice 6 .z 1 bl cap], .ro .u8 b], rfl, rfl, rfl, rfl, ⟨rfl, rfl, rfl, rfl, rfl, rfl, rfl, trivial⟩, e, hk, rfl, rfl, a, h, i2, rfl⟩
    rintro v H R js7 ⟨y, q6, hgq, rfl, rfl, acc7, hv7, ai7, h7, rfl⟩
    have hyr := hgy y q6 hgq
    rw [← hs9] at hyr
    obtain ⟨n, hn⟩ : ∃ n : Int, n = s + y := ⟨_, rfl⟩
    have en : vb .add .i64 s y = n := by rw [qb, add_i64 (by omega) (by omega)]; exact hn.symm
    obtain ⟨s2, hs2⟩ : ∃ s2 : Int, s2 = rlI + n := ⟨_, rfl⟩
    have es2 : vb .add .i64 rlI n = s2 := by rw [qb, add_i64 (by omega) (by omega)]; exact hs2.symm
    have hFp := hFp q6 y hgq
    have hFr := hFr q6 y hgq
    rw [← hs9, ← hn, ← hlI, ← hs2] at hFp hFr
    cbv
    rw [en, hofn, es2]
    refine call_conX (ρ := []) (hmust _) ⟨by rfl, by rfl, by rfl, by cbv⟩ ?_ ?_
    rotate_left
    ·rintro v H R js8 ⟨hz, rfl, rfl, rfl⟩
     have hz2 : ¬ s2 ≤ size := by rw [qc, leq_false] at hz; exact hz
     have hk := m2 _ (hFp hz2)
     cbv
     exact ⟨[0, 1, 2, 3, 4, 5, 6], .iface 75 (.agg [.int .i64 11]), [.one 33 [.ptr 3 .z 4 0], .one 3 [.int .i64 trees], .one 3 [.int .i64 size], (.one 81 [.fn 39 [.ptr 4 .z 1 0, .ptr 5 .z 1 0], .int .u64 acc7, .int .i64 hv7, .fn 40 [.ptr 5 .z 1 0, .ptr 4 .z 1 0]]), .one 3 [.int .i64 ai7], .one 22 [.slice 6 .z 1 bl cap], .ro .u8 b], rfl, rfl, rfl, rfl, ⟨rfl, rfl, rfl, rfl, rfl, rfl, rfl, trivial⟩, 11, hk, rfl, rfl, acc7, hv7, ai7, rfl⟩
    rintro v H R js8 ⟨hz, rfl, rfl, rfl⟩
    have hz2 : s2 ≤ size := by rw [qc, leq_true] at hz; exact hz
    have hN := hFr hz2
    obtain ⟨nN, hnN⟩ : ∃ nN, nN = n.toNat := ⟨_, rfl⟩
    have hnN1 : 1 ≤ nN ∧ nN ≤ 200000 := by omega
    have htn : vtoN n = nN := by rw [qtoN, hnN]
    have hrep : vrep nN 0 = List.replicate nN 0 := by rw [qrep]
    obtain ⟨Z, hZ⟩ : ∃ Z, Z = List.replicate nN (0 : Int) := ⟨_, rfl⟩
    obtain ⟨l2, hl2⟩ : ∃ l2, l2 = l ++ Z := ⟨_, rfl⟩
    have honto : vonto l rl Z = l2 := by rw [qonto, hl2, hrl]; simp
    rw [← hnN, ← hZ, ← hl2] at hN
    obtain ⟨rl2, hrl2⟩ : ∃ rl2, rl2 = rl + nN := ⟨_, rfl⟩
    have ha1 : vaddN rl nN = rl2 := by rw [qaddN, hrl2]
    have hl2l : rl2 = l2.length := by rw [hrl2, hl2, hZ, List.length_append, List.length_replicate, ← hrl]
    have hnI : n = (nN : Int) := by omega
    have hl2S : rl2 ≤ S := by
     have hSs : (S : Int) = size := hSs
     have hrlI : rlI = (rl : Int) := hrlI
     have h9 : (rl2 : Int) ≤ (S : Int) := by rw [hrl2]; omega
     exact Int.ofNat_le.1 h9
    have hl2T : ∀ x ∈ l2, isT x := by rw [hl2, hZ]; exact isT_app hlT isT_rep
    have hltt : rl < rl2 := by rw [hrl2]; exact Nat.lt_add_of_pos_right hnN1.1
    have hmu := lp_mu5 hltt hl2S
    have hk2 := lp_k5 hkS hltt hl2S
    have hfit2 : rl2 ≤ 140737488355328 := by
     have hsS : S ≤ 16384 := by
      have hSs : (S : Int) = size := hSs
      omega
     omega
    have hn0 : 0 ≤ n ∧ n * 1 ≤ 281474976710656 := by omega
    cbv
    rw [htn, hrep, ← hZ]
    refine ⟨⟨hn0.1⟩, ⟨hn0.2⟩, ⟨by rw [hvl]; exact Nat.le_refl _⟩, ⟨Nat.le_refl _⟩, ⟨by rw [ha1]; omega⟩, ?_⟩
    intro c2 js9 hc2
    have hc3 : vaddN rl nN ≤ c2 := hc2.1
    rw [ha1] at hc3
    cbv
    rw [honto, ha1]
    have hkk : ∃ k2, k = k2 + 1 := ⟨k - 1, by omega⟩
    obtain ⟨k2, hkk⟩ := hkk
    refine Cv.fold (8 :: 9 :: ((List.range' 31 20) ++ (List.range' 51 21))) 10 [9] (by exact Nat.le_refl _) (by exact Nat.le_of_ble_eq_true rfl) (by rfl) (by cbv) ?_
    intro js
    refine ⟨(_, _, _, q6, _, _, _), ?_, js, rfl⟩
    exact ⟨⟨k2, by rw [← hkk]; exact hN.symm, by rw [← hkk]; exact hk2, hl2l, hc3, hl2S, h7, hyr.2.2, hl2T⟩, hmu⟩
end Go.Proofs.Ytkkddgdcmdnnmaa
namespace Go.Proofs.Ytkkddgdcmdnnmaa
open Go Go.Sx Go.Proofs
set_option maxRecDepth 10000
set_option maxHeartbeats 4000000
def MapPost2 (b : List Int) (r : Except Int (List Int × Nat)) (k : Nat) (B : Int → Int → Int → List SB) : SV → List SB → List Nat → Prop := fun v H R =>
 R = [] ∧ ∃ a h i, ((∃ e, r = .error e ∧ v = .tup [.val (.slice none 0 0), .int .i64 e] ∧ H = B a h i) ∨
  ∃ L q, r = .ok (L, q) ∧ RS b q a h i ∧ ∃ cp cq, v = .tup [.slice k .z 1 L.length cp, .int .i64 0] ∧ H = B a h i ++ [.buf 5 .u8 L cq])
theorem quiet61 (caps : Array Value) (w : World) : CallsDIn (FR Try.prog none) 0 Try.prog 61 caps .returning w fun e u' w' => (∃ v, e = .returned v) ∧ u' = .returning ∧ w' = w :=
 callsD_quiet (ty := 20) Try.func61 (by kernel_rfl) (by kernel_rfl) (by rw [Try.ntmps61]; decide) iface_guard iface_nil caps w
def xa33 : XC :=
 .ops [⟨(some 4), .newR 22 [(.val (.slice none 0 0))], none, []⟩,
   ⟨(some 5), .newR 25 [(.lit .i64 0)], none, []⟩]
def xb33 : XC :=
 .seq (.ops [⟨(some 6), .mv (.t 0), none, []⟩,
   ⟨(some 7), .eqv false 2 (.t 6) (.k (.val (.pointer none))), none, []⟩])
  (.cond (.t 7) (.seq (.ops [⟨(some 8), .load1 (.t 4), none, []⟩,
   ⟨none, .store1 (.t 4) (.t 8), none, []⟩,
   ⟨none, .store1 (.t 5) (.k (.lit .i64 1)), none, []⟩])
  (.ret)) (.skip))
def xc33 : XC :=
 .ops [⟨(some 10), .mv (.t 1), none, []⟩,
   ⟨(some 11), .call (.t 10) [], none, []⟩,
   ⟨none, .store1 (.t 4) (.t 11), none, []⟩,
   ⟨none, .store1 (.t 5) (.k (.lit .i64 0)), none, []⟩]
theorem fd33 : FnD Try.prog 33 xa33 xb33 xc33 61 9 4 5 12 [1000004, 1000005] := FnD.of Try.call33 Try.func33 (by kernel_rfl) Try.ntmps33 (by kernel_rfl)
theorem map33_con (b : List Int) (pos cap : Nat) (acc hv ai trees size : Int) (hby : ∀ x ∈ b, isByte x) (hl : b.length ≤ 2 ^ 50) (h : RS b pos acc hv ai) (hp : pos ≤ 8 * b.length) (ht : 2 ≤ trees ∧ trees ≤ 256) (hs : 1 ≤ size ∧ size ≤ 16384) :
  Con Try.prog 33 [.ptr 3 .z 4 0, .fn 34 [.ptr 0 .z 1 0, .ptr 1 .z 1 0, .ptr 2 .z 1 0]] [.one 33 [.ptr 3 .z 4 0], .one 3 [.int .i64 trees], .one 3 [.int .i64 size], (.one 81 [.fn 39 [.ptr 4 .z 1 0, .ptr 5 .z 1 0], .int .u64 acc, .int .i64 hv, .fn 40 [.ptr 5 .z 1 0, .ptr 4 .z 1 0]]), .one 3 [.int .i64 ai], .one 22 [.slice 6 .z 1 b.length cap], .ro .u8 b] (MapPost2 b (mapR b trees size pos) 7 (fun a h i => [.one 33 [.ptr 3 .z 4 0], .one 3 [.int .i64 trees], .one 3 [.int .i64 size], (.one 81 [.fn 39 [.ptr 4 .z 1 0, .ptr 5 .z 1 0], .int .u64 a, .int .i64 h, .fn 40 [.ptr 5 .z 1 0, .ptr 4 .z 1 0]]), .one 3 [.int .i64 i], .one 22 [.slice 6 .z 1 b.length cap], .ro .u8 b])) := by
 have g := map34_con b pos cap acc hv ai trees size hby hl h hp ht hs
 generalize mapR b trees size pos = r at *
 clear hl hby h hp
 generalize b.length = bl at *
 refine con_gen (con_picks (con_drop (con_of_deferX hmix fd33 lp33 Try.call61 rec61 quiet61 ?_)))
 generalize Try.prog = P at *
 cbv
 intro D
 cbv
 refine call_conX (ρ := [(0, .z), (1, .z), (2, .z), (3, .z), (4, .z), (5, .z), (6, .z)]) g ⟨by rfl, by rfl, by rfl, by cbv; exact ⟨view_refl _, trivial⟩⟩ ?_ ?_
 rotate_left
 ·rintro v H R js2 ⟨e, rfl, rfl, rfl, a, h, i, rfl⟩
  cbv
  intro js
  refine ⟨by rfl, ?_⟩
  exact ⟨[0, 1, 2, 3, 4, 5, 6], .tup [.val (.slice none 0 0), .int .i64 e], [.one 33 [.ptr 3 .z 4 0], .one 3 [.int .i64 trees], .one 3 [.int .i64 size], (.one 81 [.fn 39 [.ptr 4 .z 1 0, .ptr 5 .z 1 0], .int .u64 a, .int .i64 h, .fn 40 [.ptr 5 .z 1 0, .ptr 4 .z 1 0]]), .one 3 [.int .i64 i], .one 22 [.slice 6 .z 1 bl cap], .ro .u8 b], rfl, rfl, rfl, rfl, ⟨rfl, rfl, rfl, rfl, rfl, rfl, rfl, trivial⟩, rfl, a, h, i, .inl ⟨e, rfl, rfl, rfl⟩⟩
 rintro v H R js2 ⟨L, q, rfl, rfl, acc3, hv3, ai3, h3, cp, cq, rfl, rfl⟩
 generalize hll : L.length = ll
 cbv
 subst hll
 exact ⟨[0, 1, 2, 3, 4, 5, 6, 9], .tup [.slice 7 .z 1 L.length cp, .lit .i64 0], [.one 33 [.ptr 3 .z 4 0], .one 3 [.int .i64 trees], .one 3 [.int .i64 size], (.one 81 [.fn 39 [.ptr 4 .z 1 0, .ptr 5 .z 1 0], .int .u64 acc3, .int .i64 hv3, .fn 40 [.ptr 5 .z 1 0, .ptr 4 .z 1 0]]), .one 3 [.int .i64 ai3], .one 22 [.slice 6 .z 1 bl cap], .ro .u8 b, .buf 5 .u8 L cq], rfl, rfl, rfl, rfl, ⟨rfl, rfl, rfl, rfl, rfl, rfl, rfl, rfl, trivial⟩, rfl, acc3, hv3, ai3, .inr ⟨L, q, rfl, h3, cp, cq, rfl, rfl⟩⟩
theorem mapX9_con (b : List Int) (pos cap : Nat) (acc hv ai trees size : Int) (hby : ∀ x ∈ b, isByte x) (hl : b.length ≤ 2 ^ 50) (h : RS b pos acc hv ai) (hp : pos ≤ 8 * b.length) :
  Con Try.prog 9 [.ptr 0 .z 4 0, .int .i64 trees, .int .i64 size] [(.one 81 [.fn 39 [.ptr 1 .z 1 0, .ptr 2 .z 1 0], .int .u64 acc, .int .i64 hv, .fn 40 [.ptr 2 .z 1 0, .ptr 1 .z 1 0]]), .one 3 [.int .i64 ai], .one 22 [.slice 3 .z 1 b.length cap], .ro .u8 b] (MapPost2 b (if (2 ≤ trees ∧ trees ≤ 256) ∧ 1 ≤ size ∧ size ≤ 16384 then mapR b trees size pos else .error 2) 4 (fun a h i => [(.one 81 [.fn 39 [.ptr 1 .z 1 0, .ptr 2 .z 1 0], .int .u64 a, .int .i64 h, .fn 40 [.ptr 2 .z 1 0, .ptr 1 .z 1 0]]), .one 3 [.int .i64 i], .one 22 [.slice 3 .z 1 b.length cap], .ro .u8 b])) := by
 by_cases hts : (2 ≤ trees ∧ trees ≤ 256) ∧ 1 ≤ size ∧ size ≤ 16384
 ·have g := map33_con b pos cap acc hv ai trees size hby hl h hp hts.1 hts.2
  rw [if_pos hts]
  generalize mapR b trees size pos = r at *
  clear hl hby h hp
  generalize b.length = bl at *
  refine con_gen (con_picks (con_drop (con_walk hmix fn9 ?_)))
  intro vb vc vw vtoN vofN vaddN vsubN vmaxI vminI vcutN vgd vst vln vrep vsub vonto vsplice vstrEq vbyteV vnotB veqB hw qb qc qw qtoN qofN qaddN qsubN qmaxI qminI qcutN qgd qst qln qrep qsub qonto qsplice qstrEq qbyteV qnotB qeqB
  have hm := hmix; generalize Try.prog = P at *
  have e1 : vc .lss trees 2 = false := by rw [qc, lss_false]; omega
  have e2 : vc .gtr trees 256 = false := by rw [qc, gtr_false]; omega
  have e3 : vc .lss size 1 = false := by rw [qc, lss_false]; omega
  have e4 : vc .gtr size 16384 = false := by rw [qc, gtr_false]; omega
  cbv
  rw [e1]
  cbv
  rw [e2]
  cbv
  rw [e3]
  cbv
  rw [e4]
  cbv
  refine call_con (ρ := [(4, .z), (5, .z), (6, .z), (0, .z), (1, .z), (2, .z), (3, .z)]) g ⟨by rfl, by rfl, by rfl, by cbv; exact ⟨view_refl _, trivial⟩⟩ ?_
  rintro v H R js2 ⟨rfl, a, h, i, ⟨e, rfl, rfl, rfl⟩ | ⟨L, q, rfl, h3, cp, cq, rfl, rfl⟩⟩
  ·cbv
   exact ⟨[0, 1, 2, 3], .tup [.val (.slice none 0 0), .int .i64 e], [(.one 81 [.fn 39 [.ptr 1 .z 1 0, .ptr 2 .z 1 0], .int .u64 a, .int .i64 h, .fn 40 [.ptr 2 .z 1 0, .ptr 1 .z 1 0]]), .one 3 [.int .i64 i], .one 22 [.slice 3 .z 1 bl cap], .ro .u8 b], rfl, rfl, rfl, rfl, ⟨rfl, rfl, rfl, rfl, trivial⟩, rfl, a, h, i, .inl ⟨e, rfl, rfl, rfl⟩⟩
  ·generalize hll : L.length = ll
   cbv
   subst hll
   exact ⟨[0, 1, 2, 3, 7], .tup [.slice 4 .z 1 L.length cp, .int .i64 0], [(.one 81 [.fn 39 [.ptr 1 .z 1 0, .ptr 2 .z 1 0], .int .u64 a, .int .i64 h, .fn 40 [.ptr 2 .z 1 0, .ptr 1 .z 1 0]]), .one 3 [.int .i64 i], .one 22 [.slice 3 .z 1 bl cap], .ro .u8 b, .buf 5 .u8 L cq], rfl, rfl, rfl, rfl, ⟨rfl, rfl, rfl, rfl, rfl, trivial⟩, rfl, a, h, i, .inr ⟨L, q, rfl, h3, cp, cq, rfl, rfl⟩⟩
 ·rw [if_neg hts]
  clear hl hby hp
  generalize b.length = bl at *
  refine con_gen (con_picks (con_drop (con_walk hmix fn9 ?_)))
  intro vb vc vw vtoN vofN vaddN vsubN vmaxI vminI vcutN vgd vst vln vrep vsub vonto vsplice vstrEq vbyteV vnotB veqB hw qb qc qw qtoN qofN qaddN qsubN qmaxI qminI qcutN qgd qst qln qrep qsub qonto qsplice qstrEq qbyteV qnotB qeqB
  have hm := hmix; generalize Try.prog = P at *
  by_cases h1 : trees < 2
  ·have e1 : vc .lss trees 2 = true := by rw [qc, lss_true]; exact h1
   cbv
   rw [e1]
   cbv
   exact ⟨[0, 1, 2, 3], .tup [.val (.slice none 0 0), .lit .i64 2], [(.one 81 [.fn 39 [.ptr 1 .z 1 0, .ptr 2 .z 1 0], .int .u64 acc, .int .i64 hv, .fn 40 [.ptr 2 .z 1 0, .ptr 1 .z 1 0]]), .one 3 [.int .i64 ai], .one 22 [.slice 3 .z 1 bl cap], .ro .u8 b], rfl, rfl, rfl, rfl, ⟨rfl, rfl, rfl, rfl, trivial⟩, rfl, acc, hv, ai, .inl ⟨2, rfl, rfl, rfl⟩⟩
  have e1 : vc .lss trees 2 = false := by rw [qc, lss_false]; exact h1
  by_cases h2 : trees > 256
  ·have e2 : vc .gtr trees 256 = true := by rw [qc, gtr_true]; exact h2
   cbv
   rw [e1]
   cbv
   rw [e2]
   cbv
   exact ⟨[0, 1, 2, 3], .tup [.val (.slice none 0 0), .lit .i64 2], [(.one 81 [.fn 39 [.ptr 1 .z 1 0, .ptr 2 .z 1 0], .int .u64 acc, .int .i64 hv, .fn 40 [.ptr 2 .z 1 0, .ptr 1 .z 1 0]]), .one 3 [.int .i64 ai], .one 22 [.slice 3 .z 1 bl cap], .ro .u8 b], rfl, rfl, rfl, rfl, ⟨rfl, rfl, rfl, rfl, trivial⟩, rfl, acc, hv, ai, .inl ⟨2, rfl, rfl, rfl⟩⟩
  have e2 : vc .gtr trees 256 = false := by rw [qc, gtr_false]; exact h2
  by_cases h3 : size < 1
  ·have e3 : vc .lss size 1 = true := by rw [qc, lss_true]; exact h3
   cbv
   rw [e1]
   cbv
   rw [e2]
   cbv
   rw [e3]
   cbv
   exact ⟨[0, 1, 2, 3], .tup [.val (.slice none 0 0), .lit .i64 2], [(.one 81 [.fn 39 [.ptr 1 .z 1 0, .ptr 2 .z 1 0], .int .u64 acc, .int .i64 hv, .fn 40 [.ptr 2 .z 1 0, .ptr 1 .z 1 0]]), .one 3 [.int .i64 ai], .one 22 [.slice 3 .z 1 bl cap], .ro .u8 b], rfl, rfl, rfl, rfl, ⟨rfl, rfl, rfl, rfl, trivial⟩, rfl, acc, hv, ai, .inl ⟨2, rfl, rfl, rfl⟩⟩
  have e3 : vc .lss size 1 = false := by rw [qc, lss_false]; exact h3
  have e4 : vc .gtr size 16384 = true := by rw [qc, gtr_true]; omega
  cbv
  rw [e1]
  cbv
  rw [e2]
  cbv
  rw [e3]
  cbv
  rw [e4]
  cbv
  exact ⟨[0, 1, 2, 3], .tup [.val (.slice none 0 0), .lit .i64 2], [(.one 81 [.fn 39 [.ptr 1 .z 1 0, .ptr 2 .z 1 0], .int .u64 acc, .int .i64 hv, .fn 40 [.ptr 2 .z 1 0, .ptr 1 .z 1 0]]), .one 3 [.int .i64 ai], .one 22 [.slice 3 .z 1 bl cap], .ro .u8 b], rfl, rfl, rfl, rfl, ⟨rfl, rfl, rfl, rfl, trivial⟩, rfl, acc, hv, ai, .inl ⟨2, rfl, rfl, rfl⟩⟩
end Go.Proofs.Ytkkddgdcmdnnmaa
namespace Go.Proofs.Ytkkddgdcmdnnmaa
open Go Go.Sx Go.Proofs
theorem refbit_con (b : List Int) (cap i : Nat) (p : Int) (hby : ∀ x ∈ b, isByte x) (hl : b.length ≤ 2 ^ 50) (hi : i < 8 * b.length) :
    Con Try.prog 69 [.ptr 0 .z 2 0, .int .i64 i] [.one 41 [.slice 1 .z 1 b.length cap, .int .i64 p], .ro .u8 b]
      (fun v H R => v = .int .u64 ((bitL b).getD i 0) ∧ R = [] ∧ H = [.one 41 [.slice 1 .z 1 b.length cap, .int .i64 p], .ro .u8 b]) := by
  have hg := bitL_get b i hi
  have hbb := byte_bit hby (i / 8)
  refine con_walk hmix fn69 ?_
  intro vb vc vw vtoN vofN vaddN vsubN vmaxI vminI vcutN vgd vst vln vrep vsub vonto vsplice vstrEq vbyteV vnotB veqB hw qb qc qw qtoN qofN qaddN qsubN qmaxI qminI qcutN qgd qst qln qrep qsub qonto qsplice qstrEq qbyteV qnotB qeqB
  generalize Try.prog = P at *
  generalize (bitL b).getD i 0 = X at *
  generalize hi0 : ((i : Nat) : Int) = i0 at *
  generalize hlen : b.length = len at *
  have hq : vb .quo .i64 i0 8 = i0 / 8 := by rw [qb, quo_i64 (by omega) (by omega) (by omega)]
  have hr : vb .rem .i64 i0 8 = i0 % 8 := by rw [qb, rem_i64 (by omega)]
  have hwr : vw .u64 (i0 % 8) = i0 % 8 := by simp only [qw]; exact wrap_u64 (by omega) (by omega)
  have hin : 0 ≤ vb .quo .i64 i0 8 ∧ vb .quo .i64 i0 8 < len := by rw [hq]; omega
  have hqn : vtoN (vb .quo .i64 i0 8) = i / 8 := by rw [hq]; simp only [qtoN]; omega
  have hlt : vtoN (vb .quo .i64 i0 8) < vln b := by rw [hqn]; simp only [qln]; omega
  have hlt2 : vaddN 0 (vtoN (vb .quo .i64 i0 8)) < vln b := by simp only [qaddN, Nat.zero_add]; exact hlt
  have hnn : 0 ≤ vw .u64 (vb .rem .i64 i0 8) := by rw [hr, hwr]; omega
  have hval : vb .and .u64 (vw .u64 (vb .shr .u8 (vgd b (vtoN (vb .quo .i64 i0 8))) (vw .u64 (vb .rem .i64 i0 8)))) 1 = X := by
    rw [hr, hwr, hqn, qb, shr_eq (by show i0 % 8 ≤ ((8 : Nat) : Int); omega)]
    simp only [qgd, qw]
    have e : X = b.getD (i / 8) 0 / 2 ^ (i0 % 8).toNat % 2 := by
      rw [hg]; unfold bitAt; rw [if_pos (by omega)]
      have : (i0 / 8).toNat = i / 8 := by omega
      rw [this]
    rw [e]
    generalize b.getD (i / 8) 0 = y at *
    have h1 : 0 ≤ y / 2 ^ (i0 % 8).toNat := Int.ediv_nonneg hbb.1 (Int.le_of_lt (Int.pow_pos (by decide)))
    have h2 : y / 2 ^ (i0 % 8).toNat ≤ y := Int.ediv_le_self _ hbb.1
    have h3 := hbb.2
    rw [wrap_u64 h1 (by omega), and_one rfl h1 (by show _ < (2 : Int) ^ 64; omega)]
  cbv
  refine ⟨⟨hin⟩, ⟨hlt2⟩, ⟨hlt⟩, ⟨hnn⟩, ?_⟩
  rw [hval]
  exact ⟨rfl, trivial⟩
theorem refleft_con (b : List Int) (cap pos : Nat) (hl : b.length ≤ 2 ^ 50) (hp : pos ≤ 8 * b.length) :
    Con Try.prog 19 [.ptr 0 .z 2 0] [.one 41 [.slice 1 .z 1 b.length cap, .int .i64 pos], .ro .u8 b]
      (fun v H R => v = .int .i64 (8 * b.length - pos) ∧ R = [] ∧ H = [.one 41 [.slice 1 .z 1 b.length cap, .int .i64 pos], .ro .u8 b]) := by
  refine con_walk hmix fn19 ?_
  intro vb vc vw vtoN vofN vaddN vsubN vmaxI vminI vcutN vgd vst vln vrep vsub vonto vsplice vstrEq vbyteV vnotB veqB hw qb qc qw qtoN qofN qaddN qsubN qmaxI qminI qcutN qgd qst qln qrep qsub qonto qsplice qstrEq qbyteV qnotB qeqB
  generalize Try.prog = P at *
  generalize hL : (8 * (b.length : Int) - pos) = L
  generalize hlen : b.length = len at *
  generalize hp0 : ((pos : Nat) : Int) = p0 at *
  have e1 : vb .sub .i64 (vb .mul .i64 8 (vofN len)) p0 = L := by simp only [qb, qofN]; rw [mul_i64 (by omega) (by omega), sub_i64 (by omega) (by omega)]; omega
  cbv
  rw [e1]
  exact ⟨rfl, trivial⟩
set_option maxHeartbeats 2000000 in
theorem refbits_ok (b : List Int) (cap pos n : Nat) (hby : ∀ x ∈ b, isByte x) (hl : b.length ≤ 2 ^ 50) (hn : n ≤ 56) (hen : pos + n ≤ 8 * b.length) :
    Con Try.prog 47 [.ptr 0 .z 2 0, .int .i64 n] [.one 41 [.slice 1 .z 1 b.length cap, .int .i64 pos], .ro .u8 b]
      (fun v H R => v = .tup [.int .u64 (bval (bitL b) pos n), .lit .i64 0] ∧ R = [] ∧ H = [.one 41 [.slice 1 .z 1 b.length cap, .int .i64 ((pos + n : Nat))], .ro .u8 b]) := by
  have hbit := fun i hi => refbit_con b cap i pos hby hl hi
  have hleft := refleft_con b cap pos hl (by omega)
  refine con_cut 2 (by simp) (con_red [] (con_walk hmix fn47 ?_))
  intro vb vc vw vtoN vofN vaddN vsubN vmaxI vminI vcutN vgd vst vln vrep vsub vonto vsplice vstrEq vbyteV vnotB veqB hw qb qc qw qtoN qofN qaddN qsubN qmaxI qminI qcutN qgd qst qln qrep qsub qonto qsplice qstrEq qbyteV qnotB qeqB
  have hm := hmix
  generalize Try.prog = P at *
  generalize hX : bval (bitL b) pos n = X
  generalize hL : (8 * (b.length : Int) - pos) = L at *
  generalize hp1 : ((pos + n : Nat) : Int) = p1 at *
  generalize hp0 : ((pos : Nat) : Int) = p0 at *
  generalize hn0 : ((n : Nat) : Int) = n0 at *
  have hbd : ∀ i, 0 ≤ bval (bitL b) pos i ∧ bval (bitL b) pos i < 2 ^ i := bval_bound (bitL b) (bitL_bit b) pos
  have hbl : ∀ i, 0 ≤ (bitL b).getD i 0 ∧ (bitL b).getD i 0 < 2 := fun i => by
    rw [List.getD_eq_getElem?_getD]
    cases hg : (bitL b)[i]? with
    | none => exact ⟨by simp, by simp⟩
    | some y => have := bitL_bit b y (List.mem_of_getElem? hg); unfold isBit at this; simp; omega
  generalize hlen : b.length = len at *
  cbv
  have e1 : vc .lss n0 0 = false := by rw [qc, lss_false]; simp only [nc] at *; omega
  have e2 : vc .gtr n0 56 = false := by rw [qc, gtr_false]; simp only [nc] at *; omega
  have e3 : vc .lss L n0 = false := by rw [qc, lss_false]; simp only [nc] at *; omega
  rw [e1]
  cbv
  rw [e2]
  cbv
  refine call_con (ρ := [(0, .z), (1, .z)]) hleft ⟨by rfl, by rfl, by rfl, by cbv; exact ⟨view_refl _, trivial⟩⟩ ?_
  rintro v H R js ⟨rfl, rfl, rfl⟩
  cbv
  rw [e3]
  cbv
  refine loop_fam (α := Int × Int) [18, 19, 20, 21, 22, 23, 24, 25, 26, 27, 28, 29, 30, 31, 32, 33, 34, 35] []
    (fun (x, k) => [(6, .int .u64 x), (7, .int .i64 k)]) (fun (x, k) => [])
    (fun (x, k) => ∃ i : Nat, k = i ∧ i ≤ n ∧ x = bval (bitL b) pos i) (fun (x, k) => n - k.toNat) hw hm ?_ ?_
  · refine Cv.genAt [6, 7] [] (Cv.fold [18, 19, 20, 21, 22, 23, 24, 25, 26, 27, 28, 29, 30, 31, 32, 33, 34, 35] 2 [] (by exact Nat.le_refl _) (by exact Nat.le_of_ble_eq_true rfl) (by rfl) (by cbv) ?_)
    intro js
    refine ⟨(_, _), ?_, js, rfl⟩
    exact ⟨0, rfl, by omega, rfl⟩
  · rintro ⟨x, k⟩ js ⟨i, hk, hi, hx⟩
    cbv
    split
    · rename_i hlt
      have hlt : i < n := by rw [qc, lss_true] at hlt; simp only [nc] at *; omega
      have hbit' := hbit (pos + i) (by omega)
      have hadd : vb .add .i64 p0 k = ((pos + i : Nat) : Int) := by simp only [nc] at *; rw [qb, add_i64 (by omega) (by omega)]; omega
      have hbd' := hbd i
      have hbl' := hbl (pos + i)
      have hsucc : bval (bitL b) pos (i + 1) = bval (bitL b) pos i + (bitL b).getD (pos + i) 0 * 2 ^ i := rfl
      simp only [nc] at hbit' hadd
      rw [← hadd] at hbit'
      generalize hy : (bitL b).getD (pos + i) 0 = y at *
      generalize hz : vb .add .i64 p0 k = z at *
      have hwk : vw .u64 k = k := by simp only [nc] at *; simp only [qw]; exact wrap_u64 (by omega) (by omega)
      have hnn : 0 ≤ vw .u64 k := by rw [hwk]; simp only [nc] at *; omega
      have hk1 : vb .add .i64 k 1 = ((i + 1 : Nat) : Int) := by simp only [nc] at *; rw [qb, add_i64 (by omega) (by omega)]; omega
      have hval : vb .or .u64 x (vb .shl .u64 y (vw .u64 k)) = bval (bitL b) pos (i + 1) := by
        have hp56 := pow_le_56 (show i ≤ 56 by omega)
        have hpp : (0 : Int) < 2 ^ i := Int.pow_pos (by decide)
        have hyb : 0 ≤ y * 2 ^ i ∧ y * 2 ^ i ≤ 2 ^ i := by
          have : y = 0 ∨ y = 1 := by omega
          rcases this with rfl | rfl <;> omega
        have hkn : k.toNat = i := by simp only [nc] at *; omega
        rw [hsucc, hwk, qb, shl_u rfl hbl'.1 (by show k ≤ ((64 : Nat) : Int); simp only [nc] at *; omega) (by rw [hkn]; show _ < (2 : Int) ^ 64; omega), hkn, hx, or_add rfl _ hbd'.1 hbd'.2 hbl'.1 (by show _ < (2 : Int) ^ 64; omega)]
      cbv
      rw [hz]
      refine call_con (ρ := [(0, .z), (1, .z)]) hbit' ⟨by rfl, by rfl, by rfl, by cbv; exact ⟨view_refl _, trivial⟩⟩ ?_
      rintro v H R js ⟨rfl, rfl, rfl⟩
      cbv
      refine ⟨⟨hnn⟩, ?_⟩
      refine Cv.fold [18, 19, 20, 21, 22, 23, 24, 25, 26, 27, 28, 29, 30, 31, 32, 33, 34, 35] 2 [] (by exact Nat.le_refl _) (by exact Nat.le_of_ble_eq_true rfl) (by rfl) (by cbv) ?_
      intro js
      refine ⟨(_, _), ?_, js, rfl⟩
      exact ⟨⟨i + 1, hk1, hlt, hval⟩, by show n - (vb .add .i64 k 1).toNat < n - k.toNat; rw [hk1, hk]; simp only [nc] at *; omega⟩
    · rename_i hge
      have hin : i = n := by rw [qc, lss_false] at hge; simp only [nc] at *; omega
      have hxX : x = X := by rw [hx, hin, hX]
      have hpp : vb .add .i64 p0 n0 = p1 := by simp only [nc] at *; rw [qb, add_i64 (by omega) (by omega)]; omega
      cbv
      rw [hxX, hpp]
      exact ⟨rfl, rfl⟩
theorem refbits_bad (b : List Int) (cap pos : Nat) (n : Int) (hl : b.length ≤ 2 ^ 50) (hp : pos ≤ 8 * b.length) (hn : ¬ (0 ≤ n ∧ n ≤ 56 ∧ pos + n ≤ 8 * b.length)) :
    Con Try.prog 47 [.ptr 0 .z 2 0, .int .i64 n] [.one 41 [.slice 1 .z 1 b.length cap, .int .i64 pos], .ro .u8 b]
      (fun v H R => v = .tup [.int .u64 0, .int .i64 (rbE b pos n)] ∧ R = [] ∧ H = [.one 41 [.slice 1 .z 1 b.length cap, .int .i64 pos], .ro .u8 b]) := by
  have hleft := refleft_con b cap pos hl hp
  have hE : rbE b pos n = if 0 ≤ n ∧ n ≤ 56 then 10 else 2 := by unfold rbE; split <;> (first | rfl | (rw [if_neg (by omega)]))
  rw [hE]
  refine con_gen (con_walk hmix fn47 ?_)
  intro vb vc vw vtoN vofN vaddN vsubN vmaxI vminI vcutN vgd vst vln vrep vsub vonto vsplice vstrEq vbyteV vnotB veqB hw qb qc qw qtoN qofN qaddN qsubN qmaxI qminI qcutN qgd qst qln qrep qsub qonto qsplice qstrEq qbyteV qnotB qeqB
  generalize Try.prog = P at *
  generalize hL : (8 * (b.length : Int) - pos) = L at *
  generalize hp0 : ((pos : Nat) : Int) = p0 at *
  generalize hlen : b.length = len at *
  by_cases h1 : n < 0
  · have e1 : vc .lss n 0 = true := by rw [qc, lss_true]; exact h1
    rw [if_neg (by omega)]
    cbv
    rw [e1]
    cbv
  · have e1 : vc .lss n 0 = false := by rw [qc, lss_false]; exact h1
    by_cases h2 : 56 < n
    · have e2 : vc .gtr n 56 = true := by rw [qc, gtr_true]; exact h2
      rw [if_neg (by omega)]
      cbv
      rw [e1]
      cbv
      rw [e2]
      cbv
    · have e2 : vc .gtr n 56 = false := by rw [qc, gtr_false]; exact h2
      have e3 : vc .lss L n = true := by rw [qc, lss_true]; omega
      rw [if_pos (by omega)]
      cbv
      rw [e1]
      cbv
      rw [e2]
      cbv
      refine call_con (ρ := [(0, .z), (1, .z)]) hleft ⟨by rfl, by rfl, by rfl, by cbv; exact ⟨view_refl _, trivial⟩⟩ ?_
      rintro v H R js ⟨rfl, rfl, rfl⟩
      cbv
      rw [e3]
      cbv
theorem refbitsB_con (b : List Int) (cap pos : Nat) (n : Int) (hby : ∀ x ∈ b, isByte x) (hl : b.length ≤ 2 ^ 50) (hp : pos ≤ 8 * b.length) :
    Con Try.prog 47 [.ptr 0 .z 2 0, .int .i64 n] [.one 41 [.slice 1 .z 1 b.length cap, .int .i64 pos], .ro .u8 b]
      (fun v H R => v = .tup [.int .u64 (rbX b pos n), .int .i64 (rbE b pos n)] ∧ R = [] ∧ H = [.one 41 [.slice 1 .z 1 b.length cap, .int .i64 (rbP b pos n)], .ro .u8 b]) := by
  by_cases hn : 0 ≤ n ∧ n ≤ 56 ∧ pos + n ≤ 8 * b.length
  · obtain ⟨m, rfl⟩ : ∃ m : Nat, n = m := ⟨n.toNat, by omega⟩
    have e1 : rbX b pos m = bval (bitL b) pos m := by unfold rbX; rw [if_pos hn]; rfl
    have e2 : rbE b pos m = 0 := by unfold rbE; rw [if_pos ⟨hn.1, hn.2.1⟩, if_pos hn.2.2]
    have e3 : rbP b pos m = pos + m := by unfold rbP; rw [if_pos hn]; rfl
    rw [e1, e2, e3]
    refine con_gen ((refbits_ok b cap pos m hby hl (by omega) (by omega)).mono ?_)
    rintro v H R ⟨rfl, rfl, rfl⟩
    exact ⟨rfl, rfl, rfl⟩
  · have e1 : rbX b pos n = 0 := by unfold rbX; rw [if_neg hn]
    have e3 : rbP b pos n = pos := by unfold rbP; rw [if_neg hn]
    rw [e1, e3]
    refine con_gen ((refbits_bad b cap pos n hl hp hn).mono ?_)
    rintro v H R ⟨rfl, rfl, rfl⟩
    exact ⟨rfl, rfl, rfl⟩
end Go.Proofs.Ytkkddgdcmdnnmaa
namespace Go.Proofs.Ytkkddgdcmdnnmaa
open Go Go.Sx Go.Proofs
theorem refrbit_con (b : List Int) (cap pos : Nat) (hby : ∀ x ∈ b, isByte x) (hl : b.length ≤ 2 ^ 50) (hp : pos ≤ 8 * b.length) :
    Con Try.prog 47 [.ptr 0 .z 2 0, .int .i64 1] [.one 41 [.slice 1 .z 1 b.length cap, .int .i64 pos], .ro .u8 b]
      (fun v H R => ∃ x e, ∃ pos2 : Nat, v = .tup [.int .u64 x, .int .i64 e] ∧ ((e = 0 ∧ pos + 1 ≤ 8 * b.length ∧ x = bt b pos ∧ pos2 = pos + 1) ∨ (e = 10 ∧ 8 * b.length ≤ pos ∧ pos2 = pos)) ∧ R = [] ∧ H = [.one 41 [.slice 1 .z 1 b.length cap, .int .i64 pos2], .ro .u8 b]) := by
  refine (refbitsB_con b cap pos 1 hby hl hp).mono ?_
  rintro v H R ⟨rfl, rfl, rfl⟩
  refine ⟨_, _, _, rfl, ?_, rfl, rfl⟩
  by_cases hp : pos + 1 ≤ 8 * b.length
  · refine .inl ⟨?_, hp, ?_, ?_⟩
    · unfold rbE; rw [if_pos (by omega), if_pos (by omega)]
    · unfold rbX; rw [if_pos ⟨by omega, by omega, by omega⟩]; simp [bval, bt]
    · unfold rbP; rw [if_pos ⟨by omega, by omega, by omega⟩]; rfl
  · refine .inr ⟨?_, by omega, ?_⟩
    · unfold rbE; rw [if_pos (by omega), if_neg (by omega)]
    · unfold rbP; rw [if_neg (by omega)]
set_option maxRecDepth 10000
set_option maxHeartbeats 40000000
theorem refword_con (l b : List Int) (p cap cap2 cap3 : Nat) (hR : Rt l) (hby : ∀ x ∈ b, isByte x) (hl : b.length ≤ 2 ^ 50) (hp : p ≤ 8 * b.length) :
    Con Try.prog 51 [.ptr 0 .z 2 0, .slice 2 .z 1 l.length cap2, .slice 3 .z 1 l.length cap3] [.one 41 [.slice 1 .z 1 b.length cap, .int .i64 p], .ro .u8 b, .ro .u8 l, .ro .u16 (WL l)]
      (fun v H R => ∃ s e, ∃ q : Nat, v = .tup [.int .i64 s, .int .i64 e] ∧ Dec l b p s e q ∧ R = [] ∧
        H = [.one 41 [.slice 1 .z 1 b.length cap, .int .i64 q], .ro .u8 b, .ro .u8 l, .ro .u16 (WL l)]) := by
  have hrd : ∀ (pI : Int) (pos : Nat), pI = pos → pos ≤ 8 * b.length → Con Try.prog 47 [.ptr 0 .z 2 0, .int .i64 1] [.one 41 [.slice 1 .z 1 b.length cap, .int .i64 pI], .ro .u8 b]
      (fun v H R => ∃ x e pI2 : Int, ∃ pos2 : Nat, v = .tup [.int .u64 x, .int .i64 e] ∧ pI2 = pos2 ∧ ((e = 0 ∧ pos + 1 ≤ 8 * b.length ∧ x = bt b pos ∧ pos2 = pos + 1) ∨ (e = 10 ∧ 8 * b.length ≤ pos ∧ pos2 = pos)) ∧ R = [] ∧ H = [.one 41 [.slice 1 .z 1 b.length cap, .int .i64 pI2], .ro .u8 b]) := by
    rintro pI pos rfl h
    refine (refrbit_con b cap pos hby hl h).mono ?_
    rintro v H R ⟨x, e, pos2, rfl, h2, rfl, rfl⟩
    exact ⟨x, e, _, pos2, rfl, rfl, h2, rfl, rfl⟩
  have hWg : ∀ u L : Nat, u < l.length → 1 ≤ L → l.getD u 0 = L → (WL l).getD u 0 = st l L + cn l L u := fun u L h h1 h2 => by
    rw [WL_getD l h, if_pos (by omega)]
    unfold wd
    rw [h2]; simp
  have hlt : ∀ u L : Nat, u < l.length → l.getD u 0 = L → cn l L u + 1 ≤ cn l L l.length := fun u L h h2 => by
    have := cn_lt l h; rw [h2] at this; exact this
  have hfind : ∀ (L : Nat) (q : Int), 0 ≤ q → q < cn l L l.length → ∃ i, i < l.length ∧ l.getD i 0 = L ∧ cn l L i = q := fun L q h1 h2 => cn_find l L q h1 h2
  have hWlen := WL_len l
  obtain ⟨pI, hpI⟩ : ∃ pI : Int, pI = p := ⟨_, rfl⟩
  have hq : ∀ (s e qI : Int) (q : Nat) (W : List Int), qI = q → Dec l b p s e q → ∃ s' e', ∃ q' : Nat, SV.tup [.int .i64 s, .int .i64 e] = .tup [.int .i64 s', .int .i64 e'] ∧ Dec l b p s' e' q' ∧
      [SB.one 41 [.slice 1 .z 1 b.length cap, .int .i64 qI], .ro .u8 b, .ro .u8 l, .ro .u16 W] = [.one 41 [.slice 1 .z 1 b.length cap, .int .i64 q'], .ro .u8 b, .ro .u8 l, .ro .u16 W] := by
    rintro s e qI q W rfl h
    exact ⟨s, e, q, rfl, h, rfl⟩
  suffices h : Con Try.prog 51 [.ptr 0 .z 2 0, .slice 2 .z 1 l.length cap2, .slice 3 .z 1 l.length cap3] [.one 41 [.slice 1 .z 1 b.length cap, .int .i64 pI], .ro .u8 b, .ro .u8 l, .ro .u16 (WL l)]
      (fun v H R => ∃ s e qI : Int, ∃ q : Nat, v = .tup [.int .i64 s, .int .i64 e] ∧ qI = q ∧ Dec l b p s e q ∧ R = [] ∧
        H = [.one 41 [.slice 1 .z 1 b.length cap, .int .i64 qI], .ro .u8 b, .ro .u8 l, .ro .u16 (WL l)]) by
    subst hpI
    refine h.mono ?_
    rintro v H R ⟨s, e, qI, q, rfl, rfl, h, rfl, rfl⟩
    exact ⟨s, e, _, rfl, h, rfl, rfl⟩
  clear hq
  refine con_gen (con_cut 4 (by simp) (con_drop (con_walk hmix fn51 ?_)))
  intro vb vc vw vtoN vofN vaddN vsubN vmaxI vminI vcutN vgd vst vln vrep vsub vonto vsplice vstrEq vbyteV vnotB veqB hw qb qc qw qtoN qofN qaddN qsubN qmaxI qminI qcutN qgd qst qln qrep qsub qonto qsplice qstrEq qbyteV qnotB qeqB
  have hm := hmix; generalize Try.prog = P at *
  have hn1 := hR.n1
  have hu8 := hR.u8
  have hl15 := hR.l15
  have hbt := bt_range b
  have hxr := xv_range b p
  have hxs : ∀ L, xv b p (L + 1) = 2 * xv b p L + bt b (p + L) := fun _ => rfl
  have hx0 : xv b p 0 = 0 := rfl
  have hxt := kp_top (b := b) hR p
  have hk0 : kp l l.length 0 = 0 := rfl
  have hks : ∀ L : Nat, 1 ≤ L → kp l l.length L = st l L + cn l L l.length := fun L h => by
    obtain ⟨k, rfl⟩ : ∃ k, L = k + 1 := ⟨L - 1, by omega⟩
    simp [kp, st]
  have hkp := kp_nonneg l l.length
  have hcr := cn_range l
  have hktop := hR.top
  have hD1 : ∀ L i : Nat, 1 ≤ L → L ≤ 15 → p + L ≤ 8 * b.length → (∀ j, j < L → kp l l.length j ≤ xv b p j) → xv b p L < kp l l.length L → i < l.length → l.getD i 0 = L → cn l L i = xv b p L - st l L → Dec l b p i 0 (p + L) :=
    fun L i h1 h2 h3 h4 h5 h6 h7 h8 => .inl ⟨L, i, h1, h2, h3, h4, h5, h6, h7, h8, rfl, rfl, rfl⟩
  have hD2 : ∀ L : Nat, L ≤ 14 → p + L = 8 * b.length → (∀ j, j ≤ L → kp l l.length j ≤ xv b p j) → Dec l b p 0 10 (p + L) := fun L h1 h2 h3 => .inr ⟨L, h1, h2, h3, rfl, rfl, rfl⟩
  have hst : ∀ L, st l L = 2 * kp l l.length (L - 1) := fun _ => rfl
  generalize Dec l b p = DEC at *
  generalize st l = ST at *
  generalize xv b p = XV at *
  generalize bt b = BT at *
  generalize kp l l.length = KP at *
  generalize cn l = CN at *
  generalize WL l = W at *
  generalize hT : 8 * b.length = T at *
  generalize b.length = lb at *
  generalize hn : l.length = n at *
  have hto : ∀ i : Nat, vtoN (i : Int) = i := fun i => by simp only [qtoN, Int.toNat_natCast]
  have hadd0 : ∀ i, vaddN 0 i = i := fun i => by simp only [qaddN, Nat.zero_add]
  have hvl : vln l = n := by simp only [qln]; exact hn
  have hvW : vln W = n := by simp only [qln]; exact hWlen
  have hvgd : ∀ l i, vgd l i = l.getD i 0 := fun l i => by simp only [qgd]
  have hne0 : vc .neq 0 0 = false := by rw [qc]; rfl
  have hne1 : vc .neq 10 0 = true := by rw [qc]; rfl
  cbv
  refine loop_fam (α := Int × Int × Int) ([10, 11, 12] ++ [13, 14, 15, 16, 17, 18, 19, 20, 21, 22, 23, 24, 25, 26, 27, 28, 29, 30, 31, 32, 33, 34, 35, 36, 37, 38, 39, 40, 41, 42, 43, 44, 45, 46, 47, 48, 49, 50, 51, 52]) [] (fun (k, x, _) => [(9, .int .i64 k), (8, .int .i64 x)])
    (fun (_, _, pI) => [(0, .one 41 [.slice 1 .z 1 lb cap, .int .i64 pI])])
    (fun (k, x, pI) => ∃ L : Nat, k = L ∧ 1 ≤ L ∧ L ≤ 16 ∧ x = XV (L - 1) ∧ pI = ((p + (L - 1) : Nat) : Int) ∧ p + (L - 1) ≤ T ∧ (∀ j, j < L → KP j ≤ XV j)) (fun (k, _) => 16 - k.toNat) hw hm ?_ ?_
  · refine Cv.genAt [9, 8] [0] (Cv.fold ([10, 11, 12] ++ [13, 14, 15, 16, 17, 18, 19, 20, 21, 22, 23, 24, 25, 26, 27, 28, 29, 30, 31, 32, 33, 34, 35, 36, 37, 38, 39, 40, 41, 42, 43, 44, 45, 46, 47, 48, 49, 50, 51, 52]) 4 [] (by exact Nat.le_refl _) (by exact Nat.le_of_ble_eq_true rfl) (by rfl) (by cbv) ?_)
    intro js
    refine ⟨(_, _, _), ?_, js, rfl⟩
    exact ⟨1, rfl, by omega, by omega, hx0.symm, hpI, hp, fun j hj => by (have h0 : j = 0 := by omega); subst h0; omega⟩
  · rintro ⟨k, x, pI⟩ js ⟨L, hk, hL1, hL2, hx, hpI, hpT, hj⟩
    cbv
    split
    · rename_i hlt
      have hlt : L ≤ 15 := by rw [qc, leq_eq] at hlt; simp only [decide_eq_true_eq] at hlt; simp only [nc] at *; omega
      have hrd1 := hrd pI (p + (L - 1)) hpI hpT
      cbv
      refine call_con (ρ := [(0, .z), (1, .z)]) hrd1 ⟨by rfl, by rfl, by rfl, by cbv; exact ⟨view_refl _, trivial⟩⟩ ?_
      rintro v H R js2 ⟨y, e, pI2, pos2, rfl, hpI2, hcase, rfl, rfl⟩
      cbv
      rcases hcase with ⟨rfl, hp1, hy, rfl⟩ | ⟨rfl, hp1, rfl⟩
      rotate_left
      · rw [hne1]
        cbv
        exact ⟨0, 10, _, _, rfl, hpI2, hD2 (L - 1) (by omega) (by omega) (fun j h => hj j (by omega)), rfl, rfl⟩
      rw [hne0]
      cbv
      obtain ⟨M, rfl⟩ : ∃ M, L = M + 1 := ⟨L - 1, by omega⟩
      simp only [nc] at hk
      simp only [Nat.add_sub_cancel] at hx hpT hy hp1 hpI2
      have hxL := hxs M
      have hstL := hst (M + 1)
      simp only [Nat.add_sub_cancel] at hstL
      have hb1 := hbt (p + M)
      have hxr1 := hxr (M + 1)
      have hxr0 := hxr M
      have hj0 := hj M (by omega)
      have hkp0 := hkp M
      have hall : ∀ kk : Int, kk = ((M + 1 : Nat) : Int) → KP (M + 1) = ST (M + 1) + CN kk n ∧ (∀ u : Nat, 0 ≤ CN kk u ∧ CN kk u ≤ u) ∧ (∀ q, 0 ≤ q → q < CN kk n → ∃ i, i < n ∧ l.getD i 0 = kk ∧ CN kk i = q) ∧
          (∀ u, u < n → l.getD u 0 = kk → W.getD u 0 = ST (M + 1) + CN kk u) ∧ (∀ u, u < n → l.getD u 0 = kk → CN kk u + 1 ≤ CN kk n) ∧
          (∀ i, XV (M + 1) < KP (M + 1) → i < n → l.getD i 0 = kk → CN kk i = XV (M + 1) - ST (M + 1) → DEC i 0 (p + (M + 1))) := by
        rintro kk rfl
        exact ⟨hks (M + 1) (by omega), hcr _, hfind (M + 1), fun u h1 h2 => hWg u (M + 1) h1 (by omega) h2, fun u h1 h2 => ‹∀ u L : Nat, u < n → l.getD u 0 = L → CN L u + 1 ≤ CN L n› u (M + 1) h1 h2,
          fun i h1 h2 h3 h4 => hD1 (M + 1) i (by omega) hlt (by omega) hj h1 h2 h3 h4⟩
      obtain ⟨hkL, hcr1, hfind, hWg, hlt', hD1⟩ := hall k hk
      have hcn := hcr1 n
      have hpw : (2 : Int) ^ (M + 1) ≤ 2 ^ 15 := pow_up hlt
      have hpw0 : (2 : Int) ^ M ≤ 2 ^ 15 := pow_up (by omega)
      have htp := hktop (M + 1) hlt
      obtain ⟨x1, hx1⟩ : ∃ x1, x1 = XV (M + 1) := ⟨_, rfl⟩
      obtain ⟨x2, hx2⟩ : ∃ x2, x2 = 2 * x := ⟨_, rfl⟩
      have em1 : vb .mul .i64 2 x = x2 := by rw [qb, mul_i64 (by omega) (by omega)]; omega
      have ew1 : vw .i64 y = y := by rw [qw]; exact wrap_i64 (by omega) (by omega)
      have ea1 : vb .add .i64 x2 y = x1 := by rw [qb, add_i64 (by omega) (by omega)]; omega
      have hmu : ∀ k1 : Int, k1 = ((M + 1 + 1 : Nat) : Int) → ∀ _ : Unit, 16 - k1.toNat < 16 - k.toNat := by intro k1 h _; omega
      obtain ⟨k1, hk1⟩ : ∃ k1 : Int, k1 = ((M + 1 + 1 : Nat) : Int) := ⟨_, rfl⟩
      have hmu := hmu k1 hk1
      have ek : vb .add .i64 k 1 = k1 := by rw [qb, add_i64 (by omega) (by omega)]; omega
      rw [em1, ew1, ea1]
      refine loop_fam (α := Int) [30, 31, 32, 33, 34, 35, 36, 37, 38, 39, 40, 41, 42, 43, 44, 45, 46, 47, 48, 49, 50, 51, 52] [] (fun q => [(12, .int .i64 q)]) (fun _ => [])
        (fun q => ∃ u : Nat, q = u ∧ u ≤ n ∧ ∀ t, t < u → l.getD t 0 = k → W.getD t 0 ≠ x1) (fun q => n - q.toNat) hw hm ?_ ?_
      · refine Cv.genAt [12] [] (Cv.fold [30, 31, 32, 33, 34, 35, 36, 37, 38, 39, 40, 41, 42, 43, 44, 45, 46, 47, 48, 49, 50, 51, 52] 4 [] (by exact Nat.le_refl _) (by exact Nat.le_of_ble_eq_true rfl) (by rfl) (by cbv) ?_)
        intro js
        refine ⟨_, ?_, js, rfl⟩
        exact ⟨0, rfl, by omega, fun t h => by omega⟩
      · rintro q js3 ⟨u, hq, hu, hno⟩
        cbv
        split
        · rename_i hlt2
          cbv
          have hlt2 : u < n := by rw [qc, lss_true] at hlt2; simp only [qofN] at hlt2; simp only [nc] at *; omega
          have hti : vtoN q = u := by rw [hq]; exact hto u
          have hinR : 0 ≤ q ∧ q < (n : Int) := by simp only [nc] at *; omega
          obtain ⟨q1, hq1⟩ : ∃ q1 : Int, q1 = ((u + 1 : Nat) : Int) := ⟨_, rfl⟩
          have eq1 : vb .add .i64 q 1 = q1 := by simp only [nc] at *; rw [qb, add_i64 (by omega) (by omega)]; omega
          have hmu2 : ∀ _ : Unit, n - q1.toNat < n - q.toNat := fun _ => by simp only [nc] at *; omega
          have hxu := hu8 u
          have hxu1 := hl15 u
          have hlu : u < vln l := by omega
          have hlW : u < vln W := by omega
          have hWu := hWg u hlt2
          have hltu := hlt' u hlt2
          have hcru := hcr1 u
          have hDu := hD1 u
          rw [← hq] at hDu
          have hno2 : (l.getD u 0 = k → W.getD u 0 ≠ x1) → ∀ t, t < u + 1 → l.getD t 0 = k → W.getD t 0 ≠ x1 := fun h t ht h2 => by
            by_cases e : t = u
            · subst e; exact h h2
            · exact hno t (by omega) h2
          rw [hti, hadd0, hvgd l]
          refine ⟨⟨hinR⟩, ⟨hlu⟩, ⟨hlu⟩, ?_⟩
          generalize hxg : l.getD u 0 = g at *
          have ewg : vw .i64 g = g := by rw [qw]; exact wrap_i64 (by omega) (by omega)
          rw [ewg]
          generalize hz3 : vc .eql g k = z3
          cases z3
          · rw [qc, eql_false] at hz3
            cbv
            rw [eq1]
            refine Cv.fold [30, 31, 32, 33, 34, 35, 36, 37, 38, 39, 40, 41, 42, 43, 44, 45, 46, 47, 48, 49, 50, 51, 52] 4 [] (by exact Nat.le_refl _) (by exact Nat.le_of_ble_eq_true rfl) (by rfl) (by cbv) ?_
            intro js
            refine ⟨_, ?_, js, rfl⟩
            exact ⟨⟨u + 1, hq1, hlt2, hno2 (fun h => absurd h hz3)⟩, hmu2 ()⟩
          · rw [qc, eql_true] at hz3
            have hWu := hWu hz3
            have hltu := hltu hz3
            have hDu := fun h => hDu h hlt2 hz3
            have hkp1 := hkp (M + 1 - 1)
            generalize hwv : W.getD u 0 = wv at *
            have ewv : vw .i64 wv = wv := by rw [qw]; exact wrap_i64 (by omega) (by omega)
            cbv
            rw [hti, hadd0, hvgd W, hwv, ewv]
            refine ⟨⟨hinR⟩, ⟨hlW⟩, ⟨hlW⟩, ?_⟩
            generalize hz4 : vc .eql wv x1 = z4
            cases z4
            · rw [qc, eql_false] at hz4
              cbv
              rw [eq1]
              refine Cv.fold [30, 31, 32, 33, 34, 35, 36, 37, 38, 39, 40, 41, 42, 43, 44, 45, 46, 47, 48, 49, 50, 51, 52] 4 [] (by exact Nat.le_refl _) (by exact Nat.le_of_ble_eq_true rfl) (by rfl) (by cbv) ?_
              intro js
              refine ⟨_, ?_, js, rfl⟩
              exact ⟨⟨u + 1, hq1, hlt2, hno2 (fun _ => hz4)⟩, hmu2 ()⟩
            · rw [qc, eql_true] at hz4
              have hDu := hDu (by omega) (by omega)
              cbv
              exact ⟨q, 0, pI2, _, rfl, hpI2, hDu, rfl, rfl⟩
        · rename_i hge
          cbv
          have hui : u = n := by rw [qc, lss_false] at hge; simp only [qofN] at hge; simp only [nc] at *; omega
          subst hui
          have hfull : KP (M + 1) ≤ XV (M + 1) := by
            by_cases h : KP (M + 1) ≤ XV (M + 1)
            · exact h
            · obtain ⟨i, h1, h2, h3⟩ := hfind (XV (M + 1) - ST (M + 1)) (by omega) (by omega)
              exact absurd (by rw [hWg i h1 h2, h3]; omega) (hno i h1 h2)
          rw [ek]
          refine Cv.fold ([10, 11, 12] ++ [13, 14, 15, 16, 17, 18, 19, 20, 21, 22, 23, 24, 25, 26, 27, 28, 29, 30, 31, 32, 33, 34, 35, 36, 37, 38, 39, 40, 41, 42, 43, 44, 45, 46, 47, 48, 49, 50, 51, 52]) 4 [] (by exact Nat.le_refl _) (by exact Nat.le_of_ble_eq_true rfl) (by rfl) (by cbv) ?_
          intro js
          refine ⟨(_, _, _), ?_, js, rfl⟩
          refine ⟨⟨M + 1 + 1, hk1, by omega, by omega, hx1, hpI2, by simp only [Nat.add_sub_cancel]; omega, fun j h => ?_⟩, hmu ()⟩
          by_cases hjM : j = M + 1
          · subst hjM; exact hfull
          · exact hj j (by omega)
    · rename_i hge
      have hL : L = 16 := by rw [qc, leq_eq] at hge; simp only [Bool.not_eq_true, decide_eq_false_iff_not] at hge; simp only [nc] at *; omega
      have := hj 15 (by omega)
      omega
end Go.Proofs.Ytkkddgdcmdnnmaa
namespace Go.Proofs.Ytkkddgdcmdnnmaa
open Go Go.Sx Go.Proofs
set_option maxRecDepth 10000
set_option maxHeartbeats 4000000
def RefR {α : Type} (b : List Int) (r : Except Int (α × Nat)) (ok : α → SV) (bad : Int → SV) (B : Int → List SB) : SV → List SB → List Nat → Prop := fun v H R =>
 R = [] ∧ ∃ (q : Nat) (qI : Int), qI = q ∧ q ≤ 8 * b.length ∧ H = B qI ∧ ((∃ x, r = .ok (x, q) ∧ v = ok x) ∨ ∃ e, r = .error e ∧ 0 < e ∧ e < 100 ∧ v = bad e)
theorem refgt_con (b : List Int) (cap pos n : Nat) (pI nI : Int) (hby : ∀ x ∈ b, isByte x) (hl : b.length ≤ 2 ^ 50) (hp : pos ≤ 8 * b.length) (hpI : pI = pos) (hnI : nI = n) (hn : n ≤ 56) :
  Con Try.prog 47 [.ptr 0 .z 2 0, .int .i64 nI] [.one 41 [.slice 1 .z 1 b.length cap, .int .i64 pI], .ro .u8 b] (RefR b (gt b n pos) (fun x => .tup [.int .u64 x, .int .i64 0]) (fun e => .tup [.int .u64 0, .int .i64 e]) (fun p => [.one 41 [.slice 1 .z 1 b.length cap, .int .i64 p], .ro .u8 b])) := by
 subst hpI hnI
 have hb := refbitsB_con b cap pos n hby hl hp
 refine hb.mono ?_
 rintro v H R ⟨rfl, rfl, rfl⟩
 refine ⟨rfl, ?_⟩
 have hr := bval_bound (bitL b) (bitL_bit b) pos n
 unfold rbE rbX rbP gt
 by_cases hp2 : pos + n ≤ 8 * b.length
 ·refine ⟨pos + n, _, ?_, hp2, rfl, .inl ⟨_, by rw [if_pos hp2], ?_⟩⟩
  ·rw [if_pos (by omega)]; omega
  ·rw [if_pos (by omega), if_pos (by omega), if_pos (by omega), Int.toNat_natCast]
 ·refine ⟨pos, _, ?_, hp, rfl, .inr ⟨10, by rw [if_neg hp2], by decide, by decide, ?_⟩⟩
  ·rw [if_neg (by omega)]
  ·rw [if_neg (by omega), if_pos (by omega), if_neg (by omega)]
theorem gt_two {b : List Int} {pos p1 p2 : Nat} {x0 x1 : Int} (h0 : gt b 1 pos = .ok (x0, p1)) (h1 : gt b 1 p1 = .ok (x1, p2)) : gt b 2 pos = .ok (x0 + 2 * x1, p2) := by
 obtain ⟨_, _, a3, a4, a5⟩ := gt_ok h0
 obtain ⟨_, _, c3, c4, c5⟩ := gt_ok h1
 unfold gt
 rw [if_pos (by omega), a5, c5, a3, bval_split (bitL b) pos 1 1]
 simp only [Except.ok.injEq, Prod.mk.injEq]
 omega
theorem gt_two_e {b : List Int} {pos p1 : Nat} {x0 e : Int} (h0 : gt b 1 pos = .ok (x0, p1)) (h1 : gt b 1 p1 = .error e) : gt b 2 pos = .error e := by
 obtain ⟨_, _, a3, a4, a5⟩ := gt_ok h0
 obtain ⟨rfl, c2⟩ := gt_err h1
 unfold gt
 rw [if_neg (by omega)]
theorem gt_two_e0 {b : List Int} {pos : Nat} {e : Int} (h0 : gt b 1 pos = .error e) : gt b 2 pos = .error e := by
 obtain ⟨rfl, c2⟩ := gt_err h0
 unfold gt
 rw [if_neg (by omega)]
theorem refsmall_con (b : List Int) (cap pos : Nat) (pI : Int) (hby : ∀ x ∈ b, isByte x) (hl : b.length ≤ 2 ^ 50) (hp : pos ≤ 8 * b.length) (hpI : pI = pos) :
  Con Try.prog 71 [.ptr 0 .z 2 0] [.one 41 [.slice 1 .z 1 b.length cap, .int .i64 pI], .ro .u8 b] (RefR b (smR b pos) (fun x => .tup [.int .u8 x, .int .i64 0]) (fun e => .tup [.int .u8 0, .int .i64 e]) (fun p => [.one 41 [.slice 1 .z 1 b.length cap, .int .i64 p], .ro .u8 b])) := by
 have hg := fun (pos : Nat) (pI : Int) hp hpI => refgt_con b cap pos 1 pI 1 hby hl hp hpI rfl (by decide)
 have g01 : ∀ p x q, gt b 1 p = .ok (x, q) → x = 0 ∨ x = 1 := fun p x q h => by have := gt_ok h; omega
 have se1 : ∀ e, gt b 1 pos = .error e → smR b pos = .error e := fun e h => by unfold smR; rw [gt_two_e0 h]
 have se2 : ∀ x p e, gt b 1 pos = .ok (x, p) → gt b 1 p = .error e → smR b pos = .error e := fun x p e h h2 => by unfold smR; rw [gt_two_e h h2]
 have s0 : ∀ p p2, gt b 1 pos = .ok (0, p) → gt b 1 p = .ok (0, p2) → smR b pos = .ok (0, p2) := fun p p2 h h2 => by unfold smR; rw [gt_two h h2]; rfl
 have s1 : ∀ p p2, gt b 1 pos = .ok (1, p) → gt b 1 p = .ok (0, p2) → smR b pos = .ok (4, p2) := fun p p2 h h2 => by unfold smR; rw [gt_two h h2]; rfl
 have s2 : ∀ p p2, gt b 1 pos = .ok (0, p) → gt b 1 p = .ok (1, p2) → smR b pos = .ok (3, p2) := fun p p2 h h2 => by unfold smR; rw [gt_two h h2]; rfl
 have s3e : ∀ p p2 e, gt b 1 pos = .ok (1, p) → gt b 1 p = .ok (1, p2) → gt b 1 p2 = .error e → smR b pos = .error e := fun p p2 e h h2 h3 => by unfold smR; rw [gt_two h h2]; simp only [show (1 : Int) + 2 * 1 = 3 from rfl, if_true, h3]
 have s30 : ∀ p p2 p3, gt b 1 pos = .ok (1, p) → gt b 1 p = .ok (1, p2) → gt b 1 p2 = .ok (0, p3) → smR b pos = .ok (2, p3) := fun p p2 p3 h h2 h3 => by unfold smR; rw [gt_two h h2]; simp only [show (1 : Int) + 2 * 1 = 3 from rfl, if_true, h3]
 have s31e : ∀ p p2 p3 e, gt b 1 pos = .ok (1, p) → gt b 1 p = .ok (1, p2) → gt b 1 p2 = .ok (1, p3) → gt b 1 p3 = .error e → smR b pos = .error e := fun p p2 p3 e h h2 h3 h4 => by unfold smR; rw [gt_two h h2]; simp only [show (1 : Int) + 2 * 1 = 3 from rfl, if_true, h3, h4]; rfl
 have s310 : ∀ p p2 p3 p4, gt b 1 pos = .ok (1, p) → gt b 1 p = .ok (1, p2) → gt b 1 p2 = .ok (1, p3) → gt b 1 p3 = .ok (0, p4) → smR b pos = .ok (1, p4) := fun p p2 p3 p4 h h2 h3 h4 => by unfold smR; rw [gt_two h h2]; simp only [show (1 : Int) + 2 * 1 = 3 from rfl, if_true, h3, h4]; rfl
 have s311 : ∀ p p2 p3 p4, gt b 1 pos = .ok (1, p) → gt b 1 p = .ok (1, p2) → gt b 1 p2 = .ok (1, p3) → gt b 1 p3 = .ok (1, p4) → smR b pos = .ok (5, p4) := fun p p2 p3 p4 h h2 h3 h4 => by unfold smR; rw [gt_two h h2]; simp only [show (1 : Int) + 2 * 1 = 3 from rfl, if_true, h3, h4]; rfl
 generalize smR b pos = r at *
 generalize gt b 1 = G at *
 refine con_gen (con_cut 2 (by simp) (con_drop (con_walk hmix fn71 ?_)))
 intro vb vc vw vtoN vofN vaddN vsubN vmaxI vminI vcutN vgd vst vln vrep vsub vonto vsplice vstrEq vbyteV vnotB veqB hw qb qc qw qtoN qofN qaddN qsubN qmaxI qminI qcutN qgd qst qln qrep qsub qonto qsplice qstrEq qbyteV qnotB qeqB
 have hm := hmix; generalize Try.prog = P at *
 obtain ⟨bl, hbl⟩ : ∃ bl, bl = b.length := ⟨_, rfl⟩
 unfold RefR at *
 rw [← hbl] at hp
 simp only [← hbl] at hg ⊢
 clear hbl hl hby
 subst qb qc qw
 cbv
 refine loop_fam (α := Int × Int × Nat × Int) ((List.range' 6 54)) []
  (fun (n, x, p, qI) => [(5, .int .u64 n), (4, .int .u64 x)]) (fun (n, x, p, qI) => [(0, .one 41 [.slice 1 .z 1 bl cap, .int .i64 qI])])
  (fun (n, x, p, qI) => qI = p ∧ p ≤ 8 * bl ∧ ((n = 0 ∧ x = 0 ∧ p = pos) ∨ (n = 1 ∧ x = 0 ∧ G pos = .ok (0, p)) ∨ (n = 1 ∧ x = 1 ∧ G pos = .ok (1, p)) ∨
   (n = 2 ∧ x = 3 ∧ ∃ p1, G pos = .ok (1, p1) ∧ G p1 = .ok (1, p)) ∨
   (n = 3 ∧ x = 7 ∧ ∃ p1 p2, G pos = .ok (1, p1) ∧ G p1 = .ok (1, p2) ∧ G p2 = .ok (1, p)) ∨
   (n = 4 ∧ x = 15 ∧ ∃ p1 p2 p3, G pos = .ok (1, p1) ∧ G p1 = .ok (1, p2) ∧ G p2 = .ok (1, p3) ∧ G p3 = .ok (1, p))))
  (fun (n, x, p, qI) => 4 - n.toNat) hw hm ?_ ?_
 ·refine Cv.genAt [4, 5] [0] (Cv.fold ((List.range' 6 54)) 2 [] (by exact Nat.le_refl _) (by exact Nat.le_of_ble_eq_true rfl) (by rfl) (by cbv) ?_)
  intro js
  refine ⟨(_, _, pos, _), ?_, js, rfl⟩
  exact ⟨hpI, hp, .inl ⟨rfl, rfl, rfl⟩⟩
 rintro ⟨n, x, p, qI⟩ js ⟨hqI, hp2, hc⟩
 have hgp := hg p qI hp2 hqI
 clear hg
 rcases hc with ⟨rfl, rfl, rfl⟩ | ⟨rfl, rfl, h1⟩ | ⟨rfl, rfl, h1⟩ | ⟨rfl, rfl, p1, h1, h2⟩ | ⟨rfl, rfl, p1, p2, h1, h2, h3⟩ | ⟨rfl, rfl, p1, p2, p3, h1, h2, h3, h4⟩
 ·cbv
  refine call_con (ρ := [(0, .z), (1, .z)]) hgp ⟨by rfl, by rfl, by rfl, by cbv; exact ⟨view_refl _, trivial⟩⟩ ?_
  rintro v H R js2 ⟨rfl, q, qI2, hq2, hq8, rfl, ⟨y, hy, rfl⟩ | ⟨e, he, he0, he1, rfl⟩⟩
  rotate_left
  ·have hne : (decide (e = 0)) = false := by simp; omega
   have hr := se1 e he
   cbv
   rw [hne]
   cbv
   exact ⟨q, qI2, hq2, hq8, rfl, .inr ⟨e, hr, he0, he1, rfl⟩⟩
  rcases g01 _ _ _ hy with rfl | rfl
  ·cbv
   refine ⟨⟨by decide⟩, ?_⟩
   refine Cv.genAt [4, 5] [0] (Cv.fold ((List.range' 6 54)) 2 [] (by exact Nat.le_refl _) (by exact Nat.le_of_ble_eq_true rfl) (by rfl) (by cbv) ?_)
   intro js
   refine ⟨(_, _, q, _), ?_, js, rfl⟩
   exact ⟨⟨hq2, hq8, .inr (.inl ⟨rfl, rfl, hy⟩)⟩, (by decide : 3 < 4)⟩
  ·cbv
   refine ⟨⟨by decide⟩, ?_⟩
   refine Cv.genAt [4, 5] [0] (Cv.fold ((List.range' 6 54)) 2 [] (by exact Nat.le_refl _) (by exact Nat.le_of_ble_eq_true rfl) (by rfl) (by cbv) ?_)
   intro js
   refine ⟨(_, _, q, _), ?_, js, rfl⟩
   exact ⟨⟨hq2, hq8, .inr (.inr (.inl ⟨rfl, rfl, hy⟩))⟩, (by decide : 3 < 4)⟩
 ·cbv
  refine call_con (ρ := [(0, .z), (1, .z)]) hgp ⟨by rfl, by rfl, by rfl, by cbv; exact ⟨view_refl _, trivial⟩⟩ ?_
  rintro v H R js2 ⟨rfl, q, qI2, hq2, hq8, rfl, ⟨y, hy, rfl⟩ | ⟨e, he, he0, he1, rfl⟩⟩
  rotate_left
  ·have hne : (decide (e = 0)) = false := by simp; omega
   have hr := se2 _ _ e h1 he
   cbv
   rw [hne]
   cbv
   exact ⟨q, qI2, hq2, hq8, rfl, .inr ⟨e, hr, he0, he1, rfl⟩⟩
  rcases g01 _ _ _ hy with rfl | rfl
  ·have hr := s0 _ _ h1 hy
   cbv
   refine ⟨⟨by decide⟩, ?_⟩
   exact ⟨q, qI2, hq2, hq8, rfl, .inl ⟨0, hr, rfl⟩⟩
  ·have hr := s2 _ _ h1 hy
   cbv
   refine ⟨⟨by decide⟩, ?_⟩
   exact ⟨q, qI2, hq2, hq8, rfl, .inl ⟨3, hr, rfl⟩⟩
 ·cbv
  refine call_con (ρ := [(0, .z), (1, .z)]) hgp ⟨by rfl, by rfl, by rfl, by cbv; exact ⟨view_refl _, trivial⟩⟩ ?_
  rintro v H R js2 ⟨rfl, q, qI2, hq2, hq8, rfl, ⟨y, hy, rfl⟩ | ⟨e, he, he0, he1, rfl⟩⟩
  rotate_left
  ·have hne : (decide (e = 0)) = false := by simp; omega
   have hr := se2 _ _ e h1 he
   cbv
   rw [hne]
   cbv
   exact ⟨q, qI2, hq2, hq8, rfl, .inr ⟨e, hr, he0, he1, rfl⟩⟩
  rcases g01 _ _ _ hy with rfl | rfl
  ·have hr := s1 _ _ h1 hy
   cbv
   refine ⟨⟨by decide⟩, ?_⟩
   exact ⟨q, qI2, hq2, hq8, rfl, .inl ⟨4, hr, rfl⟩⟩
  ·cbv
   refine ⟨⟨by decide⟩, ?_⟩
   refine Cv.genAt [4, 5] [0] (Cv.fold ((List.range' 6 54)) 2 [] (by exact Nat.le_refl _) (by exact Nat.le_of_ble_eq_true rfl) (by rfl) (by cbv) ?_)
   intro js
   refine ⟨(_, _, q, _), ?_, js, rfl⟩
   exact ⟨⟨hq2, hq8, .inr (.inr (.inr (.inl ⟨rfl, rfl, p, h1, hy⟩)))⟩, (by decide : 2 < 3)⟩
 ·cbv
  refine call_con (ρ := [(0, .z), (1, .z)]) hgp ⟨by rfl, by rfl, by rfl, by cbv; exact ⟨view_refl _, trivial⟩⟩ ?_
  rintro v H R js2 ⟨rfl, q, qI2, hq2, hq8, rfl, ⟨y, hy, rfl⟩ | ⟨e, he, he0, he1, rfl⟩⟩
  rotate_left
  ·have hne : (decide (e = 0)) = false := by simp; omega
   have hr := s3e _ _ e h1 h2 he
   cbv
   rw [hne]
   cbv
   exact ⟨q, qI2, hq2, hq8, rfl, .inr ⟨e, hr, he0, he1, rfl⟩⟩
  rcases g01 _ _ _ hy with rfl | rfl
  ·have hr := s30 _ _ _ h1 h2 hy
   cbv
   refine ⟨⟨by decide⟩, ?_⟩
   exact ⟨q, qI2, hq2, hq8, rfl, .inl ⟨2, hr, rfl⟩⟩
  ·cbv
   refine ⟨⟨by decide⟩, ?_⟩
   refine Cv.genAt [4, 5] [0] (Cv.fold ((List.range' 6 54)) 2 [] (by exact Nat.le_refl _) (by exact Nat.le_of_ble_eq_true rfl) (by rfl) (by cbv) ?_)
   intro js
   refine ⟨(_, _, q, _), ?_, js, rfl⟩
   exact ⟨⟨hq2, hq8, .inr (.inr (.inr (.inr (.inl ⟨rfl, rfl, p1, p, h1, h2, hy⟩))))⟩, (by decide : 1 < 2)⟩
 ·cbv
  refine call_con (ρ := [(0, .z), (1, .z)]) hgp ⟨by rfl, by rfl, by rfl, by cbv; exact ⟨view_refl _, trivial⟩⟩ ?_
  rintro v H R js2 ⟨rfl, q, qI2, hq2, hq8, rfl, ⟨y, hy, rfl⟩ | ⟨e, he, he0, he1, rfl⟩⟩
  rotate_left
  ·have hne : (decide (e = 0)) = false := by simp; omega
   have hr := s31e _ _ _ e h1 h2 h3 he
   cbv
   rw [hne]
   cbv
   exact ⟨q, qI2, hq2, hq8, rfl, .inr ⟨e, hr, he0, he1, rfl⟩⟩
  rcases g01 _ _ _ hy with rfl | rfl
  ·have hr := s310 _ _ _ _ h1 h2 h3 hy
   cbv
   refine ⟨⟨by decide⟩, ?_⟩
   exact ⟨q, qI2, hq2, hq8, rfl, .inl ⟨1, hr, rfl⟩⟩
  ·cbv
   refine ⟨⟨by decide⟩, ?_⟩
   refine Cv.genAt [4, 5] [0] (Cv.fold ((List.range' 6 54)) 2 [] (by exact Nat.le_refl _) (by exact Nat.le_of_ble_eq_true rfl) (by rfl) (by cbv) ?_)
   intro js
   refine ⟨(_, _, q, _), ?_, js, rfl⟩
   exact ⟨⟨hq2, hq8, .inr (.inr (.inr (.inr (.inr ⟨rfl, rfl, p1, p2, p, h1, h2, h3, hy⟩))))⟩, (by decide : 0 < 1)⟩
 ·have hr := s311 _ _ _ _ h1 h2 h3 h4
  cbv
  exact ⟨p, qI, hqI, hp2, rfl, .inl ⟨5, hr, rfl⟩⟩
theorem words72_con (l : List Int) (cap : Nat) (hR : Rt l) :
  Con Try.prog 72 [.slice 0 .z 1 l.length cap] [.ro .u8 l] (fun v H R => v = .slice 1 .z 1 l.length l.length ∧ H = [.ro .u8 l, .ints 116 .u16 (WL l)] ∧ R = []) := by
 have hw := refwords_con l cap hR
 obtain ⟨ll, hll⟩ : ∃ ll, ll = l.length := ⟨_, rfl⟩
 rw [← hll] at hw ⊢
 generalize WL l = W at *
 refine con_gen (con_cut 2 (by simp) (con_drop (con_walk hmix fn72 ?_)))
 have hwc := hw
 clear hw
 intro vb vc vw vtoN vofN vaddN vsubN vmaxI vminI vcutN vgd vst vln vrep vsub vonto vsplice vstrEq vbyteV vnotB veqB hw qb qc qw qtoN qofN qaddN qsubN qmaxI qminI qcutN qgd qst qln qrep qsub qonto qsplice qstrEq qbyteV qnotB qeqB
 have hm := hmix; generalize Try.prog = P at *
 cbv
 refine call_con (ρ := [(0, .z)]) hwc ⟨by rfl, by rfl, by rfl, by cbv; exact ⟨view_refl _, trivial⟩⟩ ?_
 rintro v H R js ⟨rfl, rfl, rfl⟩
 cbv
theorem of50_con (l : List Int) (cap : Nat) (hR : Rt l) :
  Con Try.prog 50 [.slice 0 .z 1 l.length cap] [.ro .u8 l] (fun v H R => v = .agg [.slice 0 .z 1 l.length cap, .slice 1 .z 1 l.length l.length, .int .i64 0] ∧ H = [.ro .u8 l, .ints 116 .u16 (WL l)] ∧ R = []) := by
 have hw := words72_con l cap hR
 obtain ⟨ll, hll⟩ : ∃ ll, ll = l.length := ⟨_, rfl⟩
 rw [← hll] at hw ⊢
 generalize WL l = W at *
 refine con_gen (con_picks (con_drop (con_walk hmix fn50 ?_)))
 have hwc := hw
 clear hw
 intro vb vc vw vtoN vofN vaddN vsubN vmaxI vminI vcutN vgd vst vln vrep vsub vonto vsplice vstrEq vbyteV vnotB veqB hw qb qc qw qtoN qofN qaddN qsubN qmaxI qminI qcutN qgd qst qln qrep qsub qonto qsplice qstrEq qbyteV qnotB qeqB
 have hm := hmix; generalize Try.prog = P at *
 cbv
 refine call_con (ρ := [(0, .z)]) hwc ⟨by rfl, by rfl, by rfl, by cbv; exact ⟨view_refl _, trivial⟩⟩ ?_
 rintro v H R js ⟨rfl, rfl, rfl⟩
 cbv
 exact ⟨[0, 2], .agg [.slice 0 .z 1 ll cap, .slice 1 .z 1 ll ll, .lit .i64 0], [.ro .u8 l, .ints 116 .u16 W], rfl, rfl, rfl, rfl, ⟨rfl, rfl, trivial⟩, rfl, rfl, rfl⟩
end Go.Proofs.Ytkkddgdcmdnnmaa
namespace Go.Proofs.Ytkkddgdcmdnnmaa
open Go Go.Sx Go.Proofs
set_option maxRecDepth 10000
set_option maxHeartbeats 4000000
def RefCode (b : List Int) (r : Except Int ((Int ⊕ List Int) × Nat)) (B : Int → List SB) : SV → List SB → List Nat → Prop := fun v H R =>
 R = [] ∧ ∃ (q : Nat) (qI : Int), qI = q ∧ q ≤ 8 * b.length ∧ ((∃ n, r = .ok (.inl n, q) ∧ v = .tup [.agg [.val (.slice none 0 0), .val (.slice none 0 0), .int .i64 n], .int .i64 0] ∧ H = B qI) ∨
  (∃ L cp, r = .ok (.inr L, q) ∧ v = .tup [.agg [.slice 2 .z 1 L.length cp, .slice 3 .z 1 L.length L.length, .int .i64 0], .int .i64 0] ∧ H = B qI ++ [.ints 5 .u8 L, .ints 116 .u16 (WL L)]) ∨
  ∃ e, r = .error e ∧ 0 < e ∧ e < 100 ∧ v = .tup [.agg [.val (.slice none 0 0), .val (.slice none 0 0), .int .i64 0], .int .i64 e] ∧ H = B qI)
theorem set_same {L : List Int} {i : Nat} (h : L.getD i 0 = 0) : L.set i 0 = L := by
 apply List.ext_getElem?
 intro j
 rw [List.getElem?_set]
 split
 ·rename_i e; subst e
  split
  ·rename_i h2
   rw [List.getD_eq_getElem?_getD, List.getElem?_eq_getElem h2] at h
   simp only [Option.getD_some] at h
   rw [List.getElem?_eq_getElem h2, h]
  ·rename_i h2
   rw [List.getElem?_eq_none (by omega)]
 ·rfl
theorem refinner_con (b : List Int) (cap pos sk : Nat) (pI skI : Int) (hby : ∀ x ∈ b, isByte x) (hl : b.length ≤ 2 ^ 50) (hp : pos ≤ 8 * b.length) (hpI : pI = pos) (hsk : skI = sk) (hs : sk ≤ 3) :
  Con Try.prog 49 [.ptr 0 .z 2 0, .int .i64 skI] [.one 41 [.slice 1 .z 1 b.length cap, .int .i64 pI], .ro .u8 b] (RefCode b (innerR b sk pos) (fun p => [.one 41 [.slice 1 .z 1 b.length cap, .int .i64 p], .ro .u8 b])) := by
 have hsm := fun (pos : Nat) (pI : Int) hp hpI => refsmall_con b cap pos pI hby hl hp hpI
 have hof := fun (l : List Int) (cap : Nat) hR => of50_con l cap hR
 have hx := fun p x q h => smR_ok (b := b) (p := p) (x := x) (q := q) h
 have hinn : ∀ c q, innerR b sk pos = .ok (c, q) → InnOk c := fun c q h => (innerR_ok (by omega) hp h).1
 have k0 : ∀ e, innR b (18 - sk) sk pos (List.replicate 18 0) 32 0 0 = .error e → innerR b sk pos = .error e := fun e h => by unfold innerR; rw [h]
 have k1 : ∀ L left one q, innR b (18 - sk) sk pos (List.replicate 18 0) 32 0 0 = .ok ((L, left, 1, one), q) → innerR b sk pos = .ok (.inl one, q) := fun L left one q h => by unfold innerR; rw [h]; rfl
 have k2 : ∀ L cnt one q, innR b (18 - sk) sk pos (List.replicate 18 0) 32 0 0 = .ok ((L, 0, cnt, one), q) → cnt ≠ 1 → innerR b sk pos = .ok (.inr L, q) := fun L cnt one q h h1 => by unfold innerR; rw [h]; simp only [if_neg h1, if_true]
 have k3 : ∀ L left cnt one q, innR b (18 - sk) sk pos (List.replicate 18 0) 32 0 0 = .ok ((L, left, cnt, one), q) → cnt ≠ 1 → left ≠ 0 → innerR b sk pos = .error 11 := fun L left cnt one q h h1 h2 => by unfold innerR; rw [h]; simp only [if_neg h1, if_neg h2]
 have s0 : ∀ i p L left cnt one, innR b 0 i p L left cnt one = .ok ((L, left, cnt, one), p) := fun _ _ _ _ _ _ => rfl
 have s1 : ∀ k i p L left cnt one e, smR b p = .error e → innR b (k + 1) i p L left cnt one = .error e := fun k i p L left cnt one e h => by simp only [innR, h]
 have s2 : ∀ k i p L left cnt one q, smR b p = .ok (0, q) → innR b (k + 1) i p L left cnt one = innR b k (i + 1) q L left cnt one := fun k i p L left cnt one q h => by simp only [innR, h]; rfl
 have s3 : ∀ k i p L left cnt one x q, smR b p = .ok (x, q) → x ≠ 0 → left - 32 / 2 ^ x.toNat ≤ 0 → innR b (k + 1) i p L left cnt one = .ok ((L.set (ordL.getD i 0).toNat x, left - 32 / 2 ^ x.toNat, cnt + 1, ordL.getD i 0), q) := fun k i p L left cnt one x q h h1 h2 => by simp only [innR, h, if_neg h1, if_pos h2]
 have s4 : ∀ k i p L left cnt one x q, smR b p = .ok (x, q) → x ≠ 0 → ¬ left - 32 / 2 ^ x.toNat ≤ 0 → innR b (k + 1) i p L left cnt one = innR b k (i + 1) q (L.set (ordL.getD i 0).toNat x) (left - 32 / 2 ^ x.toNat) (cnt + 1) (ordL.getD i 0) := fun k i p L left cnt one x q h h1 h2 => by simp only [innR, h, if_neg h1, if_neg h2]
 obtain ⟨r1, hr1⟩ : ∃ r1, innR b (18 - sk) sk pos (List.replicate 18 0) 32 0 0 = r1 := ⟨_, rfl⟩
 rw [hr1] at k0 k1 k2 k3
 obtain ⟨L0, hL0⟩ : ∃ L0, L0 = List.replicate 18 (0 : Int) := ⟨_, rfl⟩
 have hL0l : L0.length = 18 := by rw [hL0]; rfl
 rw [← hL0] at hr1
 have hz0 : ∀ j, j < 18 → L0.getD (ordL.getD j 0).toNat 0 = 0 := by rw [hL0]; decide
 have horr := ordL_range
 have hinj := ordL_inj
 have hordL : ordL = [1, 2, 3, 4, 0, 5, 17, 6, 16, 7, 8, 9, 10, 11, 12, 13, 14, 15] := rfl
 generalize innerR b sk pos = r at *
 generalize innR b = IN at *
 generalize smR b = SM at *
 generalize ordL = OL at *
 refine con_gen (con_picks (con_drop (con_walk hmix fn49 ?_)))
 intro vb vc vw vtoN vofN vaddN vsubN vmaxI vminI vcutN vgd vst vln vrep vsub vonto vsplice vstrEq vbyteV vnotB veqB hw qb qc qw qtoN qofN qaddN qsubN qmaxI qminI qcutN qgd qst qln qrep qsub qonto qsplice qstrEq qbyteV qnotB qeqB
 have hm := hmix; generalize Try.prog = P at *
 obtain ⟨bl, hbl⟩ : ∃ bl, bl = b.length := ⟨_, rfl⟩
 unfold RefR at hsm
 unfold RefCode
 simp only [← hbl] at hsm hp ⊢
 clear hbl hl hby
 have hto : ∀ i : Nat, vtoN (i : Int) = i := fun i => by simp only [qtoN, Int.toNat_natCast]
 have hlnq : ∀ l, vln l = l.length := fun l => by rw [qln]
 have hgd : ∀ l j, vgd l j = l.getD j 0 := fun l j => by rw [qgd]
 have hst : ∀ L i v, vst L i v = L.set i v := fun L i v => by rw [qst]
 have hadd0 : ∀ i, vaddN 0 i = i := fun i => by simp only [qaddN, Nat.zero_add]
 have hrep : vrep 18 0 = L0 := by rw [qrep, hL0]
 have ht18 : vtoN 18 = 18 := hto 18
 have e00 : vc .eql 0 0 = true := by rw [qc]; rfl
 cbv
 rw [ht18, hrep]
 refine ⟨⟨by decide⟩, ⟨by decide⟩, ⟨by decide⟩, ⟨by decide⟩, ?_⟩
 refine loop_fam (α := Int × Int × Int × Int × List Int × Nat × Int) (([12, 13] ++ (List.range' 17 24)) ++ (List.range' 41 12)) []
  (fun (i, tk, cnt, one, L, p, qI) => [(11, .int .i64 i), (8, .int .i64 tk), (9, .int .i64 cnt), (10, .int .i64 one)])
  (fun (i, tk, cnt, one, L, p, qI) => [(0, .one 41 [.slice 1 .z 1 bl cap, .int .i64 qI]), (4, .ints 5 .u8 L)])
  (fun (i, tk, cnt, one, L, p, qI) => ∃ iN : Nat, i = iN ∧ iN ≤ 18 ∧ L.length = 18 ∧ (∀ j, iN ≤ j → j < 18 → L.getD (OL.getD j 0).toNat 0 = 0) ∧ qI = p ∧ p ≤ 8 * bl ∧ 0 ≤ tk ∧ tk ≤ 64 ∧ 0 ≤ cnt ∧ cnt ≤ iN ∧
   ((tk < 32 ∧ IN (18 - iN) iN p L (32 - tk) cnt one = r1) ∨ (32 ≤ tk ∧ r1 = .ok ((L, 32 - tk, cnt, one), p))))
  (fun (i, tk, cnt, one, L, p, qI) => 18 - i.toNat) hw hm ?_ ?_
 ·refine Cv.genAt [11, 8, 9, 10] [0] (Cv.fold (([12, 13] ++ (List.range' 17 24)) ++ (List.range' 41 12)) 5 [] (by exact Nat.le_refl _) (by exact Nat.le_of_ble_eq_true rfl) (by rfl) (by cbv) ?_)
  intro js
  refine ⟨(_, _, _, _, _, pos, _), ?_, js, rfl⟩
  exact ⟨sk, hsk, by omega, hL0l, fun j _ hj => hz0 j hj, hpI, hp, by decide, by decide, by decide, by omega, .inl ⟨by decide, hr1⟩⟩
 rintro ⟨i, tk, cnt, one, L, p, qI⟩ js ⟨iN, hi, hi18, hLl, hLz, hqI, hp8, htk0, htk, hcnt0, hcnt, hIN⟩
 have hsmp := hsm p qI hp8 hqI
 have hti : vtoN i = iN := by rw [hi]; exact hto iN
 have hvL : vln L = 18 := by rw [hlnq]; exact hLl
 have hti : vtoN i = iN := by rw [hi]; exact hto iN
 have hlO : vln [1, 2, 3, 4, 0, 5, 17, 6, 16, 7, 8, 9, 10, 11, 12, 13, 14, 15] = 18 := by rw [hlnq]; rfl
 obtain ⟨kn, hkn⟩ : ∃ kn : Int, kn = ((iN + 1 : Nat) : Int) := ⟨_, rfl⟩
 have ek : iN < 18 → vb .add .i64 i 1 = kn := fun h => by rw [qb, add_i64 (by omega) (by omega)]; omega
 have hmu : iN < 18 → 18 - kn.toNat < 18 - i.toNat := fun h => by omega
 obtain ⟨c2, hc2⟩ : ∃ c2, c2 = cnt + 1 := ⟨_, rfl⟩
 have ec : vb .add .i64 cnt 1 = c2 := by rw [qb, add_i64 (by omega) (by omega)]; omega
 have hc2r : 0 ≤ c2 ∧ c2 ≤ ((iN + 1 : Nat) : Int) := by omega
 have hcr : 0 ≤ cnt ∧ cnt ≤ ((iN + 1 : Nat) : Int) := by omega
 have el1 : iN < 18 → vc .lss i 18 = true := fun h => by rw [qc, lss_true]; omega
 have el1n : ¬ iN < 18 → vc .lss i 18 = false := fun h => by rw [qc, lss_false]; omega
 have hinR : iN < 18 → 0 ≤ i ∧ i < ((18 : Nat) : Int) := fun h => by omega
 have htail : ¬ (iN < 18 ∧ tk < 32) → r1 = .ok ((L, 32 - tk, cnt, one), p) := fun h => by
  rcases hIN with h2 | h2
  ·rw [← h2.2, show 18 - iN = 0 by omega]; exact s0 _ _ _ _ _ _
  ·exact h2.2
 cbv
 by_cases hlt : iN < 18 ∧ tk < 32
 ·have el1 := el1 hlt.1
  have ek := ek hlt.1
  have hmu := hmu hlt.1
  have hinR := hinR hlt.1
  have el2 : vc .lss tk 32 = true := by rw [qc, lss_true]; exact hlt.2
  have hIN : IN (18 - iN) iN p L (32 - tk) cnt one = r1 := by rcases hIN with h | h; exact h.2; omega
  obtain ⟨m, hm1⟩ : ∃ m, 18 - iN = m + 1 := ⟨18 - iN - 1, by omega⟩
  rw [hm1] at hIN
  rw [el1]
  cbv
  rw [el2]
  cbv
  refine call_con (ρ := [(0, .z), (1, .z)]) hsmp ⟨by rfl, by rfl, by rfl, by cbv; exact ⟨view_refl _, trivial⟩⟩ ?_
  rintro v H R js2 ⟨rfl, q, qI2, hq2, hq8, rfl, ⟨x, hgx, rfl⟩ | ⟨e, hge, he0, he1, rfl⟩⟩
  rotate_left
  ·have hS1 : r1 = .error e := by rw [← hIN]; exact s1 _ _ _ _ _ _ _ _ hge
   have hk := k0 e hS1
   have ene : vc .neq e 0 = true := by rw [qc, neq_true]; omega
   cbv
   rw [ene]
   cbv
   exact ⟨[0, 1], .tup [.agg [.val (.slice none 0 0), .val (.slice none 0 0), .lit .i64 0], .int .i64 e], [.one 41 [.slice 1 .z 1 bl cap, .int .i64 qI2], .ro .u8 b], rfl, rfl, rfl, rfl, ⟨rfl, rfl, trivial⟩, rfl, q, qI2, hq2, hq8, .inr (.inr ⟨e, hk, he0, he1, rfl, rfl⟩)⟩
  have hxr := hx p x q hgx
  have ene : vc .neq 0 0 = false := by rw [qc]; rfl
  obtain ⟨s, hs2⟩ : ∃ s, s = OL.getD iN 0 := ⟨_, rfl⟩
  have hgO : vgd [1, 2, 3, 4, 0, 5, 17, 6, 16, 7, 8, 9, 10, 11, 12, 13, 14, 15] iN = s := by rw [hgd, hs2, hordL]
  have hsr := horr iN
  rw [← hs2] at hsr
  have hts : vtoN s = s.toNat := by rw [qtoN]
  have hsS : s.toNat < 18 := by omega
  have hsI : 0 ≤ s ∧ s < ((18 : Nat) : Int) := by omega
  obtain ⟨L2, hL2⟩ : ∃ L2, L2 = L.set s.toNat x := ⟨_, rfl⟩
  have hL2l : L2.length = 18 := by rw [hL2, List.length_set]; exact hLl
  have hL2z : ∀ j, iN + 1 ≤ j → j < 18 → L2.getD (OL.getD j 0).toNat 0 = 0 := fun j hj hj2 => by
   rw [hL2, getD_set_ne (fun e => ?_)]
   ·exact hLz j (by omega) hj2
   ·rw [hs2] at e
    have := hinj iN (by omega) j hj2 e
    omega
  have hsL : L.getD s.toNat 0 = 0 := by rw [hs2]; exact hLz iN (Nat.le_refl _) hlt.1
  have hm0 : 18 - (iN + 1) = m := by omega
  cbv
  rw [ene]
  cbv
  rw [hti, hgO, hts, hst, ← hL2]
  refine ⟨⟨hinR⟩, ⟨by rw [hlO]; exact hlt.1⟩, ⟨hsI⟩, ⟨by rw [hvL]; exact hsS⟩, ?_⟩
  by_cases hx0 : x = 0
  ·subst hx0
   have e0 : vc .gtr 0 0 = false := by rw [qc]; rfl
   have hL2e : L2 = L := by rw [hL2]; exact set_same hsL
   have hS1 : IN m (iN + 1) q L (32 - tk) cnt one = r1 := by rw [← hIN]; exact (s2 _ _ _ _ _ _ _ _ hgx).symm
   rw [e0]
   cbv
   rw [ek]
   refine Cv.fold (([12, 13] ++ (List.range' 17 24)) ++ (List.range' 41 12)) 5 [] (by exact Nat.le_refl _) (by exact Nat.le_of_ble_eq_true rfl) (by rfl) (by cbv) ?_
   intro js
   refine ⟨(_, _, _, _, _, q, _), ?_, js, rfl⟩
   exact ⟨⟨iN + 1, hkn, hlt.1, hL2l, hL2z, hq2, hq8, htk0, htk, hcr.1, hcr.2, .inl ⟨hlt.2, by rw [hm0, hL2e]; exact hS1⟩⟩, hmu⟩
  ·have e0 : vc .gtr x 0 = true := by rw [qc, gtr_true]; omega
   obtain ⟨sh, hsh⟩ : ∃ sh : Int, sh = 32 / 2 ^ x.toNat := ⟨_, rfl⟩
   have s3' := s3 m iN p L (32 - tk) cnt one x q hgx hx0
   have s4' := s4 m iN p L (32 - tk) cnt one x q hgx hx0
   rw [← hsh, ← hs2] at s3' s4'
   have hx5 : x = 1 ∨ x = 2 ∨ x = 3 ∨ x = 4 ∨ x = 5 := by omega
   have esh : vb .shr .i64 32 x = sh := by rw [qb, hsh]; rcases hx5 with rfl | rfl | rfl | rfl | rfl <;> decide
   have hshr : 1 ≤ sh ∧ sh ≤ 16 := by rw [hsh]; rcases hx5 with rfl | rfl | rfl | rfl | rfl <;> decide
   obtain ⟨tk2, htk2⟩ : ∃ tk2, tk2 = tk + sh := ⟨_, rfl⟩
   have etk : vb .add .i64 tk sh = tk2 := by rw [qb, add_i64 (by omega) (by omega)]; exact htk2.symm
   have hlf : 32 - tk - sh = 32 - tk2 := by omega
   rw [← hL2, ← hc2, hlf] at s3' s4'
   have htk2r : 0 ≤ tk2 ∧ tk2 ≤ 64 := by omega
   have hdisj : (tk2 < 32 ∧ IN m (iN + 1) q L2 (32 - tk2) c2 s = r1) ∨ (32 ≤ tk2 ∧ r1 = .ok ((L2, 32 - tk2, c2, s), q)) := by
    by_cases hle : 32 - tk2 ≤ 0
    ·right
     have := s3' hle
     rw [hIN] at this
     exact ⟨by omega, this⟩
    ·left
     have := s4' hle
     rw [hIN] at this
     exact ⟨by omega, this.symm⟩
   rw [← hm0] at hdisj
   rw [e0]
   cbv
   rw [hti, esh, etk, ec, ek, hgO]
   refine ⟨⟨hxr.1⟩, ⟨hinR⟩, ⟨by rw [hlO]; exact hlt.1⟩, ?_⟩
   refine Cv.fold (([12, 13] ++ (List.range' 17 24)) ++ (List.range' 41 12)) 5 [] (by exact Nat.le_refl _) (by exact Nat.le_of_ble_eq_true rfl) (by rfl) (by cbv) ?_
   intro js
   refine ⟨(_, _, _, _, _, q, _), ?_, js, rfl⟩
   exact ⟨⟨iN + 1, hkn, hlt.1, hL2l, hL2z, hq2, hq8, htk2r.1, htk2r.2, hc2r.1, hc2r.2, hdisj⟩, hmu⟩
 ·have hr1' := htail hlt
  have key : ∀ X : Prop, X → X := fun _ h => h
  have hex : (vc .lss i 18 = true ∧ vc .lss tk 32 = false) ∨ vc .lss i 18 = false := by
   by_cases h : iN < 18
   ·left; exact ⟨el1 h, by rw [qc, lss_false]; intro h2; exact hlt ⟨h, h2⟩⟩
   ·right; exact el1n h
  rcases hex with ⟨e1, e2⟩ | e1
  ·rw [e1]
   cbv
   rw [e2]
   cbv
   by_cases hc1 : cnt = 1
   ·have e1 : vc .eql cnt 1 = true := by rw [qc]; exact eql_true.2 hc1
    rw [hc1] at hr1'
    have hk := k1 _ _ _ _ hr1'
    rw [e1]
    cbv
    exact ⟨[0, 1], .tup [.agg [.val (.slice none 0 0), .val (.slice none 0 0), .int .i64 one], .lit .i64 0], [.one 41 [.slice 1 .z 1 bl cap, .int .i64 qI], .ro .u8 b], rfl, rfl, rfl, rfl, ⟨rfl, rfl, trivial⟩, rfl, p, qI, hqI, hp8, .inl ⟨one, hk, rfl, rfl⟩⟩
   ·have e1 : vc .eql cnt 1 = false := by rw [qc]; exact eql_false.2 hc1
    rw [e1]
    cbv
    by_cases h32 : tk = 32
    ·have e2 : vc .neq tk 32 = false := by rw [qc, neq_false]; exact fun h => h h32
     rw [h32] at hr1'
     have hk := k2 _ _ _ _ hr1' hc1
     have hin := hinn _ _ hk
     have hofL := hof L 18 hin.2.2.2
     rw [hLl] at hofL
     rw [e2]
     cbv
     refine call_con (ρ := [(4, .z)]) hofL ⟨by rfl, by rfl, by rfl, by cbv; exact ⟨view_refl _, trivial⟩⟩ ?_
     rintro v H R js5 ⟨rfl, rfl, rfl⟩
     generalize hW : WL L = W
     cbv
     subst hW
     exact ⟨[0, 1, 4, 5], .tup [.agg [.slice 2 .z 1 18 18, .slice 3 .z 1 18 18, .int .i64 0], .lit .i64 0], [.one 41 [.slice 1 .z 1 bl cap, .int .i64 qI], .ro .u8 b, .ints 5 .u8 L, .ints 116 .u16 (WL L)], rfl, rfl, rfl, rfl, ⟨rfl, rfl, rfl, rfl, trivial⟩, rfl, p, qI, hqI, hp8, .inr (.inl ⟨L, 18, hk, by rw [hLl]; rfl, rfl⟩)⟩
    ·have e2 : vc .neq tk 32 = true := by rw [qc, neq_true]; exact h32
     have hk := k3 _ _ _ _ _ hr1' hc1 (by omega)
     rw [e2]
     cbv
     exact ⟨[0, 1], .tup [.agg [.val (.slice none 0 0), .val (.slice none 0 0), .lit .i64 0], .lit .i64 11], [.one 41 [.slice 1 .z 1 bl cap, .int .i64 qI], .ro .u8 b], rfl, rfl, rfl, rfl, ⟨rfl, rfl, trivial⟩, rfl, p, qI, hqI, hp8, .inr (.inr ⟨11, hk, by decide, by decide, rfl, rfl⟩)⟩
  ·rw [e1]
   cbv
   by_cases hc1 : cnt = 1
   ·have e1 : vc .eql cnt 1 = true := by rw [qc]; exact eql_true.2 hc1
    rw [hc1] at hr1'
    have hk := k1 _ _ _ _ hr1'
    rw [e1]
    cbv
    exact ⟨[0, 1], .tup [.agg [.val (.slice none 0 0), .val (.slice none 0 0), .int .i64 one], .lit .i64 0], [.one 41 [.slice 1 .z 1 bl cap, .int .i64 qI], .ro .u8 b], rfl, rfl, rfl, rfl, ⟨rfl, rfl, trivial⟩, rfl, p, qI, hqI, hp8, .inl ⟨one, hk, rfl, rfl⟩⟩
   ·have e1 : vc .eql cnt 1 = false := by rw [qc]; exact eql_false.2 hc1
    rw [e1]
    cbv
    by_cases h32 : tk = 32
    ·have e2 : vc .neq tk 32 = false := by rw [qc, neq_false]; exact fun h => h h32
     rw [h32] at hr1'
     have hk := k2 _ _ _ _ hr1' hc1
     have hin := hinn _ _ hk
     have hofL := hof L 18 hin.2.2.2
     rw [hLl] at hofL
     rw [e2]
     cbv
     refine call_con (ρ := [(4, .z)]) hofL ⟨by rfl, by rfl, by rfl, by cbv; exact ⟨view_refl _, trivial⟩⟩ ?_
     rintro v H R js5 ⟨rfl, rfl, rfl⟩
     generalize hW : WL L = W
     cbv
     subst hW
     exact ⟨[0, 1, 4, 5], .tup [.agg [.slice 2 .z 1 18 18, .slice 3 .z 1 18 18, .int .i64 0], .lit .i64 0], [.one 41 [.slice 1 .z 1 bl cap, .int .i64 qI], .ro .u8 b, .ints 5 .u8 L, .ints 116 .u16 (WL L)], rfl, rfl, rfl, rfl, ⟨rfl, rfl, rfl, rfl, trivial⟩, rfl, p, qI, hqI, hp8, .inr (.inl ⟨L, 18, hk, by rw [hLl]; rfl, rfl⟩)⟩
    ·have e2 : vc .neq tk 32 = true := by rw [qc, neq_true]; exact h32
     have hk := k3 _ _ _ _ _ hr1' hc1 (by omega)
     rw [e2]
     cbv
     exact ⟨[0, 1], .tup [.agg [.val (.slice none 0 0), .val (.slice none 0 0), .lit .i64 0], .lit .i64 11], [.one 41 [.slice 1 .z 1 bl cap, .int .i64 qI], .ro .u8 b], rfl, rfl, rfl, rfl, ⟨rfl, rfl, trivial⟩, rfl, p, qI, hqI, hp8, .inr (.inr ⟨11, hk, by decide, by decide, rfl, rfl⟩)⟩
end Go.Proofs.Ytkkddgdcmdnnmaa
