import Derived.Test.YtkkddgdcmdnnmaaA3
import Derived.Test.YtkkddgdcmdnnmaaA2
set_option linter.unusedVariables false
set_option linter.unusedSimpArgs false
namespace Go.Proofs.Ytkkddgdcmdnnmaa
open Go Go.Sx Go.Proofs
set_option maxRecDepth 10000
set_option maxHeartbeats 40000000
def CodePost (b : List Int) (r : Except Int ((Int ⊕ List Int) × Nat)) (B : Int → Int → Int → List SB) : SV → List SB → List Nat → Prop := fun v H R =>
 ∃ x q, r = .ok (x, q) ∧ R = [] ∧ ∃ a h i, RS b q a h i ∧
  ((∃ n, x = .inl n ∧ v = .agg [.val (.slice none 0 0), .int .i64 n] ∧ H = B a h i) ∨ (∃ L cp cq, x = .inr L ∧ v = .agg [.slice 6 .z 1 L.length cp, .int .i64 0] ∧ H = B a h i ++ [.buf 5 .u8 L cq]))
theorem read26_con (b : List Int) (pos cap : Nat) (acc hv ai size : Int) (hby : ∀ x ∈ b, isByte x) (hl : b.length ≤ 2 ^ 50) (h : RS b pos acc hv ai) (hp : pos ≤ 8 * b.length) (hs : 1 ≤ size ∧ size ≤ 1024) :
  ConX Try.prog 26 [.ptr 0 .z 1 0, .ptr 1 .z 1 0] [.one 33 [.ptr 2 .z 4 0], .one 3 [.int .i64 size], (.one 81 [.fn 39 [.ptr 3 .z 1 0, .ptr 4 .z 1 0], .int .u64 acc, .int .i64 hv, .fn 40 [.ptr 4 .z 1 0, .ptr 3 .z 1 0]]), .one 3 [.int .i64 ai], .one 22 [.slice 5 .z 1 b.length cap], .ro .u8 b] (CodePost b (readR b size pos) (fun a h i => [.one 33 [.ptr 2 .z 4 0], .one 3 [.int .i64 size], (.one 81 [.fn 39 [.ptr 3 .z 1 0, .ptr 4 .z 1 0], .int .u64 a, .int .i64 h, .fn 40 [.ptr 4 .z 1 0, .ptr 3 .z 1 0]]), .one 3 [.int .i64 i], .one 22 [.slice 5 .z 1 b.length cap], .ro .u8 b])) (PanR (readR b size pos) (fun a h i => [.one 33 [.ptr 2 .z 4 0], .one 3 [.int .i64 size], (.one 81 [.fn 39 [.ptr 3 .z 1 0, .ptr 4 .z 1 0], .int .u64 a, .int .i64 h, .fn 40 [.ptr 4 .z 1 0, .ptr 3 .z 1 0]]), .one 3 [.int .i64 i], .one 22 [.slice 5 .z 1 b.length cap], .ro .u8 b])) := by
 have g2 := getX_con b pos cap 2 acc hv ai hby hl h (by decide)
 rw [show ((2 : Nat) : Int) = 2 from rfl] at g2
 have gn := fun n pos acc hv ai h hn => getX_con b pos cap n acc hv ai hby hl h hn
 have gf := fun pos acc hv ai h => fewX_con b pos cap acc hv ai size hby hl h hs
 have gi := fun sk pos acc hv ai h hs => innerX_con b pos cap sk acc hv ai hby hl h hs
 have nx1 := fun one pos acc hv ai h => nextX_one b pos cap acc hv ai one hby hl h
 have nx2 := fun L pos acc hv ai hR h h0 h1 hp => nextX_con L b pos cap L.length acc hv ai 0 hR hby hl h h0 h1 hp
 have hb1 := body26_one
 have hb2 := body26_len
 have hmust := mustX_con
 have f30 := fn30
 have f58 := fn58
 have hx2 : ∀ x q, gt b 2 pos = .ok (x, q) → 0 ≤ x ∧ x < 4 ∧ q ≤ 8 * b.length := fun x q h => by have := gt_ok h; omega
 have hgn : ∀ n p x q, gt b n p = .ok (x, q) → 0 ≤ x ∧ x < 2 ^ n ∧ q ≤ 8 * b.length := fun n p x q h => by have := gt_ok h; omega
 have hinn : ∀ sk p c q, sk ≤ 18 → p ≤ 8 * b.length → innerR b sk p = .ok (c, q) → InnOk c ∧ p ≤ q ∧ q ≤ 8 * b.length := fun sk p c q h1 h2 h => innerR_ok h1 h2 h
 have nxr := fun b c hc p q x hp h => @nxR_range b c hc p q x hp h
 have k0 : ∀ e, gt b 2 pos = .error e → readR b size pos = .error e := fun e h => by unfold readR; rw [h]
 have k1 : ∀ q, gt b 2 pos = .ok (1, q) → readR b size pos = fewR b size q := fun q h => by unfold readR; rw [h]; rfl
 have k2 : ∀ x q e, gt b 2 pos = .ok (x, q) → x ≠ 1 → innerR b x.toNat q = .error e → readR b size pos = .error e := fun x q e h h1 h2 => by unfold readR; rw [h]; simp only [if_neg h1, h2]
 have k3 : ∀ x q c q2 e, gt b 2 pos = .ok (x, q) → x ≠ 1 → innerR b x.toNat q = .ok (c, q2) → rdR b (nxR b c) size size.toNat q2 8 0 0 [] 32768 = .error e → readR b size pos = .error e := fun x q c q2 e h h1 h2 h3 => by unfold readR; rw [h]; simp only [if_neg h1, h2, h3]
 have k4 : ∀ x q c q2 lens q3, gt b 2 pos = .ok (x, q) → x ≠ 1 → innerR b x.toNat q = .ok (c, q2) → rdR b (nxR b c) size size.toNat q2 8 0 0 [] 32768 = .ok ((lens, 0), q3) → readR b size pos = .ok (.inr (lens ++ List.replicate (size - lens.length).toNat 0), q3) := fun x q c q2 lens q3 h h1 h2 h3 => by unfold readR; rw [h]; simp only [if_neg h1, h2, h3]; rfl
 have k5 : ∀ x q c q2 lens left q3, gt b 2 pos = .ok (x, q) → x ≠ 1 → innerR b x.toNat q = .ok (c, q2) → rdR b (nxR b c) size size.toNat q2 8 0 0 [] 32768 = .ok ((lens, left), q3) → left ≠ 0 → readR b size pos = .error 11 := fun x q c q2 lens left q3 h h1 h2 h3 h4 => by unfold readR; rw [h]; simp only [if_neg h1, h2, h3, if_neg h4]
 have f_e := @rdR_e b
 have f_a := @rdR_a b
 have f_g := @rdR_g b
 have f_b := @rdR_b b
 have n_pan := @rdN_pan
 have n_stop := @rdN_stop
 have n_go := @rdN_go
 generalize readR b size pos = r at *
 generalize fewR b size = FW at *
 generalize innerR b = IR at *
 generalize rdR b = RD at *
 generalize rdN = ND at *
 generalize hGT : gt b = GT at *
 clear hGT
 refine conX_gen (conX_picks (conX_drop (conX_bufs (conX_walk hmix fn26 ?_))))
 intro vb vc vw vtoN vofN vaddN vsubN vmaxI vminI vcutN vgd vst vln vrep vsub vonto vsplice vstrEq vbyteV vnotB veqB hw qb qc qw qtoN qofN qaddN qsubN qmaxI qminI qcutN qgd qst qln qrep qsub qonto qsplice qstrEq qbyteV qnotB qeqB
 have hm := hmix; generalize Try.prog = P at *
 obtain ⟨bl, hbl⟩ : ∃ bl, bl = b.length := ⟨_, rfl⟩
 rw [← hbl] at g2 hp hx2 hinn hgn ⊢
 simp only [← hbl] at gn gf gi nx1 nx2
 clear hl hby
 cbv
 refine call_conX (ρ := [(2, .z), (3, .z), (4, .z), (5, .z)]) g2 ⟨by rfl, by rfl, by rfl, by cbv; exact ⟨view_refl _, trivial⟩⟩ ?_ ?_
 rotate_left
 ·rintro v H R js ⟨e, hg, rfl, rfl, a, h, i, rfl⟩
  have hk := k0 e hg
  cbv
  exact ⟨[0, 1, 2, 3, 4, 5], .iface 75 (.agg [.int .i64 e]), [.one 33 [.ptr 2 .z 4 0], .one 3 [.int .i64 size], (.one 81 [.fn 39 [.ptr 3 .z 1 0, .ptr 4 .z 1 0], .int .u64 a, .int .i64 h, .fn 40 [.ptr 4 .z 1 0, .ptr 3 .z 1 0]]), .one 3 [.int .i64 i], .one 22 [.slice 5 .z 1 bl cap], .ro .u8 b], rfl, rfl, rfl, rfl, ⟨rfl, rfl, rfl, rfl, rfl, rfl, trivial⟩, e, hk, rfl, rfl, a, h, i, rfl⟩
 rintro v H R js ⟨x, q, hg, rfl, rfl, acc2, hv2, ai2, h2, rfl⟩
 have hxr := hx2 x q hg
 cbv
 by_cases hx1 : x = 1
 ·subst hx1
  have e11 : vc .eql 1 1 = true := by rw [qc]; rfl
  have hk := k1 q hg
  have gfp := gf q acc2 hv2 ai2 h2
  rw [e11]
  cbv
  refine call_conX (ρ := [(2, .z), (3, .z), (4, .z), (5, .z)]) gfp ⟨by rfl, by rfl, by rfl, by cbv; exact ⟨view_refl _, trivial⟩⟩ ?_ ?_
  rotate_left
  ·rintro v H R js ⟨e, hge, rfl, rfl, a, h, i, rfl⟩
   rw [hge] at hk
   cbv
   exact ⟨[0, 1, 2, 3, 4, 5], .iface 75 (.agg [.int .i64 e]), [.one 33 [.ptr 2 .z 4 0], .one 3 [.int .i64 size], (.one 81 [.fn 39 [.ptr 3 .z 1 0, .ptr 4 .z 1 0], .int .u64 a, .int .i64 h, .fn 40 [.ptr 4 .z 1 0, .ptr 3 .z 1 0]]), .one 3 [.int .i64 i], .one 22 [.slice 5 .z 1 bl cap], .ro .u8 b], rfl, rfl, rfl, rfl, ⟨rfl, rfl, rfl, rfl, rfl, rfl, trivial⟩, e, hk, rfl, rfl, a, h, i, rfl⟩
  rintro v H R js ⟨c, q2, hge, rfl, acc3, hv3, ai3, h3, ⟨one, rfl, rfl, rfl⟩ | ⟨L, rfl, rfl, rfl⟩⟩
  ·rw [hge] at hk
   cbv
   exact ⟨[0, 1, 2, 3, 4, 5], .agg [.val (.slice none 0 0), .int .i64 one], [.one 33 [.ptr 2 .z 4 0], .one 3 [.int .i64 size], (.one 81 [.fn 39 [.ptr 3 .z 1 0, .ptr 4 .z 1 0], .int .u64 acc3, .int .i64 hv3, .fn 40 [.ptr 4 .z 1 0, .ptr 3 .z 1 0]]), .one 3 [.int .i64 ai3], .one 22 [.slice 5 .z 1 bl cap], .ro .u8 b], rfl, rfl, rfl, rfl, ⟨rfl, rfl, rfl, rfl, rfl, rfl, trivial⟩, .inl one, q2, hk, rfl, acc3, hv3, ai3, h3, .inl ⟨one, rfl, rfl, rfl⟩⟩
  ·rw [hge] at hk
   obtain ⟨ll, hll⟩ : ∃ ll, ll = L.length := ⟨_, rfl⟩
   rw [← hll]
   cbv
   subst hll
   exact ⟨[0, 1, 2, 3, 4, 5, 7], .agg [.slice 6 .z 1 L.length L.length, .int .i64 0], [.one 33 [.ptr 2 .z 4 0], .one 3 [.int .i64 size], (.one 81 [.fn 39 [.ptr 3 .z 1 0, .ptr 4 .z 1 0], .int .u64 acc3, .int .i64 hv3, .fn 40 [.ptr 4 .z 1 0, .ptr 3 .z 1 0]]), .one 3 [.int .i64 ai3], .one 22 [.slice 5 .z 1 bl cap], .ro .u8 b, .buf 5 .u8 L 0], rfl, rfl, rfl, rfl, ⟨rfl, rfl, rfl, rfl, rfl, rfl, rfl, trivial⟩, .inr L, q2, hk, rfl, acc3, hv3, ai3, h3, .inr ⟨L, L.length, 0, rfl, rfl, rfl⟩⟩
 have e11 : vc .eql x 1 = false := by rw [qc, eql_false]; exact hx1
 have gip := gi x.toNat q acc2 hv2 ai2 h2 (by omega)
 simp only [nc] at gip
 rw [show ((x.toNat : Nat) : Int) = x by omega] at gip
 obtain ⟨sk, hsk⟩ : ∃ sk : Int, sk = x := ⟨_, rfl⟩
 rw [← hsk] at e11 gip
 rw [← hsk, e11]
 cbv
 refine call_conX (ρ := [(2, .z), (3, .z), (4, .z), (5, .z)]) gip ⟨by rfl, by rfl, by rfl, by cbv; exact ⟨view_refl _, trivial⟩⟩ ?_ ?_
 rotate_left
 ·rintro v H R js ⟨e, hge, rfl, rfl, a, h, i, rfl⟩
  rw [hsk] at hge
  have hk := k2 x q e hg hx1 hge
  cbv
  exact ⟨[0, 1, 2, 3, 4, 5], .iface 75 (.agg [.int .i64 e]), [.one 33 [.ptr 2 .z 4 0], .one 3 [.int .i64 size], (.one 81 [.fn 39 [.ptr 3 .z 1 0, .ptr 4 .z 1 0], .int .u64 a, .int .i64 h, .fn 40 [.ptr 4 .z 1 0, .ptr 3 .z 1 0]]), .one 3 [.int .i64 i], .one 22 [.slice 5 .z 1 bl cap], .ro .u8 b], rfl, rfl, rfl, rfl, ⟨rfl, rfl, rfl, rfl, rfl, rfl, trivial⟩, e, hk, rfl, rfl, a, h, i, rfl⟩
 rintro v H R js ⟨c, q2, hi, rfl, acc3, hv3, ai3, h3, ⟨one, rfl, rfl, rfl⟩ | ⟨L, rfl, rfl, rfl⟩⟩
 ·rw [hsk] at hi
  have hin := hinn _ _ _ _ (by omega) (by omega) hi
  obtain ⟨S, hS⟩ : ∃ S, S = size.toNat := ⟨_, rfl⟩
  have htS : vtoN size = S := by rw [qtoN]; exact hS.symm
  have hto0 : vtoN 0 = 0 := by rw [qtoN]; rfl
  have hnt : vnotB true = false := by rw [qnotB]; rfl
  obtain ⟨RF, hRF⟩ : ∃ RF, RF = RD (nxR b (.inl one)) size := ⟨_, rfl⟩
  have f_e := fun k p last row kind lens left e => @f_e (nxR b (.inl one)) size k p last row kind left e lens
  have f_a := fun k p q last row kind lens left x => @f_a (nxR b (.inl one)) size k p q last row kind left x lens
  have f_g := fun k p q last row kind lens left x e => @f_g (nxR b (.inl one)) size k p q last row kind left x e lens
  have f_b := fun k p q q2 last row kind lens left x n => @f_b (nxR b (.inl one)) size k p q q2 last row kind left x n lens
  rw [← hRF] at f_e f_a f_g f_b
  have k3 := fun e => k3 x q (.inl one) q2 e hg hx1 hi
  have k4 := fun lens q3 => k4 x q (.inl one) q2 lens q3 hg hx1 hi
  have k5 := fun lens left q3 => k5 x q (.inl one) q2 lens left q3 hg hx1 hi
  rw [← hRF, ← hS] at k3 k4 k5
  have hnr := fun p x q => nxr b (.inl one) hin.1 p q x
  have hbody := hb1
  have hnx : ∀ p acc hv ai, RS b p acc hv ai → p ≤ 8 * bl → ConX P 35 [.ptr 0 .z 4 0, .agg [.val (.slice none 0 0), .int .i64 one]] [(.one 81 [.fn 39 [.ptr 1 .z 1 0, .ptr 2 .z 1 0], .int .u64 acc, .int .i64 hv, .fn 40 [.ptr 2 .z 1 0, .ptr 1 .z 1 0]]), .one 3 [.int .i64 ai], .one 22 [.slice 3 .z 1 bl cap], .ro .u8 b] (PostR b (nxR b (.inl one) p) (.int .i64) (fun a h i => [(.one 81 [.fn 39 [.ptr 1 .z 1 0, .ptr 2 .z 1 0], .int .u64 a, .int .i64 h, .fn 40 [.ptr 2 .z 1 0, .ptr 1 .z 1 0]]), .one 3 [.int .i64 i], .one 22 [.slice 3 .z 1 bl cap], .ro .u8 b])) (PanR (nxR b (.inl one) p) (fun a h i => [(.one 81 [.fn 39 [.ptr 1 .z 1 0, .ptr 2 .z 1 0], .int .u64 a, .int .i64 h, .fn 40 [.ptr 2 .z 1 0, .ptr 1 .z 1 0]]), .one 3 [.int .i64 i], .one 22 [.slice 3 .z 1 bl cap], .ro .u8 b])) := fun p acc hv ai h _ => nx1 one p acc hv ai h
  rw [← hbl] at hnr
  obtain ⟨NX, hNX⟩ : ∃ NX, NX = nxR b (.inl one) := ⟨_, rfl⟩
  rw [← hNX] at f_e f_a f_g f_b hnx hnr
  clear hNX
  obtain ⟨r1, hr1⟩ : ∃ r1, RF S q2 8 0 0 [] 32768 = r1 := ⟨_, rfl⟩
  rw [hr1] at k3 k4 k5
  have hin2 := hin.2
  clear hRF hin
  cbv
  refine ⟨⟨by decide⟩, ⟨by omega⟩, ⟨by rw [htS]; constructor <;> simp <;> omega⟩, ⟨by show size * 1 ≤ 281474976710656; omega⟩, ?_⟩
  rw [htS, hto0]
  refine inl_walkX hw hm f30 (by rfl) ?_
  cbv
  intro js1
  have hrepS : S ≤ (vrep S 0).length := by rw [qrep]; simp
  refine WX.cv (Cv.blockEq 8 (.ints 5 .u8 (vrep S 0)) (.buf 5 .u8 [] S) (by rfl) (by rfl) (by rfl) (by rfl) (fun _ _ _ => holds_ints_buf hrepS) ?_)
  refine Cv.hav (List.range' 9 15) fun js0 => Cv.here ?_
  refine range_rule (by rfl) (by rfl) (by cbv) (by cbv) (by rfl) ?_
  refine inl_walkX hw hm f58 (by rfl) ?_
  cbv

  refine loop_fam (α := Int × Int × Int × Nat × Int × Int × Int × List Int × Nat × Nat × Int) ((List.range' 7 24) ++ (List.range' 31 23)) [8]
   (fun (last, row, kind, p, acc, hv, ai, lens, rl, cl, left) => [(4, .int .u8 last), (5, .int .i64 row), (6, .int .i64 kind)])
   (fun (last, row, kind, p, acc, hv, ai, lens, rl, cl, left) => [(2, (.one 81 [.fn 39 [.ptr 3 .z 1 0, .ptr 4 .z 1 0], .int .u64 acc, .int .i64 hv, .fn 40 [.ptr 4 .z 1 0, .ptr 3 .z 1 0]])), (3, .one 3 [.int .i64 ai]), (8, .buf 5 .u8 lens cl), (9, .one 24 [.slice 8 .z 1 rl cl, .lit .i64 0]), (10, .one 3 [.int .i64 left])])
   (fun (last, row, kind, p, acc, hv, ai, lens, rl, cl, left) => ∃ k : Nat, RF k p last row kind lens left = r1 ∧ S - rl ≤ k ∧ rl = lens.length ∧ rl ≤ cl ∧ (rl : Int) < size ∧ 0 < left ∧ left ≤ 32768 ∧ RS b p acc hv ai ∧ p ≤ 8 * bl ∧ 1 ≤ last ∧ last ≤ 15 ∧ (kind < 16 ∨ (3 ≤ row ∧ row ≤ (rl : Int))))
   (fun (last, row, kind, p, acc, hv, ai, lens, rl, cl, left) => size.toNat - rl) hw hm ?_ ?_
  ·refine Cv.genAt [4, 5, 6] [10] (Cv.fold ((List.range' 7 24) ++ (List.range' 31 23)) 15 [8] (by exact Nat.le_refl _) (by exact Nat.le_of_ble_eq_true rfl) (by rfl) (by cbv) ?_)
   intro js
   refine ⟨(_, _, _, q2, _, _, _, _, _, _, _), ?_, js, rfl⟩
   exact ⟨S, hr1, by omega, rfl, by omega, by show (0 : Int) < size; omega, by decide, by decide, h3, hin2.2, by decide, by decide, .inl (by decide)⟩
  rintro ⟨last, row, kind, p, acc, hv, ai, lens, rl, cl, left⟩ js ⟨k, hRFk, hk, hrl, hrc, hrs, hleft1, hleft2, h4, hp4, hla1, hla2, hrow⟩
  have hleft : 0 < left ∧ left ≤ 32768 := ⟨hleft1, hleft2⟩
  have hrs : (rl : Int) < size := hrs
  have hrow : kind < 16 ∨ (3 ≤ row ∧ row ≤ (rl : Int)) := hrow
  obtain ⟨k2, rfl⟩ : ∃ k2, k = k2 + 1 := ⟨k - 1, by omega⟩
  have hnxp := hnx p acc hv ai h4 hp4
  cbv
  refine call_conX (ρ := [(2, .z), (3, .z), (4, .z), (5, .z)]) hnxp ⟨by rfl, by rfl, by rfl, by cbv; exact ⟨view_refl _, trivial⟩⟩ ?_ ?_
  rotate_left
  ·rintro v H R js3 ⟨e, hge, rfl, rfl, a, h, i2, rfl⟩
   have hS1 := f_e k2 p last row kind lens left e hge
   rw [hRFk] at hS1
   have hk := k3 _ hS1
   cbv
   intro js5
   exact ⟨[0, 1, 2, 3, 4, 5], .iface 75 (.agg [.int .i64 e]), [.one 33 [.ptr 2 .z 4 0], .one 3 [.int .i64 size], (.one 81 [.fn 39 [.ptr 3 .z 1 0, .ptr 4 .z 1 0], .int .u64 a, .int .i64 h, .fn 40 [.ptr 4 .z 1 0, .ptr 3 .z 1 0]]), .one 3 [.int .i64 i2], .one 22 [.slice 5 .z 1 bl cap], .ro .u8 b], rfl, rfl, rfl, rfl, ⟨rfl, rfl, rfl, rfl, rfl, rfl, trivial⟩, e, hk, rfl, rfl, a, h, i2, rfl⟩
  rintro v H R js3 ⟨x, q, hgx, rfl, rfl, acc3, hv3, ai3, h5, rfl⟩
  have hxr := hnr p x q hp4 hgx
  cbv
  by_cases hx16 : x < 16
  ·have e16 : vc .lss x 16 = true := by rw [qc, lss_true]; exact hx16
   have hN := f_a k2 p q last row kind lens left x hgx hx16
   rw [hRFk] at hN
   rw [e16]
   cbv
   by_cases hx0 : x > 0
   ·have e0 : vc .gtr x 0 = true := by rw [qc, gtr_true]; exact hx0
    have ewx : vw .u8 x = x := by rw [qw]; exact wrap_u8 (by omega) (by omega)
    rw [if_pos hx0] at hN
    rw [e0]
    cbv
    rw [ewx]
    refine YieldX.gen ?_
    refine YieldX.mono ?_ ?_ (hbody js0 _ b bl cap acc3 hv3 ai3 size sk one lens rl cl left x 1 (by rfl) (by omega) (by omega) (by constructor <;> omega) hrl hrc hrs (by omega) hleft)
    ·rintro v s' ⟨rl2, cl2, lens2, left2, js2, hlens2, hrl2, hrc2, hleft2, hsz2, hrm, ⟨rfl, hgo, rfl⟩ | ⟨rfl, hst, rfl⟩⟩
     ·have hrm : (rl2 : Int) = (rl : Int) + 1 := hrm
      have hsz2 : (rl2 : Int) ≤ size := hsz2
      have hgo : ¬ (left2 ≤ 0 ∨ (rl2 : Int) = size) := hgo
      have hpn := pw_nonneg x
      have hleft3 : left2 ≤ left := by rw [hleft2]; have := Int.mul_nonneg (show 0 ≤ 1 by omega) hpn; omega
      have hNg := n_go (q := q) (last := x) (row := row) (kind := 0) (lens := lens) (left := left) (l := x) (m := 1) (F := RF k2) (size := size) (by rw [← hrl, ← hrm]; exact hsz2) (by rw [← hrl, ← hleft2, ← hrm]; exact hgo)
      rw [← hN, ← hlens2, ← hleft2] at hNg
      have hmu : size.toNat - rl2 < size.toNat - rl := by omega
      cbv
      rw [hnt]
      cbv
      refine Cv.genAt [6] [] (Cv.fold ((List.range' 7 24) ++ (List.range' 31 23)) 15 [8] (by exact Nat.le_refl _) (by exact Nat.le_of_ble_eq_true rfl) (by rfl) (by cbv) ?_)
      intro js
      refine ⟨(_, _, _, q, _, _, _, _, _, _, _), ?_, js, rfl⟩
      exact ⟨⟨k2, hNg.symm, by omega, hrl2, hrc2, by omega, by omega, by omega, h5, by omega, by omega, by omega, .inl (by decide)⟩, hmu⟩
     ·have hrm : (rl2 : Int) = (rl : Int) + 1 := hrm
      have hsz2 : (rl2 : Int) ≤ size := hsz2
      have hst : (left2 ≤ 0 ∨ (rl2 : Int) = size) := hst
      have hR1 := n_stop (q := q) (last := x) (row := row) (kind := 0) (lens := lens) (left := left) (l := x) (m := 1) (F := RF k2) (size := size) (by rw [← hrl, ← hrm]; exact hsz2) (by rw [← hrl, ← hleft2, ← hrm]; exact hst)
      rw [← hN, ← hlens2, ← hleft2] at hR1
      cbv
      have hnfS : vnotB false = true := by rw [qnotB]; rfl
      rw [hnfS]
      cbv
      intro js5
      refine call_conX (ρ := []) (hmust _) ⟨by rfl, by rfl, by rfl, by cbv⟩ ?_ ?_
      rotate_left
      ·rintro v H R js4 ⟨hz, rfl, rfl, rfl⟩
       have hz3 : left2 ≠ 0 := by rw [qc, eql_false] at hz; exact hz
       have hk := k5 _ _ _ hR1 hz3
       cbv
       exact ⟨[0, 1, 2, 3, 4, 5], .iface 75 (.agg [.int .i64 11]), [.one 33 [.ptr 2 .z 4 0], .one 3 [.int .i64 size], (.one 81 [.fn 39 [.ptr 3 .z 1 0, .ptr 4 .z 1 0], .int .u64 acc3, .int .i64 hv3, .fn 40 [.ptr 4 .z 1 0, .ptr 3 .z 1 0]]), .one 3 [.int .i64 ai3], .one 22 [.slice 5 .z 1 bl cap], .ro .u8 b], rfl, rfl, rfl, rfl, ⟨rfl, rfl, rfl, rfl, rfl, rfl, trivial⟩, 11, hk, rfl, rfl, acc3, hv3, ai3, rfl⟩
      rintro v H R js4 ⟨hz, rfl, rfl, rfl⟩
      have hz3 : left2 = 0 := by rw [qc, eql_true] at hz; exact hz
      subst hz3
      have hk := k4 _ _ hR1
      cbv
      obtain ⟨rI, hrI⟩ : ∃ rI : Int, rI = rl2 := ⟨_, rfl⟩
      have hofr : vofN rl2 = rI := by rw [qofN]; exact hrI.symm
      obtain ⟨d, hd⟩ : ∃ d : Int, d = size - rI := ⟨_, rfl⟩
      have ed : vb .sub .i64 size rI = d := by simp only [nc] at *; rw [qb, sub_i64 (by omega) (by omega)]; exact hd.symm
      have hdt : vtoN d = d.toNat := by rw [qtoN]
      obtain ⟨dN, hdN⟩ : ∃ dN, dN = d.toNat := ⟨_, rfl⟩
      have hrepd : vrep dN 0 = List.replicate dN 0 := by rw [qrep]
      obtain ⟨Z, hZ⟩ : ∃ Z, Z = List.replicate dN (0 : Int) := ⟨_, rfl⟩
      obtain ⟨Lf, hLf⟩ : ∃ Lf, Lf = lens2 ++ Z := ⟨_, rfl⟩
      have hontoZ : vonto lens2 rl2 Z = Lf := by rw [qonto, hLf, hrl2]; simp
      have hvlS : vln lens2 = rl2 := by rw [qln, hrl2]
      obtain ⟨rt, hrt⟩ : ∃ rt, rt = rl2 + dN := ⟨_, rfl⟩
      have hart : vaddN rl2 dN = rt := by rw [qaddN, hrt]
      have hkf : lens2 ++ List.replicate (size - (lens2.length : Int)).toNat 0 = Lf := by
       rw [hLf, hZ, hdN, hd, hrI, ← hrl2]
      have hLfl : rt = Lf.length := by rw [hrt, hLf, hZ, List.length_append, List.length_replicate, ← hrl2]
      have hrt4 : rt ≤ 1024 := by simp only [nc] at *; omega
      have hd0 : 0 ≤ d ∧ d ≤ 1024 := by simp only [nc] at *; omega
      rw [hkf] at hk
      rw [hofr, ed, hdt, ← hdN, hrepd, ← hZ]
      refine ⟨⟨hd0.1⟩, ⟨by show d * 1 ≤ 281474976710656; omega⟩, ⟨by rw [hvlS]; exact Nat.le_refl _⟩, ⟨Nat.le_refl _⟩, ⟨by rw [hart]; omega⟩, ?_⟩
      intro c3 js6 hc3
      clear hc3
      cbv
      rw [hontoZ, hart]
      clear hLf hkf hontoZ
      subst hLfl
      exact ⟨[0, 1, 2, 3, 4, 5, 8], .agg [.slice 6 .z 1 Lf.length c3, .lit .i64 0], [.one 33 [.ptr 2 .z 4 0], .one 3 [.int .i64 size], (.one 81 [.fn 39 [.ptr 3 .z 1 0, .ptr 4 .z 1 0], .int .u64 acc3, .int .i64 hv3, .fn 40 [.ptr 4 .z 1 0, .ptr 3 .z 1 0]]), .one 3 [.int .i64 ai3], .one 22 [.slice 5 .z 1 bl cap], .ro .u8 b, .buf 5 .u8 Lf c3], rfl, rfl, rfl, rfl, ⟨rfl, rfl, rfl, rfl, rfl, rfl, rfl, trivial⟩, .inr Lf, q, hk, rfl, acc3, hv3, ai3, h5, .inr ⟨Lf, c3, c3, rfl, rfl, rfl⟩⟩
    ·rintro v s' ⟨he, hno, js2, rfl⟩
     cases he
     have hno : ¬ ((rl : Int) + 1 ≤ size) := hno
     have hNp := n_pan (q := q) (last := x) (row := row) (kind := 0) (lens := lens) (left := left) (l := x) (m := 1) (F := RF k2) (size := size) (by rw [← hrl]; exact hno)
     rw [← hN] at hNp
     have hk := k3 _ hNp
     cbv
     intro js5
     exact ⟨[0, 1, 2, 3, 4, 5], .iface 75 (.agg [.int .i64 11]), [.one 33 [.ptr 2 .z 4 0], .one 3 [.int .i64 size], (.one 81 [.fn 39 [.ptr 3 .z 1 0, .ptr 4 .z 1 0], .int .u64 acc3, .int .i64 hv3, .fn 40 [.ptr 4 .z 1 0, .ptr 3 .z 1 0]]), .one 3 [.int .i64 ai3], .one 22 [.slice 5 .z 1 bl cap], .ro .u8 b], rfl, rfl, rfl, rfl, ⟨rfl, rfl, rfl, rfl, rfl, rfl, trivial⟩, 11, hk, rfl, rfl, acc3, hv3, ai3, rfl⟩
   ·have e0 : vc .gtr x 0 = false := by rw [qc, gtr_false]; exact hx0
    have ewx : vw .u8 x = x := by rw [qw]; exact wrap_u8 (by omega) (by omega)
    rw [if_neg hx0] at hN
    rw [e0]
    cbv
    rw [ewx]
    refine YieldX.gen ?_
    refine YieldX.mono ?_ ?_ (hbody js0 _ b bl cap acc3 hv3 ai3 size sk one lens rl cl left x 1 (by rfl) (by omega) (by omega) (by constructor <;> omega) hrl hrc hrs (by omega) hleft)
    ·rintro v s' ⟨rl2, cl2, lens2, left2, js2, hlens2, hrl2, hrc2, hleft2, hsz2, hrm, ⟨rfl, hgo, rfl⟩ | ⟨rfl, hst, rfl⟩⟩
     ·have hrm : (rl2 : Int) = (rl : Int) + 1 := hrm
      have hsz2 : (rl2 : Int) ≤ size := hsz2
      have hgo : ¬ (left2 ≤ 0 ∨ (rl2 : Int) = size) := hgo
      have hpn := pw_nonneg x
      have hleft3 : left2 ≤ left := by rw [hleft2]; have := Int.mul_nonneg (show 0 ≤ 1 by omega) hpn; omega
      have hNg := n_go (q := q) (last := last) (row := row) (kind := 0) (lens := lens) (left := left) (l := x) (m := 1) (F := RF k2) (size := size) (by rw [← hrl, ← hrm]; exact hsz2) (by rw [← hrl, ← hleft2, ← hrm]; exact hgo)
      rw [← hN, ← hlens2, ← hleft2] at hNg
      have hmu : size.toNat - rl2 < size.toNat - rl := by omega
      cbv
      rw [hnt]
      cbv
      refine Cv.genAt [6] [] (Cv.fold ((List.range' 7 24) ++ (List.range' 31 23)) 15 [8] (by exact Nat.le_refl _) (by exact Nat.le_of_ble_eq_true rfl) (by rfl) (by cbv) ?_)
      intro js
      refine ⟨(_, _, _, q, _, _, _, _, _, _, _), ?_, js, rfl⟩
      exact ⟨⟨k2, hNg.symm, by omega, hrl2, hrc2, by omega, by omega, by omega, h5, by omega, by omega, by omega, .inl (by decide)⟩, hmu⟩
     ·have hrm : (rl2 : Int) = (rl : Int) + 1 := hrm
      have hsz2 : (rl2 : Int) ≤ size := hsz2
      have hst : (left2 ≤ 0 ∨ (rl2 : Int) = size) := hst
      have hR1 := n_stop (q := q) (last := last) (row := row) (kind := 0) (lens := lens) (left := left) (l := x) (m := 1) (F := RF k2) (size := size) (by rw [← hrl, ← hrm]; exact hsz2) (by rw [← hrl, ← hleft2, ← hrm]; exact hst)
      rw [← hN, ← hlens2, ← hleft2] at hR1
      cbv
      have hnfS : vnotB false = true := by rw [qnotB]; rfl
      rw [hnfS]
      cbv
      intro js5
      refine call_conX (ρ := []) (hmust _) ⟨by rfl, by rfl, by rfl, by cbv⟩ ?_ ?_
      rotate_left
      ·rintro v H R js4 ⟨hz, rfl, rfl, rfl⟩
       have hz3 : left2 ≠ 0 := by rw [qc, eql_false] at hz; exact hz
       have hk := k5 _ _ _ hR1 hz3
       cbv
       exact ⟨[0, 1, 2, 3, 4, 5], .iface 75 (.agg [.int .i64 11]), [.one 33 [.ptr 2 .z 4 0], .one 3 [.int .i64 size], (.one 81 [.fn 39 [.ptr 3 .z 1 0, .ptr 4 .z 1 0], .int .u64 acc3, .int .i64 hv3, .fn 40 [.ptr 4 .z 1 0, .ptr 3 .z 1 0]]), .one 3 [.int .i64 ai3], .one 22 [.slice 5 .z 1 bl cap], .ro .u8 b], rfl, rfl, rfl, rfl, ⟨rfl, rfl, rfl, rfl, rfl, rfl, trivial⟩, 11, hk, rfl, rfl, acc3, hv3, ai3, rfl⟩
      rintro v H R js4 ⟨hz, rfl, rfl, rfl⟩
      have hz3 : left2 = 0 := by rw [qc, eql_true] at hz; exact hz
      subst hz3
      have hk := k4 _ _ hR1
      cbv
      obtain ⟨rI, hrI⟩ : ∃ rI : Int, rI = rl2 := ⟨_, rfl⟩
      have hofr : vofN rl2 = rI := by rw [qofN]; exact hrI.symm
      obtain ⟨d, hd⟩ : ∃ d : Int, d = size - rI := ⟨_, rfl⟩
      have ed : vb .sub .i64 size rI = d := by simp only [nc] at *; rw [qb, sub_i64 (by omega) (by omega)]; exact hd.symm
      have hdt : vtoN d = d.toNat := by rw [qtoN]
      obtain ⟨dN, hdN⟩ : ∃ dN, dN = d.toNat := ⟨_, rfl⟩
      have hrepd : vrep dN 0 = List.replicate dN 0 := by rw [qrep]
      obtain ⟨Z, hZ⟩ : ∃ Z, Z = List.replicate dN (0 : Int) := ⟨_, rfl⟩
      obtain ⟨Lf, hLf⟩ : ∃ Lf, Lf = lens2 ++ Z := ⟨_, rfl⟩
      have hontoZ : vonto lens2 rl2 Z = Lf := by rw [qonto, hLf, hrl2]; simp
      have hvlS : vln lens2 = rl2 := by rw [qln, hrl2]
      obtain ⟨rt, hrt⟩ : ∃ rt, rt = rl2 + dN := ⟨_, rfl⟩
      have hart : vaddN rl2 dN = rt := by rw [qaddN, hrt]
      have hkf : lens2 ++ List.replicate (size - (lens2.length : Int)).toNat 0 = Lf := by
       rw [hLf, hZ, hdN, hd, hrI, ← hrl2]
      have hLfl : rt = Lf.length := by rw [hrt, hLf, hZ, List.length_append, List.length_replicate, ← hrl2]
      have hrt4 : rt ≤ 1024 := by simp only [nc] at *; omega
      have hd0 : 0 ≤ d ∧ d ≤ 1024 := by simp only [nc] at *; omega
      rw [hkf] at hk
      rw [hofr, ed, hdt, ← hdN, hrepd, ← hZ]
      refine ⟨⟨hd0.1⟩, ⟨by show d * 1 ≤ 281474976710656; omega⟩, ⟨by rw [hvlS]; exact Nat.le_refl _⟩, ⟨Nat.le_refl _⟩, ⟨by rw [hart]; omega⟩, ?_⟩
      intro c3 js6 hc3
      clear hc3
      cbv
      rw [hontoZ, hart]
      clear hLf hkf hontoZ
      subst hLfl
      exact ⟨[0, 1, 2, 3, 4, 5, 8], .agg [.slice 6 .z 1 Lf.length c3, .lit .i64 0], [.one 33 [.ptr 2 .z 4 0], .one 3 [.int .i64 size], (.one 81 [.fn 39 [.ptr 3 .z 1 0, .ptr 4 .z 1 0], .int .u64 acc3, .int .i64 hv3, .fn 40 [.ptr 4 .z 1 0, .ptr 3 .z 1 0]]), .one 3 [.int .i64 ai3], .one 22 [.slice 5 .z 1 bl cap], .ro .u8 b, .buf 5 .u8 Lf c3], rfl, rfl, rfl, rfl, ⟨rfl, rfl, rfl, rfl, rfl, rfl, rfl, trivial⟩, .inr Lf, q, hk, rfl, acc3, hv3, ai3, h5, .inr ⟨Lf, c3, c3, rfl, rfl, rfl⟩⟩
    ·rintro v s' ⟨he, hno, js2, rfl⟩
     cases he
     have hno : ¬ ((rl : Int) + 1 ≤ size) := hno
     have hNp := n_pan (q := q) (last := last) (row := row) (kind := 0) (lens := lens) (left := left) (l := x) (m := 1) (F := RF k2) (size := size) (by rw [← hrl]; exact hno)
     rw [← hN] at hNp
     have hk := k3 _ hNp
     cbv
     intro js5
     exact ⟨[0, 1, 2, 3, 4, 5], .iface 75 (.agg [.int .i64 11]), [.one 33 [.ptr 2 .z 4 0], .one 3 [.int .i64 size], (.one 81 [.fn 39 [.ptr 3 .z 1 0, .ptr 4 .z 1 0], .int .u64 acc3, .int .i64 hv3, .fn 40 [.ptr 4 .z 1 0, .ptr 3 .z 1 0]]), .one 3 [.int .i64 ai3], .one 22 [.slice 5 .z 1 bl cap], .ro .u8 b], rfl, rfl, rfl, rfl, ⟨rfl, rfl, rfl, rfl, rfl, rfl, trivial⟩, 11, hk, rfl, rfl, acc3, hv3, ai3, rfl⟩
  ·have e16 : vc .lss x 16 = false := by rw [qc, lss_false]; exact hx16
   rw [e16]
   have hx2 : x = 16 ∨ x = 17 := by omega
   obtain ⟨x14, hx14⟩ : ∃ x14 : Int, x14 = x - 14 := ⟨_, rfl⟩
   have e14 : vb .sub .i64 x 14 = x14 := by rw [qb, sub_i64 (by omega) (by omega)]; exact hx14.symm
   have hgg := gn (x - 14).toNat q acc3 hv3 ai3 h5 (by omega)
   simp only [nc] at hgg
   rw [show (((x - 14).toNat : Nat) : Int) = x14 by omega] at hgg
   have hF := fun e => f_g k2 p q last row kind lens left x e hgx hx16
   have hB := fun q2 n => f_b k2 p q q2 last row kind lens left x n hgx hx16
   have hgR := fun nn q2 => hgn (x - 14).toNat q nn q2
   rw [hRFk] at hF hB
   obtain ⟨kN, hkN⟩ : ∃ kN, kN = (x - 14).toNat := ⟨_, rfl⟩
   rw [← hkN] at hgg hF hB hgR
   cbv
   rw [e14]
   refine call_conX (ρ := [(2, .z), (3, .z), (4, .z), (5, .z)]) hgg ⟨by rfl, by rfl, by rfl, by cbv; exact ⟨view_refl _, trivial⟩⟩ ?_ ?_
   rotate_left
   ·rintro v H R js3 ⟨e, hge, rfl, rfl, a, h, i2, rfl⟩
    have hk := k3 _ (hF e hge)
    cbv
    intro js5
    exact ⟨[0, 1, 2, 3, 4, 5], .iface 75 (.agg [.int .i64 e]), [.one 33 [.ptr 2 .z 4 0], .one 3 [.int .i64 size], (.one 81 [.fn 39 [.ptr 3 .z 1 0, .ptr 4 .z 1 0], .int .u64 a, .int .i64 h, .fn 40 [.ptr 4 .z 1 0, .ptr 3 .z 1 0]]), .one 3 [.int .i64 i2], .one 22 [.slice 5 .z 1 bl cap], .ro .u8 b], rfl, rfl, rfl, rfl, ⟨rfl, rfl, rfl, rfl, rfl, rfl, trivial⟩, e, hk, rfl, rfl, a, h, i2, rfl⟩
   rintro v H R js3 ⟨nn, q3, hgq, rfl, rfl, acc4, hv4, ai4, h6, rfl⟩
   have hnr2 := hgR nn q3 hgq
   have hN := hB q3 nn hgq
   have hkv : (kN = 2 ∧ x = 16) ∨ (kN = 3 ∧ x = 17) := by omega
   have hp2 : 1 ≤ (2 : Int) ^ kN ∧ (2 : Int) ^ kN ≤ 8 ∧ nn < 8 := by
    have h7 := hnr2.2.1
    rcases hkv with ⟨h, _⟩ | ⟨h, _⟩ <;> rw [h] at h7 ⊢ <;> omega
   obtain ⟨n3, hn3⟩ : ∃ n3 : Int, n3 = 3 + nn := ⟨_, rfl⟩
   have en3 : vb .add .i64 3 nn = n3 := by rw [qb, add_i64 (by omega) (by omega)]; exact hn3.symm
   cbv
   by_cases hkx : kind = x
   ·have ekx : vc .eql kind x = true := by rw [qc, eql_true]; exact hkx
    rw [if_pos hkx, if_pos hkx, ← hn3] at hN
    have hrw : 3 ≤ row ∧ row ≤ (rl : Int) := by
     rcases hrow with h9 | h9
     ·exact absurd (hkx ▸ h9) hx16
     ·exact h9
    obtain ⟨ra, hra⟩ : ∃ ra : Int, ra = row - 2 := ⟨_, rfl⟩
    have era : vb .sub .i64 row 2 = ra := by rw [qb, sub_i64 (by omega) (by omega)]; exact hra.symm
    have ew14 : vw .u64 x14 = x14 := by rw [qw]; exact wrap_u64 (by omega) (by omega)
    obtain ⟨rb, hrb⟩ : ∃ rb : Int, rb = ra * 2 ^ kN := ⟨_, rfl⟩
    have hrbr : rb = ra * 4 ∨ rb = ra * 8 := by
     rcases hkv with ⟨h, _⟩ | ⟨h, _⟩
     ·left; rw [hrb, h]; rfl
     ·right; rw [hrb, h]; rfl
    have erb : vb .shl .i64 ra x14 = rb := by
     rw [qb, hrb]
     show IntKind.i64.wrap (ra * 2 ^ (min x14.toNat IntKind.i64.bits)) = _
     rw [show min x14.toNat IntKind.i64.bits = kN by
      have hk3 : kN ≤ 3 := by omega
      rw [show x14.toNat = kN by omega]; exact Nat.min_eq_left (Nat.le_trans hk3 (by decide))]
     rw [← hrb]
     exact wrap_i64 (by omega) (by omega)
    obtain ⟨row2, hrow2⟩ : ∃ row2 : Int, row2 = rb + n3 := ⟨_, rfl⟩
    have erow : vb .add .i64 rb n3 = row2 := by rw [qb, add_i64 (by omega) (by omega)]; exact hrow2.symm
    obtain ⟨m, hm4⟩ : ∃ m : Int, m = row2 - row := ⟨_, rfl⟩
    have em : vb .sub .i64 row2 row = m := by rw [qb, sub_i64 (by omega) (by omega)]; exact hm4.symm
    rw [← hra, ← hrb, ← hrow2, ← hm4] at hN
    have hx140 : 0 ≤ x14 := by omega
    have hm1 : 1 ≤ m ∧ m ≤ 100000 := by omega
    have hrowX : 3 ≤ row2 ∧ row2 ≤ (rl : Int) + m := by omega
    rw [ekx]
    cbv
    rw [era, e14, ew14, erb, en3, erow]
    refine ⟨⟨hx140⟩, ?_⟩
    by_cases hx6 : x = 16
    ·have e6 : vc .eql x 16 = true := by rw [qc, eql_true]; exact hx6
     rw [if_pos hx6] at hN
     rw [e6]
     cbv
     rw [em]
     refine YieldX.gen ?_
     refine YieldX.mono ?_ ?_ (hbody js0 _ b bl cap acc4 hv4 ai4 size sk one lens rl cl left last m (by rfl) (by omega) (by omega) (by constructor <;> omega) hrl hrc hrs (by omega) hleft)
     ·rintro v s' ⟨rl2, cl2, lens2, left2, js2, hlens2, hrl2, hrc2, hleft2, hsz2, hrm, ⟨rfl, hgo, rfl⟩ | ⟨rfl, hst, rfl⟩⟩
      ·have hrm : (rl2 : Int) = (rl : Int) + m := hrm
       have hsz2 : (rl2 : Int) ≤ size := hsz2
       have hgo : ¬ (left2 ≤ 0 ∨ (rl2 : Int) = size) := hgo
       have hpn := pw_nonneg last
       have hleft3 : left2 ≤ left := by rw [hleft2]; have := Int.mul_nonneg (show 0 ≤ m by omega) hpn; omega
       have hNg := n_go (q := q3) (last := last) (row := row2) (kind := x) (lens := lens) (left := left) (l := last) (m := m) (F := RF k2) (size := size) (by rw [← hrl, ← hrm]; exact hsz2) (by rw [← hrl, ← hleft2, ← hrm]; exact hgo)
       rw [← hN, ← hlens2, ← hleft2] at hNg
       have hmu : size.toNat - rl2 < size.toNat - rl := by omega
       have hrl0 : 0 ≤ (rl : Int) := Int.natCast_nonneg rl
       have hrow9 : 3 ≤ row2 ∧ row2 ≤ (rl2 : Int) := by rw [hrm]; exact hrowX
       cbv
       rw [hnt]
       cbv
       refine Cv.genAt [6] [] (Cv.fold ((List.range' 7 24) ++ (List.range' 31 23)) 15 [8] (by exact Nat.le_refl _) (by exact Nat.le_of_ble_eq_true rfl) (by rfl) (by cbv) ?_)
       intro js
       refine ⟨(_, _, _, q3, _, _, _, _, _, _, _), ?_, js, rfl⟩
       exact ⟨⟨k2, hNg.symm, by omega, hrl2, hrc2, by omega, by omega, by omega, h6, by omega, by omega, by omega, .inr hrow9⟩, hmu⟩
      ·have hrm : (rl2 : Int) = (rl : Int) + m := hrm
       have hsz2 : (rl2 : Int) ≤ size := hsz2
       have hst : (left2 ≤ 0 ∨ (rl2 : Int) = size) := hst
       have hR1 := n_stop (q := q3) (last := last) (row := row2) (kind := x) (lens := lens) (left := left) (l := last) (m := m) (F := RF k2) (size := size) (by rw [← hrl, ← hrm]; exact hsz2) (by rw [← hrl, ← hleft2, ← hrm]; exact hst)
       rw [← hN, ← hlens2, ← hleft2] at hR1
       cbv
       have hnfS : vnotB false = true := by rw [qnotB]; rfl
       rw [hnfS]
       cbv
       intro js5
       refine call_conX (ρ := []) (hmust _) ⟨by rfl, by rfl, by rfl, by cbv⟩ ?_ ?_
       rotate_left
       ·rintro v H R js4 ⟨hz, rfl, rfl, rfl⟩
        have hz3 : left2 ≠ 0 := by rw [qc, eql_false] at hz; exact hz
        have hk := k5 _ _ _ hR1 hz3
        cbv
        exact ⟨[0, 1, 2, 3, 4, 5], .iface 75 (.agg [.int .i64 11]), [.one 33 [.ptr 2 .z 4 0], .one 3 [.int .i64 size], (.one 81 [.fn 39 [.ptr 3 .z 1 0, .ptr 4 .z 1 0], .int .u64 acc4, .int .i64 hv4, .fn 40 [.ptr 4 .z 1 0, .ptr 3 .z 1 0]]), .one 3 [.int .i64 ai4], .one 22 [.slice 5 .z 1 bl cap], .ro .u8 b], rfl, rfl, rfl, rfl, ⟨rfl, rfl, rfl, rfl, rfl, rfl, trivial⟩, 11, hk, rfl, rfl, acc4, hv4, ai4, rfl⟩
       rintro v H R js4 ⟨hz, rfl, rfl, rfl⟩
       have hz3 : left2 = 0 := by rw [qc, eql_true] at hz; exact hz
       subst hz3
       have hk := k4 _ _ hR1
       cbv
       obtain ⟨rI, hrI⟩ : ∃ rI : Int, rI = rl2 := ⟨_, rfl⟩
       have hofr : vofN rl2 = rI := by rw [qofN]; exact hrI.symm
       obtain ⟨d, hd⟩ : ∃ d : Int, d = size - rI := ⟨_, rfl⟩
       have ed : vb .sub .i64 size rI = d := by simp only [nc] at *; rw [qb, sub_i64 (by omega) (by omega)]; exact hd.symm
       have hdt : vtoN d = d.toNat := by rw [qtoN]
       obtain ⟨dN, hdN⟩ : ∃ dN, dN = d.toNat := ⟨_, rfl⟩
       have hrepd : vrep dN 0 = List.replicate dN 0 := by rw [qrep]
       obtain ⟨Z, hZ⟩ : ∃ Z, Z = List.replicate dN (0 : Int) := ⟨_, rfl⟩
       obtain ⟨Lf, hLf⟩ : ∃ Lf, Lf = lens2 ++ Z := ⟨_, rfl⟩
       have hontoZ : vonto lens2 rl2 Z = Lf := by rw [qonto, hLf, hrl2]; simp
       have hvlS : vln lens2 = rl2 := by rw [qln, hrl2]
       obtain ⟨rt, hrt⟩ : ∃ rt, rt = rl2 + dN := ⟨_, rfl⟩
       have hart : vaddN rl2 dN = rt := by rw [qaddN, hrt]
       have hkf : lens2 ++ List.replicate (size - (lens2.length : Int)).toNat 0 = Lf := by
        rw [hLf, hZ, hdN, hd, hrI, ← hrl2]
       have hLfl : rt = Lf.length := by rw [hrt, hLf, hZ, List.length_append, List.length_replicate, ← hrl2]
       have hrt4 : rt ≤ 1024 := by simp only [nc] at *; omega
       have hd0 : 0 ≤ d ∧ d ≤ 1024 := by simp only [nc] at *; omega
       rw [hkf] at hk
       rw [hofr, ed, hdt, ← hdN, hrepd, ← hZ]
       refine ⟨⟨hd0.1⟩, ⟨by show d * 1 ≤ 281474976710656; omega⟩, ⟨by rw [hvlS]; exact Nat.le_refl _⟩, ⟨Nat.le_refl _⟩, ⟨by rw [hart]; omega⟩, ?_⟩
       intro c3 js6 hc3
       clear hc3
       cbv
       rw [hontoZ, hart]
       clear hLf hkf hontoZ
       subst hLfl
       exact ⟨[0, 1, 2, 3, 4, 5, 8], .agg [.slice 6 .z 1 Lf.length c3, .lit .i64 0], [.one 33 [.ptr 2 .z 4 0], .one 3 [.int .i64 size], (.one 81 [.fn 39 [.ptr 3 .z 1 0, .ptr 4 .z 1 0], .int .u64 acc4, .int .i64 hv4, .fn 40 [.ptr 4 .z 1 0, .ptr 3 .z 1 0]]), .one 3 [.int .i64 ai4], .one 22 [.slice 5 .z 1 bl cap], .ro .u8 b, .buf 5 .u8 Lf c3], rfl, rfl, rfl, rfl, ⟨rfl, rfl, rfl, rfl, rfl, rfl, rfl, trivial⟩, .inr Lf, q3, hk, rfl, acc4, hv4, ai4, h6, .inr ⟨Lf, c3, c3, rfl, rfl, rfl⟩⟩
     ·rintro v s' ⟨he, hno, js2, rfl⟩
      cases he
      have hno : ¬ ((rl : Int) + m ≤ size) := hno
      have hNp := n_pan (q := q3) (last := last) (row := row2) (kind := x) (lens := lens) (left := left) (l := last) (m := m) (F := RF k2) (size := size) (by rw [← hrl]; exact hno)
      rw [← hN] at hNp
      have hk := k3 _ hNp
      cbv
      intro js5
      exact ⟨[0, 1, 2, 3, 4, 5], .iface 75 (.agg [.int .i64 11]), [.one 33 [.ptr 2 .z 4 0], .one 3 [.int .i64 size], (.one 81 [.fn 39 [.ptr 3 .z 1 0, .ptr 4 .z 1 0], .int .u64 acc4, .int .i64 hv4, .fn 40 [.ptr 4 .z 1 0, .ptr 3 .z 1 0]]), .one 3 [.int .i64 ai4], .one 22 [.slice 5 .z 1 bl cap], .ro .u8 b], rfl, rfl, rfl, rfl, ⟨rfl, rfl, rfl, rfl, rfl, rfl, trivial⟩, 11, hk, rfl, rfl, acc4, hv4, ai4, rfl⟩
    ·have e6 : vc .eql x 16 = false := by rw [qc, eql_false]; exact hx6
     rw [if_neg hx6] at hN
     rw [e6]
     cbv
     rw [em]
     refine YieldX.gen ?_
     refine YieldX.mono ?_ ?_ (hbody js0 _ b bl cap acc4 hv4 ai4 size sk one lens rl cl left 0 m (by rfl) (by omega) (by omega) (by constructor <;> omega) hrl hrc hrs (by omega) hleft)
     ·rintro v s' ⟨rl2, cl2, lens2, left2, js2, hlens2, hrl2, hrc2, hleft2, hsz2, hrm, ⟨rfl, hgo, rfl⟩ | ⟨rfl, hst, rfl⟩⟩
      ·have hrm : (rl2 : Int) = (rl : Int) + m := hrm
       have hsz2 : (rl2 : Int) ≤ size := hsz2
       have hgo : ¬ (left2 ≤ 0 ∨ (rl2 : Int) = size) := hgo
       have hpn := pw_nonneg 0
       have hleft3 : left2 ≤ left := by rw [hleft2]; have := Int.mul_nonneg (show 0 ≤ m by omega) hpn; omega
       have hNg := n_go (q := q3) (last := last) (row := row2) (kind := x) (lens := lens) (left := left) (l := 0) (m := m) (F := RF k2) (size := size) (by rw [← hrl, ← hrm]; exact hsz2) (by rw [← hrl, ← hleft2, ← hrm]; exact hgo)
       rw [← hN, ← hlens2, ← hleft2] at hNg
       have hmu : size.toNat - rl2 < size.toNat - rl := by omega
       have hrl0 : 0 ≤ (rl : Int) := Int.natCast_nonneg rl
       have hrow9 : 3 ≤ row2 ∧ row2 ≤ (rl2 : Int) := by rw [hrm]; exact hrowX
       cbv
       rw [hnt]
       cbv
       refine Cv.genAt [6] [] (Cv.fold ((List.range' 7 24) ++ (List.range' 31 23)) 15 [8] (by exact Nat.le_refl _) (by exact Nat.le_of_ble_eq_true rfl) (by rfl) (by cbv) ?_)
       intro js
       refine ⟨(_, _, _, q3, _, _, _, _, _, _, _), ?_, js, rfl⟩
       exact ⟨⟨k2, hNg.symm, by omega, hrl2, hrc2, by omega, by omega, by omega, h6, by omega, by omega, by omega, .inr hrow9⟩, hmu⟩
      ·have hrm : (rl2 : Int) = (rl : Int) + m := hrm
       have hsz2 : (rl2 : Int) ≤ size := hsz2
       have hst : (left2 ≤ 0 ∨ (rl2 : Int) = size) := hst
       have hR1 := n_stop (q := q3) (last := last) (row := row2) (kind := x) (lens := lens) (left := left) (l := 0) (m := m) (F := RF k2) (size := size) (by rw [← hrl, ← hrm]; exact hsz2) (by rw [← hrl, ← hleft2, ← hrm]; exact hst)
       rw [← hN, ← hlens2, ← hleft2] at hR1
       cbv
       have hnfS : vnotB false = true := by rw [qnotB]; rfl
       rw [hnfS]
       cbv
       intro js5
       refine call_conX (ρ := []) (hmust _) ⟨by rfl, by rfl, by rfl, by cbv⟩ ?_ ?_
       rotate_left
       ·rintro v H R js4 ⟨hz, rfl, rfl, rfl⟩
        have hz3 : left2 ≠ 0 := by rw [qc, eql_false] at hz; exact hz
        have hk := k5 _ _ _ hR1 hz3
        cbv
        exact ⟨[0, 1, 2, 3, 4, 5], .iface 75 (.agg [.int .i64 11]), [.one 33 [.ptr 2 .z 4 0], .one 3 [.int .i64 size], (.one 81 [.fn 39 [.ptr 3 .z 1 0, .ptr 4 .z 1 0], .int .u64 acc4, .int .i64 hv4, .fn 40 [.ptr 4 .z 1 0, .ptr 3 .z 1 0]]), .one 3 [.int .i64 ai4], .one 22 [.slice 5 .z 1 bl cap], .ro .u8 b], rfl, rfl, rfl, rfl, ⟨rfl, rfl, rfl, rfl, rfl, rfl, trivial⟩, 11, hk, rfl, rfl, acc4, hv4, ai4, rfl⟩
       rintro v H R js4 ⟨hz, rfl, rfl, rfl⟩
       have hz3 : left2 = 0 := by rw [qc, eql_true] at hz; exact hz
       subst hz3
       have hk := k4 _ _ hR1
       cbv
       obtain ⟨rI, hrI⟩ : ∃ rI : Int, rI = rl2 := ⟨_, rfl⟩
       have hofr : vofN rl2 = rI := by rw [qofN]; exact hrI.symm
       obtain ⟨d, hd⟩ : ∃ d : Int, d = size - rI := ⟨_, rfl⟩
       have ed : vb .sub .i64 size rI = d := by simp only [nc] at *; rw [qb, sub_i64 (by omega) (by omega)]; exact hd.symm
       have hdt : vtoN d = d.toNat := by rw [qtoN]
       obtain ⟨dN, hdN⟩ : ∃ dN, dN = d.toNat := ⟨_, rfl⟩
       have hrepd : vrep dN 0 = List.replicate dN 0 := by rw [qrep]
       obtain ⟨Z, hZ⟩ : ∃ Z, Z = List.replicate dN (0 : Int) := ⟨_, rfl⟩
       obtain ⟨Lf, hLf⟩ : ∃ Lf, Lf = lens2 ++ Z := ⟨_, rfl⟩
       have hontoZ : vonto lens2 rl2 Z = Lf := by rw [qonto, hLf, hrl2]; simp
       have hvlS : vln lens2 = rl2 := by rw [qln, hrl2]
       obtain ⟨rt, hrt⟩ : ∃ rt, rt = rl2 + dN := ⟨_, rfl⟩
       have hart : vaddN rl2 dN = rt := by rw [qaddN, hrt]
       have hkf : lens2 ++ List.replicate (size - (lens2.length : Int)).toNat 0 = Lf := by
        rw [hLf, hZ, hdN, hd, hrI, ← hrl2]
       have hLfl : rt = Lf.length := by rw [hrt, hLf, hZ, List.length_append, List.length_replicate, ← hrl2]
       have hrt4 : rt ≤ 1024 := by simp only [nc] at *; omega
       have hd0 : 0 ≤ d ∧ d ≤ 1024 := by simp only [nc] at *; omega
       rw [hkf] at hk
       rw [hofr, ed, hdt, ← hdN, hrepd, ← hZ]
       refine ⟨⟨hd0.1⟩, ⟨by show d * 1 ≤ 281474976710656; omega⟩, ⟨by rw [hvlS]; exact Nat.le_refl _⟩, ⟨Nat.le_refl _⟩, ⟨by rw [hart]; omega⟩, ?_⟩
       intro c3 js6 hc3
       clear hc3
       cbv
       rw [hontoZ, hart]
       clear hLf hkf hontoZ
       subst hLfl
       exact ⟨[0, 1, 2, 3, 4, 5, 8], .agg [.slice 6 .z 1 Lf.length c3, .lit .i64 0], [.one 33 [.ptr 2 .z 4 0], .one 3 [.int .i64 size], (.one 81 [.fn 39 [.ptr 3 .z 1 0, .ptr 4 .z 1 0], .int .u64 acc4, .int .i64 hv4, .fn 40 [.ptr 4 .z 1 0, .ptr 3 .z 1 0]]), .one 3 [.int .i64 ai4], .one 22 [.slice 5 .z 1 bl cap], .ro .u8 b, .buf 5 .u8 Lf c3], rfl, rfl, rfl, rfl, ⟨rfl, rfl, rfl, rfl, rfl, rfl, rfl, trivial⟩, .inr Lf, q3, hk, rfl, acc4, hv4, ai4, h6, .inr ⟨Lf, c3, c3, rfl, rfl, rfl⟩⟩
     ·rintro v s' ⟨he, hno, js2, rfl⟩
      cases he
      have hno : ¬ ((rl : Int) + m ≤ size) := hno
      have hNp := n_pan (q := q3) (last := last) (row := row2) (kind := x) (lens := lens) (left := left) (l := 0) (m := m) (F := RF k2) (size := size) (by rw [← hrl]; exact hno)
      rw [← hN] at hNp
      have hk := k3 _ hNp
      cbv
      intro js5
      exact ⟨[0, 1, 2, 3, 4, 5], .iface 75 (.agg [.int .i64 11]), [.one 33 [.ptr 2 .z 4 0], .one 3 [.int .i64 size], (.one 81 [.fn 39 [.ptr 3 .z 1 0, .ptr 4 .z 1 0], .int .u64 acc4, .int .i64 hv4, .fn 40 [.ptr 4 .z 1 0, .ptr 3 .z 1 0]]), .one 3 [.int .i64 ai4], .one 22 [.slice 5 .z 1 bl cap], .ro .u8 b], rfl, rfl, rfl, rfl, ⟨rfl, rfl, rfl, rfl, rfl, rfl, trivial⟩, 11, hk, rfl, rfl, acc4, hv4, ai4, rfl⟩
   ·have ekx : vc .eql kind x = false := by rw [qc, eql_false]; exact hkx
    rw [if_neg hkx, if_neg hkx, Int.zero_add, Int.sub_zero, ← hn3] at hN
    have hrowX : 3 ≤ n3 ∧ n3 ≤ (rl : Int) + n3 := by omega
    have en4 : vb .add .i64 0 n3 = n3 := by rw [qb, add_i64 (by omega) (by omega)]; omega
    have en5 : vb .sub .i64 n3 0 = n3 := by rw [qb, sub_i64 (by omega) (by omega)]; omega
    rw [ekx]
    cbv
    rw [en3, en4]
    by_cases hx6 : x = 16
    ·have e6 : vc .eql x 16 = true := by rw [qc, eql_true]; exact hx6
     rw [if_pos hx6] at hN
     rw [e6]
     cbv
     rw [en5]
     refine YieldX.gen ?_
     refine YieldX.mono ?_ ?_ (hbody js0 _ b bl cap acc4 hv4 ai4 size sk one lens rl cl left last n3 (by rfl) (by omega) (by omega) (by constructor <;> omega) hrl hrc hrs (by omega) hleft)
     ·rintro v s' ⟨rl2, cl2, lens2, left2, js2, hlens2, hrl2, hrc2, hleft2, hsz2, hrm, ⟨rfl, hgo, rfl⟩ | ⟨rfl, hst, rfl⟩⟩
      ·have hrm : (rl2 : Int) = (rl : Int) + n3 := hrm
       have hsz2 : (rl2 : Int) ≤ size := hsz2
       have hgo : ¬ (left2 ≤ 0 ∨ (rl2 : Int) = size) := hgo
       have hpn := pw_nonneg last
       have hleft3 : left2 ≤ left := by rw [hleft2]; have := Int.mul_nonneg (show 0 ≤ n3 by omega) hpn; omega
       have hNg := n_go (q := q3) (last := last) (row := n3) (kind := x) (lens := lens) (left := left) (l := last) (m := n3) (F := RF k2) (size := size) (by rw [← hrl, ← hrm]; exact hsz2) (by rw [← hrl, ← hleft2, ← hrm]; exact hgo)
       rw [← hN, ← hlens2, ← hleft2] at hNg
       have hmu : size.toNat - rl2 < size.toNat - rl := by omega
       have hrl0 : 0 ≤ (rl : Int) := Int.natCast_nonneg rl
       have hrow9 : 3 ≤ n3 ∧ n3 ≤ (rl2 : Int) := by rw [hrm]; exact hrowX
       cbv
       rw [hnt]
       cbv
       refine Cv.genAt [6] [] (Cv.fold ((List.range' 7 24) ++ (List.range' 31 23)) 15 [8] (by exact Nat.le_refl _) (by exact Nat.le_of_ble_eq_true rfl) (by rfl) (by cbv) ?_)
       intro js
       refine ⟨(_, _, _, q3, _, _, _, _, _, _, _), ?_, js, rfl⟩
       exact ⟨⟨k2, hNg.symm, by omega, hrl2, hrc2, by omega, by omega, by omega, h6, by omega, by omega, by omega, .inr hrow9⟩, hmu⟩
      ·have hrm : (rl2 : Int) = (rl : Int) + n3 := hrm
       have hsz2 : (rl2 : Int) ≤ size := hsz2
       have hst : (left2 ≤ 0 ∨ (rl2 : Int) = size) := hst
       have hR1 := n_stop (q := q3) (last := last) (row := n3) (kind := x) (lens := lens) (left := left) (l := last) (m := n3) (F := RF k2) (size := size) (by rw [← hrl, ← hrm]; exact hsz2) (by rw [← hrl, ← hleft2, ← hrm]; exact hst)
       rw [← hN, ← hlens2, ← hleft2] at hR1
       cbv
       have hnfS : vnotB false = true := by rw [qnotB]; rfl
       rw [hnfS]
       cbv
       intro js5
       refine call_conX (ρ := []) (hmust _) ⟨by rfl, by rfl, by rfl, by cbv⟩ ?_ ?_
       rotate_left
       ·rintro v H R js4 ⟨hz, rfl, rfl, rfl⟩
        have hz3 : left2 ≠ 0 := by rw [qc, eql_false] at hz; exact hz
        have hk := k5 _ _ _ hR1 hz3
        cbv
        exact ⟨[0, 1, 2, 3, 4, 5], .iface 75 (.agg [.int .i64 11]), [.one 33 [.ptr 2 .z 4 0], .one 3 [.int .i64 size], (.one 81 [.fn 39 [.ptr 3 .z 1 0, .ptr 4 .z 1 0], .int .u64 acc4, .int .i64 hv4, .fn 40 [.ptr 4 .z 1 0, .ptr 3 .z 1 0]]), .one 3 [.int .i64 ai4], .one 22 [.slice 5 .z 1 bl cap], .ro .u8 b], rfl, rfl, rfl, rfl, ⟨rfl, rfl, rfl, rfl, rfl, rfl, trivial⟩, 11, hk, rfl, rfl, acc4, hv4, ai4, rfl⟩
       rintro v H R js4 ⟨hz, rfl, rfl, rfl⟩
       have hz3 : left2 = 0 := by rw [qc, eql_true] at hz; exact hz
       subst hz3
       have hk := k4 _ _ hR1
       cbv
       obtain ⟨rI, hrI⟩ : ∃ rI : Int, rI = rl2 := ⟨_, rfl⟩
       have hofr : vofN rl2 = rI := by rw [qofN]; exact hrI.symm
       obtain ⟨d, hd⟩ : ∃ d : Int, d = size - rI := ⟨_, rfl⟩
       have ed : vb .sub .i64 size rI = d := by simp only [nc] at *; rw [qb, sub_i64 (by omega) (by omega)]; exact hd.symm
       have hdt : vtoN d = d.toNat := by rw [qtoN]
       obtain ⟨dN, hdN⟩ : ∃ dN, dN = d.toNat := ⟨_, rfl⟩
       have hrepd : vrep dN 0 = List.replicate dN 0 := by rw [qrep]
       obtain ⟨Z, hZ⟩ : ∃ Z, Z = List.replicate dN (0 : Int) := ⟨_, rfl⟩
       obtain ⟨Lf, hLf⟩ : ∃ Lf, Lf = lens2 ++ Z := ⟨_, rfl⟩
       have hontoZ : vonto lens2 rl2 Z = Lf := by rw [qonto, hLf, hrl2]; simp
       have hvlS : vln lens2 = rl2 := by rw [qln, hrl2]
       obtain ⟨rt, hrt⟩ : ∃ rt, rt = rl2 + dN := ⟨_, rfl⟩
       have hart : vaddN rl2 dN = rt := by rw [qaddN, hrt]
       have hkf : lens2 ++ List.replicate (size - (lens2.length : Int)).toNat 0 = Lf := by
        rw [hLf, hZ, hdN, hd, hrI, ← hrl2]
       have hLfl : rt = Lf.length := by rw [hrt, hLf, hZ, List.length_append, List.length_replicate, ← hrl2]
       have hrt4 : rt ≤ 1024 := by simp only [nc] at *; omega
       have hd0 : 0 ≤ d ∧ d ≤ 1024 := by simp only [nc] at *; omega
       rw [hkf] at hk
       rw [hofr, ed, hdt, ← hdN, hrepd, ← hZ]
       refine ⟨⟨hd0.1⟩, ⟨by show d * 1 ≤ 281474976710656; omega⟩, ⟨by rw [hvlS]; exact Nat.le_refl _⟩, ⟨Nat.le_refl _⟩, ⟨by rw [hart]; omega⟩, ?_⟩
       intro c3 js6 hc3
       clear hc3
       cbv
       rw [hontoZ, hart]
       clear hLf hkf hontoZ
       subst hLfl
       exact ⟨[0, 1, 2, 3, 4, 5, 8], .agg [.slice 6 .z 1 Lf.length c3, .lit .i64 0], [.one 33 [.ptr 2 .z 4 0], .one 3 [.int .i64 size], (.one 81 [.fn 39 [.ptr 3 .z 1 0, .ptr 4 .z 1 0], .int .u64 acc4, .int .i64 hv4, .fn 40 [.ptr 4 .z 1 0, .ptr 3 .z 1 0]]), .one 3 [.int .i64 ai4], .one 22 [.slice 5 .z 1 bl cap], .ro .u8 b, .buf 5 .u8 Lf c3], rfl, rfl, rfl, rfl, ⟨rfl, rfl, rfl, rfl, rfl, rfl, rfl, trivial⟩, .inr Lf, q3, hk, rfl, acc4, hv4, ai4, h6, .inr ⟨Lf, c3, c3, rfl, rfl, rfl⟩⟩
     ·rintro v s' ⟨he, hno, js2, rfl⟩
      cases he
      have hno : ¬ ((rl : Int) + n3 ≤ size) := hno
      have hNp := n_pan (q := q3) (last := last) (row := n3) (kind := x) (lens := lens) (left := left) (l := last) (m := n3) (F := RF k2) (size := size) (by rw [← hrl]; exact hno)
      rw [← hN] at hNp
      have hk := k3 _ hNp
      cbv
      intro js5
      exact ⟨[0, 1, 2, 3, 4, 5], .iface 75 (.agg [.int .i64 11]), [.one 33 [.ptr 2 .z 4 0], .one 3 [.int .i64 size], (.one 81 [.fn 39 [.ptr 3 .z 1 0, .ptr 4 .z 1 0], .int .u64 acc4, .int .i64 hv4, .fn 40 [.ptr 4 .z 1 0, .ptr 3 .z 1 0]]), .one 3 [.int .i64 ai4], .one 22 [.slice 5 .z 1 bl cap], .ro .u8 b], rfl, rfl, rfl, rfl, ⟨rfl, rfl, rfl, rfl, rfl, rfl, trivial⟩, 11, hk, rfl, rfl, acc4, hv4, ai4, rfl⟩
    ·have e6 : vc .eql x 16 = false := by rw [qc, eql_false]; exact hx6
     rw [if_neg hx6] at hN
     rw [e6]
     cbv
     rw [en5]
     refine YieldX.gen ?_
     refine YieldX.mono ?_ ?_ (hbody js0 _ b bl cap acc4 hv4 ai4 size sk one lens rl cl left 0 n3 (by rfl) (by omega) (by omega) (by constructor <;> omega) hrl hrc hrs (by omega) hleft)
     ·rintro v s' ⟨rl2, cl2, lens2, left2, js2, hlens2, hrl2, hrc2, hleft2, hsz2, hrm, ⟨rfl, hgo, rfl⟩ | ⟨rfl, hst, rfl⟩⟩
      ·have hrm : (rl2 : Int) = (rl : Int) + n3 := hrm
       have hsz2 : (rl2 : Int) ≤ size := hsz2
       have hgo : ¬ (left2 ≤ 0 ∨ (rl2 : Int) = size) := hgo
       have hpn := pw_nonneg 0
       have hleft3 : left2 ≤ left := by rw [hleft2]; have := Int.mul_nonneg (show 0 ≤ n3 by omega) hpn; omega
       have hNg := n_go (q := q3) (last := last) (row := n3) (kind := x) (lens := lens) (left := left) (l := 0) (m := n3) (F := RF k2) (size := size) (by rw [← hrl, ← hrm]; exact hsz2) (by rw [← hrl, ← hleft2, ← hrm]; exact hgo)
       rw [← hN, ← hlens2, ← hleft2] at hNg
       have hmu : size.toNat - rl2 < size.toNat - rl := by omega
       have hrl0 : 0 ≤ (rl : Int) := Int.natCast_nonneg rl
       have hrow9 : 3 ≤ n3 ∧ n3 ≤ (rl2 : Int) := by rw [hrm]; exact hrowX
       cbv
       rw [hnt]
       cbv
       refine Cv.genAt [6] [] (Cv.fold ((List.range' 7 24) ++ (List.range' 31 23)) 15 [8] (by exact Nat.le_refl _) (by exact Nat.le_of_ble_eq_true rfl) (by rfl) (by cbv) ?_)
       intro js
       refine ⟨(_, _, _, q3, _, _, _, _, _, _, _), ?_, js, rfl⟩
       exact ⟨⟨k2, hNg.symm, by omega, hrl2, hrc2, by omega, by omega, by omega, h6, by omega, by omega, by omega, .inr hrow9⟩, hmu⟩
      ·have hrm : (rl2 : Int) = (rl : Int) + n3 := hrm
       have hsz2 : (rl2 : Int) ≤ size := hsz2
       have hst : (left2 ≤ 0 ∨ (rl2 : Int) = size) := hst
       have hR1 := n_stop (q := q3) (last := last) (row := n3) (kind := x) (lens := lens) (left := left) (l := 0) (m := n3) (F := RF k2) (size := size) (by rw [← hrl, ← hrm]; exact hsz2) (by rw [← hrl, ← hleft2, ← hrm]; exact hst)
       rw [← hN, ← hlens2, ← hleft2] at hR1
       cbv
       have hnfS : vnotB false = true := by rw [qnotB]; rfl
       rw [hnfS]
       cbv
       intro js5
       refine call_conX (ρ := []) (hmust _) ⟨by rfl, by rfl, by rfl, by cbv⟩ ?_ ?_
       rotate_left
       ·rintro v H R js4 ⟨hz, rfl, rfl, rfl⟩
        have hz3 : left2 ≠ 0 := by rw [qc, eql_false] at hz; exact hz
        have hk := k5 _ _ _ hR1 hz3
        cbv
        exact ⟨[0, 1, 2, 3, 4, 5], .iface 75 (.agg [.int .i64 11]), [.one 33 [.ptr 2 .z 4 0], .one 3 [.int .i64 size], (.one 81 [.fn 39 [.ptr 3 .z 1 0, .ptr 4 .z 1 0], .int .u64 acc4, .int .i64 hv4, .fn 40 [.ptr 4 .z 1 0, .ptr 3 .z 1 0]]), .one 3 [.int .i64 ai4], .one 22 [.slice 5 .z 1 bl cap], .ro .u8 b], rfl, rfl, rfl, rfl, ⟨rfl, rfl, rfl, rfl, rfl, rfl, trivial⟩, 11, hk, rfl, rfl, acc4, hv4, ai4, rfl⟩
       rintro v H R js4 ⟨hz, rfl, rfl, rfl⟩
       have hz3 : left2 = 0 := by rw [qc, eql_true] at hz; exact hz
       subst hz3
       have hk := k4 _ _ hR1
       cbv
       obtain ⟨rI, hrI⟩ : ∃ rI : Int, rI = rl2 := ⟨_, rfl⟩
       have hofr : vofN rl2 = rI := by rw [qofN]; exact hrI.symm
       obtain ⟨d, hd⟩ : ∃ d : Int, d = size - rI := ⟨_, rfl⟩
       have ed : vb .sub .i64 size rI = d := by simp only [nc] at *; rw [qb, sub_i64 (by omega) (by omega)]; exact hd.symm
       have hdt : vtoN d = d.toNat := by rw [qtoN]
       obtain ⟨dN, hdN⟩ : ∃ dN, dN = d.toNat := ⟨_, rfl⟩
       have hrepd : vrep dN 0 = List.replicate dN 0 := by rw [qrep]
       obtain ⟨Z, hZ⟩ : ∃ Z, Z = List.replicate dN (0 : Int) := ⟨_, rfl⟩
       obtain ⟨Lf, hLf⟩ : ∃ Lf, Lf = lens2 ++ Z := ⟨_, rfl⟩
       have hontoZ : vonto lens2 rl2 Z = Lf := by rw [qonto, hLf, hrl2]; simp
       have hvlS : vln lens2 = rl2 := by rw [qln, hrl2]
       obtain ⟨rt, hrt⟩ : ∃ rt, rt = rl2 + dN := ⟨_, rfl⟩
       have hart : vaddN rl2 dN = rt := by rw [qaddN, hrt]
       have hkf : lens2 ++ List.replicate (size - (lens2.length : Int)).toNat 0 = Lf := by
        rw [hLf, hZ, hdN, hd, hrI, ← hrl2]
       have hLfl : rt = Lf.length := by rw [hrt, hLf, hZ, List.length_append, List.length_replicate, ← hrl2]
       have hrt4 : rt ≤ 1024 := by simp only [nc] at *; omega
       have hd0 : 0 ≤ d ∧ d ≤ 1024 := by simp only [nc] at *; omega
       rw [hkf] at hk
       rw [hofr, ed, hdt, ← hdN, hrepd, ← hZ]
       refine ⟨⟨hd0.1⟩, ⟨by show d * 1 ≤ 281474976710656; omega⟩, ⟨by rw [hvlS]; exact Nat.le_refl _⟩, ⟨Nat.le_refl _⟩, ⟨by rw [hart]; omega⟩, ?_⟩
       intro c3 js6 hc3
       clear hc3
       cbv
       rw [hontoZ, hart]
       clear hLf hkf hontoZ
       subst hLfl
       exact ⟨[0, 1, 2, 3, 4, 5, 8], .agg [.slice 6 .z 1 Lf.length c3, .lit .i64 0], [.one 33 [.ptr 2 .z 4 0], .one 3 [.int .i64 size], (.one 81 [.fn 39 [.ptr 3 .z 1 0, .ptr 4 .z 1 0], .int .u64 acc4, .int .i64 hv4, .fn 40 [.ptr 4 .z 1 0, .ptr 3 .z 1 0]]), .one 3 [.int .i64 ai4], .one 22 [.slice 5 .z 1 bl cap], .ro .u8 b, .buf 5 .u8 Lf c3], rfl, rfl, rfl, rfl, ⟨rfl, rfl, rfl, rfl, rfl, rfl, rfl, trivial⟩, .inr Lf, q3, hk, rfl, acc4, hv4, ai4, h6, .inr ⟨Lf, c3, c3, rfl, rfl, rfl⟩⟩
     ·rintro v s' ⟨he, hno, js2, rfl⟩
      cases he
      have hno : ¬ ((rl : Int) + n3 ≤ size) := hno
      have hNp := n_pan (q := q3) (last := last) (row := n3) (kind := x) (lens := lens) (left := left) (l := 0) (m := n3) (F := RF k2) (size := size) (by rw [← hrl]; exact hno)
      rw [← hN] at hNp
      have hk := k3 _ hNp
      cbv
      intro js5
      exact ⟨[0, 1, 2, 3, 4, 5], .iface 75 (.agg [.int .i64 11]), [.one 33 [.ptr 2 .z 4 0], .one 3 [.int .i64 size], (.one 81 [.fn 39 [.ptr 3 .z 1 0, .ptr 4 .z 1 0], .int .u64 acc4, .int .i64 hv4, .fn 40 [.ptr 4 .z 1 0, .ptr 3 .z 1 0]]), .one 3 [.int .i64 ai4], .one 22 [.slice 5 .z 1 bl cap], .ro .u8 b], rfl, rfl, rfl, rfl, ⟨rfl, rfl, rfl, rfl, rfl, rfl, trivial⟩, 11, hk, rfl, rfl, acc4, hv4, ai4, rfl⟩
 ·rw [hsk] at hi
  have hin := hinn _ _ _ _ (by omega) (by omega) hi
  obtain ⟨S, hS⟩ : ∃ S, S = size.toNat := ⟨_, rfl⟩
  have htS : vtoN size = S := by rw [qtoN]; exact hS.symm
  have hto0 : vtoN 0 = 0 := by rw [qtoN]; rfl
  have hnt : vnotB true = false := by rw [qnotB]; rfl
  obtain ⟨RF, hRF⟩ : ∃ RF, RF = RD (nxR b (.inr L)) size := ⟨_, rfl⟩
  have f_e := fun k p last row kind lens left e => @f_e (nxR b (.inr L)) size k p last row kind left e lens
  have f_a := fun k p q last row kind lens left x => @f_a (nxR b (.inr L)) size k p q last row kind left x lens
  have f_g := fun k p q last row kind lens left x e => @f_g (nxR b (.inr L)) size k p q last row kind left x e lens
  have f_b := fun k p q q2 last row kind lens left x n => @f_b (nxR b (.inr L)) size k p q q2 last row kind left x n lens
  rw [← hRF] at f_e f_a f_g f_b
  have k3 := fun e => k3 x q (.inr L) q2 e hg hx1 hi
  have k4 := fun lens q3 => k4 x q (.inr L) q2 lens q3 hg hx1 hi
  have k5 := fun lens left q3 => k5 x q (.inr L) q2 lens left q3 hg hx1 hi
  rw [← hRF, ← hS] at k3 k4 k5
  have hnr := fun p x q => nxr b (.inr L) hin.1 p q x
  have hbody := hb2
  have hLl : L.length = 18 := hin.1.1
  obtain ⟨ll, hll⟩ : ∃ ll, ll = L.length := ⟨_, rfl⟩
  have hnx : ∀ p acc hv ai, RS b p acc hv ai → p ≤ 8 * bl → ConX P 35 [.ptr 0 .z 4 0, .agg [.slice 4 .z 1 ll ll, .int .i64 0]] [(.one 81 [.fn 39 [.ptr 1 .z 1 0, .ptr 2 .z 1 0], .int .u64 acc, .int .i64 hv, .fn 40 [.ptr 2 .z 1 0, .ptr 1 .z 1 0]]), .one 3 [.int .i64 ai], .one 22 [.slice 3 .z 1 bl cap], .ro .u8 b, .ro .u8 L] (PostR b (nxR b (.inr L) p) (.int .i64) (fun a h i => [(.one 81 [.fn 39 [.ptr 1 .z 1 0, .ptr 2 .z 1 0], .int .u64 a, .int .i64 h, .fn 40 [.ptr 2 .z 1 0, .ptr 1 .z 1 0]]), .one 3 [.int .i64 i], .one 22 [.slice 3 .z 1 bl cap], .ro .u8 b, .ro .u8 L])) (PanR (nxR b (.inr L) p) (fun a h i => [(.one 81 [.fn 39 [.ptr 1 .z 1 0, .ptr 2 .z 1 0], .int .u64 a, .int .i64 h, .fn 40 [.ptr 2 .z 1 0, .ptr 1 .z 1 0]]), .one 3 [.int .i64 i], .one 22 [.slice 3 .z 1 bl cap], .ro .u8 b, .ro .u8 L])) := fun p acc hv ai h hp => by rw [hll]; exact nx2 L p acc hv ai hin.1.2.2.2 h (by omega) (by omega) hp
  rw [← hll]
  rw [← hbl] at hnr
  obtain ⟨NX, hNX⟩ : ∃ NX, NX = nxR b (.inr L) := ⟨_, rfl⟩
  rw [← hNX] at f_e f_a f_g f_b hnx hnr
  clear hNX
  obtain ⟨r1, hr1⟩ : ∃ r1, RF S q2 8 0 0 [] 32768 = r1 := ⟨_, rfl⟩
  rw [hr1] at k3 k4 k5
  have hin2 := hin.2
  clear hRF hin
  cbv
  refine ⟨⟨by decide⟩, ⟨by omega⟩, ⟨by rw [htS]; constructor <;> simp <;> omega⟩, ⟨by show size * 1 ≤ 281474976710656; omega⟩, ?_⟩
  rw [htS, hto0]
  refine inl_walkX hw hm f30 (by rfl) ?_
  cbv
  intro js1
  have hrepS : S ≤ (vrep S 0).length := by rw [qrep]; simp
  refine WX.cv (Cv.blockEq 9 (.ints 5 .u8 (vrep S 0)) (.buf 5 .u8 [] S) (by rfl) (by rfl) (by rfl) (by rfl) (fun _ _ _ => holds_ints_buf hrepS) ?_)
  refine Cv.hav (List.range' 9 15) fun js0 => Cv.here ?_
  refine range_rule (by rfl) (by rfl) (by cbv) (by cbv) (by rfl) ?_
  refine inl_walkX hw hm f58 (by rfl) ?_
  cbv

  refine loop_fam (α := Int × Int × Int × Nat × Int × Int × Int × List Int × Nat × Nat × Int) ((List.range' 7 24) ++ (List.range' 31 23)) [9]
   (fun (last, row, kind, p, acc, hv, ai, lens, rl, cl, left) => [(4, .int .u8 last), (5, .int .i64 row), (6, .int .i64 kind)])
   (fun (last, row, kind, p, acc, hv, ai, lens, rl, cl, left) => [(2, (.one 81 [.fn 39 [.ptr 3 .z 1 0, .ptr 4 .z 1 0], .int .u64 acc, .int .i64 hv, .fn 40 [.ptr 4 .z 1 0, .ptr 3 .z 1 0]])), (3, .one 3 [.int .i64 ai]), (9, .buf 5 .u8 lens cl), (10, .one 24 [.slice 9 .z 1 rl cl, .lit .i64 0]), (11, .one 3 [.int .i64 left])])
   (fun (last, row, kind, p, acc, hv, ai, lens, rl, cl, left) => ∃ k : Nat, RF k p last row kind lens left = r1 ∧ S - rl ≤ k ∧ rl = lens.length ∧ rl ≤ cl ∧ (rl : Int) < size ∧ 0 < left ∧ left ≤ 32768 ∧ RS b p acc hv ai ∧ p ≤ 8 * bl ∧ 1 ≤ last ∧ last ≤ 15 ∧ (kind < 16 ∨ (3 ≤ row ∧ row ≤ (rl : Int))))
   (fun (last, row, kind, p, acc, hv, ai, lens, rl, cl, left) => size.toNat - rl) hw hm ?_ ?_
  ·refine Cv.genAt [4, 5, 6] [11] (Cv.fold ((List.range' 7 24) ++ (List.range' 31 23)) 16 [9] (by exact Nat.le_refl _) (by exact Nat.le_of_ble_eq_true rfl) (by rfl) (by cbv) ?_)
   intro js
   refine ⟨(_, _, _, q2, _, _, _, _, _, _, _), ?_, js, rfl⟩
   exact ⟨S, hr1, by omega, rfl, by omega, by show (0 : Int) < size; omega, by decide, by decide, h3, hin2.2, by decide, by decide, .inl (by decide)⟩
  rintro ⟨last, row, kind, p, acc, hv, ai, lens, rl, cl, left⟩ js ⟨k, hRFk, hk, hrl, hrc, hrs, hleft1, hleft2, h4, hp4, hla1, hla2, hrow⟩
  have hleft : 0 < left ∧ left ≤ 32768 := ⟨hleft1, hleft2⟩
  have hrs : (rl : Int) < size := hrs
  have hrow : kind < 16 ∨ (3 ≤ row ∧ row ≤ (rl : Int)) := hrow
  obtain ⟨k2, rfl⟩ : ∃ k2, k = k2 + 1 := ⟨k - 1, by omega⟩
  have hnxp := hnx p acc hv ai h4 hp4
  cbv
  refine call_conX (ρ := [(2, .z), (3, .z), (4, .z), (5, .z), (7, .z)]) hnxp ⟨by rfl, by rfl, by rfl, by cbv; exact ⟨view_refl _, view_refl _, trivial⟩⟩ ?_ ?_
  rotate_left
  ·rintro v H R js3 ⟨e, hge, rfl, rfl, a, h, i2, rfl⟩
   have hS1 := f_e k2 p last row kind lens left e hge
   rw [hRFk] at hS1
   have hk := k3 _ hS1
   cbv
   intro js5
   exact ⟨[0, 1, 2, 3, 4, 5], .iface 75 (.agg [.int .i64 e]), [.one 33 [.ptr 2 .z 4 0], .one 3 [.int .i64 size], (.one 81 [.fn 39 [.ptr 3 .z 1 0, .ptr 4 .z 1 0], .int .u64 a, .int .i64 h, .fn 40 [.ptr 4 .z 1 0, .ptr 3 .z 1 0]]), .one 3 [.int .i64 i2], .one 22 [.slice 5 .z 1 bl cap], .ro .u8 b], rfl, rfl, rfl, rfl, ⟨rfl, rfl, rfl, rfl, rfl, rfl, trivial⟩, e, hk, rfl, rfl, a, h, i2, rfl⟩
  rintro v H R js3 ⟨x, q, hgx, rfl, rfl, acc3, hv3, ai3, h5, rfl⟩
  have hxr := hnr p x q hp4 hgx
  cbv
  by_cases hx16 : x < 16
  ·have e16 : vc .lss x 16 = true := by rw [qc, lss_true]; exact hx16
   have hN := f_a k2 p q last row kind lens left x hgx hx16
   rw [hRFk] at hN
   rw [e16]
   cbv
   by_cases hx0 : x > 0
   ·have e0 : vc .gtr x 0 = true := by rw [qc, gtr_true]; exact hx0
    have ewx : vw .u8 x = x := by rw [qw]; exact wrap_u8 (by omega) (by omega)
    rw [if_pos hx0] at hN
    rw [e0]
    cbv
    rw [ewx]
    refine YieldX.gen ?_
    refine YieldX.mono ?_ ?_ (hbody js0 _ b bl cap acc3 hv3 ai3 size sk L ll lens rl cl left x 1 (by rfl) (by omega) (by omega) (by constructor <;> omega) hrl hrc hrs (by omega) hleft)
    ·rintro v s' ⟨rl2, cl2, lens2, left2, js2, hlens2, hrl2, hrc2, hleft2, hsz2, hrm, ⟨rfl, hgo, rfl⟩ | ⟨rfl, hst, rfl⟩⟩
     ·have hrm : (rl2 : Int) = (rl : Int) + 1 := hrm
      have hsz2 : (rl2 : Int) ≤ size := hsz2
      have hgo : ¬ (left2 ≤ 0 ∨ (rl2 : Int) = size) := hgo
      have hpn := pw_nonneg x
      have hleft3 : left2 ≤ left := by rw [hleft2]; have := Int.mul_nonneg (show 0 ≤ 1 by omega) hpn; omega
      have hNg := n_go (q := q) (last := x) (row := row) (kind := 0) (lens := lens) (left := left) (l := x) (m := 1) (F := RF k2) (size := size) (by rw [← hrl, ← hrm]; exact hsz2) (by rw [← hrl, ← hleft2, ← hrm]; exact hgo)
      rw [← hN, ← hlens2, ← hleft2] at hNg
      have hmu : size.toNat - rl2 < size.toNat - rl := by omega
      cbv
      rw [hnt]
      cbv
      refine Cv.genAt [6] [] (Cv.fold ((List.range' 7 24) ++ (List.range' 31 23)) 16 [9] (by exact Nat.le_refl _) (by exact Nat.le_of_ble_eq_true rfl) (by rfl) (by cbv) ?_)
      intro js
      refine ⟨(_, _, _, q, _, _, _, _, _, _, _), ?_, js, rfl⟩
      exact ⟨⟨k2, hNg.symm, by omega, hrl2, hrc2, by omega, by omega, by omega, h5, by omega, by omega, by omega, .inl (by decide)⟩, hmu⟩
     ·have hrm : (rl2 : Int) = (rl : Int) + 1 := hrm
      have hsz2 : (rl2 : Int) ≤ size := hsz2
      have hst : (left2 ≤ 0 ∨ (rl2 : Int) = size) := hst
      have hR1 := n_stop (q := q) (last := x) (row := row) (kind := 0) (lens := lens) (left := left) (l := x) (m := 1) (F := RF k2) (size := size) (by rw [← hrl, ← hrm]; exact hsz2) (by rw [← hrl, ← hleft2, ← hrm]; exact hst)
      rw [← hN, ← hlens2, ← hleft2] at hR1
      cbv
      have hnfS : vnotB false = true := by rw [qnotB]; rfl
      rw [hnfS]
      cbv
      intro js5
      refine call_conX (ρ := []) (hmust _) ⟨by rfl, by rfl, by rfl, by cbv⟩ ?_ ?_
      rotate_left
      ·rintro v H R js4 ⟨hz, rfl, rfl, rfl⟩
       have hz3 : left2 ≠ 0 := by rw [qc, eql_false] at hz; exact hz
       have hk := k5 _ _ _ hR1 hz3
       cbv
       exact ⟨[0, 1, 2, 3, 4, 5], .iface 75 (.agg [.int .i64 11]), [.one 33 [.ptr 2 .z 4 0], .one 3 [.int .i64 size], (.one 81 [.fn 39 [.ptr 3 .z 1 0, .ptr 4 .z 1 0], .int .u64 acc3, .int .i64 hv3, .fn 40 [.ptr 4 .z 1 0, .ptr 3 .z 1 0]]), .one 3 [.int .i64 ai3], .one 22 [.slice 5 .z 1 bl cap], .ro .u8 b], rfl, rfl, rfl, rfl, ⟨rfl, rfl, rfl, rfl, rfl, rfl, trivial⟩, 11, hk, rfl, rfl, acc3, hv3, ai3, rfl⟩
      rintro v H R js4 ⟨hz, rfl, rfl, rfl⟩
      have hz3 : left2 = 0 := by rw [qc, eql_true] at hz; exact hz
      subst hz3
      have hk := k4 _ _ hR1
      cbv
      obtain ⟨rI, hrI⟩ : ∃ rI : Int, rI = rl2 := ⟨_, rfl⟩
      have hofr : vofN rl2 = rI := by rw [qofN]; exact hrI.symm
      obtain ⟨d, hd⟩ : ∃ d : Int, d = size - rI := ⟨_, rfl⟩
      have ed : vb .sub .i64 size rI = d := by simp only [nc] at *; rw [qb, sub_i64 (by omega) (by omega)]; exact hd.symm
      have hdt : vtoN d = d.toNat := by rw [qtoN]
      obtain ⟨dN, hdN⟩ : ∃ dN, dN = d.toNat := ⟨_, rfl⟩
      have hrepd : vrep dN 0 = List.replicate dN 0 := by rw [qrep]
      obtain ⟨Z, hZ⟩ : ∃ Z, Z = List.replicate dN (0 : Int) := ⟨_, rfl⟩
      obtain ⟨Lf, hLf⟩ : ∃ Lf, Lf = lens2 ++ Z := ⟨_, rfl⟩
      have hontoZ : vonto lens2 rl2 Z = Lf := by rw [qonto, hLf, hrl2]; simp
      have hvlS : vln lens2 = rl2 := by rw [qln, hrl2]
      obtain ⟨rt, hrt⟩ : ∃ rt, rt = rl2 + dN := ⟨_, rfl⟩
      have hart : vaddN rl2 dN = rt := by rw [qaddN, hrt]
      have hkf : lens2 ++ List.replicate (size - (lens2.length : Int)).toNat 0 = Lf := by
       rw [hLf, hZ, hdN, hd, hrI, ← hrl2]
      have hLfl : rt = Lf.length := by rw [hrt, hLf, hZ, List.length_append, List.length_replicate, ← hrl2]
      have hrt4 : rt ≤ 1024 := by simp only [nc] at *; omega
      have hd0 : 0 ≤ d ∧ d ≤ 1024 := by simp only [nc] at *; omega
      rw [hkf] at hk
      rw [hofr, ed, hdt, ← hdN, hrepd, ← hZ]
      refine ⟨⟨hd0.1⟩, ⟨by show d * 1 ≤ 281474976710656; omega⟩, ⟨by rw [hvlS]; exact Nat.le_refl _⟩, ⟨Nat.le_refl _⟩, ⟨by rw [hart]; omega⟩, ?_⟩
      intro c3 js6 hc3
      clear hc3
      cbv
      rw [hontoZ, hart]
      clear hLf hkf hontoZ
      subst hLfl
      exact ⟨[0, 1, 2, 3, 4, 5, 9], .agg [.slice 6 .z 1 Lf.length c3, .lit .i64 0], [.one 33 [.ptr 2 .z 4 0], .one 3 [.int .i64 size], (.one 81 [.fn 39 [.ptr 3 .z 1 0, .ptr 4 .z 1 0], .int .u64 acc3, .int .i64 hv3, .fn 40 [.ptr 4 .z 1 0, .ptr 3 .z 1 0]]), .one 3 [.int .i64 ai3], .one 22 [.slice 5 .z 1 bl cap], .ro .u8 b, .buf 5 .u8 Lf c3], rfl, rfl, rfl, rfl, ⟨rfl, rfl, rfl, rfl, rfl, rfl, rfl, trivial⟩, .inr Lf, q, hk, rfl, acc3, hv3, ai3, h5, .inr ⟨Lf, c3, c3, rfl, rfl, rfl⟩⟩
    ·rintro v s' ⟨he, hno, js2, rfl⟩
     cases he
     have hno : ¬ ((rl : Int) + 1 ≤ size) := hno
     have hNp := n_pan (q := q) (last := x) (row := row) (kind := 0) (lens := lens) (left := left) (l := x) (m := 1) (F := RF k2) (size := size) (by rw [← hrl]; exact hno)
     rw [← hN] at hNp
     have hk := k3 _ hNp
     cbv
     intro js5
     exact ⟨[0, 1, 2, 3, 4, 5], .iface 75 (.agg [.int .i64 11]), [.one 33 [.ptr 2 .z 4 0], .one 3 [.int .i64 size], (.one 81 [.fn 39 [.ptr 3 .z 1 0, .ptr 4 .z 1 0], .int .u64 acc3, .int .i64 hv3, .fn 40 [.ptr 4 .z 1 0, .ptr 3 .z 1 0]]), .one 3 [.int .i64 ai3], .one 22 [.slice 5 .z 1 bl cap], .ro .u8 b], rfl, rfl, rfl, rfl, ⟨rfl, rfl, rfl, rfl, rfl, rfl, trivial⟩, 11, hk, rfl, rfl, acc3, hv3, ai3, rfl⟩
   ·have e0 : vc .gtr x 0 = false := by rw [qc, gtr_false]; exact hx0
    have ewx : vw .u8 x = x := by rw [qw]; exact wrap_u8 (by omega) (by omega)
    rw [if_neg hx0] at hN
    rw [e0]
    cbv
    rw [ewx]
    refine YieldX.gen ?_
    refine YieldX.mono ?_ ?_ (hbody js0 _ b bl cap acc3 hv3 ai3 size sk L ll lens rl cl left x 1 (by rfl) (by omega) (by omega) (by constructor <;> omega) hrl hrc hrs (by omega) hleft)
    ·rintro v s' ⟨rl2, cl2, lens2, left2, js2, hlens2, hrl2, hrc2, hleft2, hsz2, hrm, ⟨rfl, hgo, rfl⟩ | ⟨rfl, hst, rfl⟩⟩
     ·have hrm : (rl2 : Int) = (rl : Int) + 1 := hrm
      have hsz2 : (rl2 : Int) ≤ size := hsz2
      have hgo : ¬ (left2 ≤ 0 ∨ (rl2 : Int) = size) := hgo
      have hpn := pw_nonneg x
      have hleft3 : left2 ≤ left := by rw [hleft2]; have := Int.mul_nonneg (show 0 ≤ 1 by omega) hpn; omega
      have hNg := n_go (q := q) (last := last) (row := row) (kind := 0) (lens := lens) (left := left) (l := x) (m := 1) (F := RF k2) (size := size) (by rw [← hrl, ← hrm]; exact hsz2) (by rw [← hrl, ← hleft2, ← hrm]; exact hgo)
      rw [← hN, ← hlens2, ← hleft2] at hNg
      have hmu : size.toNat - rl2 < size.toNat - rl := by omega
      cbv
      rw [hnt]
      cbv
      refine Cv.genAt [6] [] (Cv.fold ((List.range' 7 24) ++ (List.range' 31 23)) 16 [9] (by exact Nat.le_refl _) (by exact Nat.le_of_ble_eq_true rfl) (by rfl) (by cbv) ?_)
      intro js
      refine ⟨(_, _, _, q, _, _, _, _, _, _, _), ?_, js, rfl⟩
      exact ⟨⟨k2, hNg.symm, by omega, hrl2, hrc2, by omega, by omega, by omega, h5, by omega, by omega, by omega, .inl (by decide)⟩, hmu⟩
     ·have hrm : (rl2 : Int) = (rl : Int) + 1 := hrm
      have hsz2 : (rl2 : Int) ≤ size := hsz2
      have hst : (left2 ≤ 0 ∨ (rl2 : Int) = size) := hst
      have hR1 := n_stop (q := q) (last := last) (row := row) (kind := 0) (lens := lens) (left := left) (l := x) (m := 1) (F := RF k2) (size := size) (by rw [← hrl, ← hrm]; exact hsz2) (by rw [← hrl, ← hleft2, ← hrm]; exact hst)
      rw [← hN, ← hlens2, ← hleft2] at hR1
      cbv
      have hnfS : vnotB false = true := by rw [qnotB]; rfl
      rw [hnfS]
      cbv
      intro js5
      refine call_conX (ρ := []) (hmust _) ⟨by rfl, by rfl, by rfl, by cbv⟩ ?_ ?_
      rotate_left
      ·rintro v H R js4 ⟨hz, rfl, rfl, rfl⟩
       have hz3 : left2 ≠ 0 := by rw [qc, eql_false] at hz; exact hz
       have hk := k5 _ _ _ hR1 hz3
       cbv
       exact ⟨[0, 1, 2, 3, 4, 5], .iface 75 (.agg [.int .i64 11]), [.one 33 [.ptr 2 .z 4 0], .one 3 [.int .i64 size], (.one 81 [.fn 39 [.ptr 3 .z 1 0, .ptr 4 .z 1 0], .int .u64 acc3, .int .i64 hv3, .fn 40 [.ptr 4 .z 1 0, .ptr 3 .z 1 0]]), .one 3 [.int .i64 ai3], .one 22 [.slice 5 .z 1 bl cap], .ro .u8 b], rfl, rfl, rfl, rfl, ⟨rfl, rfl, rfl, rfl, rfl, rfl, trivial⟩, 11, hk, rfl, rfl, acc3, hv3, ai3, rfl⟩
      rintro v H R js4 ⟨hz, rfl, rfl, rfl⟩
      have hz3 : left2 = 0 := by rw [qc, eql_true] at hz; exact hz
      subst hz3
      have hk := k4 _ _ hR1
      cbv
      obtain ⟨rI, hrI⟩ : ∃ rI : Int, rI = rl2 := ⟨_, rfl⟩
      have hofr : vofN rl2 = rI := by rw [qofN]; exact hrI.symm
      obtain ⟨d, hd⟩ : ∃ d : Int, d = size - rI := ⟨_, rfl⟩
      have ed : vb .sub .i64 size rI = d := by simp only [nc] at *; rw [qb, sub_i64 (by omega) (by omega)]; exact hd.symm
      have hdt : vtoN d = d.toNat := by rw [qtoN]
      obtain ⟨dN, hdN⟩ : ∃ dN, dN = d.toNat := ⟨_, rfl⟩
      have hrepd : vrep dN 0 = List.replicate dN 0 := by rw [qrep]
      obtain ⟨Z, hZ⟩ : ∃ Z, Z = List.replicate dN (0 : Int) := ⟨_, rfl⟩
      obtain ⟨Lf, hLf⟩ : ∃ Lf, Lf = lens2 ++ Z := ⟨_, rfl⟩
      have hontoZ : vonto lens2 rl2 Z = Lf := by rw [qonto, hLf, hrl2]; simp
      have hvlS : vln lens2 = rl2 := by rw [qln, hrl2]
      obtain ⟨rt, hrt⟩ : ∃ rt, rt = rl2 + dN := ⟨_, rfl⟩
      have hart : vaddN rl2 dN = rt := by rw [qaddN, hrt]
      have hkf : lens2 ++ List.replicate (size - (lens2.length : Int)).toNat 0 = Lf := by
       rw [hLf, hZ, hdN, hd, hrI, ← hrl2]
      have hLfl : rt = Lf.length := by rw [hrt, hLf, hZ, List.length_append, List.length_replicate, ← hrl2]
      have hrt4 : rt ≤ 1024 := by simp only [nc] at *; omega
      have hd0 : 0 ≤ d ∧ d ≤ 1024 := by simp only [nc] at *; omega
      rw [hkf] at hk
      rw [hofr, ed, hdt, ← hdN, hrepd, ← hZ]
      refine ⟨⟨hd0.1⟩, ⟨by show d * 1 ≤ 281474976710656; omega⟩, ⟨by rw [hvlS]; exact Nat.le_refl _⟩, ⟨Nat.le_refl _⟩, ⟨by rw [hart]; omega⟩, ?_⟩
      intro c3 js6 hc3
      clear hc3
      cbv
      rw [hontoZ, hart]
      clear hLf hkf hontoZ
      subst hLfl
      exact ⟨[0, 1, 2, 3, 4, 5, 9], .agg [.slice 6 .z 1 Lf.length c3, .lit .i64 0], [.one 33 [.ptr 2 .z 4 0], .one 3 [.int .i64 size], (.one 81 [.fn 39 [.ptr 3 .z 1 0, .ptr 4 .z 1 0], .int .u64 acc3, .int .i64 hv3, .fn 40 [.ptr 4 .z 1 0, .ptr 3 .z 1 0]]), .one 3 [.int .i64 ai3], .one 22 [.slice 5 .z 1 bl cap], .ro .u8 b, .buf 5 .u8 Lf c3], rfl, rfl, rfl, rfl, ⟨rfl, rfl, rfl, rfl, rfl, rfl, rfl, trivial⟩, .inr Lf, q, hk, rfl, acc3, hv3, ai3, h5, .inr ⟨Lf, c3, c3, rfl, rfl, rfl⟩⟩
    ·rintro v s' ⟨he, hno, js2, rfl⟩
     cases he
     have hno : ¬ ((rl : Int) + 1 ≤ size) := hno
     have hNp := n_pan (q := q) (last := last) (row := row) (kind := 0) (lens := lens) (left := left) (l := x) (m := 1) (F := RF k2) (size := size) (by rw [← hrl]; exact hno)
     rw [← hN] at hNp
     have hk := k3 _ hNp
     cbv
     intro js5
     exact ⟨[0, 1, 2, 3, 4, 5], .iface 75 (.agg [.int .i64 11]), [.one 33 [.ptr 2 .z 4 0], .one 3 [.int .i64 size], (.one 81 [.fn 39 [.ptr 3 .z 1 0, .ptr 4 .z 1 0], .int .u64 acc3, .int .i64 hv3, .fn 40 [.ptr 4 .z 1 0, .ptr 3 .z 1 0]]), .one 3 [.int .i64 ai3], .one 22 [.slice 5 .z 1 bl cap], .ro .u8 b], rfl, rfl, rfl, rfl, ⟨rfl, rfl, rfl, rfl, rfl, rfl, trivial⟩, 11, hk, rfl, rfl, acc3, hv3, ai3, rfl⟩
  ·have e16 : vc .lss x 16 = false := by rw [qc, lss_false]; exact hx16
   rw [e16]
   have hx2 : x = 16 ∨ x = 17 := by omega
   obtain ⟨x14, hx14⟩ : ∃ x14 : Int, x14 = x - 14 := ⟨_, rfl⟩
   have e14 : vb .sub .i64 x 14 = x14 := by rw [qb, sub_i64 (by omega) (by omega)]; exact hx14.symm
   have hgg := gn (x - 14).toNat q acc3 hv3 ai3 h5 (by omega)
   simp only [nc] at hgg
   rw [show (((x - 14).toNat : Nat) : Int) = x14 by omega] at hgg
   have hF := fun e => f_g k2 p q last row kind lens left x e hgx hx16
   have hB := fun q2 n => f_b k2 p q q2 last row kind lens left x n hgx hx16
   have hgR := fun nn q2 => hgn (x - 14).toNat q nn q2
   rw [hRFk] at hF hB
   obtain ⟨kN, hkN⟩ : ∃ kN, kN = (x - 14).toNat := ⟨_, rfl⟩
   rw [← hkN] at hgg hF hB hgR
   cbv
   rw [e14]
   refine call_conX (ρ := [(2, .z), (3, .z), (4, .z), (5, .z)]) hgg ⟨by rfl, by rfl, by rfl, by cbv; exact ⟨view_refl _, trivial⟩⟩ ?_ ?_
   rotate_left
   ·rintro v H R js3 ⟨e, hge, rfl, rfl, a, h, i2, rfl⟩
    have hk := k3 _ (hF e hge)
    cbv
    intro js5
    exact ⟨[0, 1, 2, 3, 4, 5], .iface 75 (.agg [.int .i64 e]), [.one 33 [.ptr 2 .z 4 0], .one 3 [.int .i64 size], (.one 81 [.fn 39 [.ptr 3 .z 1 0, .ptr 4 .z 1 0], .int .u64 a, .int .i64 h, .fn 40 [.ptr 4 .z 1 0, .ptr 3 .z 1 0]]), .one 3 [.int .i64 i2], .one 22 [.slice 5 .z 1 bl cap], .ro .u8 b], rfl, rfl, rfl, rfl, ⟨rfl, rfl, rfl, rfl, rfl, rfl, trivial⟩, e, hk, rfl, rfl, a, h, i2, rfl⟩
   rintro v H R js3 ⟨nn, q3, hgq, rfl, rfl, acc4, hv4, ai4, h6, rfl⟩
   have hnr2 := hgR nn q3 hgq
   have hN := hB q3 nn hgq
   have hkv : (kN = 2 ∧ x = 16) ∨ (kN = 3 ∧ x = 17) := by omega
   have hp2 : 1 ≤ (2 : Int) ^ kN ∧ (2 : Int) ^ kN ≤ 8 ∧ nn < 8 := by
    have h7 := hnr2.2.1
    rcases hkv with ⟨h, _⟩ | ⟨h, _⟩ <;> rw [h] at h7 ⊢ <;> omega
   obtain ⟨n3, hn3⟩ : ∃ n3 : Int, n3 = 3 + nn := ⟨_, rfl⟩
   have en3 : vb .add .i64 3 nn = n3 := by rw [qb, add_i64 (by omega) (by omega)]; exact hn3.symm
   cbv
   by_cases hkx : kind = x
   ·have ekx : vc .eql kind x = true := by rw [qc, eql_true]; exact hkx
    rw [if_pos hkx, if_pos hkx, ← hn3] at hN
    have hrw : 3 ≤ row ∧ row ≤ (rl : Int) := by
     rcases hrow with h9 | h9
     ·exact absurd (hkx ▸ h9) hx16
     ·exact h9
    obtain ⟨ra, hra⟩ : ∃ ra : Int, ra = row - 2 := ⟨_, rfl⟩
    have era : vb .sub .i64 row 2 = ra := by rw [qb, sub_i64 (by omega) (by omega)]; exact hra.symm
    have ew14 : vw .u64 x14 = x14 := by rw [qw]; exact wrap_u64 (by omega) (by omega)
    obtain ⟨rb, hrb⟩ : ∃ rb : Int, rb = ra * 2 ^ kN := ⟨_, rfl⟩
    have hrbr : rb = ra * 4 ∨ rb = ra * 8 := by
     rcases hkv with ⟨h, _⟩ | ⟨h, _⟩
     ·left; rw [hrb, h]; rfl
     ·right; rw [hrb, h]; rfl
    have erb : vb .shl .i64 ra x14 = rb := by
     rw [qb, hrb]
     show IntKind.i64.wrap (ra * 2 ^ (min x14.toNat IntKind.i64.bits)) = _
     rw [show min x14.toNat IntKind.i64.bits = kN by
      have hk3 : kN ≤ 3 := by omega
      rw [show x14.toNat = kN by omega]; exact Nat.min_eq_left (Nat.le_trans hk3 (by decide))]
     rw [← hrb]
     exact wrap_i64 (by omega) (by omega)
    obtain ⟨row2, hrow2⟩ : ∃ row2 : Int, row2 = rb + n3 := ⟨_, rfl⟩
    have erow : vb .add .i64 rb n3 = row2 := by rw [qb, add_i64 (by omega) (by omega)]; exact hrow2.symm
    obtain ⟨m, hm4⟩ : ∃ m : Int, m = row2 - row := ⟨_, rfl⟩
    have em : vb .sub .i64 row2 row = m := by rw [qb, sub_i64 (by omega) (by omega)]; exact hm4.symm
    rw [← hra, ← hrb, ← hrow2, ← hm4] at hN
    have hx140 : 0 ≤ x14 := by omega
    have hm1 : 1 ≤ m ∧ m ≤ 100000 := by omega
    have hrowX : 3 ≤ row2 ∧ row2 ≤ (rl : Int) + m := by omega
    rw [ekx]
    cbv
    rw [era, e14, ew14, erb, en3, erow]
    refine ⟨⟨hx140⟩, ?_⟩
    by_cases hx6 : x = 16
    ·have e6 : vc .eql x 16 = true := by rw [qc, eql_true]; exact hx6
     rw [if_pos hx6] at hN
     rw [e6]
     cbv
     rw [em]
     refine YieldX.gen ?_
     refine YieldX.mono ?_ ?_ (hbody js0 _ b bl cap acc4 hv4 ai4 size sk L ll lens rl cl left last m (by rfl) (by omega) (by omega) (by constructor <;> omega) hrl hrc hrs (by omega) hleft)
     ·rintro v s' ⟨rl2, cl2, lens2, left2, js2, hlens2, hrl2, hrc2, hleft2, hsz2, hrm, ⟨rfl, hgo, rfl⟩ | ⟨rfl, hst, rfl⟩⟩
      ·have hrm : (rl2 : Int) = (rl : Int) + m := hrm
       have hsz2 : (rl2 : Int) ≤ size := hsz2
       have hgo : ¬ (left2 ≤ 0 ∨ (rl2 : Int) = size) := hgo
       have hpn := pw_nonneg last
       have hleft3 : left2 ≤ left := by rw [hleft2]; have := Int.mul_nonneg (show 0 ≤ m by omega) hpn; omega
       have hNg := n_go (q := q3) (last := last) (row := row2) (kind := x) (lens := lens) (left := left) (l := last) (m := m) (F := RF k2) (size := size) (by rw [← hrl, ← hrm]; exact hsz2) (by rw [← hrl, ← hleft2, ← hrm]; exact hgo)
       rw [← hN, ← hlens2, ← hleft2] at hNg
       have hmu : size.toNat - rl2 < size.toNat - rl := by omega
       have hrl0 : 0 ≤ (rl : Int) := Int.natCast_nonneg rl
       have hrow9 : 3 ≤ row2 ∧ row2 ≤ (rl2 : Int) := by rw [hrm]; exact hrowX
       cbv
       rw [hnt]
       cbv
       refine Cv.genAt [6] [] (Cv.fold ((List.range' 7 24) ++ (List.range' 31 23)) 16 [9] (by exact Nat.le_refl _) (by exact Nat.le_of_ble_eq_true rfl) (by rfl) (by cbv) ?_)
       intro js
       refine ⟨(_, _, _, q3, _, _, _, _, _, _, _), ?_, js, rfl⟩
       exact ⟨⟨k2, hNg.symm, by omega, hrl2, hrc2, by omega, by omega, by omega, h6, by omega, by omega, by omega, .inr hrow9⟩, hmu⟩
      ·have hrm : (rl2 : Int) = (rl : Int) + m := hrm
       have hsz2 : (rl2 : Int) ≤ size := hsz2
       have hst : (left2 ≤ 0 ∨ (rl2 : Int) = size) := hst
       have hR1 := n_stop (q := q3) (last := last) (row := row2) (kind := x) (lens := lens) (left := left) (l := last) (m := m) (F := RF k2) (size := size) (by rw [← hrl, ← hrm]; exact hsz2) (by rw [← hrl, ← hleft2, ← hrm]; exact hst)
       rw [← hN, ← hlens2, ← hleft2] at hR1
       cbv
       have hnfS : vnotB false = true := by rw [qnotB]; rfl
       rw [hnfS]
       cbv
       intro js5
       refine call_conX (ρ := []) (hmust _) ⟨by rfl, by rfl, by rfl, by cbv⟩ ?_ ?_
       rotate_left
       ·rintro v H R js4 ⟨hz, rfl, rfl, rfl⟩
        have hz3 : left2 ≠ 0 := by rw [qc, eql_false] at hz; exact hz
        have hk := k5 _ _ _ hR1 hz3
        cbv
        exact ⟨[0, 1, 2, 3, 4, 5], .iface 75 (.agg [.int .i64 11]), [.one 33 [.ptr 2 .z 4 0], .one 3 [.int .i64 size], (.one 81 [.fn 39 [.ptr 3 .z 1 0, .ptr 4 .z 1 0], .int .u64 acc4, .int .i64 hv4, .fn 40 [.ptr 4 .z 1 0, .ptr 3 .z 1 0]]), .one 3 [.int .i64 ai4], .one 22 [.slice 5 .z 1 bl cap], .ro .u8 b], rfl, rfl, rfl, rfl, ⟨rfl, rfl, rfl, rfl, rfl, rfl, trivial⟩, 11, hk, rfl, rfl, acc4, hv4, ai4, rfl⟩
       rintro v H R js4 ⟨hz, rfl, rfl, rfl⟩
       have hz3 : left2 = 0 := by rw [qc, eql_true] at hz; exact hz
       subst hz3
       have hk := k4 _ _ hR1
       cbv
       obtain ⟨rI, hrI⟩ : ∃ rI : Int, rI = rl2 := ⟨_, rfl⟩
       have hofr : vofN rl2 = rI := by rw [qofN]; exact hrI.symm
       obtain ⟨d, hd⟩ : ∃ d : Int, d = size - rI := ⟨_, rfl⟩
       have ed : vb .sub .i64 size rI = d := by simp only [nc] at *; rw [qb, sub_i64 (by omega) (by omega)]; exact hd.symm
       have hdt : vtoN d = d.toNat := by rw [qtoN]
       obtain ⟨dN, hdN⟩ : ∃ dN, dN = d.toNat := ⟨_, rfl⟩
       have hrepd : vrep dN 0 = List.replicate dN 0 := by rw [qrep]
       obtain ⟨Z, hZ⟩ : ∃ Z, Z = List.replicate dN (0 : Int) := ⟨_, rfl⟩
       obtain ⟨Lf, hLf⟩ : ∃ Lf, Lf = lens2 ++ Z := ⟨_, rfl⟩
       have hontoZ : vonto lens2 rl2 Z = Lf := by rw [qonto, hLf, hrl2]; simp
       have hvlS : vln lens2 = rl2 := by rw [qln, hrl2]
       obtain ⟨rt, hrt⟩ : ∃ rt, rt = rl2 + dN := ⟨_, rfl⟩
       have hart : vaddN rl2 dN = rt := by rw [qaddN, hrt]
       have hkf : lens2 ++ List.replicate (size - (lens2.length : Int)).toNat 0 = Lf := by
        rw [hLf, hZ, hdN, hd, hrI, ← hrl2]
       have hLfl : rt = Lf.length := by rw [hrt, hLf, hZ, List.length_append, List.length_replicate, ← hrl2]
       have hrt4 : rt ≤ 1024 := by simp only [nc] at *; omega
       have hd0 : 0 ≤ d ∧ d ≤ 1024 := by simp only [nc] at *; omega
       rw [hkf] at hk
       rw [hofr, ed, hdt, ← hdN, hrepd, ← hZ]
       refine ⟨⟨hd0.1⟩, ⟨by show d * 1 ≤ 281474976710656; omega⟩, ⟨by rw [hvlS]; exact Nat.le_refl _⟩, ⟨Nat.le_refl _⟩, ⟨by rw [hart]; omega⟩, ?_⟩
       intro c3 js6 hc3
       clear hc3
       cbv
       rw [hontoZ, hart]
       clear hLf hkf hontoZ
       subst hLfl
       exact ⟨[0, 1, 2, 3, 4, 5, 9], .agg [.slice 6 .z 1 Lf.length c3, .lit .i64 0], [.one 33 [.ptr 2 .z 4 0], .one 3 [.int .i64 size], (.one 81 [.fn 39 [.ptr 3 .z 1 0, .ptr 4 .z 1 0], .int .u64 acc4, .int .i64 hv4, .fn 40 [.ptr 4 .z 1 0, .ptr 3 .z 1 0]]), .one 3 [.int .i64 ai4], .one 22 [.slice 5 .z 1 bl cap], .ro .u8 b, .buf 5 .u8 Lf c3], rfl, rfl, rfl, rfl, ⟨rfl, rfl, rfl, rfl, rfl, rfl, rfl, trivial⟩, .inr Lf, q3, hk, rfl, acc4, hv4, ai4, h6, .inr ⟨Lf, c3, c3, rfl, rfl, rfl⟩⟩
     ·rintro v s' ⟨he, hno, js2, rfl⟩
      cases he
      have hno : ¬ ((rl : Int) + m ≤ size) := hno
      have hNp := n_pan (q := q3) (last := last) (row := row2) (kind := x) (lens := lens) (left := left) (l := last) (m := m) (F := RF k2) (size := size) (by rw [← hrl]; exact hno)
      rw [← hN] at hNp
      have hk := k3 _ hNp
      cbv
      intro js5
      exact ⟨[0, 1, 2, 3, 4, 5], .iface 75 (.agg [.int .i64 11]), [.one 33 [.ptr 2 .z 4 0], .one 3 [.int .i64 size], (.one 81 [.fn 39 [.ptr 3 .z 1 0, .ptr 4 .z 1 0], .int .u64 acc4, .int .i64 hv4, .fn 40 [.ptr 4 .z 1 0, .ptr 3 .z 1 0]]), .one 3 [.int .i64 ai4], .one 22 [.slice 5 .z 1 bl cap], .ro .u8 b], rfl, rfl, rfl, rfl, ⟨rfl, rfl, rfl, rfl, rfl, rfl, trivial⟩, 11, hk, rfl, rfl, acc4, hv4, ai4, rfl⟩
    ·have e6 : vc .eql x 16 = false := by rw [qc, eql_false]; exact hx6
     rw [if_neg hx6] at hN
     rw [e6]
     cbv
     rw [em]
     refine YieldX.gen ?_
     refine YieldX.mono ?_ ?_ (hbody js0 _ b bl cap acc4 hv4 ai4 size sk L ll lens rl cl left 0 m (by rfl) (by omega) (by omega) (by constructor <;> omega) hrl hrc hrs (by omega) hleft)
     ·rintro v s' ⟨rl2, cl2, lens2, left2, js2, hlens2, hrl2, hrc2, hleft2, hsz2, hrm, ⟨rfl, hgo, rfl⟩ | ⟨rfl, hst, rfl⟩⟩
      ·have hrm : (rl2 : Int) = (rl : Int) + m := hrm
       have hsz2 : (rl2 : Int) ≤ size := hsz2
       have hgo : ¬ (left2 ≤ 0 ∨ (rl2 : Int) = size) := hgo
       have hpn := pw_nonneg 0
       have hleft3 : left2 ≤ left := by rw [hleft2]; have := Int.mul_nonneg (show 0 ≤ m by omega) hpn; omega
       have hNg := n_go (q := q3) (last := last) (row := row2) (kind := x) (lens := lens) (left := left) (l := 0) (m := m) (F := RF k2) (size := size) (by rw [← hrl, ← hrm]; exact hsz2) (by rw [← hrl, ← hleft2, ← hrm]; exact hgo)
       rw [← hN, ← hlens2, ← hleft2] at hNg
       have hmu : size.toNat - rl2 < size.toNat - rl := by omega
       have hrl0 : 0 ≤ (rl : Int) := Int.natCast_nonneg rl
       have hrow9 : 3 ≤ row2 ∧ row2 ≤ (rl2 : Int) := by rw [hrm]; exact hrowX
       cbv
       rw [hnt]
       cbv
       refine Cv.genAt [6] [] (Cv.fold ((List.range' 7 24) ++ (List.range' 31 23)) 16 [9] (by exact Nat.le_refl _) (by exact Nat.le_of_ble_eq_true rfl) (by rfl) (by cbv) ?_)
       intro js
       refine ⟨(_, _, _, q3, _, _, _, _, _, _, _), ?_, js, rfl⟩
       exact ⟨⟨k2, hNg.symm, by omega, hrl2, hrc2, by omega, by omega, by omega, h6, by omega, by omega, by omega, .inr hrow9⟩, hmu⟩
      ·have hrm : (rl2 : Int) = (rl : Int) + m := hrm
       have hsz2 : (rl2 : Int) ≤ size := hsz2
       have hst : (left2 ≤ 0 ∨ (rl2 : Int) = size) := hst
       have hR1 := n_stop (q := q3) (last := last) (row := row2) (kind := x) (lens := lens) (left := left) (l := 0) (m := m) (F := RF k2) (size := size) (by rw [← hrl, ← hrm]; exact hsz2) (by rw [← hrl, ← hleft2, ← hrm]; exact hst)
       rw [← hN, ← hlens2, ← hleft2] at hR1
       cbv
       have hnfS : vnotB false = true := by rw [qnotB]; rfl
       rw [hnfS]
       cbv
       intro js5
       refine call_conX (ρ := []) (hmust _) ⟨by rfl, by rfl, by rfl, by cbv⟩ ?_ ?_
       rotate_left
       ·rintro v H R js4 ⟨hz, rfl, rfl, rfl⟩
        have hz3 : left2 ≠ 0 := by rw [qc, eql_false] at hz; exact hz
        have hk := k5 _ _ _ hR1 hz3
        cbv
        exact ⟨[0, 1, 2, 3, 4, 5], .iface 75 (.agg [.int .i64 11]), [.one 33 [.ptr 2 .z 4 0], .one 3 [.int .i64 size], (.one 81 [.fn 39 [.ptr 3 .z 1 0, .ptr 4 .z 1 0], .int .u64 acc4, .int .i64 hv4, .fn 40 [.ptr 4 .z 1 0, .ptr 3 .z 1 0]]), .one 3 [.int .i64 ai4], .one 22 [.slice 5 .z 1 bl cap], .ro .u8 b], rfl, rfl, rfl, rfl, ⟨rfl, rfl, rfl, rfl, rfl, rfl, trivial⟩, 11, hk, rfl, rfl, acc4, hv4, ai4, rfl⟩
       rintro v H R js4 ⟨hz, rfl, rfl, rfl⟩
       have hz3 : left2 = 0 := by rw [qc, eql_true] at hz; exact hz
       subst hz3
       have hk := k4 _ _ hR1
       cbv
       obtain ⟨rI, hrI⟩ : ∃ rI : Int, rI = rl2 := ⟨_, rfl⟩
       have hofr : vofN rl2 = rI := by rw [qofN]; exact hrI.symm
       obtain ⟨d, hd⟩ : ∃ d : Int, d = size - rI := ⟨_, rfl⟩
       have ed : vb .sub .i64 size rI = d := by simp only [nc] at *; rw [qb, sub_i64 (by omega) (by omega)]; exact hd.symm
       have hdt : vtoN d = d.toNat := by rw [qtoN]
       obtain ⟨dN, hdN⟩ : ∃ dN, dN = d.toNat := ⟨_, rfl⟩
       have hrepd : vrep dN 0 = List.replicate dN 0 := by rw [qrep]
       obtain ⟨Z, hZ⟩ : ∃ Z, Z = List.replicate dN (0 : Int) := ⟨_, rfl⟩
       obtain ⟨Lf, hLf⟩ : ∃ Lf, Lf = lens2 ++ Z := ⟨_, rfl⟩
       have hontoZ : vonto lens2 rl2 Z = Lf := by rw [qonto, hLf, hrl2]; simp
       have hvlS : vln lens2 = rl2 := by rw [qln, hrl2]
       obtain ⟨rt, hrt⟩ : ∃ rt, rt = rl2 + dN := ⟨_, rfl⟩
       have hart : vaddN rl2 dN = rt := by rw [qaddN, hrt]
       have hkf : lens2 ++ List.replicate (size - (lens2.length : Int)).toNat 0 = Lf := by
        rw [hLf, hZ, hdN, hd, hrI, ← hrl2]
       have hLfl : rt = Lf.length := by rw [hrt, hLf, hZ, List.length_append, List.length_replicate, ← hrl2]
       have hrt4 : rt ≤ 1024 := by simp only [nc] at *; omega
       have hd0 : 0 ≤ d ∧ d ≤ 1024 := by simp only [nc] at *; omega
       rw [hkf] at hk
       rw [hofr, ed, hdt, ← hdN, hrepd, ← hZ]
       refine ⟨⟨hd0.1⟩, ⟨by show d * 1 ≤ 281474976710656; omega⟩, ⟨by rw [hvlS]; exact Nat.le_refl _⟩, ⟨Nat.le_refl _⟩, ⟨by rw [hart]; omega⟩, ?_⟩
       intro c3 js6 hc3
       clear hc3
       cbv
       rw [hontoZ, hart]
       clear hLf hkf hontoZ
       subst hLfl
       exact ⟨[0, 1, 2, 3, 4, 5, 9], .agg [.slice 6 .z 1 Lf.length c3, .lit .i64 0], [.one 33 [.ptr 2 .z 4 0], .one 3 [.int .i64 size], (.one 81 [.fn 39 [.ptr 3 .z 1 0, .ptr 4 .z 1 0], .int .u64 acc4, .int .i64 hv4, .fn 40 [.ptr 4 .z 1 0, .ptr 3 .z 1 0]]), .one 3 [.int .i64 ai4], .one 22 [.slice 5 .z 1 bl cap], .ro .u8 b, .buf 5 .u8 Lf c3], rfl, rfl, rfl, rfl, ⟨rfl, rfl, rfl, rfl, rfl, rfl, rfl, trivial⟩, .inr Lf, q3, hk, rfl, acc4, hv4, ai4, h6, .inr ⟨Lf, c3, c3, rfl, rfl, rfl⟩⟩
     ·rintro v s' ⟨he, hno, js2, rfl⟩
      cases he
      have hno : ¬ ((rl : Int) + m ≤ size) := hno
      have hNp := n_pan (q := q3) (last := last) (row := row2) (kind := x) (lens := lens) (left := left) (l := 0) (m := m) (F := RF k2) (size := size) (by rw [← hrl]; exact hno)
      rw [← hN] at hNp
      have hk := k3 _ hNp
      cbv
      intro js5
      exact ⟨[0, 1, 2, 3, 4, 5], .iface 75 (.agg [.int .i64 11]), [.one 33 [.ptr 2 .z 4 0], .one 3 [.int .i64 size], (.one 81 [.fn 39 [.ptr 3 .z 1 0, .ptr 4 .z 1 0], .int .u64 acc4, .int .i64 hv4, .fn 40 [.ptr 4 .z 1 0, .ptr 3 .z 1 0]]), .one 3 [.int .i64 ai4], .one 22 [.slice 5 .z 1 bl cap], .ro .u8 b], rfl, rfl, rfl, rfl, ⟨rfl, rfl, rfl, rfl, rfl, rfl, trivial⟩, 11, hk, rfl, rfl, acc4, hv4, ai4, rfl⟩
   ·have ekx : vc .eql kind x = false := by rw [qc, eql_false]; exact hkx
    rw [if_neg hkx, if_neg hkx, Int.zero_add, Int.sub_zero, ← hn3] at hN
    have hrowX : 3 ≤ n3 ∧ n3 ≤ (rl : Int) + n3 := by omega
    have en4 : vb .add .i64 0 n3 = n3 := by rw [qb, add_i64 (by omega) (by omega)]; omega
    have en5 : vb .sub .i64 n3 0 = n3 := by rw [qb, sub_i64 (by omega) (by omega)]; omega
    rw [ekx]
    cbv
    rw [en3, en4]
    by_cases hx6 : x = 16
    ·have e6 : vc .eql x 16 = true := by rw [qc, eql_true]; exact hx6
     rw [if_pos hx6] at hN
     rw [e6]
     cbv
     rw [en5]
     refine YieldX.gen ?_
     refine YieldX.mono ?_ ?_ (hbody js0 _ b bl cap acc4 hv4 ai4 size sk L ll lens rl cl left last n3 (by rfl) (by omega) (by omega) (by constructor <;> omega) hrl hrc hrs (by omega) hleft)
     ·rintro v s' ⟨rl2, cl2, lens2, left2, js2, hlens2, hrl2, hrc2, hleft2, hsz2, hrm, ⟨rfl, hgo, rfl⟩ | ⟨rfl, hst, rfl⟩⟩
      ·have hrm : (rl2 : Int) = (rl : Int) + n3 := hrm
       have hsz2 : (rl2 : Int) ≤ size := hsz2
       have hgo : ¬ (left2 ≤ 0 ∨ (rl2 : Int) = size) := hgo
       have hpn := pw_nonneg last
       have hleft3 : left2 ≤ left := by rw [hleft2]; have := Int.mul_nonneg (show 0 ≤ n3 by omega) hpn; omega
       have hNg := n_go (q := q3) (last := last) (row := n3) (kind := x) (lens := lens) (left := left) (l := last) (m := n3) (F := RF k2) (size := size) (by rw [← hrl, ← hrm]; exact hsz2) (by rw [← hrl, ← hleft2, ← hrm]; exact hgo)
       rw [← hN, ← hlens2, ← hleft2] at hNg
       have hmu : size.toNat - rl2 < size.toNat - rl := by omega
       have hrl0 : 0 ≤ (rl : Int) := Int.natCast_nonneg rl
       have hrow9 : 3 ≤ n3 ∧ n3 ≤ (rl2 : Int) := by rw [hrm]; exact hrowX
       cbv
       rw [hnt]
       cbv
       refine Cv.genAt [6] [] (Cv.fold ((List.range' 7 24) ++ (List.range' 31 23)) 16 [9] (by exact Nat.le_refl _) (by exact Nat.le_of_ble_eq_true rfl) (by rfl) (by cbv) ?_)
       intro js
       refine ⟨(_, _, _, q3, _, _, _, _, _, _, _), ?_, js, rfl⟩
       exact ⟨⟨k2, hNg.symm, by omega, hrl2, hrc2, by omega, by omega, by omega, h6, by omega, by omega, by omega, .inr hrow9⟩, hmu⟩
      ·have hrm : (rl2 : Int) = (rl : Int) + n3 := hrm
       have hsz2 : (rl2 : Int) ≤ size := hsz2
       have hst : (left2 ≤ 0 ∨ (rl2 : Int) = size) := hst
       have hR1 := n_stop (q := q3) (last := last) (row := n3) (kind := x) (lens := lens) (left := left) (l := last) (m := n3) (F := RF k2) (size := size) (by rw [← hrl, ← hrm]; exact hsz2) (by rw [← hrl, ← hleft2, ← hrm]; exact hst)
       rw [← hN, ← hlens2, ← hleft2] at hR1
       cbv
       have hnfS : vnotB false = true := by rw [qnotB]; rfl
       rw [hnfS]
       cbv
       intro js5
       refine call_conX (ρ := []) (hmust _) ⟨by rfl, by rfl, by rfl, by cbv⟩ ?_ ?_
       rotate_left
       ·rintro v H R js4 ⟨hz, rfl, rfl, rfl⟩
        have hz3 : left2 ≠ 0 := by rw [qc, eql_false] at hz; exact hz
        have hk := k5 _ _ _ hR1 hz3
        cbv
        exact ⟨[0, 1, 2, 3, 4, 5], .iface 75 (.agg [.int .i64 11]), [.one 33 [.ptr 2 .z 4 0], .one 3 [.int .i64 size], (.one 81 [.fn 39 [.ptr 3 .z 1 0, .ptr 4 .z 1 0], .int .u64 acc4, .int .i64 hv4, .fn 40 [.ptr 4 .z 1 0, .ptr 3 .z 1 0]]), .one 3 [.int .i64 ai4], .one 22 [.slice 5 .z 1 bl cap], .ro .u8 b], rfl, rfl, rfl, rfl, ⟨rfl, rfl, rfl, rfl, rfl, rfl, trivial⟩, 11, hk, rfl, rfl, acc4, hv4, ai4, rfl⟩
       rintro v H R js4 ⟨hz, rfl, rfl, rfl⟩
       have hz3 : left2 = 0 := by rw [qc, eql_true] at hz; exact hz
       subst hz3
       have hk := k4 _ _ hR1
       cbv
       obtain ⟨rI, hrI⟩ : ∃ rI : Int, rI = rl2 := ⟨_, rfl⟩
       have hofr : vofN rl2 = rI := by rw [qofN]; exact hrI.symm
       obtain ⟨d, hd⟩ : ∃ d : Int, d = size - rI := ⟨_, rfl⟩
       have ed : vb .sub .i64 size rI = d := by simp only [nc] at *; rw [qb, sub_i64 (by omega) (by omega)]; exact hd.symm
       have hdt : vtoN d = d.toNat := by rw [qtoN]
       obtain ⟨dN, hdN⟩ : ∃ dN, dN = d.toNat := ⟨_, rfl⟩
       have hrepd : vrep dN 0 = List.replicate dN 0 := by rw [qrep]
       obtain ⟨Z, hZ⟩ : ∃ Z, Z = List.replicate dN (0 : Int) := ⟨_, rfl⟩
       obtain ⟨Lf, hLf⟩ : ∃ Lf, Lf = lens2 ++ Z := ⟨_, rfl⟩
       have hontoZ : vonto lens2 rl2 Z = Lf := by rw [qonto, hLf, hrl2]; simp
       have hvlS : vln lens2 = rl2 := by rw [qln, hrl2]
       obtain ⟨rt, hrt⟩ : ∃ rt, rt = rl2 + dN := ⟨_, rfl⟩
       have hart : vaddN rl2 dN = rt := by rw [qaddN, hrt]
       have hkf : lens2 ++ List.replicate (size - (lens2.length : Int)).toNat 0 = Lf := by
        rw [hLf, hZ, hdN, hd, hrI, ← hrl2]
       have hLfl : rt = Lf.length := by rw [hrt, hLf, hZ, List.length_append, List.length_replicate, ← hrl2]
       have hrt4 : rt ≤ 1024 := by simp only [nc] at *; omega
       have hd0 : 0 ≤ d ∧ d ≤ 1024 := by simp only [nc] at *; omega
       rw [hkf] at hk
       rw [hofr, ed, hdt, ← hdN, hrepd, ← hZ]
       refine ⟨⟨hd0.1⟩, ⟨by show d * 1 ≤ 281474976710656; omega⟩, ⟨by rw [hvlS]; exact Nat.le_refl _⟩, ⟨Nat.le_refl _⟩, ⟨by rw [hart]; omega⟩, ?_⟩
       intro c3 js6 hc3
       clear hc3
       cbv
       rw [hontoZ, hart]
       clear hLf hkf hontoZ
       subst hLfl
       exact ⟨[0, 1, 2, 3, 4, 5, 9], .agg [.slice 6 .z 1 Lf.length c3, .lit .i64 0], [.one 33 [.ptr 2 .z 4 0], .one 3 [.int .i64 size], (.one 81 [.fn 39 [.ptr 3 .z 1 0, .ptr 4 .z 1 0], .int .u64 acc4, .int .i64 hv4, .fn 40 [.ptr 4 .z 1 0, .ptr 3 .z 1 0]]), .one 3 [.int .i64 ai4], .one 22 [.slice 5 .z 1 bl cap], .ro .u8 b, .buf 5 .u8 Lf c3], rfl, rfl, rfl, rfl, ⟨rfl, rfl, rfl, rfl, rfl, rfl, rfl, trivial⟩, .inr Lf, q3, hk, rfl, acc4, hv4, ai4, h6, .inr ⟨Lf, c3, c3, rfl, rfl, rfl⟩⟩
     ·rintro v s' ⟨he, hno, js2, rfl⟩
      cases he
      have hno : ¬ ((rl : Int) + n3 ≤ size) := hno
      have hNp := n_pan (q := q3) (last := last) (row := n3) (kind := x) (lens := lens) (left := left) (l := last) (m := n3) (F := RF k2) (size := size) (by rw [← hrl]; exact hno)
      rw [← hN] at hNp
      have hk := k3 _ hNp
      cbv
      intro js5
      exact ⟨[0, 1, 2, 3, 4, 5], .iface 75 (.agg [.int .i64 11]), [.one 33 [.ptr 2 .z 4 0], .one 3 [.int .i64 size], (.one 81 [.fn 39 [.ptr 3 .z 1 0, .ptr 4 .z 1 0], .int .u64 acc4, .int .i64 hv4, .fn 40 [.ptr 4 .z 1 0, .ptr 3 .z 1 0]]), .one 3 [.int .i64 ai4], .one 22 [.slice 5 .z 1 bl cap], .ro .u8 b], rfl, rfl, rfl, rfl, ⟨rfl, rfl, rfl, rfl, rfl, rfl, trivial⟩, 11, hk, rfl, rfl, acc4, hv4, ai4, rfl⟩
    ·have e6 : vc .eql x 16 = false := by rw [qc, eql_false]; exact hx6
     rw [if_neg hx6] at hN
     rw [e6]
     cbv
     rw [en5]
     refine YieldX.gen ?_
     refine YieldX.mono ?_ ?_ (hbody js0 _ b bl cap acc4 hv4 ai4 size sk L ll lens rl cl left 0 n3 (by rfl) (by omega) (by omega) (by constructor <;> omega) hrl hrc hrs (by omega) hleft)
     ·rintro v s' ⟨rl2, cl2, lens2, left2, js2, hlens2, hrl2, hrc2, hleft2, hsz2, hrm, ⟨rfl, hgo, rfl⟩ | ⟨rfl, hst, rfl⟩⟩
      ·have hrm : (rl2 : Int) = (rl : Int) + n3 := hrm
       have hsz2 : (rl2 : Int) ≤ size := hsz2
       have hgo : ¬ (left2 ≤ 0 ∨ (rl2 : Int) = size) := hgo
       have hpn := pw_nonneg 0
       have hleft3 : left2 ≤ left := by rw [hleft2]; have := Int.mul_nonneg (show 0 ≤ n3 by omega) hpn; omega
       have hNg := n_go (q := q3) (last := last) (row := n3) (kind := x) (lens := lens) (left := left) (l := 0) (m := n3) (F := RF k2) (size := size) (by rw [← hrl, ← hrm]; exact hsz2) (by rw [← hrl, ← hleft2, ← hrm]; exact hgo)
       rw [← hN, ← hlens2, ← hleft2] at hNg
       have hmu : size.toNat - rl2 < size.toNat - rl := by omega
       have hrl0 : 0 ≤ (rl : Int) := Int.natCast_nonneg rl
       have hrow9 : 3 ≤ n3 ∧ n3 ≤ (rl2 : Int) := by rw [hrm]; exact hrowX
       cbv
       rw [hnt]
       cbv
       refine Cv.genAt [6] [] (Cv.fold ((List.range' 7 24) ++ (List.range' 31 23)) 16 [9] (by exact Nat.le_refl _) (by exact Nat.le_of_ble_eq_true rfl) (by rfl) (by cbv) ?_)
       intro js
       refine ⟨(_, _, _, q3, _, _, _, _, _, _, _), ?_, js, rfl⟩
       exact ⟨⟨k2, hNg.symm, by omega, hrl2, hrc2, by omega, by omega, by omega, h6, by omega, by omega, by omega, .inr hrow9⟩, hmu⟩
      ·have hrm : (rl2 : Int) = (rl : Int) + n3 := hrm
       have hsz2 : (rl2 : Int) ≤ size := hsz2
       have hst : (left2 ≤ 0 ∨ (rl2 : Int) = size) := hst
       have hR1 := n_stop (q := q3) (last := last) (row := n3) (kind := x) (lens := lens) (left := left) (l := 0) (m := n3) (F := RF k2) (size := size) (by rw [← hrl, ← hrm]; exact hsz2) (by rw [← hrl, ← hleft2, ← hrm]; exact hst)
       rw [← hN, ← hlens2, ← hleft2] at hR1
       cbv
       have hnfS : vnotB false = true := by rw [qnotB]; rfl
       rw [hnfS]
       cbv
       intro js5
       refine call_conX (ρ := []) (hmust _) ⟨by rfl, by rfl, by rfl, by cbv⟩ ?_ ?_
       rotate_left
       ·rintro v H R js4 ⟨hz, rfl, rfl, rfl⟩
        have hz3 : left2 ≠ 0 := by rw [qc, eql_false] at hz; exact hz
        have hk := k5 _ _ _ hR1 hz3
        cbv
        exact ⟨[0, 1, 2, 3, 4, 5], .iface 75 (.agg [.int .i64 11]), [.one 33 [.ptr 2 .z 4 0], .one 3 [.int .i64 size], (.one 81 [.fn 39 [.ptr 3 .z 1 0, .ptr 4 .z 1 0], .int .u64 acc4, .int .i64 hv4, .fn 40 [.ptr 4 .z 1 0, .ptr 3 .z 1 0]]), .one 3 [.int .i64 ai4], .one 22 [.slice 5 .z 1 bl cap], .ro .u8 b], rfl, rfl, rfl, rfl, ⟨rfl, rfl, rfl, rfl, rfl, rfl, trivial⟩, 11, hk, rfl, rfl, acc4, hv4, ai4, rfl⟩
       rintro v H R js4 ⟨hz, rfl, rfl, rfl⟩
       have hz3 : left2 = 0 := by rw [qc, eql_true] at hz; exact hz
       subst hz3
       have hk := k4 _ _ hR1
       cbv
       obtain ⟨rI, hrI⟩ : ∃ rI : Int, rI = rl2 := ⟨_, rfl⟩
       have hofr : vofN rl2 = rI := by rw [qofN]; exact hrI.symm
       obtain ⟨d, hd⟩ : ∃ d : Int, d = size - rI := ⟨_, rfl⟩
       have ed : vb .sub .i64 size rI = d := by simp only [nc] at *; rw [qb, sub_i64 (by omega) (by omega)]; exact hd.symm
       have hdt : vtoN d = d.toNat := by rw [qtoN]
       obtain ⟨dN, hdN⟩ : ∃ dN, dN = d.toNat := ⟨_, rfl⟩
       have hrepd : vrep dN 0 = List.replicate dN 0 := by rw [qrep]
       obtain ⟨Z, hZ⟩ : ∃ Z, Z = List.replicate dN (0 : Int) := ⟨_, rfl⟩
       obtain ⟨Lf, hLf⟩ : ∃ Lf, Lf = lens2 ++ Z := ⟨_, rfl⟩
       have hontoZ : vonto lens2 rl2 Z = Lf := by rw [qonto, hLf, hrl2]; simp
       have hvlS : vln lens2 = rl2 := by rw [qln, hrl2]
       obtain ⟨rt, hrt⟩ : ∃ rt, rt = rl2 + dN := ⟨_, rfl⟩
       have hart : vaddN rl2 dN = rt := by rw [qaddN, hrt]
       have hkf : lens2 ++ List.replicate (size - (lens2.length : Int)).toNat 0 = Lf := by
        rw [hLf, hZ, hdN, hd, hrI, ← hrl2]
       have hLfl : rt = Lf.length := by rw [hrt, hLf, hZ, List.length_append, List.length_replicate, ← hrl2]
       have hrt4 : rt ≤ 1024 := by simp only [nc] at *; omega
       have hd0 : 0 ≤ d ∧ d ≤ 1024 := by simp only [nc] at *; omega
       rw [hkf] at hk
       rw [hofr, ed, hdt, ← hdN, hrepd, ← hZ]
       refine ⟨⟨hd0.1⟩, ⟨by show d * 1 ≤ 281474976710656; omega⟩, ⟨by rw [hvlS]; exact Nat.le_refl _⟩, ⟨Nat.le_refl _⟩, ⟨by rw [hart]; omega⟩, ?_⟩
       intro c3 js6 hc3
       clear hc3
       cbv
       rw [hontoZ, hart]
       clear hLf hkf hontoZ
       subst hLfl
       exact ⟨[0, 1, 2, 3, 4, 5, 9], .agg [.slice 6 .z 1 Lf.length c3, .lit .i64 0], [.one 33 [.ptr 2 .z 4 0], .one 3 [.int .i64 size], (.one 81 [.fn 39 [.ptr 3 .z 1 0, .ptr 4 .z 1 0], .int .u64 acc4, .int .i64 hv4, .fn 40 [.ptr 4 .z 1 0, .ptr 3 .z 1 0]]), .one 3 [.int .i64 ai4], .one 22 [.slice 5 .z 1 bl cap], .ro .u8 b, .buf 5 .u8 Lf c3], rfl, rfl, rfl, rfl, ⟨rfl, rfl, rfl, rfl, rfl, rfl, rfl, trivial⟩, .inr Lf, q3, hk, rfl, acc4, hv4, ai4, h6, .inr ⟨Lf, c3, c3, rfl, rfl, rfl⟩⟩
     ·rintro v s' ⟨he, hno, js2, rfl⟩
      cases he
      have hno : ¬ ((rl : Int) + n3 ≤ size) := hno
      have hNp := n_pan (q := q3) (last := last) (row := n3) (kind := x) (lens := lens) (left := left) (l := 0) (m := n3) (F := RF k2) (size := size) (by rw [← hrl]; exact hno)
      rw [← hN] at hNp
      have hk := k3 _ hNp
      cbv
      intro js5
      exact ⟨[0, 1, 2, 3, 4, 5], .iface 75 (.agg [.int .i64 11]), [.one 33 [.ptr 2 .z 4 0], .one 3 [.int .i64 size], (.one 81 [.fn 39 [.ptr 3 .z 1 0, .ptr 4 .z 1 0], .int .u64 acc4, .int .i64 hv4, .fn 40 [.ptr 4 .z 1 0, .ptr 3 .z 1 0]]), .one 3 [.int .i64 ai4], .one 22 [.slice 5 .z 1 bl cap], .ro .u8 b], rfl, rfl, rfl, rfl, ⟨rfl, rfl, rfl, rfl, rfl, rfl, trivial⟩, 11, hk, rfl, rfl, acc4, hv4, ai4, rfl⟩
end Go.Proofs.Ytkkddgdcmdnnmaa
namespace Go.Proofs.Ytkkddgdcmdnnmaa
open Go Go.Sx Go.Proofs
set_option maxRecDepth 10000
set_option maxHeartbeats 4000000
def xr55 : XC :=
 .seq (.ops [⟨(some 10), .mv (.t 2), none, []⟩,
   ⟨(some 11), .tas 75 (.t 10), none, []⟩,
   ⟨(some 9), .mv (.t 11), none, []⟩,
   ⟨(some 12), .extract (.t 9) 0, none, []⟩,
   ⟨(some 13), .extract (.t 9) 1, none, []⟩,
   ⟨(some 3), .newR 75 [(.lit .i64 0)], none, []⟩,
   ⟨none, .storeA 1 (.t 3) (.t 12), none, []⟩,
   ⟨(some 4), .mv (.t 13), none, []⟩])
  (.seq (.seq (.ops [⟨(some 14), .mv (.t 4), none, []⟩,
   ⟨(some 15), .not (.t 14), none, []⟩])
  (.cond (.t 15) (.ops [⟨(some 16), .mv (.t 2), none, []⟩,
   ⟨none, .pnc (.t 16), none, []⟩]) (.skip)))
  (.seq (.ops [⟨(some 5), .newR 24 [(.val (.slice none 0 0)), (.lit .i64 0)], none, []⟩])
  (.ops [⟨(some 17), .loadA 2 (.t 5), none, []⟩,
   ⟨(some 18), .fadr 0 (.t 3), none, []⟩,
   ⟨(some 19), .load1 (.t 18), none, []⟩,
   ⟨none, .storeA 2 (.t 0) (.t 17), none, [(.load1 (.t 18), 19, none)]⟩,
   ⟨none, .store1 (.t 1) (.t 19), none, []⟩])))
theorem rec55 : RecFn Try.prog 55 xr55 20 6 2 7 8 20 := RecFn.of Try.func55 (by kernel_rfl) (by kernel_rfl) Try.results55 Try.ntmps55 (by decide) (fun _ _ _ _ => rfl) (fun _ _ _ => rfl)
def xr61 : XC :=
 .seq (.ops [⟨(some 10), .mv (.t 2), none, []⟩,
   ⟨(some 11), .tas 75 (.t 10), none, []⟩,
   ⟨(some 9), .mv (.t 11), none, []⟩,
   ⟨(some 12), .extract (.t 9) 0, none, []⟩,
   ⟨(some 13), .extract (.t 9) 1, none, []⟩,
   ⟨(some 3), .newR 75 [(.lit .i64 0)], none, []⟩,
   ⟨none, .storeA 1 (.t 3) (.t 12), none, []⟩,
   ⟨(some 4), .mv (.t 13), none, []⟩])
  (.seq (.seq (.ops [⟨(some 14), .mv (.t 4), none, []⟩,
   ⟨(some 15), .not (.t 14), none, []⟩])
  (.cond (.t 15) (.ops [⟨(some 16), .mv (.t 2), none, []⟩,
   ⟨none, .pnc (.t 16), none, []⟩]) (.skip)))
  (.seq (.ops [⟨(some 5), .mv (.k (.val (.slice none 0 0))), none, []⟩])
  (.ops [⟨(some 17), .mv (.t 5), none, []⟩,
   ⟨(some 18), .fadr 0 (.t 3), none, []⟩,
   ⟨(some 19), .load1 (.t 18), none, []⟩,
   ⟨none, .store1 (.t 0) (.t 17), none, [(.load1 (.t 18), 19, none)]⟩,
   ⟨none, .store1 (.t 1) (.t 19), none, []⟩])))
theorem rec61 : RecFn Try.prog 61 xr61 20 6 2 7 8 20 := RecFn.of Try.func61 (by kernel_rfl) (by kernel_rfl) Try.results61 Try.ntmps61 (by decide) (fun _ _ _ _ => rfl) (fun _ _ _ => rfl)
def xr62 : XC :=
 .seq (.ops [⟨(some 10), .mv (.t 2), none, []⟩,
   ⟨(some 11), .tas 75 (.t 10), none, []⟩,
   ⟨(some 9), .mv (.t 11), none, []⟩,
   ⟨(some 12), .extract (.t 9) 0, none, []⟩,
   ⟨(some 13), .extract (.t 9) 1, none, []⟩,
   ⟨(some 3), .newR 75 [(.lit .i64 0)], none, []⟩,
   ⟨none, .storeA 1 (.t 3) (.t 12), none, []⟩,
   ⟨(some 4), .mv (.t 13), none, []⟩])
  (.seq (.seq (.ops [⟨(some 14), .mv (.t 4), none, []⟩,
   ⟨(some 15), .not (.t 14), none, []⟩])
  (.cond (.t 15) (.ops [⟨(some 16), .mv (.t 2), none, []⟩,
   ⟨none, .pnc (.t 16), none, []⟩]) (.skip)))
  (.seq (.ops [⟨(some 5), .mv (.k (.lit .i64 0)), none, []⟩])
  (.ops [⟨(some 17), .mv (.t 5), none, []⟩,
   ⟨(some 18), .fadr 0 (.t 3), none, []⟩,
   ⟨(some 19), .load1 (.t 18), none, []⟩,
   ⟨none, .store1 (.t 0) (.t 17), none, [(.load1 (.t 18), 19, none)]⟩,
   ⟨none, .store1 (.t 1) (.t 19), none, []⟩])))
theorem rec62 : RecFn Try.prog 62 xr62 20 6 2 7 8 20 := RecFn.of Try.func62 (by kernel_rfl) (by kernel_rfl) Try.results62 Try.ntmps62 (by decide) (fun _ _ _ _ => rfl) (fun _ _ _ => rfl)
theorem lp25 : LastPlain Try.prog 25 := LastPlain.of Try.func25 (by kernel_rfl)
theorem lp33 : LastPlain Try.prog 33 := LastPlain.of Try.func33 (by kernel_rfl)
theorem lp37 : LastPlain Try.prog 37 := LastPlain.of Try.func37 (by kernel_rfl)

def ReadPost (b : List Int) (r : Except Int ((Int ⊕ List Int) × Nat)) (k : Nat) (B : Int → Int → Int → List SB) : SV → List SB → List Nat → Prop := fun v H R =>
 R = [] ∧ ∃ a h i, ((∃ e, r = .error e ∧ v = .tup [.agg [.val (.slice none 0 0), .int .i64 0], .int .i64 e] ∧ H = B a h i) ∨
  ∃ x q, r = .ok (x, q) ∧ RS b q a h i ∧ ((∃ n, x = .inl n ∧ v = .tup [.agg [.val (.slice none 0 0), .int .i64 n], .int .i64 0] ∧ H = B a h i) ∨
   ∃ L cp cq, x = .inr L ∧ v = .tup [.agg [.slice k .z 1 L.length cp, .int .i64 0], .int .i64 0] ∧ H = B a h i ++ [.buf 5 .u8 L cq]))
theorem readX25_con (b : List Int) (pos cap : Nat) (acc hv ai size : Int) (hby : ∀ x ∈ b, isByte x) (hl : b.length ≤ 2 ^ 50) (h : RS b pos acc hv ai) (hp : pos ≤ 8 * b.length) (hs : 1 ≤ size ∧ size ≤ 1024) :
  Con Try.prog 25 [.ptr 2 .z 4 0, .fn 26 [.ptr 0 .z 1 0, .ptr 1 .z 1 0]] [.one 33 [.ptr 2 .z 4 0], .one 3 [.int .i64 size], (.one 81 [.fn 39 [.ptr 3 .z 1 0, .ptr 4 .z 1 0], .int .u64 acc, .int .i64 hv, .fn 40 [.ptr 4 .z 1 0, .ptr 3 .z 1 0]]), .one 3 [.int .i64 ai], .one 22 [.slice 5 .z 1 b.length cap], .ro .u8 b] (ReadPost b (readR b size pos) 6 (fun a h i => [.one 33 [.ptr 2 .z 4 0], .one 3 [.int .i64 size], (.one 81 [.fn 39 [.ptr 3 .z 1 0, .ptr 4 .z 1 0], .int .u64 a, .int .i64 h, .fn 40 [.ptr 4 .z 1 0, .ptr 3 .z 1 0]]), .one 3 [.int .i64 i], .one 22 [.slice 5 .z 1 b.length cap], .ro .u8 b])) := by
 have g := read26_con b pos cap acc hv ai size hby hl h hp hs
 generalize readR b size pos = r at *
 clear hl hby h hp
 generalize b.length = bl at *
 refine con_gen (con_picks (con_drop (con_of_deferX hmix fd25 lp25 Try.call55 rec55 quiet55 ?_)))
 generalize Try.prog = P at *
 cbv
 intro D
 cbv
 refine call_conX (ρ := [(0, .z), (1, .z), (2, .z), (3, .z), (4, .z), (5, .z)]) g ⟨by rfl, by rfl, by rfl, by cbv; exact ⟨view_refl _, trivial⟩⟩ ?_ ?_
 rotate_left
 ·rintro v H R js2 ⟨e, rfl, rfl, rfl, a, h, i, rfl⟩
  cbv
  intro js
  refine ⟨by rfl, ?_⟩
  exact ⟨[0, 1, 2, 3, 4, 5], .tup [.agg [.val (.slice none 0 0), .lit .i64 0], .int .i64 e], [.one 33 [.ptr 2 .z 4 0], .one 3 [.int .i64 size], (.one 81 [.fn 39 [.ptr 3 .z 1 0, .ptr 4 .z 1 0], .int .u64 a, .int .i64 h, .fn 40 [.ptr 4 .z 1 0, .ptr 3 .z 1 0]]), .one 3 [.int .i64 i], .one 22 [.slice 5 .z 1 bl cap], .ro .u8 b], rfl, rfl, rfl, rfl, ⟨rfl, rfl, rfl, rfl, rfl, rfl, trivial⟩, rfl, a, h, i, .inl ⟨e, rfl, rfl, rfl⟩⟩
 rintro v H R js2 ⟨x, q, rfl, rfl, acc3, hv3, ai3, h3, ⟨n, rfl, rfl, rfl⟩ | ⟨L, cp, cq, rfl, rfl, rfl⟩⟩
 ·cbv
  exact ⟨[0, 1, 2, 3, 4, 5], .tup [.agg [.val (.slice none 0 0), .int .i64 n], .lit .i64 0], [.one 33 [.ptr 2 .z 4 0], .one 3 [.int .i64 size], (.one 81 [.fn 39 [.ptr 3 .z 1 0, .ptr 4 .z 1 0], .int .u64 acc3, .int .i64 hv3, .fn 40 [.ptr 4 .z 1 0, .ptr 3 .z 1 0]]), .one 3 [.int .i64 ai3], .one 22 [.slice 5 .z 1 bl cap], .ro .u8 b], rfl, rfl, rfl, rfl, ⟨rfl, rfl, rfl, rfl, rfl, rfl, trivial⟩, rfl, acc3, hv3, ai3, .inr ⟨_, q, rfl, h3, .inl ⟨n, rfl, rfl, rfl⟩⟩⟩
 ·generalize hll : L.length = ll
  cbv
  subst hll
  exact ⟨[0, 1, 2, 3, 4, 5, 8], .tup [.agg [.slice 6 .z 1 L.length cp, .int .i64 0], .lit .i64 0], [.one 33 [.ptr 2 .z 4 0], .one 3 [.int .i64 size], (.one 81 [.fn 39 [.ptr 3 .z 1 0, .ptr 4 .z 1 0], .int .u64 acc3, .int .i64 hv3, .fn 40 [.ptr 4 .z 1 0, .ptr 3 .z 1 0]]), .one 3 [.int .i64 ai3], .one 22 [.slice 5 .z 1 bl cap], .ro .u8 b, .buf 5 .u8 L cq], rfl, rfl, rfl, rfl, ⟨rfl, rfl, rfl, rfl, rfl, rfl, rfl, trivial⟩, rfl, acc3, hv3, ai3, .inr ⟨_, q, rfl, h3, .inr ⟨L, cp, cq, rfl, rfl, rfl⟩⟩⟩
theorem readX7_con (b : List Int) (pos cap : Nat) (acc hv ai size : Int) (hby : ∀ x ∈ b, isByte x) (hl : b.length ≤ 2 ^ 50) (h : RS b pos acc hv ai) (hp : pos ≤ 8 * b.length) :
  Con Try.prog 7 [.ptr 0 .z 4 0, .int .i64 size] [(.one 81 [.fn 39 [.ptr 1 .z 1 0, .ptr 2 .z 1 0], .int .u64 acc, .int .i64 hv, .fn 40 [.ptr 2 .z 1 0, .ptr 1 .z 1 0]]), .one 3 [.int .i64 ai], .one 22 [.slice 3 .z 1 b.length cap], .ro .u8 b] (ReadPost b (if 1 ≤ size ∧ size ≤ 1024 then readR b size pos else .error 2) 4 (fun a h i => [(.one 81 [.fn 39 [.ptr 1 .z 1 0, .ptr 2 .z 1 0], .int .u64 a, .int .i64 h, .fn 40 [.ptr 2 .z 1 0, .ptr 1 .z 1 0]]), .one 3 [.int .i64 i], .one 22 [.slice 3 .z 1 b.length cap], .ro .u8 b])) := by
 by_cases hs : 1 ≤ size ∧ size ≤ 1024
 ·have g := readX25_con b pos cap acc hv ai size hby hl h hp hs
  rw [if_pos hs]
  generalize readR b size pos = r at *
  clear hl hby h hp
  generalize b.length = bl at *
  refine con_gen (con_picks (con_drop (con_walk hmix fn7 ?_)))
  intro vb vc vw vtoN vofN vaddN vsubN vmaxI vminI vcutN vgd vst vln vrep vsub vonto vsplice vstrEq vbyteV vnotB veqB hw qb qc qw qtoN qofN qaddN qsubN qmaxI qminI qcutN qgd qst qln qrep qsub qonto qsplice qstrEq qbyteV qnotB qeqB
  have hm := hmix; generalize Try.prog = P at *
  have e1 : vc .lss size 1 = false := by rw [qc, lss_false]; omega
  have e2 : vc .gtr size 1024 = false := by rw [qc, gtr_false]; omega
  cbv
  rw [e1]
  cbv
  rw [e2]
  cbv
  refine call_con (ρ := [(4, .z), (5, .z), (0, .z), (1, .z), (2, .z), (3, .z)]) g ⟨by rfl, by rfl, by rfl, by cbv; exact ⟨view_refl _, trivial⟩⟩ ?_
  rintro v H R js2 ⟨rfl, a, h, i, ⟨e, rfl, rfl, rfl⟩ | ⟨x, q, rfl, h3, ⟨n, rfl, rfl, rfl⟩ | ⟨L, cp, cq, rfl, rfl, rfl⟩⟩⟩
  ·cbv
   exact ⟨[0, 1, 2, 3], .tup [.agg [.val (.slice none 0 0), .int .i64 0], .int .i64 e], [(.one 81 [.fn 39 [.ptr 1 .z 1 0, .ptr 2 .z 1 0], .int .u64 a, .int .i64 h, .fn 40 [.ptr 2 .z 1 0, .ptr 1 .z 1 0]]), .one 3 [.int .i64 i], .one 22 [.slice 3 .z 1 bl cap], .ro .u8 b], rfl, rfl, rfl, rfl, ⟨rfl, rfl, rfl, rfl, trivial⟩, rfl, a, h, i, .inl ⟨e, rfl, rfl, rfl⟩⟩
  ·cbv
   exact ⟨[0, 1, 2, 3], .tup [.agg [.val (.slice none 0 0), .int .i64 n], .int .i64 0], [(.one 81 [.fn 39 [.ptr 1 .z 1 0, .ptr 2 .z 1 0], .int .u64 a, .int .i64 h, .fn 40 [.ptr 2 .z 1 0, .ptr 1 .z 1 0]]), .one 3 [.int .i64 i], .one 22 [.slice 3 .z 1 bl cap], .ro .u8 b], rfl, rfl, rfl, rfl, ⟨rfl, rfl, rfl, rfl, trivial⟩, rfl, a, h, i, .inr ⟨_, q, rfl, h3, .inl ⟨n, rfl, rfl, rfl⟩⟩⟩
  ·generalize hll : L.length = ll
   cbv
   subst hll

   exact ⟨[0, 1, 2, 3, 7], .tup [.agg [.slice 4 .z 1 L.length cp, .int .i64 0], .int .i64 0], [(.one 81 [.fn 39 [.ptr 1 .z 1 0, .ptr 2 .z 1 0], .int .u64 a, .int .i64 h, .fn 40 [.ptr 2 .z 1 0, .ptr 1 .z 1 0]]), .one 3 [.int .i64 i], .one 22 [.slice 3 .z 1 bl cap], .ro .u8 b, .buf 5 .u8 L cq], rfl, rfl, rfl, rfl, ⟨rfl, rfl, rfl, rfl, rfl, trivial⟩, rfl, a, h, i, .inr ⟨_, q, rfl, h3, .inr ⟨L, cp, cq, rfl, rfl, rfl⟩⟩⟩
 ·rw [if_neg hs]
  clear hl hby hp
  generalize b.length = bl at *
  refine con_gen (con_picks (con_drop (con_walk hmix fn7 ?_)))
  intro vb vc vw vtoN vofN vaddN vsubN vmaxI vminI vcutN vgd vst vln vrep vsub vonto vsplice vstrEq vbyteV vnotB veqB hw qb qc qw qtoN qofN qaddN qsubN qmaxI qminI qcutN qgd qst qln qrep qsub qonto qsplice qstrEq qbyteV qnotB qeqB
  have hm := hmix; generalize Try.prog = P at *
  by_cases h1 : size < 1
  ·have e1 : vc .lss size 1 = true := by rw [qc, lss_true]; exact h1
   cbv
   rw [e1]
   cbv
   exact ⟨[0, 1, 2, 3], .tup [.agg [.val (.slice none 0 0), .lit .i64 0], .lit .i64 2], [(.one 81 [.fn 39 [.ptr 1 .z 1 0, .ptr 2 .z 1 0], .int .u64 acc, .int .i64 hv, .fn 40 [.ptr 2 .z 1 0, .ptr 1 .z 1 0]]), .one 3 [.int .i64 ai], .one 22 [.slice 3 .z 1 bl cap], .ro .u8 b], rfl, rfl, rfl, rfl, ⟨rfl, rfl, rfl, rfl, trivial⟩, rfl, acc, hv, ai, .inl ⟨2, rfl, rfl, rfl⟩⟩
  ·have e1 : vc .lss size 1 = false := by rw [qc, lss_false]; exact h1
   have e2 : vc .gtr size 1024 = true := by rw [qc, gtr_true]; omega
   cbv
   rw [e1]
   cbv
   rw [e2]
   cbv
   exact ⟨[0, 1, 2, 3], .tup [.agg [.val (.slice none 0 0), .lit .i64 0], .lit .i64 2], [(.one 81 [.fn 39 [.ptr 1 .z 1 0, .ptr 2 .z 1 0], .int .u64 acc, .int .i64 hv, .fn 40 [.ptr 2 .z 1 0, .ptr 1 .z 1 0]]), .one 3 [.int .i64 ai], .one 22 [.slice 3 .z 1 bl cap], .ro .u8 b], rfl, rfl, rfl, rfl, ⟨rfl, rfl, rfl, rfl, trivial⟩, rfl, acc, hv, ai, .inl ⟨2, rfl, rfl, rfl⟩⟩
end Go.Proofs.Ytkkddgdcmdnnmaa
