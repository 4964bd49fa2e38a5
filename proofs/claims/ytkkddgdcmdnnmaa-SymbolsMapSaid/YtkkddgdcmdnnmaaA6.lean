import Derived.Test.YtkkddgdcmdnnmaaA5
set_option linter.unusedVariables false
set_option linter.unusedSimpArgs false
namespace Go.Proofs.Ytkkddgdcmdnnmaa
open Go Go.Sx Go.Proofs
set_option maxRecDepth 10000
set_option maxHeartbeats 40000000
theorem reffew_con (b : List Int) (cap pos : Nat) (pI size : Int) (hby : ∀ x ∈ b, isByte x) (hl : b.length ≤ 2 ^ 50) (hp : pos ≤ 8 * b.length) (hpI : pI = pos) (hs : 1 ≤ size ∧ size ≤ 1024) :
  Con Try.prog 48 [.ptr 0 .z 2 0, .int .i64 size] [.one 41 [.slice 1 .z 1 b.length cap, .int .i64 pI], .ro .u8 b] (RefCode b (fewR b size pos) (fun p => [.one 41 [.slice 1 .z 1 b.length cap, .int .i64 p], .ro .u8 b])) := by
 have g2 := refgt_con b cap pos 2 pI 2 hby hl hp hpI rfl (by decide)
 have g1 := fun (pos : Nat) (pI : Int) hp hpI => refgt_con b cap pos 1 pI 1 hby hl hp hpI rfl (by decide)
 obtain ⟨w, hw, hw10⟩ : ∃ w : Nat, blen (size - 1) = w ∧ w ≤ 10 := by
  have := blen_range (x := size - 1) (n := 10) (by omega) (by omega)
  exact ⟨(blen (size - 1)).toNat, by omega, by omega⟩
 have gw := fun (pos : Nat) (pI wI : Int) hp hpI hwI => refgt_con b cap pos w pI wI hby hl hp hpI hwI (by omega)
 have hlen := width_con (size - 1) (by omega)
 have hwt : (blen (size - 1)).toNat = w := by omega
 rw [hw] at hlen
 obtain ⟨wI, hwI⟩ : ∃ wI : Int, wI = w := ⟨_, rfl⟩
 rw [← hwI] at hlen
 have gw := fun (pos : Nat) (pI : Int) hp hpI => gw pos pI wI hp hpI hwI
 obtain ⟨sz1, hsz1⟩ : ∃ sz1 : Int, sz1 = size - 1 := ⟨_, rfl⟩
 rw [← hsz1] at hlen
 have hof := fun (l : List Int) (cap : Nat) hR => of50_con l cap hR
 have hfew : ∀ c q, fewR b size pos = .ok (c, q) → CodeOk size c := fun c q h => (fewR_ok hs hp h).1
 have hx := fun x q h => gt_ok (b := b) (n := 2) (p := pos) (x := x) (q := q) h
 have hy := fun p x q h => gt_ok (b := b) (n := 1) (p := p) (x := x) (q := q) h
 have hsy := fun p x q h => gt_ok (b := b) (n := w) (p := p) (x := x) (q := q) h
 have k0 : ∀ e, gt b 2 pos = .error e → fewR b size pos = .error e := fun e h => by unfold fewR; rw [h]
 have k1 : ∀ x q e, gt b 2 pos = .ok (x, q) → symsR b w size (x.toNat + 1) q [] = .error e → fewR b size pos = .error e := fun x q e h h2 => by unfold fewR; rw [h]; simp only [hwt, h2]
 have k2 : ∀ x q l q2, gt b 2 pos = .ok (x, q) → symsR b w size (x.toNat + 1) q [] = .ok (l, q2) → ¬ l.Nodup → fewR b size pos = .error 11 := fun x q l q2 h h2 h3 => by unfold fewR; rw [h]; simp only [hwt, h2, if_neg h3]
 have k3 : ∀ q l q2, gt b 2 pos = .ok (0, q) → symsR b w size 1 q [] = .ok (l, q2) → l.Nodup → fewR b size pos = .ok (.inl (l.getD 0 0), q2) := fun q l q2 h h2 h3 => by
  have h2 : symsR b w size ((0 : Int).toNat + 1) q [] = .ok (l, q2) := h2
  unfold fewR; rw [h]; simp only [hwt, h2, if_pos h3, if_true]
 have k4 : ∀ q l q2 e, gt b 2 pos = .ok (3, q) → symsR b w size 4 q [] = .ok (l, q2) → l.Nodup → gt b 1 q2 = .error e → fewR b size pos = .error e := fun q l q2 e h h2 h3 h4 => by
  have h2 : symsR b w size ((3 : Int).toNat + 1) q [] = .ok (l, q2) := h2
  unfold fewR; rw [h]; simp only [hwt, h2, if_pos h3, h4]; rfl
 have k5 : ∀ q l q2 y q3, gt b 2 pos = .ok (3, q) → symsR b w size 4 q [] = .ok (l, q2) → l.Nodup → gt b 1 q2 = .ok (y, q3) → fewR b size pos = .ok (.inr (putS (List.replicate size.toNat 0) l (givL 4 y)), q3) := fun q l q2 y q3 h h2 h3 h4 => by
  have h2 : symsR b w size ((3 : Int).toNat + 1) q [] = .ok (l, q2) := h2
  unfold fewR; rw [h]; simp only [hwt, h2, if_pos h3, h4]; rfl
 have k6 : ∀ q l q2, gt b 2 pos = .ok (1, q) → symsR b w size 2 q [] = .ok (l, q2) → l.Nodup → fewR b size pos = .ok (.inr (putS (List.replicate size.toNat 0) l [1, 1]), q2) := fun q l q2 h h2 h3 => by
  have h2 : symsR b w size ((1 : Int).toNat + 1) q [] = .ok (l, q2) := h2
  unfold fewR; rw [h]; simp only [hwt, h2, if_pos h3]; rfl
 have k7 : ∀ q l q2, gt b 2 pos = .ok (2, q) → symsR b w size 3 q [] = .ok (l, q2) → l.Nodup → fewR b size pos = .ok (.inr (putS (List.replicate size.toNat 0) l [1, 2, 2]), q2) := fun q l q2 h h2 h3 => by
  have h2 : symsR b w size ((2 : Int).toNat + 1) q [] = .ok (l, q2) := h2
  unfold fewR; rw [h]; simp only [hwt, h2, if_pos h3]; rfl
 have s0 : ∀ p l, symsR b w size 0 p l = .ok (l, p) := fun _ _ => rfl
 have s1 : ∀ k p l e, gt b w p = .error e → symsR b w size (k + 1) p l = .error e := fun k p l e h => by simp only [symsR, h]
 have s2 : ∀ k p l s q, gt b w p = .ok (s, q) → s < size → symsR b w size (k + 1) p l = symsR b w size k q (l ++ [s]) := fun k p l s q h h2 => by simp only [symsR, h, if_pos h2]
 have s3 : ∀ k p l s q, gt b w p = .ok (s, q) → ¬ s < size → symsR b w size (k + 1) p l = .error 11 := fun k p l s q h h2 => by simp only [symsR, h, if_neg h2]
 have pd := @putS_drop
 have pn := putS_nil
 have gv1 : givL 4 1 = [1, 2, 3, 3] := rfl
 have gv0 : givL 4 0 = [2, 2, 2, 2] := rfl
 have hnd := @nodup_of
 have hnn := @not_nodup
 generalize fewR b size pos = r at *
 generalize symsR b w size = SY at *
 generalize putS = PS at *
 generalize gt b 2 pos = G2 at *
 generalize gt b 1 = G1 at *
 generalize gt b w = GW at *
 generalize givL = GV at *
 generalize hNdd : (List.Nodup : List Int → Prop) = ND at *
 refine con_gen (con_picks (con_drop (con_walk hmix fn48 ?_)))
 have hwb := hw
 clear hw
 intro vb vc vw vtoN vofN vaddN vsubN vmaxI vminI vcutN vgd vst vln vrep vsub vonto vsplice vstrEq vbyteV vnotB veqB hw qb qc qw qtoN qofN qaddN qsubN qmaxI qminI qcutN qgd qst qln qrep qsub qonto qsplice qstrEq qbyteV qnotB qeqB
 have hm := hmix; generalize Try.prog = P at *
 obtain ⟨bl, hbl⟩ : ∃ bl, bl = b.length := ⟨_, rfl⟩
 unfold RefR at g2 g1 gw
 unfold RefCode
 simp only [← hbl] at g2 g1 gw hp ⊢
 clear hbl hl hby
 have hto : ∀ i : Nat, vtoN (i : Int) = i := fun i => by simp only [qtoN, Int.toNat_natCast]
 have hadd0 : ∀ i, vaddN 0 i = i := fun i => by simp only [qaddN, Nat.zero_add]
 have es1 : vb .sub .i64 size 1 = sz1 := by rw [qb, sub_i64 (by omega) (by omega), hsz1]
 have hlnq : ∀ l, vln l = l.length := fun l => by rw [qln]
 have hgd : ∀ l j, vgd l j = l.getD j 0 := fun l j => by rw [qgd]
 have e00 : vc .neq 0 0 = false := by rw [qc]; rfl
 cbv
 refine call_con (ρ := [(0, .z), (1, .z)]) g2 ⟨by rfl, by rfl, by rfl, by cbv; exact ⟨view_refl _, trivial⟩⟩ ?_
 rintro v H R js ⟨rfl, q, qI, hq, hq8, rfl, ⟨x, hg, rfl⟩ | ⟨e, hg, he0, he1, rfl⟩⟩
 rotate_left
 ·have hk := k0 e hg
  have ene : vc .neq e 0 = true := by rw [qc, neq_true]; omega
  cbv
  rw [ene]
  cbv
  exact ⟨[0, 1], .tup [.agg [.val (.slice none 0 0), .val (.slice none 0 0), .lit .i64 0], .int .i64 e], [.one 41 [.slice 1 .z 1 bl cap, .int .i64 qI], .ro .u8 b], rfl, rfl, rfl, rfl, ⟨rfl, rfl, trivial⟩, rfl, q, qI, hq, hq8, .inr (.inr ⟨e, hk, he0, he1, rfl, rfl⟩)⟩
 have hxr := hx x q hg
 have hx4 : 0 ≤ x ∧ x < 4 := by omega
 have ewx : vw .i64 x = x := by rw [qw]; exact wrap_i64 (by omega) (by omega)
 have k1' := fun e => k1 x q e hg
 have k2' := fun l q2 => k2 x q l q2 hg
 obtain ⟨n, hn⟩ : ∃ n : Nat, n = x.toNat + 1 := ⟨_, rfl⟩
 obtain ⟨r1, hr1⟩ : ∃ r1, SY (x.toNat + 1) q [] = r1 := ⟨_, rfl⟩
 have hr1n : SY n q [] = r1 := by rw [hn]; exact hr1
 rw [hr1] at k1' k2'
 cbv
 rw [e00]
 cbv
 refine WX.cv (Cv.nilT 8 3 .i64 (by rfl) (by cbv) (Cv.here ?_))
 refine loop_fam (α := Int × List Int × Nat × Nat × Nat × Int) ([10, 11] ++ (List.range' 28 28)) [3]
  (fun (k, l, rl, c, p, pI) => [(9, .int .i64 k), (8, .slice 3 .z 1 rl c)])
  (fun (k, l, rl, c, p, pI) => [(0, .one 41 [.slice 1 .z 1 bl cap, .int .i64 pI]), (3, .buf 3 .i64 l c)])
  (fun (k, l, rl, c, p, pI) => ∃ i : Nat, k = i ∧ i ≤ n ∧ rl = l.length ∧ l.length = i ∧ rl ≤ c ∧ pI = p ∧ p ≤ 8 * bl ∧ SY (n - i) p l = r1 ∧ ∀ j, j < i → 0 ≤ l.getD j 0 ∧ l.getD j 0 < size)
  (fun (k, l, rl, c, p, pI) => n - k.toNat) hw hm ?_ ?_
 ·refine Cv.genAt [9] [0] (Cv.fold ([10, 11] ++ (List.range' 28 28)) 4 [3] (by exact Nat.le_refl _) (by exact Nat.le_of_ble_eq_true rfl) (by rfl) (by cbv) ?_)
  intro js
  refine ⟨(_, _, _, _, q, _), ?_, js, rfl⟩
  exact ⟨0, rfl, by omega, rfl, rfl, by omega, hq, hq8, hr1n, fun j hj => absurd hj (by omega)⟩
 rintro ⟨k, l, rl, c, p, pI2⟩ js2 ⟨i, hk, hi, hrl, hli, hrc, hpI2, hp8, hSY, hlb⟩
 have hk : k = (i : Int) := hk
 have hgw := gw p pI2 hp8 hpI2
 have hcmp : i < n → vc .leq k x = true := fun h => by rw [qc, leq_true]; omega
 have hcmpn : ¬ i < n → vc .leq k x = false := fun h => by rw [qc, leq_false]; omega
 obtain ⟨kn, hkn⟩ : ∃ kn : Int, kn = ((i + 1 : Nat) : Int) := ⟨_, rfl⟩
 have ek : vb .add .i64 k 1 = kn := by rw [qb, add_i64 (by omega) (by omega)]; omega
 have hmu : i < n → n - kn.toNat < n - k.toNat := fun h => by omega
 have hn4 : n ≤ 4 := by omega
 cbv
 rw [ewx]
 by_cases hlt : i < n
 ·obtain ⟨m, hm1⟩ : ∃ m, n - i = m + 1 := ⟨n - i - 1, by omega⟩
  rw [hm1] at hSY
  have hmu := hmu hlt
  rw [hcmp hlt]
  cbv
  rw [es1]
  refine call_con (ρ := []) hlen ⟨by rfl, by rfl, by rfl, by cbv⟩ ?_
  rintro v H R js3 ⟨rfl, rfl, rfl⟩
  cbv
  refine call_con (ρ := [(0, .z), (1, .z)]) hgw ⟨by rfl, by rfl, by rfl, by cbv; exact ⟨view_refl _, trivial⟩⟩ ?_
  rintro v H R js4 ⟨rfl, q3, qI3, hq3, hq38, rfl, ⟨s, hgs, rfl⟩ | ⟨e, hgs, he0, he1, rfl⟩⟩
  rotate_left
  ·have hS1 : r1 = .error e := by rw [← hSY]; exact s1 _ _ _ _ hgs
   have hk := k1' e hS1
   have ene : vc .neq e 0 = true := by rw [qc, neq_true]; omega
   cbv
   rw [ene]
   cbv
   exact ⟨[0, 1], .tup [.agg [.val (.slice none 0 0), .val (.slice none 0 0), .lit .i64 0], .int .i64 e], [.one 41 [.slice 1 .z 1 bl cap, .int .i64 qI3], .ro .u8 b], rfl, rfl, rfl, rfl, ⟨rfl, rfl, trivial⟩, rfl, q3, qI3, hq3, hq38, .inr (.inr ⟨e, hk, he0, he1, rfl, rfl⟩)⟩
  have hsr := hsy p s q3 hgs
  have hp10 : (2 : Int) ^ w ≤ 2 ^ 10 := pow_up hw10
  have ews : vw .i64 s = s := by rw [qw]; exact wrap_i64 (by omega) (by omega)
  cbv
  rw [e00]
  cbv
  rw [ews]
  by_cases hsl : s < size
  rotate_left
  ·have hS1 : r1 = .error 11 := by rw [← hSY]; exact s3 _ _ _ _ _ hgs hsl
   have hk := k1' 11 hS1
   have ege : vc .geq s size = true := by rw [qc, geq_true]; omega
   rw [ege]
   cbv
   exact ⟨[0, 1], .tup [.agg [.val (.slice none 0 0), .val (.slice none 0 0), .lit .i64 0], .lit .i64 11], [.one 41 [.slice 1 .z 1 bl cap, .int .i64 qI3], .ro .u8 b], rfl, rfl, rfl, rfl, ⟨rfl, rfl, trivial⟩, rfl, q3, qI3, hq3, hq38, .inr (.inr ⟨11, hk, by decide, by decide, rfl, rfl⟩)⟩
  have ege : vc .geq s size = false := by rw [qc, geq_false]; omega
  have hS1 : SY m q3 (l ++ [s]) = r1 := by rw [← hSY]; exact (s2 _ _ _ _ _ hgs hsl).symm
  have hsub : vsub [s] 0 1 = [s] := by simp only [qsub]; rfl
  have honto : vonto l rl [s] = l ++ [s] := by rw [qonto, hrl]; simp
  have ha1 : vaddN rl 1 = rl + 1 := by simp only [qaddN]
  have ha01 : vaddN 0 1 = 1 := by simp only [qaddN]
  have hln1 : vln [s] = 1 := by rw [hlnq]; rfl
  have hvl : vln l = rl := by rw [hlnq, hrl]
  obtain ⟨l2, hl2⟩ : ∃ l2, l2 = l ++ [s] := ⟨_, rfl⟩
  rw [← hl2] at honto hS1
  obtain ⟨rl2, hrl2⟩ : ∃ rl2, rl2 = rl + 1 := ⟨_, rfl⟩
  have hl2l : l2.length = i + 1 := by rw [hl2]; simp [hli]
  have hl2g : ∀ j, j < i + 1 → 0 ≤ l2.getD j 0 ∧ l2.getD j 0 < size := by
   intro j hj
   rw [hl2, List.getD_eq_getElem?_getD]
   rcases Nat.lt_or_ge j i with hlt2 | hge2
   ·rw [List.getElem?_append_left (by omega), ← List.getD_eq_getElem?_getD]; exact hlb j hlt2
   ·have : j = l.length := by omega
    subst this
    simp
    omega
  rw [← hrl2] at ha1
  rw [ege]
  cbv
  rw [ews]
  refine ⟨⟨by rw [ha01, hln1]; exact Nat.le_refl _⟩, ⟨by rw [hvl]; exact Nat.le_refl _⟩, ⟨Nat.le_refl _⟩, ⟨by rw [ha1]; omega⟩, ?_⟩
  intro c2 js5 hc2
  have hc3 : vaddN rl 1 ≤ c2 := hc2.1
  rw [ha1] at hc3
  cbv
  rw [hsub, honto, ha1, ek]
  refine Cv.fold ([10, 11] ++ (List.range' 28 28)) 4 [3] (by exact Nat.le_refl _) (by exact Nat.le_of_ble_eq_true rfl) (by rfl) (by cbv) ?_
  intro js
  refine ⟨(_, _, _, _, q3, _), ?_, js, rfl⟩
  exact ⟨⟨i + 1, hkn, hlt, by omega, hl2l, hc3, hq3, hq38, by rw [show n - (i + 1) = m by omega]; exact hS1, hl2g⟩, hmu⟩
 have hin : i = n := by omega
 subst hin
 have hl1 : r1 = .ok (l, p) := by rw [← hSY, Nat.sub_self]; exact s0 p l
 have hvl : vln l = rl := by rw [hlnq, hrl]
 obtain ⟨rlI, hrlI⟩ : ∃ rlI : Int, rlI = rl := ⟨_, rfl⟩
 have hofn : vofN rl = rlI := by rw [qofN]; exact hrlI.symm
 rw [hcmpn (by omega)]
 cbv
 refine loop_fam (α := Int) (13 :: (List.range' 56 21)) [3]
  (fun k => [(12, .int .i64 k)]) (fun _ => [])
  (fun k => ∃ j : Nat, k = j ∧ j ≤ i ∧ ∀ m, m < j → ∀ q, q < m → l.getD q 0 ≠ l.getD m 0) (fun k => i - k.toNat) hw hm ?_ ?_
 ·refine Cv.genAt [12] [] (Cv.fold (13 :: (List.range' 56 21)) 4 [3] (by exact Nat.le_refl _) (by exact Nat.le_of_ble_eq_true rfl) (by rfl) (by cbv) ?_)
  intro js
  refine ⟨_, ?_, js, rfl⟩
  exact ⟨0, rfl, by omega, fun m hm => absurd hm (by omega)⟩
 rintro kk js3 ⟨j, hk2, hj, hne⟩
 have hk2 : kk = (j : Int) := hk2
 have hrlI : rlI = (rl : Int) := hrlI
 have htj : vtoN kk = j := by rw [hk2]; exact hto j
 have hcm : j < i → vc .lss kk rlI = true := fun h => by rw [qc, lss_true]; omega
 have hcmn : ¬ j < i → vc .lss kk rlI = false := fun h => by rw [qc, lss_false]; omega
 obtain ⟨kj, hk3⟩ : ∃ kj : Int, kj = ((j + 1 : Nat) : Int) := ⟨_, rfl⟩
 have ek3 : vb .add .i64 kk 1 = kj := by rw [qb, add_i64 (by omega) (by omega)]; omega
 have hmu2 : j < i → i - kj.toNat < i - kk.toNat := fun h => by omega
 have hinR : j < i → 0 ≤ kk ∧ kk < (rl : Int) := fun h => by omega
 cbv
 rw [hofn]
 by_cases hlt2 : j < i
 ·rw [hcm hlt2]
  have hmu2 := hmu2 hlt2
  have hinR := hinR hlt2
  cbv
  refine loop_fam (α := Int) ((List.range' 62 15)) [3]
   (fun k => [(13, .int .i64 k)]) (fun _ => [])
   (fun k => ∃ q : Nat, k = q ∧ q ≤ j ∧ ∀ m, m < q → l.getD m 0 ≠ l.getD j 0) (fun k => j - k.toNat) hw hm ?_ ?_
  ·refine Cv.genAt [13] [] (Cv.fold ((List.range' 62 15)) 4 [3] (by exact Nat.le_refl _) (by exact Nat.le_of_ble_eq_true rfl) (by rfl) (by cbv) ?_)
   intro js
   refine ⟨_, ?_, js, rfl⟩
   exact ⟨0, rfl, by omega, fun m hm => absurd hm (by omega)⟩
  rintro kq js4 ⟨q5, hk5, hq5, hne2⟩
  have hk5 : kq = (q5 : Int) := hk5
  have hk2 : kk = (j : Int) := hk2
  have htq : vtoN kq = q5 := by rw [hk5]; exact hto q5
  have hcm3 : q5 < j → vc .lss kq kk = true := fun h => by rw [qc, lss_true]; omega
  have hcm3n : ¬ q5 < j → vc .lss kq kk = false := fun h => by rw [qc, lss_false]; omega
  obtain ⟨k6n, hk6⟩ : ∃ k6n : Int, k6n = ((q5 + 1 : Nat) : Int) := ⟨_, rfl⟩
  have ek6 : vb .add .i64 kq 1 = k6n := by rw [qb, add_i64 (by omega) (by omega)]; omega
  have hmu3 : q5 < j → j - k6n.toNat < j - kq.toNat := fun h => by omega
  have hinR3 : q5 < j → 0 ≤ kq ∧ kq < (rl : Int) := fun h => by omega
  cbv
  by_cases hlt3 : q5 < j
  ·rw [hcm3 hlt3]
   have hmu3 := hmu3 hlt3
   have hinR3 := hinR3 hlt3
   cbv
   rw [htj, htq, hadd0, hadd0, hgd, hgd]
   refine ⟨⟨hinR⟩, ⟨by rw [hvl]; omega⟩, ⟨by rw [hvl]; omega⟩, ⟨hinR3⟩, ⟨by rw [hvl]; omega⟩, ⟨by rw [hvl]; omega⟩, ?_⟩
   by_cases heq : l.getD j 0 = l.getD q5 0
   ·have ee : vc .eql (l.getD j 0) (l.getD q5 0) = true := by rw [qc, eql_true]; exact heq
    have hnd2 := hnn (l := l) (j := j) (q := q5) (by omega) hlt3 heq.symm
    have hk := k2' l p hl1 hnd2
    rw [ee]
    cbv
    exact ⟨[0, 1], .tup [.agg [.val (.slice none 0 0), .val (.slice none 0 0), .lit .i64 0], .lit .i64 11], [.one 41 [.slice 1 .z 1 bl cap, .int .i64 pI2], .ro .u8 b], rfl, rfl, rfl, rfl, ⟨rfl, rfl, trivial⟩, rfl, p, pI2, hpI2, hp8, .inr (.inr ⟨11, hk, by decide, by decide, rfl, rfl⟩)⟩
   ·have ee : vc .eql (l.getD j 0) (l.getD q5 0) = false := by rw [qc, eql_false]; exact heq
    rw [ee]
    cbv
    rw [ek6]
    refine Cv.fold ((List.range' 62 15)) 4 [3] (by exact Nat.le_refl _) (by exact Nat.le_of_ble_eq_true rfl) (by rfl) (by cbv) ?_
    intro js
    refine ⟨_, ?_, js, rfl⟩
    refine ⟨⟨q5 + 1, hk6, hlt3, fun m hm => ?_⟩, hmu3⟩
    rcases Nat.lt_or_ge m q5 with h7 | h7
    ·exact hne2 m h7
    ·have : m = q5 := by omega
     subst this
     exact fun h => heq h.symm
  ·rw [hcm3n hlt3]
   cbv
   rw [ek3]
   refine Cv.fold (13 :: (List.range' 56 21)) 4 [3] (by exact Nat.le_refl _) (by exact Nat.le_of_ble_eq_true rfl) (by rfl) (by cbv) ?_
   intro js
   refine ⟨_, ?_, js, rfl⟩
   refine ⟨⟨j + 1, hk3, hlt2, fun m hm q7 hq7 => ?_⟩, hmu2⟩
   rcases Nat.lt_or_ge m j with h7 | h7
   ·exact hne m h7 q7 hq7
   ·have : m = j := by omega
    subst this
    exact hne2 q7 (by omega)
 have hji : j = i := by omega
 have hND : ND l := hnd (fun m hm => hne m (by omega))
 have hgl : ∀ q5, q5 < i → 0 ≤ l.getD q5 0 ∧ l.getD q5 0 < size := hlb
 rw [hcmn hlt2]
 clear hne hlb hnd hnn s1 s2 s3 hsy hSY hcm hcmn hmu2 hinR hcmp hcmpn hmu hgw
 have hx4' : x = 0 ∨ x = 1 ∨ x = 2 ∨ x = 3 := by omega
 rcases hx4' with rfl | rfl | rfl | rfl
 ·have hi1 : i = 1 := by omega
  have hk := k3 q l p hg (by rw [← hl1, ← hr1]; rfl) hND
  have ht0 : vtoN 0 = 0 := hto 0
  have e03 : vc .eql 0 3 = false := by rw [qc]; rfl
  have e000 : vc .eql 0 0 = true := by rw [qc]; rfl
  have hl0R : 0 ≤ (0 : Int) ∧ (0 : Int) < (rl : Int) := by omega
  cbv
  rw [ht0]
  cbv
  refine ⟨⟨by decide⟩, ?_⟩
  rw [e03]
  cbv
  rw [e000]
  cbv
  rw [hadd0, hgd]
  refine ⟨⟨hl0R⟩, ⟨by rw [hvl]; omega⟩, ⟨by rw [hvl]; omega⟩, ?_⟩
  exact ⟨[0, 1], .tup [.agg [.val (.slice none 0 0), .val (.slice none 0 0), .int .i64 (l.getD 0 0)], .lit .i64 0], [.one 41 [.slice 1 .z 1 bl cap, .int .i64 pI2], .ro .u8 b], rfl, rfl, rfl, rfl, ⟨rfl, rfl, trivial⟩, rfl, p, pI2, hpI2, hp8, .inl ⟨_, hk, rfl, rfl⟩⟩
 ·have hi1 : i = 2 := by omega
  have hk := k6 q l p hg (by rw [← hl1, ← hr1]; rfl) hND
  have ht1 : vtoN 1 = 1 := hto 1
  have e13 : vc .eql 1 3 = false := by rw [qc]; rfl
  have e10 : vc .eql 1 0 = false := by rw [qc]; rfl
  cbv
  rw [ht1]
  cbv
  refine ⟨⟨by decide⟩, ?_⟩
  rw [e13]
  cbv
  rw [e10]
  cbv
  obtain ⟨S, hS⟩ : ∃ S, S = size.toNat := ⟨_, rfl⟩
  have htS : vtoN size = S := by rw [qtoN]; exact hS.symm
  have hrep : vrep S 0 = List.replicate S 0 := by rw [qrep]
  obtain ⟨g, hg7⟩ : ∃ g : List Int, g = [1, 1] := ⟨_, rfl⟩
  rw [← hS] at hk
  obtain ⟨Lf, hLf⟩ : ∃ Lf, Lf = PS (List.replicate S 0) l [1, 1] := ⟨_, rfl⟩
  rw [← hLf] at hk
  rw [← hg7] at hLf
  obtain ⟨L0, hL0⟩ : ∃ L0, L0 = List.replicate S (0 : Int) := ⟨_, rfl⟩
  rw [← hL0] at hrep hLf
  have hL0l : L0.length = S := by rw [hL0]; simp
  have hgl7 : g.length = 2 := by rw [hg7]; rfl
  have hlg : vln [1, 1] = 2 := by rw [hlnq]; rfl
  have hst : ∀ L i v, vst L i v = L.set i v := fun L i v => by rw [qst]
  have hrl2 : rl = 2 := by omega
  have hrlI2 : rlI = 2 := by rw [hrlI, hrl2]; rfl
  have hlfC := hfew _ _ hk
  refine ⟨⟨by omega⟩, ⟨by omega⟩, ⟨by omega⟩, ⟨by show size * 1 ≤ 281474976710656; omega⟩, ?_⟩
  rw [htS, hrep]
  refine loop_fam (α := Int × List Int) ((List.range' 111 16)) [3]
   (fun (kk, L) => [(18, .int .i64 kk)]) (fun (kk, L) => [(10, .ints 5 .u8 L)])
   (fun (kk, L) => ∃ j2 : Nat, kk = j2 ∧ j2 ≤ 2 ∧ L.length = S ∧ PS L (l.drop j2) (g.drop j2) = Lf) (fun (kk, L) => 2 - kk.toNat) hw hm ?_ ?_
  ·refine Cv.genAt [18] [] (Cv.fold ((List.range' 111 16)) 11 [3] (by exact Nat.le_refl _) (by exact Nat.le_of_ble_eq_true rfl) (by rfl) (by cbv) ?_)
   intro js
   refine ⟨(_, _), ?_, js, rfl⟩
   exact ⟨0, rfl, by omega, hL0l, hLf.symm⟩
  rintro ⟨kk2, L⟩ js ⟨j2, hkk2, hj2, hLl, hPS⟩
  have hkk2 : kk2 = (j2 : Int) := hkk2
  have htj2 : vtoN kk2 = j2 := by rw [hkk2]; exact hto j2
  have hcA : j2 < 2 → vc .lss kk2 rlI = true := fun h => by rw [qc, lss_true, hrlI2]; omega
  have hcB : ¬ j2 < 2 → vc .lss kk2 rlI = false := fun h => by rw [qc, lss_false, hrlI2]; omega
  have hRA : j2 < 2 → 0 ≤ kk2 ∧ kk2 < (rl : Int) := fun h => by rw [hrl2]; omega
  have hRB : j2 < 2 → 0 ≤ kk2 ∧ kk2 < ((2 : Nat) : Int) := fun h => by omega
  obtain ⟨k5n, hk5⟩ : ∃ k5n : Int, k5n = ((j2 + 1 : Nat) : Int) := ⟨_, rfl⟩
  have ek5 : vb .add .i64 kk2 1 = k5n := by rw [qb, add_i64 (by omega) (by omega)]; omega
  have hmuA : j2 < 2 → 2 - k5n.toNat < 2 - kk2.toNat := fun h => by omega
  cbv
  rw [hofn]
  by_cases hltA : j2 < 2
  ·obtain ⟨s, hs2⟩ : ∃ s, s = l.getD j2 0 := ⟨_, rfl⟩
   have hsb := hgl j2 (by omega)
   rw [← hs2] at hsb
   have hts : vtoN s = s.toNat := by rw [qtoN]
   have hPS2 := pd (L := L) (l := l) (g := g) (i := j2) (by omega) (by omega)
   rw [hPS, ← hs2] at hPS2
   obtain ⟨L2, hL2⟩ : ∃ L2, L2 = L.set s.toNat (g.getD j2 0) := ⟨_, rfl⟩
   have hL2l : L2.length = S := by rw [hL2]; simp [hLl]
   rw [← hL2] at hPS2
   have hvL : vln L = S := by rw [hlnq]; exact hLl
   have hsS : s.toNat < S := by omega
   have hsI : 0 ≤ s ∧ s < ((S : Nat) : Int) := by omega
   have hRA := hRA hltA
   have hRB := hRB hltA
   have hmuA := hmuA hltA
   rw [hcA hltA]
   cbv
   rw [htj2, hadd0, hgd, ← hs2, hts, show vgd [1, 1] j2 = g.getD j2 0 by rw [← hg7]; exact hgd g j2, hst, ← hL2]
   refine ⟨⟨hRA⟩, ⟨by rw [hvl]; omega⟩, ⟨by rw [hvl]; omega⟩, ⟨hRB⟩, ⟨by rw [hlg]; exact hltA⟩, ⟨hsI⟩, ⟨by rw [hvL]; exact hsS⟩, ?_⟩
   rw [ek5]
   refine Cv.fold ((List.range' 111 16)) 11 [3] (by exact Nat.le_refl _) (by exact Nat.le_of_ble_eq_true rfl) (by rfl) (by cbv) ?_
   intro js
   refine ⟨(_, _), ?_, js, rfl⟩
   exact ⟨⟨j2 + 1, hk5, hltA, hL2l, hPS2.symm⟩, hmuA⟩
  ·have hj3 : j2 = 2 := by omega
   subst hj3
   have hLL : L = Lf := by
    rw [← hPS, List.drop_eq_nil_of_le (by omega), pn]
   rw [← hLL] at hk hlfC
   have hofL := hof L S hlfC.2.2.2
   rw [hLl] at hofL
   clear hLf hPS hLL htS hrep hL0 hL0l hlfC
   rw [hcB hltA]
   cbv
   refine call_con (ρ := [(10, .z)]) hofL ⟨by rfl, by rfl, by rfl, by cbv; exact ⟨view_refl _, trivial⟩⟩ ?_
   rintro v H R js5 ⟨rfl, rfl, rfl⟩
   generalize hW : WL L = W
   cbv
   subst hW
   exact ⟨[0, 1, 10, 11], .tup [.agg [.slice 2 .z 1 S S, .slice 3 .z 1 S S, .int .i64 0], .lit .i64 0], [.one 41 [.slice 1 .z 1 bl cap, .int .i64 pI2], .ro .u8 b, .ints 5 .u8 L, .ints 116 .u16 (WL L)], rfl, rfl, rfl, rfl, ⟨rfl, rfl, rfl, rfl, trivial⟩, rfl, p, pI2, hpI2, hp8, .inr (.inl ⟨L, S, hk, by rw [hLl]; rfl, rfl⟩)⟩
 ·have hi1 : i = 3 := by omega
  have hk := k7 q l p hg (by rw [← hl1, ← hr1]; rfl) hND
  have ht1 : vtoN 2 = 2 := hto 2
  have e13 : vc .eql 2 3 = false := by rw [qc]; rfl
  have e10 : vc .eql 2 0 = false := by rw [qc]; rfl
  cbv
  rw [ht1]
  cbv
  refine ⟨⟨by decide⟩, ?_⟩
  rw [e13]
  cbv
  rw [e10]
  cbv
  obtain ⟨S, hS⟩ : ∃ S, S = size.toNat := ⟨_, rfl⟩
  have htS : vtoN size = S := by rw [qtoN]; exact hS.symm
  have hrep : vrep S 0 = List.replicate S 0 := by rw [qrep]
  obtain ⟨g, hg7⟩ : ∃ g : List Int, g = [1, 2, 2] := ⟨_, rfl⟩
  rw [← hS] at hk
  obtain ⟨Lf, hLf⟩ : ∃ Lf, Lf = PS (List.replicate S 0) l [1, 2, 2] := ⟨_, rfl⟩
  rw [← hLf] at hk
  rw [← hg7] at hLf
  obtain ⟨L0, hL0⟩ : ∃ L0, L0 = List.replicate S (0 : Int) := ⟨_, rfl⟩
  rw [← hL0] at hrep hLf
  have hL0l : L0.length = S := by rw [hL0]; simp
  have hgl7 : g.length = 3 := by rw [hg7]; rfl
  have hlg : vln [1, 2, 2] = 3 := by rw [hlnq]; rfl
  have hst : ∀ L i v, vst L i v = L.set i v := fun L i v => by rw [qst]
  have hrl2 : rl = 3 := by omega
  have hrlI2 : rlI = 3 := by rw [hrlI, hrl2]; rfl
  have hlfC := hfew _ _ hk
  refine ⟨⟨by omega⟩, ⟨by omega⟩, ⟨by omega⟩, ⟨by show size * 1 ≤ 281474976710656; omega⟩, ?_⟩
  rw [htS, hrep]
  refine loop_fam (α := Int × List Int) ((List.range' 111 16)) [3]
   (fun (kk, L) => [(18, .int .i64 kk)]) (fun (kk, L) => [(10, .ints 5 .u8 L)])
   (fun (kk, L) => ∃ j2 : Nat, kk = j2 ∧ j2 ≤ 3 ∧ L.length = S ∧ PS L (l.drop j2) (g.drop j2) = Lf) (fun (kk, L) => 3 - kk.toNat) hw hm ?_ ?_
  ·refine Cv.genAt [18] [] (Cv.fold ((List.range' 111 16)) 11 [3] (by exact Nat.le_refl _) (by exact Nat.le_of_ble_eq_true rfl) (by rfl) (by cbv) ?_)
   intro js
   refine ⟨(_, _), ?_, js, rfl⟩
   exact ⟨0, rfl, by omega, hL0l, hLf.symm⟩
  rintro ⟨kk2, L⟩ js ⟨j2, hkk2, hj2, hLl, hPS⟩
  have hkk2 : kk2 = (j2 : Int) := hkk2
  have htj2 : vtoN kk2 = j2 := by rw [hkk2]; exact hto j2
  have hcA : j2 < 3 → vc .lss kk2 rlI = true := fun h => by rw [qc, lss_true, hrlI2]; omega
  have hcB : ¬ j2 < 3 → vc .lss kk2 rlI = false := fun h => by rw [qc, lss_false, hrlI2]; omega
  have hRA : j2 < 3 → 0 ≤ kk2 ∧ kk2 < (rl : Int) := fun h => by rw [hrl2]; omega
  have hRB : j2 < 3 → 0 ≤ kk2 ∧ kk2 < ((3 : Nat) : Int) := fun h => by omega
  obtain ⟨k5n, hk5⟩ : ∃ k5n : Int, k5n = ((j2 + 1 : Nat) : Int) := ⟨_, rfl⟩
  have ek5 : vb .add .i64 kk2 1 = k5n := by rw [qb, add_i64 (by omega) (by omega)]; omega
  have hmuA : j2 < 3 → 3 - k5n.toNat < 3 - kk2.toNat := fun h => by omega
  cbv
  rw [hofn]
  by_cases hltA : j2 < 3
  ·obtain ⟨s, hs2⟩ : ∃ s, s = l.getD j2 0 := ⟨_, rfl⟩
   have hsb := hgl j2 (by omega)
   rw [← hs2] at hsb
   have hts : vtoN s = s.toNat := by rw [qtoN]
   have hPS2 := pd (L := L) (l := l) (g := g) (i := j2) (by omega) (by omega)
   rw [hPS, ← hs2] at hPS2
   obtain ⟨L2, hL2⟩ : ∃ L2, L2 = L.set s.toNat (g.getD j2 0) := ⟨_, rfl⟩
   have hL2l : L2.length = S := by rw [hL2]; simp [hLl]
   rw [← hL2] at hPS2
   have hvL : vln L = S := by rw [hlnq]; exact hLl
   have hsS : s.toNat < S := by omega
   have hsI : 0 ≤ s ∧ s < ((S : Nat) : Int) := by omega
   have hRA := hRA hltA
   have hRB := hRB hltA
   have hmuA := hmuA hltA
   rw [hcA hltA]
   cbv
   rw [htj2, hadd0, hgd, ← hs2, hts, show vgd [1, 2, 2] j2 = g.getD j2 0 by rw [← hg7]; exact hgd g j2, hst, ← hL2]
   refine ⟨⟨hRA⟩, ⟨by rw [hvl]; omega⟩, ⟨by rw [hvl]; omega⟩, ⟨hRB⟩, ⟨by rw [hlg]; exact hltA⟩, ⟨hsI⟩, ⟨by rw [hvL]; exact hsS⟩, ?_⟩
   rw [ek5]
   refine Cv.fold ((List.range' 111 16)) 11 [3] (by exact Nat.le_refl _) (by exact Nat.le_of_ble_eq_true rfl) (by rfl) (by cbv) ?_
   intro js
   refine ⟨(_, _), ?_, js, rfl⟩
   exact ⟨⟨j2 + 1, hk5, hltA, hL2l, hPS2.symm⟩, hmuA⟩
  ·have hj3 : j2 = 3 := by omega
   subst hj3
   have hLL : L = Lf := by
    rw [← hPS, List.drop_eq_nil_of_le (by omega), pn]
   rw [← hLL] at hk hlfC
   have hofL := hof L S hlfC.2.2.2
   rw [hLl] at hofL
   clear hLf hPS hLL htS hrep hL0 hL0l hlfC
   rw [hcB hltA]
   cbv
   refine call_con (ρ := [(10, .z)]) hofL ⟨by rfl, by rfl, by rfl, by cbv; exact ⟨view_refl _, trivial⟩⟩ ?_
   rintro v H R js5 ⟨rfl, rfl, rfl⟩
   generalize hW : WL L = W
   cbv
   subst hW
   exact ⟨[0, 1, 10, 11], .tup [.agg [.slice 2 .z 1 S S, .slice 3 .z 1 S S, .int .i64 0], .lit .i64 0], [.one 41 [.slice 1 .z 1 bl cap, .int .i64 pI2], .ro .u8 b, .ints 5 .u8 L, .ints 116 .u16 (WL L)], rfl, rfl, rfl, rfl, ⟨rfl, rfl, rfl, rfl, trivial⟩, rfl, p, pI2, hpI2, hp8, .inr (.inl ⟨L, S, hk, by rw [hLl]; rfl, rfl⟩)⟩
 ·have hi1 : i = 4 := by omega
  have hS4 : SY 4 q [] = .ok (l, p) := by rw [← hl1, ← hr1]; rfl
  have ht1 : vtoN 3 = 3 := hto 3
  have e13 : vc .eql 3 3 = true := by rw [qc]; rfl
  have e10 : vc .eql 3 0 = false := by rw [qc]; rfl
  have g1p := g1 p pI2 hp8 hpI2
  have hrl4 : rlI = (rl : Int) := hrlI
  cbv
  rw [ht1]
  cbv
  refine ⟨⟨by decide⟩, ?_⟩
  rw [e13]
  cbv
  refine call_con (ρ := [(0, .z), (1, .z)]) g1p ⟨by rfl, by rfl, by rfl, by cbv; exact ⟨view_refl _, trivial⟩⟩ ?_
  rintro v H R js9 ⟨rfl, q9, qI9, hq9, hq98, rfl, ⟨y, hgy, rfl⟩ | ⟨e, hge, he0, he1, rfl⟩⟩
  rotate_left
  ·have hk := k4 q l p e hg hS4 hND hge
   have ene : vc .neq e 0 = true := by rw [qc, neq_true]; omega
   cbv
   rw [ene]
   cbv
   exact ⟨[0, 1], .tup [.agg [.val (.slice none 0 0), .val (.slice none 0 0), .lit .i64 0], .int .i64 e], [.one 41 [.slice 1 .z 1 bl cap, .int .i64 qI9], .ro .u8 b], rfl, rfl, rfl, rfl, ⟨rfl, rfl, trivial⟩, rfl, q9, qI9, hq9, hq98, .inr (.inr ⟨e, hk, he0, he1, rfl, rfl⟩)⟩
  have hk := k5 q l p y q9 hg hS4 hND hgy
  have hy2 := hy p y q9 hgy
  have hy3 : y = 0 ∨ y = 1 := by omega
  rcases hy3 with rfl | rfl
  ·rw [gv0] at hk
   have hty : vtoN 0 = 0 := hto 0
   cbv
   rw [e00]
   cbv
   rw [hty]
   cbv
   refine ⟨⟨by decide⟩, ?_⟩
   rw [e10]
   cbv
   obtain ⟨S, hS⟩ : ∃ S, S = size.toNat := ⟨_, rfl⟩
   have htS : vtoN size = S := by rw [qtoN]; exact hS.symm
   have hrep : vrep S 0 = List.replicate S 0 := by rw [qrep]
   obtain ⟨g, hg7⟩ : ∃ g : List Int, g = [2, 2, 2, 2] := ⟨_, rfl⟩
   rw [← hS] at hk
   obtain ⟨Lf, hLf⟩ : ∃ Lf, Lf = PS (List.replicate S 0) l [2, 2, 2, 2] := ⟨_, rfl⟩
   rw [← hLf] at hk
   rw [← hg7] at hLf
   obtain ⟨L0, hL0⟩ : ∃ L0, L0 = List.replicate S (0 : Int) := ⟨_, rfl⟩
   rw [← hL0] at hrep hLf
   have hL0l : L0.length = S := by rw [hL0]; simp
   have hgl7 : g.length = 4 := by rw [hg7]; rfl
   have hlg : vln [2, 2, 2, 2] = 4 := by rw [hlnq]; rfl
   have hst : ∀ L i v, vst L i v = L.set i v := fun L i v => by rw [qst]
   have hrl2 : rl = 4 := by omega
   have hrlI2 : rlI = 4 := by rw [hrlI, hrl2]; rfl
   have hlfC := hfew _ _ hk
   refine ⟨⟨by omega⟩, ⟨by omega⟩, ⟨by omega⟩, ⟨by show size * 1 ≤ 281474976710656; omega⟩, ?_⟩
   rw [htS, hrep]
   refine loop_fam (α := Int × List Int) ((List.range' 111 16)) [3]
    (fun (kk, L) => [(18, .int .i64 kk)]) (fun (kk, L) => [(13, .ints 5 .u8 L)])
    (fun (kk, L) => ∃ j2 : Nat, kk = j2 ∧ j2 ≤ 4 ∧ L.length = S ∧ PS L (l.drop j2) (g.drop j2) = Lf) (fun (kk, L) => 4 - kk.toNat) hw hm ?_ ?_
   ·refine Cv.genAt [18] [] (Cv.fold ((List.range' 111 16)) 14 [3] (by exact Nat.le_refl _) (by exact Nat.le_of_ble_eq_true rfl) (by rfl) (by cbv) ?_)
    intro js
    refine ⟨(_, _), ?_, js, rfl⟩
    exact ⟨0, rfl, by omega, hL0l, hLf.symm⟩
   rintro ⟨kk2, L⟩ js ⟨j2, hkk2, hj2, hLl, hPS⟩
   have hkk2 : kk2 = (j2 : Int) := hkk2
   have htj2 : vtoN kk2 = j2 := by rw [hkk2]; exact hto j2
   have hcA : j2 < 4 → vc .lss kk2 rlI = true := fun h => by rw [qc, lss_true, hrlI2]; omega
   have hcB : ¬ j2 < 4 → vc .lss kk2 rlI = false := fun h => by rw [qc, lss_false, hrlI2]; omega
   have hRA : j2 < 4 → 0 ≤ kk2 ∧ kk2 < (rl : Int) := fun h => by rw [hrl2]; omega
   have hRB : j2 < 4 → 0 ≤ kk2 ∧ kk2 < ((4 : Nat) : Int) := fun h => by omega
   obtain ⟨k5n, hk5⟩ : ∃ k5n : Int, k5n = ((j2 + 1 : Nat) : Int) := ⟨_, rfl⟩
   have ek5 : vb .add .i64 kk2 1 = k5n := by rw [qb, add_i64 (by omega) (by omega)]; omega
   have hmuA : j2 < 4 → 4 - k5n.toNat < 4 - kk2.toNat := fun h => by omega
   cbv
   rw [hofn]
   by_cases hltA : j2 < 4
   ·obtain ⟨s, hs2⟩ : ∃ s, s = l.getD j2 0 := ⟨_, rfl⟩
    have hsb := hgl j2 (by omega)
    rw [← hs2] at hsb
    have hts : vtoN s = s.toNat := by rw [qtoN]
    have hPS2 := pd (L := L) (l := l) (g := g) (i := j2) (by omega) (by omega)
    rw [hPS, ← hs2] at hPS2
    obtain ⟨L2, hL2⟩ : ∃ L2, L2 = L.set s.toNat (g.getD j2 0) := ⟨_, rfl⟩
    have hL2l : L2.length = S := by rw [hL2]; simp [hLl]
    rw [← hL2] at hPS2
    have hvL : vln L = S := by rw [hlnq]; exact hLl
    have hsS : s.toNat < S := by omega
    have hsI : 0 ≤ s ∧ s < ((S : Nat) : Int) := by omega
    have hRA := hRA hltA
    have hRB := hRB hltA
    have hmuA := hmuA hltA
    rw [hcA hltA]
    cbv
    rw [htj2, hadd0, hgd, ← hs2, hts, show vgd [2, 2, 2, 2] j2 = g.getD j2 0 by rw [← hg7]; exact hgd g j2, hst, ← hL2]
    refine ⟨⟨hRA⟩, ⟨by rw [hvl]; omega⟩, ⟨by rw [hvl]; omega⟩, ⟨hRB⟩, ⟨by rw [hlg]; exact hltA⟩, ⟨hsI⟩, ⟨by rw [hvL]; exact hsS⟩, ?_⟩
    rw [ek5]
    refine Cv.fold ((List.range' 111 16)) 14 [3] (by exact Nat.le_refl _) (by exact Nat.le_of_ble_eq_true rfl) (by rfl) (by cbv) ?_
    intro js
    refine ⟨(_, _), ?_, js, rfl⟩
    exact ⟨⟨j2 + 1, hk5, hltA, hL2l, hPS2.symm⟩, hmuA⟩
   ·have hj3 : j2 = 4 := by omega
    subst hj3
    have hLL : L = Lf := by
     rw [← hPS, List.drop_eq_nil_of_le (by omega), pn]
    rw [← hLL] at hk hlfC
    have hofL := hof L S hlfC.2.2.2
    rw [hLl] at hofL
    clear hLf hPS hLL htS hrep hL0 hL0l hlfC
    rw [hcB hltA]
    cbv
    refine call_con (ρ := [(13, .z)]) hofL ⟨by rfl, by rfl, by rfl, by cbv; exact ⟨view_refl _, trivial⟩⟩ ?_
    rintro v H R js5 ⟨rfl, rfl, rfl⟩
    generalize hW : WL L = W
    cbv
    subst hW
    exact ⟨[0, 1, 13, 14], .tup [.agg [.slice 2 .z 1 S S, .slice 3 .z 1 S S, .int .i64 0], .lit .i64 0], [.one 41 [.slice 1 .z 1 bl cap, .int .i64 qI9], .ro .u8 b, .ints 5 .u8 L, .ints 116 .u16 (WL L)], rfl, rfl, rfl, rfl, ⟨rfl, rfl, rfl, rfl, trivial⟩, rfl, q9, qI9, hq9, hq98, .inr (.inl ⟨L, S, hk, by rw [hLl]; rfl, rfl⟩)⟩
  ·rw [gv1] at hk
   have hty : vtoN 1 = 1 := hto 1
   cbv
   rw [e00]
   cbv
   rw [hty]
   cbv
   refine ⟨⟨by decide⟩, ?_⟩
   rw [e10]
   cbv
   obtain ⟨S, hS⟩ : ∃ S, S = size.toNat := ⟨_, rfl⟩
   have htS : vtoN size = S := by rw [qtoN]; exact hS.symm
   have hrep : vrep S 0 = List.replicate S 0 := by rw [qrep]
   obtain ⟨g, hg7⟩ : ∃ g : List Int, g = [1, 2, 3, 3] := ⟨_, rfl⟩
   rw [← hS] at hk
   obtain ⟨Lf, hLf⟩ : ∃ Lf, Lf = PS (List.replicate S 0) l [1, 2, 3, 3] := ⟨_, rfl⟩
   rw [← hLf] at hk
   rw [← hg7] at hLf
   obtain ⟨L0, hL0⟩ : ∃ L0, L0 = List.replicate S (0 : Int) := ⟨_, rfl⟩
   rw [← hL0] at hrep hLf
   have hL0l : L0.length = S := by rw [hL0]; simp
   have hgl7 : g.length = 4 := by rw [hg7]; rfl
   have hlg : vln [1, 2, 3, 3] = 4 := by rw [hlnq]; rfl
   have hst : ∀ L i v, vst L i v = L.set i v := fun L i v => by rw [qst]
   have hrl2 : rl = 4 := by omega
   have hrlI2 : rlI = 4 := by rw [hrlI, hrl2]; rfl
   have hlfC := hfew _ _ hk
   refine ⟨⟨by omega⟩, ⟨by omega⟩, ⟨by omega⟩, ⟨by show size * 1 ≤ 281474976710656; omega⟩, ?_⟩
   rw [htS, hrep]
   refine loop_fam (α := Int × List Int) ((List.range' 111 16)) [3]
    (fun (kk, L) => [(18, .int .i64 kk)]) (fun (kk, L) => [(13, .ints 5 .u8 L)])
    (fun (kk, L) => ∃ j2 : Nat, kk = j2 ∧ j2 ≤ 4 ∧ L.length = S ∧ PS L (l.drop j2) (g.drop j2) = Lf) (fun (kk, L) => 4 - kk.toNat) hw hm ?_ ?_
   ·refine Cv.genAt [18] [] (Cv.fold ((List.range' 111 16)) 14 [3] (by exact Nat.le_refl _) (by exact Nat.le_of_ble_eq_true rfl) (by rfl) (by cbv) ?_)
    intro js
    refine ⟨(_, _), ?_, js, rfl⟩
    exact ⟨0, rfl, by omega, hL0l, hLf.symm⟩
   rintro ⟨kk2, L⟩ js ⟨j2, hkk2, hj2, hLl, hPS⟩
   have hkk2 : kk2 = (j2 : Int) := hkk2
   have htj2 : vtoN kk2 = j2 := by rw [hkk2]; exact hto j2
   have hcA : j2 < 4 → vc .lss kk2 rlI = true := fun h => by rw [qc, lss_true, hrlI2]; omega
   have hcB : ¬ j2 < 4 → vc .lss kk2 rlI = false := fun h => by rw [qc, lss_false, hrlI2]; omega
   have hRA : j2 < 4 → 0 ≤ kk2 ∧ kk2 < (rl : Int) := fun h => by rw [hrl2]; omega
   have hRB : j2 < 4 → 0 ≤ kk2 ∧ kk2 < ((4 : Nat) : Int) := fun h => by omega
   obtain ⟨k5n, hk5⟩ : ∃ k5n : Int, k5n = ((j2 + 1 : Nat) : Int) := ⟨_, rfl⟩
   have ek5 : vb .add .i64 kk2 1 = k5n := by rw [qb, add_i64 (by omega) (by omega)]; omega
   have hmuA : j2 < 4 → 4 - k5n.toNat < 4 - kk2.toNat := fun h => by omega
   cbv
   rw [hofn]
   by_cases hltA : j2 < 4
   ·obtain ⟨s, hs2⟩ : ∃ s, s = l.getD j2 0 := ⟨_, rfl⟩
    have hsb := hgl j2 (by omega)
    rw [← hs2] at hsb
    have hts : vtoN s = s.toNat := by rw [qtoN]
    have hPS2 := pd (L := L) (l := l) (g := g) (i := j2) (by omega) (by omega)
    rw [hPS, ← hs2] at hPS2
    obtain ⟨L2, hL2⟩ : ∃ L2, L2 = L.set s.toNat (g.getD j2 0) := ⟨_, rfl⟩
    have hL2l : L2.length = S := by rw [hL2]; simp [hLl]
    rw [← hL2] at hPS2
    have hvL : vln L = S := by rw [hlnq]; exact hLl
    have hsS : s.toNat < S := by omega
    have hsI : 0 ≤ s ∧ s < ((S : Nat) : Int) := by omega
    have hRA := hRA hltA
    have hRB := hRB hltA
    have hmuA := hmuA hltA
    rw [hcA hltA]
    cbv
    rw [htj2, hadd0, hgd, ← hs2, hts, show vgd [1, 2, 3, 3] j2 = g.getD j2 0 by rw [← hg7]; exact hgd g j2, hst, ← hL2]
    refine ⟨⟨hRA⟩, ⟨by rw [hvl]; omega⟩, ⟨by rw [hvl]; omega⟩, ⟨hRB⟩, ⟨by rw [hlg]; exact hltA⟩, ⟨hsI⟩, ⟨by rw [hvL]; exact hsS⟩, ?_⟩
    rw [ek5]
    refine Cv.fold ((List.range' 111 16)) 14 [3] (by exact Nat.le_refl _) (by exact Nat.le_of_ble_eq_true rfl) (by rfl) (by cbv) ?_
    intro js
    refine ⟨(_, _), ?_, js, rfl⟩
    exact ⟨⟨j2 + 1, hk5, hltA, hL2l, hPS2.symm⟩, hmuA⟩
   ·have hj3 : j2 = 4 := by omega
    subst hj3
    have hLL : L = Lf := by
     rw [← hPS, List.drop_eq_nil_of_le (by omega), pn]
    rw [← hLL] at hk hlfC
    have hofL := hof L S hlfC.2.2.2
    rw [hLl] at hofL
    clear hLf hPS hLL htS hrep hL0 hL0l hlfC
    rw [hcB hltA]
    cbv
    refine call_con (ρ := [(13, .z)]) hofL ⟨by rfl, by rfl, by rfl, by cbv; exact ⟨view_refl _, trivial⟩⟩ ?_
    rintro v H R js5 ⟨rfl, rfl, rfl⟩
    generalize hW : WL L = W
    cbv
    subst hW
    exact ⟨[0, 1, 13, 14], .tup [.agg [.slice 2 .z 1 S S, .slice 3 .z 1 S S, .int .i64 0], .lit .i64 0], [.one 41 [.slice 1 .z 1 bl cap, .int .i64 qI9], .ro .u8 b, .ints 5 .u8 L, .ints 116 .u16 (WL L)], rfl, rfl, rfl, rfl, ⟨rfl, rfl, rfl, rfl, trivial⟩, rfl, q9, qI9, hq9, hq98, .inr (.inl ⟨L, S, hk, by rw [hLl]; rfl, rfl⟩)⟩
end Go.Proofs.Ytkkddgdcmdnnmaa
namespace Go.Proofs.Ytkkddgdcmdnnmaa
open Go Go.Sx Go.Proofs
set_option maxRecDepth 10000
set_option maxHeartbeats 40000000
theorem refnext_one (b : List Int) (bl cap : Nat) (pI one : Int) :
    Con Try.prog 17 [.ptr 0 .z 2 0, .agg [.val (.slice none 0 0), .val (.slice none 0 0), .int .i64 one]] [.one 41 [.slice 1 .z 1 bl cap, .int .i64 pI], .ro .u8 b] (fun v H R => v = .tup [.int .i64 one, .int .i64 0] ∧ R = [] ∧ H = [.one 41 [.slice 1 .z 1 bl cap, .int .i64 pI], .ro .u8 b]) := by
  refine con_gen (con_cut 2 (by simp) (con_drop (con_walk hmix fn17 ?_)))
  intro vb vc vw vtoN vofN vaddN vsubN vmaxI vminI vcutN vgd vst vln vrep vsub vonto vsplice vstrEq vbyteV vnotB veqB hw qb qc qw qtoN qofN qaddN qsubN qmaxI qminI qcutN qgd qst qln qrep qsub qonto qsplice qstrEq qbyteV qnotB qeqB
  have hm := hmix; generalize Try.prog = P at *
  cbv
theorem refnext_len (l b : List Int) (cap cap2 cap3 pos : Nat) (pI z : Int) (hby : ∀ x ∈ b, isByte x) (hl : b.length ≤ 2 ^ 50) (hp : pos ≤ 8 * b.length) (hpI : pI = pos) (hR : Rt l) (hl0 : 0 < l.length) (hlm : l.length ≤ 1024) :
    Con Try.prog 17 [.ptr 0 .z 2 0, .agg [.slice 2 .z 1 l.length cap2, .slice 3 .z 1 l.length cap3, .int .i64 z]] [.one 41 [.slice 1 .z 1 b.length cap, .int .i64 pI], .ro .u8 b, .ro .u8 l, .ro .u16 (WL l)] (fun v H R => ∃ s e, ∃ q : Nat, ∃ qI : Int, v = .tup [.int .i64 s, .int .i64 e] ∧ qI = q ∧ Dec l b pos s e q ∧ R = [] ∧ H = [.one 41 [.slice 1 .z 1 b.length cap, .int .i64 qI], .ro .u8 b, .ro .u8 l, .ro .u16 (WL l)]) := by
  subst hpI
  have hw := refword_con l b pos cap cap2 cap3 hR hby hl hp
  obtain ⟨pI, hpI⟩ : ∃ pI : Int, pI = pos := ⟨_, rfl⟩
  rw [← hpI] at hw ⊢
  have hw2 : Con Try.prog 51 [.ptr 0 .z 2 0, .slice 2 .z 1 l.length cap2, .slice 3 .z 1 l.length cap3] [.one 41 [.slice 1 .z 1 b.length cap, .int .i64 pI], .ro .u8 b, .ro .u8 l, .ro .u16 (WL l)] (fun v H R => ∃ s e, ∃ q : Nat, ∃ qI : Int, v = .tup [.int .i64 s, .int .i64 e] ∧ qI = q ∧ Dec l b pos s e q ∧ R = [] ∧ H = [.one 41 [.slice 1 .z 1 b.length cap, .int .i64 qI], .ro .u8 b, .ro .u8 l, .ro .u16 (WL l)]) := by
    refine hw.mono ?_
    rintro v H R ⟨s, e, q, rfl, hd, rfl, rfl⟩
    exact ⟨s, e, q, q, rfl, rfl, hd, rfl, rfl⟩
  clear hw
  generalize Dec l b pos = D at *
  generalize WL l = W at *
  obtain ⟨bl, hbl⟩ : ∃ bl, bl = b.length := ⟨_, rfl⟩
  obtain ⟨ll, hll⟩ : ∃ ll, ll = l.length := ⟨_, rfl⟩
  rw [← hll] at hl0 hlm
  rw [← hbl, ← hll] at hw2 ⊢
  clear hbl hby hl hp
  refine con_gen (con_cut 4 (by simp) (con_drop (con_walk hmix fn17 ?_)))
  have hwc := hw2
  clear hw2
  intro vb vc vw vtoN vofN vaddN vsubN vmaxI vminI vcutN vgd vst vln vrep vsub vonto vsplice vstrEq vbyteV vnotB veqB hw qb qc qw qtoN qofN qaddN qsubN qmaxI qminI qcutN qgd qst qln qrep qsub qonto qsplice qstrEq qbyteV qnotB qeqB
  have hm := hmix; generalize Try.prog = P at *
  have e1 : vc .eql (vofN ll) 0 = false := by rw [qc, qofN]; exact decide_eq_false (by intro h; have h : (ll : Int) = 0 := h; omega)
  cbv
  rw [e1]
  cbv
  refine call_con (ρ := [(0, .z), (1, .z), (2, .z), (3, .z)]) hwc ⟨by rfl, by rfl, by rfl, by cbv; exact ⟨view_refl _, view_refl _, view_refl _, trivial⟩⟩ ?_
  rintro v H R js ⟨s, e, q, qI, rfl, hq, hd, rfl, rfl⟩
  cbv
  exact ⟨s, e, q, qI, rfl, hq, hd, rfl, rfl⟩
theorem exEq {α : Type} (a : α) : ∃ x, x = a := ⟨a, rfl⟩
theorem fam4 {α β γ δ : Type} {P : α × β × γ × δ → Prop} (h : ∀ a b c d, P (a, b, c, d)) : ∀ x, P x := fun ⟨a, b, c, d⟩ => h a b c d
theorem fam8 {α β γ δ ε ζ η θ : Type} {P : α × β × γ × δ × ε × ζ × η × θ → Prop} (h : ∀ a b c d e f g i, P (a, b, c, d, e, f, g, i)) : ∀ x, P x := fun ⟨a, b, c, d, e, f, g, i⟩ => h a b c d e f g i
def padZ (lens : List Int) (S : Nat) : List Int := lens ++ List.replicate (S - lens.length) 0
theorem padZ_len {lens : List Int} {S : Nat} (h : lens.length ≤ S) : (padZ lens S).length = S := by unfold padZ; simp; omega
theorem padZ_set {lens : List Int} {S : Nat} {v : Int} (h : lens.length < S) : (padZ lens S).set lens.length v = padZ (lens ++ [v]) S := by
  unfold padZ
  rw [List.set_append_right _ _ (Nat.le_refl _), Nat.sub_self, List.append_assoc]
  obtain ⟨m, hm⟩ : ∃ m, S - lens.length = m + 1 := ⟨S - lens.length - 1, by omega⟩
  rw [hm, List.replicate_succ, List.set_cons_zero, show S - (lens ++ [v]).length = m by simp; omega]
  rfl
theorem padZ_zero {lens : List Int} {S : Nat} (h : lens.length < S) : padZ (lens ++ [0]) S = padZ lens S := by
  unfold padZ
  obtain ⟨m, hm⟩ : ∃ m, S - lens.length = m + 1 := ⟨S - lens.length - 1, by omega⟩
  have h2 : S - (lens ++ [0]).length = m := by simp; omega
  rw [h2, hm, List.replicate_succ, List.append_assoc]
  rfl
theorem rdN_disj {size : Int} {F : Nat → Int → Int → Int → List Int → Int → Except Int ((List Int × Int) × Nat)} {q : Nat} {last row kind left l m tk2 : Int} {lens lens2 : List Int} {r1 : Except Int ((List Int × Int) × Nat)}
    (hN : r1 = rdN size F q last row kind lens left l m) (hf : (lens.length : Int) + m ≤ size) (h2 : lens2 = lens ++ List.replicate m.toNat l) (hlf : left - m * pw l = 32768 - tk2) (hl : (lens2.length : Int) = (lens.length : Int) + m) :
    ((lens2.length : Int) < size ∧ tk2 < 32768 ∧ F q last row kind lens2 (32768 - tk2) = r1) ∨ (((lens2.length : Int) = size ∨ 32768 ≤ tk2) ∧ r1 = .ok ((lens2, 32768 - tk2), q)) := by
  by_cases hst : left - m * pw l ≤ 0 ∨ (lens.length : Int) + m = size
  · right
    rw [rdN_stop hf hst, ← h2, hlf] at hN
    exact ⟨by omega, hN⟩
  · left
    rw [rdN_go hf hst, ← h2, hlf] at hN
    exact ⟨by omega, by omega, hN.symm⟩
theorem lp_k {S n n2 k mN : Nat} {m : Int} (hk : S - n ≤ k + 1) (h2 : n2 = n + mN) (hm : (mN : Int) = m) (h1 : 1 ≤ m) : S - n2 ≤ k := by omega
theorem lp_len {n n2 mN : Nat} {m : Int} (h2 : n2 = n + mN) (hm : (mN : Int) = m) : (n2 : Int) = (n : Int) + m := by omega
theorem lp_mu {mN t : Nat} {i i1 was : Int} (hi : i = was + (t : Int)) (hi1 : i1 = was + ((t + 1 : Nat) : Int)) (h : t < mN) : mN - (i1 - was).toNat < mN - (i - was).toNat := by omega
theorem lp_at {mN t S n : Nat} {at2 : Int} (h2 : at2 = ((n + t : Nat) : Int)) (hf : n + mN ≤ S) (h : t < mN) : 0 ≤ at2 ∧ at2 < ((S : Nat) : Int) := by omega
theorem lp_P {t mN n S : Nat} {w size : Int} (hw : 0 ≤ w ∧ w ≤ 16384) (ht : t ≤ mN) (hf : n + mN ≤ S) (hS : (S : Int) = size) (hs : size ≤ 1024) {tk tk2 : Int} (h : tk2 = tk + (t : Int) * w) (h0 : 0 ≤ tk) (h1 : tk < 32768) : 0 ≤ tk2 ∧ tk2 ≤ 16809984 := by
  have h1 : (t : Int) * w ≤ t * 16384 := Int.mul_le_mul_of_nonneg_left hw.2 (by omega)
  have h2 : (t : Int) ≤ 1024 := by omega
  have h3 : 0 ≤ (t : Int) * w := Int.mul_nonneg (by omega) hw.1
  omega
theorem lp_muM {t mN n S : Nat} {at_ at2 m : Int} (ha : at_ = (n : Int)) (h2 : at2 = ((n + t : Nat) : Int)) (hm : (mN : Int) = m) (hm1 : 1 ≤ m) (hf : n + mN ≤ S) (ht : t ≤ mN) (h : ¬ t < mN) : S - at2.toNat < S - at_.toNat := by omega
theorem lp_tk {taken tk2 w w1 lv : Int} {t : Nat} (h2 : tk2 = taken + (t : Int) * w) : tk2 + w = taken + ((t + 1 : Nat) : Int) * w := by
  rw [h2, show ((t + 1 : Nat) : Int) = (t : Int) + 1 from rfl, Int.add_mul, Int.one_mul, Int.add_assoc]
theorem refread_con (b : List Int) (cap pos : Nat) (pI size : Int) (hby : ∀ x ∈ b, isByte x) (hl : b.length ≤ 2 ^ 50) (hp : pos ≤ 8 * b.length) (hpI : pI = pos) :
    Con Try.prog 15 [.ptr 0 .z 2 0, .int .i64 size] [.one 41 [.slice 1 .z 1 b.length cap, .int .i64 pI], .ro .u8 b] (RefCode b (if 1 ≤ size ∧ size ≤ 1024 then readR b size pos else .error 2) (fun p => [.one 41 [.slice 1 .z 1 b.length cap, .int .i64 p], .ro .u8 b])) := by
  by_cases hs : 1 ≤ size ∧ size ≤ 1024
  rotate_left
  · rw [if_neg hs]
    unfold RefCode
    obtain ⟨bl, hbl⟩ : ∃ bl, bl = b.length := ⟨_, rfl⟩
    rw [← hbl] at hp
    simp only [← hbl]
    clear hl hby hbl
    refine con_gen (con_picks (con_drop (con_walk hmix fn15 ?_)))
    intro vb vc vw vtoN vofN vaddN vsubN vmaxI vminI vcutN vgd vst vln vrep vsub vonto vsplice vstrEq vbyteV vnotB veqB hw qb qc qw qtoN qofN qaddN qsubN qmaxI qminI qcutN qgd qst qln qrep qsub qonto qsplice qstrEq qbyteV qnotB qeqB
    have hm := hmix; generalize Try.prog = P at *
    by_cases h1 : size < 1
    · have e1 : vc .lss size 1 = true := by rw [qc, lss_true]; exact h1
      cbv
      rw [e1]
      cbv
      exact ⟨[0, 1], .tup [.agg [.val (.slice none 0 0), .val (.slice none 0 0), .lit .i64 0], .lit .i64 2], [.one 41 [.slice 1 .z 1 bl cap, .int .i64 pI], .ro .u8 b], rfl, rfl, rfl, rfl, ⟨rfl, rfl, trivial⟩, rfl, pos, pI, hpI, hp, .inr (.inr ⟨2, rfl, by decide, by decide, rfl, rfl⟩)⟩
    · have e1 : vc .lss size 1 = false := by rw [qc, lss_false]; exact h1
      have e2 : vc .gtr size 1024 = true := by rw [qc, gtr_true]; omega
      cbv
      rw [e1]
      cbv
      rw [e2]
      cbv
      exact ⟨[0, 1], .tup [.agg [.val (.slice none 0 0), .val (.slice none 0 0), .lit .i64 0], .lit .i64 2], [.one 41 [.slice 1 .z 1 bl cap, .int .i64 pI], .ro .u8 b], rfl, rfl, rfl, rfl, ⟨rfl, rfl, trivial⟩, rfl, pos, pI, hpI, hp, .inr (.inr ⟨2, rfl, by decide, by decide, rfl, rfl⟩)⟩
  rw [if_pos hs]
  have g2 := refgt_con b cap pos 2 pI 2 hby hl hp hpI rfl (by decide)
  have gn := fun (n pos : Nat) (pI nI : Int) hp hpI hnI hn => refgt_con b cap pos n pI nI hby hl hp hpI hnI hn
  have gf := fun (pos : Nat) (pI : Int) hp hpI => reffew_con b cap pos pI size hby hl hp hpI hs
  have gi := fun (pos sk : Nat) (pI skI : Int) hp hpI hsk h3 => refinner_con b cap pos sk pI skI hby hl hp hpI hsk h3
  have nx1 := fun (pI one : Int) => refnext_one b b.length cap pI one
  have nx2 := fun (l : List Int) (cap2 pos : Nat) (pI : Int) hp hpI hR h0 hm => refnext_len l b cap cap2 l.length pos pI 0 hby hl hp hpI hR h0 hm
  have hof := fun (l : List Int) (cap : Nat) hR => of50_con l cap hR
  have hrd : ∀ c q, readR b size pos = .ok (c, q) → CodeOk size c := fun c q h => (readR_ok hs hp h).1
  have hx2 : ∀ x q, gt b 2 pos = .ok (x, q) → 0 ≤ x ∧ x < 4 := fun x q h => by have := gt_ok h; omega
  have hgn : ∀ n p x q, gt b n p = .ok (x, q) → 0 ≤ x ∧ x < 2 ^ n := fun n p x q h => by have := gt_ok h; omega
  have hinn : ∀ sk p c q, sk ≤ 18 → p ≤ 8 * b.length → innerR b sk p = .ok (c, q) → InnOk c := fun sk p c q h1 h2 h => (innerR_ok h1 h2 h).1
  have nxr := fun b c hc p q x hp h => @nxR_range b c hc p q x hp h
  have k0 : ∀ e, gt b 2 pos = .error e → readR b size pos = .error e := fun e h => by unfold readR; rw [h]
  have k1 : ∀ q, gt b 2 pos = .ok (1, q) → readR b size pos = fewR b size q := fun q h => by unfold readR; rw [h]; rfl
  have k2 : ∀ x q e, gt b 2 pos = .ok (x, q) → x ≠ 1 → innerR b x.toNat q = .error e → readR b size pos = .error e := fun x q e h h1 h2 => by unfold readR; rw [h]; simp only [if_neg h1, h2]
  have k3 : ∀ x q c q2 e, gt b 2 pos = .ok (x, q) → x ≠ 1 → innerR b x.toNat q = .ok (c, q2) → rdR b (nxR b c) size size.toNat q2 8 0 0 [] 32768 = .error e → readR b size pos = .error e := fun x q c q2 e h h1 h2 h3 => by unfold readR; rw [h]; simp only [if_neg h1, h2, h3]
  have k4 : ∀ x q c q2 lens q3, gt b 2 pos = .ok (x, q) → x ≠ 1 → innerR b x.toNat q = .ok (c, q2) → rdR b (nxR b c) size size.toNat q2 8 0 0 [] 32768 = .ok ((lens, 0), q3) → readR b size pos = .ok (.inr (padZ lens size.toNat), q3) := fun x q c q2 lens q3 h h1 h2 h3 => by
    unfold readR padZ; rw [h]; simp only [if_neg h1, h2, h3, if_true]
    rw [show (size - (lens.length : Int)).toNat = size.toNat - lens.length by omega]
  have k5 : ∀ x q c q2 lens left q3, gt b 2 pos = .ok (x, q) → x ≠ 1 → innerR b x.toNat q = .ok (c, q2) → rdR b (nxR b c) size size.toNat q2 8 0 0 [] 32768 = .ok ((lens, left), q3) → left ≠ 0 → readR b size pos = .error 11 := fun x q c q2 lens left q3 h h1 h2 h3 h4 => by unfold readR; rw [h]; simp only [if_neg h1, h2, h3, if_neg h4]
  have f_e := @rdR_e b
  have f_a := @rdR_a b
  have f_g := @rdR_g b
  have f_b := @rdR_b b
  have n_pan := @rdN_pan
  have n_dj := @rdN_disj
  have pz_len := @padZ_len
  have pz_set := @padZ_set
  have pz_zero := @padZ_zero
  have pz_nil : ∀ S, padZ [] S = List.replicate S 0 := fun S => rfl
  have pw_p := fun x => pw_nonneg x
  have pw_u := fun x => @pw_le x
  have pw_d : ∀ l, l > 0 → pw l = 2 ^ (15 - l).toNat := fun l h => by unfold pw; rw [if_pos h]
  have pw_z : pw 0 = 0 := pw0
  generalize pw = PW at *
  generalize readR b size pos = r at *
  generalize fewR b size = FW at *
  generalize innerR b = IR at *
  generalize rdR b = RD at *
  generalize rdN = ND at *
  generalize padZ = PZ at *
  generalize hGT : gt b = GT at *
  clear hGT
  refine con_gen (con_picks (con_drop (con_walk hmix fn15 ?_)))
  intro vb vc vw vtoN vofN vaddN vsubN vmaxI vminI vcutN vgd vst vln vrep vsub vonto vsplice vstrEq vbyteV vnotB veqB hw qb qc qw qtoN qofN qaddN qsubN qmaxI qminI qcutN qgd qst qln qrep qsub qonto qsplice qstrEq qbyteV qnotB qeqB
  have hm := hmix; generalize Try.prog = P at *
  obtain ⟨bl, hbl⟩ : ∃ bl, bl = b.length := ⟨_, rfl⟩
  unfold RefR at g2 gn
  unfold RefCode at gf gi
  unfold RefCode
  simp only [← hbl] at g2 gn gf gi nx1 nx2 hp hinn ⊢
  clear hl hby
  have hto : ∀ i : Nat, vtoN (i : Int) = i := fun i => by simp only [qtoN, Int.toNat_natCast]
  have hadd0 : ∀ i, vaddN 0 i = i := fun i => by simp only [qaddN, Nat.zero_add]
  have hlnq : ∀ l, vln l = l.length := fun l => by rw [qln]
  have hst : ∀ L i v, vst L i v = L.set i v := fun L i v => by rw [qst]
  have e00 : vc .neq 0 0 = false := by rw [qc]; rfl
  have es1 : vc .lss size 1 = false := by rw [qc, lss_false]; omega
  have es2 : vc .gtr size 1024 = false := by rw [qc, gtr_false]; omega
  cbv
  rw [es1]
  cbv
  rw [es2]
  cbv
  refine call_con (ρ := [(0, .z), (1, .z)]) g2 ⟨by rfl, by rfl, by rfl, by cbv; exact ⟨view_refl _, trivial⟩⟩ ?_
  rintro v H R js ⟨rfl, q, qI, hq, hq8, rfl, ⟨x, hg, rfl⟩ | ⟨e, hg, he0, he1, rfl⟩⟩
  rotate_left
  · have hk := k0 e hg
    have ene : vc .neq e 0 = true := by rw [qc, neq_true]; omega
    cbv
    rw [ene]
    cbv
    exact ⟨[0, 1], .tup [.agg [.val (.slice none 0 0), .val (.slice none 0 0), .lit .i64 0], .int .i64 e], [.one 41 [.slice 1 .z 1 bl cap, .int .i64 qI], .ro .u8 b], rfl, rfl, rfl, rfl, ⟨rfl, rfl, trivial⟩, rfl, q, qI, hq, hq8, .inr (.inr ⟨e, hk, he0, he1, rfl, rfl⟩)⟩
  have hxr := hx2 x q hg
  have ewx : vw .i64 x = x := by rw [qw]; exact wrap_i64 (by omega) (by omega)
  have hgf := gf q qI hq8 hq
  have hgi := gi q x.toNat qI x hq8 hq (by simp only [nc]; omega)
  cbv
  rw [e00]
  cbv
  by_cases hx1 : x = 1
  · subst hx1
    have e11 : vc .eql 1 1 = true := by rw [qc]; rfl
    have hk := k1 q hg
    rw [e11]
    cbv
    refine call_con (ρ := [(0, .z), (1, .z)]) hgf ⟨by rfl, by rfl, by rfl, by cbv; exact ⟨view_refl _, trivial⟩⟩ ?_
    rintro v H R js ⟨rfl, q2, qI2, hq2, hq28, ⟨n, hf, rfl, rfl⟩ | ⟨L, cp, hf, rfl, rfl⟩ | ⟨e, hf, he0, he1, rfl, rfl⟩⟩
    · rw [hf] at hk
      cbv
      exact ⟨[0, 1], .tup [.agg [.val (.slice none 0 0), .val (.slice none 0 0), .int .i64 n], .int .i64 0], [.one 41 [.slice 1 .z 1 bl cap, .int .i64 qI2], .ro .u8 b], rfl, rfl, rfl, rfl, ⟨rfl, rfl, trivial⟩, rfl, q2, qI2, hq2, hq28, .inl ⟨n, hk, rfl, rfl⟩⟩
    · rw [hf] at hk
      obtain ⟨ll, hll⟩ : ∃ ll, ll = L.length := ⟨_, rfl⟩
      rw [← hll]
      generalize hW : WL L = W
      cbv
      subst hW
      exact ⟨[0, 1, 3, 4], .tup [.agg [.slice 2 .z 1 ll cp, .slice 3 .z 1 ll ll, .int .i64 0], .int .i64 0], [.one 41 [.slice 1 .z 1 bl cap, .int .i64 qI2], .ro .u8 b, .ints 5 .u8 L, .ints 116 .u16 (WL L)], rfl, rfl, rfl, rfl, ⟨rfl, rfl, rfl, rfl, trivial⟩, rfl, q2, qI2, hq2, hq28, .inr (.inl ⟨L, cp, hk, by rw [hll]; rfl, rfl⟩)⟩
    · rw [hf] at hk
      cbv
      exact ⟨[0, 1], .tup [.agg [.val (.slice none 0 0), .val (.slice none 0 0), .int .i64 0], .int .i64 e], [.one 41 [.slice 1 .z 1 bl cap, .int .i64 qI2], .ro .u8 b], rfl, rfl, rfl, rfl, ⟨rfl, rfl, trivial⟩, rfl, q2, qI2, hq2, hq28, .inr (.inr ⟨e, hk, he0, he1, rfl, rfl⟩)⟩
  have e11 : vc .eql x 1 = false := by rw [qc, eql_false]; exact hx1
  have hgi := hgi (by omega)
  rw [e11]
  cbv
  rw [ewx]
  refine call_con (ρ := [(0, .z), (1, .z)]) hgi ⟨by rfl, by rfl, by rfl, by cbv; exact ⟨view_refl _, trivial⟩⟩ ?_
  rintro v H R js2 ⟨rfl, q2, qI2, hq2, hq28, ⟨one, hf, rfl, rfl⟩ | ⟨L, cp, hf, rfl, rfl⟩ | ⟨e, hf, he0, he1, rfl, rfl⟩⟩
  · have hin := hinn _ _ _ _ (by omega) hq8 hf
    have hR2 : qI2 = (q2 : Int) := hq2
    refine Exists.elim (exEq (size.toNat)) (fun S hS => ?_)
    have htS : vtoN size = S := by rw [qtoN]; exact hS.symm
    have hSs : (S : Int) = size := by omega
    refine Exists.elim (exEq (RD (nxR b (.inl one)) size)) (fun RF hRF => ?_)
    have f_e := fun k p last row kind lens left e => @f_e (nxR b (.inl one)) size k p last row kind left e lens
    have f_a := fun k p q last row kind lens left x => @f_a (nxR b (.inl one)) size k p q last row kind left x lens
    have f_g := fun k p q last row kind lens left x e => @f_g (nxR b (.inl one)) size k p q last row kind left x e lens
    have f_b := fun k p q q2 last row kind lens left x n => @f_b (nxR b (.inl one)) size k p q q2 last row kind left x n lens
    rw [← hRF] at f_e f_a f_g f_b
    have k3 := fun e => k3 x q (.inl one) q2 e hg hx1 hf
    have k4 := fun lens q3 => k4 x q (.inl one) q2 lens q3 hg hx1 hf
    have k5 := fun lens left q3 => k5 x q (.inl one) q2 lens left q3 hg hx1 hf
    rw [← hRF, ← hS] at k3 k4 k5
    have hnr := fun p x q => nxr b (.inl one) hin p q x
    have hnx : ∀ (p : Nat) (pI : Int), pI = p → p ≤ 8 * bl → Con P 17 [.ptr 0 .z 2 0, .agg [.val (.slice none 0 0), .val (.slice none 0 0), .int .i64 one]] [.one 41 [.slice 1 .z 1 bl cap, .int .i64 pI], .ro .u8 b] (fun v H R => R = [] ∧ ∃ (q : Nat) (qI : Int), qI = q ∧ q ≤ 8 * bl ∧ H = [.one 41 [.slice 1 .z 1 bl cap, .int .i64 qI], .ro .u8 b] ∧ ((∃ x, nxR b (.inl one) p = .ok (x, q) ∧ v = .tup [.int .i64 x, .int .i64 0]) ∨ ∃ e, nxR b (.inl one) p = .error e ∧ 0 < e ∧ e < 100 ∧ v = .tup [.int .i64 0, .int .i64 e])) := fun p pI h1 h2 => by
      refine (nx1 pI one).mono ?_
      rintro v H R ⟨rfl, rfl, rfl⟩
      exact ⟨rfl, p, pI, h1, h2, rfl, .inl ⟨one, rfl, rfl⟩⟩
    rw [← hbl] at hnr
    clear hbl
    refine Exists.elim (exEq (nxR b (.inl one))) (fun NX hNX => ?_)
    rw [← hNX] at f_e f_a f_g f_b hnx hnr
    clear hNX
    obtain ⟨r1, hr1⟩ : ∃ r1, RF S q2 8 0 0 [] 32768 = r1 := ⟨_, rfl⟩
    rw [hr1] at k3 k4 k5
    clear hRF hin g2 gf gi hgf hgi nx1 nx2 k0 k1 k2 hx2 hinn nxr
    refine Exists.elim (exEq (PZ [] S)) (fun L0 hL0 => ?_)
    have hrepS : vrep S 0 = L0 := by rw [qrep, hL0]; exact (pz_nil S).symm
    cbv
    rw [e00]
    cbv
    rw [htS, hrepS]
    refine ⟨⟨by omega⟩, ⟨by omega⟩, ⟨by first | omega | (simp only [nc]; omega)⟩, ⟨by show size * 1 ≤ 281474976710656; omega⟩, ?_⟩
    refine loop_fam (α := Int × Int × Int × Int × Int × Nat × Int × List Int) (([15, 16, 17, 18, 19, 20] ++ (List.range' 57 30)) ++ ((List.range' 87 30) ++ (List.range' 117 31))) []
      (fun (at_, taken, last, row, kind, p, pI, LL) => [(10, .int .i64 at_), (11, .int .i64 taken), (12, .int .u8 last), (13, .int .i64 row), (14, .int .i64 kind)])
      (fun (at_, taken, last, row, kind, p, pI, LL) => [(0, .one 41 [.slice 1 .z 1 bl cap, .int .i64 pI]), (4, .ints 5 .u8 LL)])
      (fun (at_, taken, last, row, kind, p, pI, LL) => ∃ lens : List Int, at_ = (lens.length : Int) ∧ lens.length ≤ S ∧ LL = PZ lens S ∧ pI = p ∧ p ≤ 8 * bl ∧ 0 ≤ taken ∧ taken ≤ 16809984 ∧
        (((lens.length : Int) < size ∧ taken < 32768 ∧ (∃ k, RF k p last row kind lens (32768 - taken) = r1 ∧ S - lens.length ≤ k) ∧ 1 ≤ last ∧ last ≤ 15 ∧ (kind < 16 ∨ (3 ≤ row ∧ row ≤ (lens.length : Int)))) ∨
         (((lens.length : Int) = size ∨ 32768 ≤ taken) ∧ r1 = .ok ((lens, 32768 - taken), p))))
      (fun (at_, taken, last, row, kind, p, pI, LL) => S - at_.toNat) hw hm ?_ ?_
    · refine Cv.genAt [10, 11, 12, 13, 14] [0] (Cv.fold (([15, 16, 17, 18, 19, 20] ++ (List.range' 57 30)) ++ ((List.range' 87 30) ++ (List.range' 117 31))) 5 [] (by exact Nat.le_refl _) (by exact Nat.le_of_ble_eq_true rfl) (by rfl) (by cbv) ?_)
      intro js
      refine ⟨(_, _, _, _, _, q2, _, _), ?_, js, rfl⟩
      exact ⟨[], rfl, Nat.zero_le _, hL0, hR2, hq28, by decide, by decide, .inl ⟨by show (0 : Int) < size; omega, by decide, ⟨S, hr1, Nat.le_refl _⟩, by decide, by decide, .inl (by decide)⟩⟩
    refine fam8 (fun at_ taken last row kind p pI LL => ?_)
    intro js hI0
    refine Exists.elim hI0 (fun lens hI0 => ?_)
    have hat := hI0.1
    have hlS := hI0.2.1
    have hLL := hI0.2.2.1
    have hpI := hI0.2.2.2.1
    have hp8 := hI0.2.2.2.2.1
    have htk0 := hI0.2.2.2.2.2.1
    have htk1 := hI0.2.2.2.2.2.2.1
    have hI := hI0.2.2.2.2.2.2.2
    clear hI0
    have hat : at_ = (lens.length : Int) := hat
    have hSs : (S : Int) = size := hSs
    have hnxp := hnx p pI hpI hp8
    have hta : vtoN at_ = lens.length := by rw [hat]; exact hto _
    by_cases hact : (lens.length : Int) < size ∧ taken < 32768
    rotate_left
    · have hr1' : r1 = .ok ((lens, 32768 - taken), p) := by
        rcases hI with h | h
        · exact absurd ⟨h.1, h.2.1⟩ hact
        · exact h.2
      have hex : (vc .lss at_ size = true ∧ vc .lss taken 32768 = false) ∨ vc .lss at_ size = false := by
        by_cases h : (lens.length : Int) < size
        · left; exact ⟨by rw [qc, lss_true, hat]; exact h, by rw [qc, lss_false]; intro h2; exact hact ⟨h, h2⟩⟩
        · right; rw [qc, lss_false, hat]; exact h
      have hLLl : LL.length = S := by rw [hLL]; exact pz_len hlS
      rcases hex with ⟨e1, e2⟩ | e1
      · cbv
        rw [e1]
        cbv
        rw [e2]
        cbv
        by_cases h32 : taken = 32768
        · have e2 : vc .neq taken 32768 = false := by rw [qc, neq_false]; exact fun h => h h32
          rw [h32] at hr1'
          have hk := k4 _ _ hr1'
          rw [← hLL] at hk
          have hlfC := hrd _ _ hk
          have hofL := hof LL S hlfC.2.2.2
          rw [hLLl] at hofL
          rw [e2]
          cbv
          refine call_con (ρ := [(4, .z)]) hofL ⟨by rfl, by rfl, by rfl, by cbv; exact ⟨view_refl _, trivial⟩⟩ ?_
          rintro v H R js5 ⟨rfl, rfl, rfl⟩
          generalize hW : WL LL = W
          cbv
          subst hW
          exact ⟨[0, 1, 4, 5], .tup [.agg [.slice 2 .z 1 S S, .slice 3 .z 1 S S, .int .i64 0], .lit .i64 0], [.one 41 [.slice 1 .z 1 bl cap, .int .i64 pI], .ro .u8 b, .ints 5 .u8 LL, .ints 116 .u16 (WL LL)], rfl, rfl, rfl, rfl, ⟨rfl, rfl, rfl, rfl, trivial⟩, rfl, p, pI, hpI, hp8, .inr (.inl ⟨LL, S, hk, by rw [hLLl]; rfl, rfl⟩)⟩
        · have e2 : vc .neq taken 32768 = true := by rw [qc, neq_true]; exact h32
          have hk := k5 _ _ _ hr1' (by omega)
          rw [e2]
          cbv
          exact ⟨[0, 1], .tup [.agg [.val (.slice none 0 0), .val (.slice none 0 0), .lit .i64 0], .lit .i64 11], [.one 41 [.slice 1 .z 1 bl cap, .int .i64 pI], .ro .u8 b], rfl, rfl, rfl, rfl, ⟨rfl, rfl, trivial⟩, rfl, p, pI, hpI, hp8, .inr (.inr ⟨11, hk, by decide, by decide, rfl, rfl⟩)⟩
      · cbv
        rw [e1]
        cbv
        by_cases h32 : taken = 32768
        · have e2 : vc .neq taken 32768 = false := by rw [qc, neq_false]; exact fun h => h h32
          rw [h32] at hr1'
          have hk := k4 _ _ hr1'
          rw [← hLL] at hk
          have hlfC := hrd _ _ hk
          have hofL := hof LL S hlfC.2.2.2
          rw [hLLl] at hofL
          rw [e2]
          cbv
          refine call_con (ρ := [(4, .z)]) hofL ⟨by rfl, by rfl, by rfl, by cbv; exact ⟨view_refl _, trivial⟩⟩ ?_
          rintro v H R js5 ⟨rfl, rfl, rfl⟩
          generalize hW : WL LL = W
          cbv
          subst hW
          exact ⟨[0, 1, 4, 5], .tup [.agg [.slice 2 .z 1 S S, .slice 3 .z 1 S S, .int .i64 0], .lit .i64 0], [.one 41 [.slice 1 .z 1 bl cap, .int .i64 pI], .ro .u8 b, .ints 5 .u8 LL, .ints 116 .u16 (WL LL)], rfl, rfl, rfl, rfl, ⟨rfl, rfl, rfl, rfl, trivial⟩, rfl, p, pI, hpI, hp8, .inr (.inl ⟨LL, S, hk, by rw [hLLl]; rfl, rfl⟩)⟩
        · have e2 : vc .neq taken 32768 = true := by rw [qc, neq_true]; exact h32
          have hk := k5 _ _ _ hr1' (by omega)
          rw [e2]
          cbv
          exact ⟨[0, 1], .tup [.agg [.val (.slice none 0 0), .val (.slice none 0 0), .lit .i64 0], .lit .i64 11], [.one 41 [.slice 1 .z 1 bl cap, .int .i64 pI], .ro .u8 b], rfl, rfl, rfl, rfl, ⟨rfl, rfl, trivial⟩, rfl, p, pI, hpI, hp8, .inr (.inr ⟨11, hk, by decide, by decide, rfl, rfl⟩)⟩
    have hAll : (lens.length : Int) < size ∧ taken < 32768 ∧ (∃ k, RF k p last row kind lens (32768 - taken) = r1 ∧ S - lens.length ≤ k) ∧ 1 ≤ last ∧ last ≤ 15 ∧ (kind < 16 ∨ (3 ≤ row ∧ row ≤ (lens.length : Int))) := by
      rcases hI with h | h
      · exact h
      · omega
    have hls := hAll.1
    have htk := hAll.2.1
    have hla1 := hAll.2.2.2.1
    have hla2 := hAll.2.2.2.2.1
    have hrow := hAll.2.2.2.2.2
    have hlS1 : lens.length < S := by omega
    have hk2 : ∃ k2, RF (k2 + 1) p last row kind lens (32768 - taken) = r1 ∧ S - lens.length ≤ k2 + 1 := by
      obtain ⟨k, h1, h2⟩ := hAll.2.2.1
      exact ⟨k - 1, by rw [show k - 1 + 1 = k by omega]; exact h1, by omega⟩
    refine Exists.elim hk2 (fun k2 hk2 => ?_)
    have hRFk := hk2.1
    have hkS := hk2.2
    clear hAll hk2 hI
    have el1 : vc .lss at_ size = true := by rw [qc, lss_true, hat]; exact hls
    have el2 : vc .lss taken 32768 = true := by rw [qc, lss_true]; exact htk
    refine Exists.elim (exEq (((lens.length + 1 : Nat) : Int) : Int)) (fun at1 hat1 => ?_)
    have eat1 : vb .add .i64 at_ 1 = at1 := by rw [qb, add_i64 (by omega) (by omega)]; omega
    have hmu1 : S - at1.toNat < S - at_.toNat := by omega
    have hlsN : (lens.length : Int) + 1 ≤ size := by omega
    have hatR : 0 ≤ at_ ∧ at_ < ((S : Nat) : Int) := by omega
    have hLLl : LL.length = S := by rw [hLL]; exact pz_len hlS
    cbv
    rw [el1]
    cbv
    rw [el2]
    cbv
    refine call_con (ρ := [(0, .z), (1, .z)]) hnxp ⟨by rfl, by rfl, by rfl, by cbv; exact ⟨view_refl _, trivial⟩⟩ ?_
    rintro v H R js3 ⟨rfl, q3, qI3, hq3, hq38, rfl, ⟨x, hgx, rfl⟩ | ⟨e, hge, he0, he1, rfl⟩⟩
    rotate_left
    · have hS1 := f_e k2 p last row kind lens (32768 - taken) e hge
      rw [hRFk] at hS1
      have hk := k3 _ hS1
      have ene : vc .neq e 0 = true := by rw [qc, neq_true]; omega
      cbv
      rw [ene]
      cbv
      exact ⟨[0, 1], .tup [.agg [.val (.slice none 0 0), .val (.slice none 0 0), .lit .i64 0], .int .i64 e], [.one 41 [.slice 1 .z 1 bl cap, .int .i64 qI3], .ro .u8 b], rfl, rfl, rfl, rfl, ⟨rfl, rfl, trivial⟩, rfl, q3, qI3, hq3, hq38, .inr (.inr ⟨e, hk, he0, he1, rfl, rfl⟩)⟩
    have hxr := hnr p x q3 hp8 hgx
    cbv
    rw [e00]
    cbv
    by_cases hx16 : x < 16
    · have e16 : vc .lss x 16 = true := by rw [qc, lss_true]; exact hx16
      have hN := f_a k2 p q3 last row kind lens (32768 - taken) x hgx hx16
      rw [hRFk] at hN
      have ewx : vw .u8 x = x := by rw [qw]; exact wrap_u8 (by omega) (by omega)
      have hset : vst LL lens.length x = PZ (lens ++ [x]) S := by rw [hst, hLL]; exact pz_set hlS1
      refine Exists.elim (exEq (PZ (lens ++ [x]) S)) (fun L2 hL2 => ?_)
      rw [← hL2] at hset
      have hvLL : vln LL = S := by rw [hlnq]; exact hLLl
      have hll1 : (lens ++ [x]).length = lens.length + 1 := by simp
      have hrep1 : lens ++ List.replicate (1 : Int).toNat x = lens ++ [x] := rfl
      rw [e16]
      cbv
      rw [ewx, hta, hset]
      refine ⟨⟨hatR⟩, ⟨by rw [hvLL]; exact hlS1⟩, ?_⟩
      by_cases hx0 : x > 0
      · have e0 : vc .gtr x 0 = true := by rw [qc, gtr_true]; exact hx0
        rw [if_pos hx0] at hN
        refine Exists.elim (exEq (15 - x : Int)) (fun d hd => ?_)
        have e15 : vb .sub .i64 15 x = d := by rw [qb, sub_i64 (by omega) (by omega)]; exact hd.symm
        have ewd : vw .u64 d = d := by rw [qw]; exact wrap_u64 (by omega) (by omega)
        have hpd := pw_d x hx0
        have hpu := pw_u x
        have hpp := pw_p x
        rw [← hd] at hpd
        refine Exists.elim (exEq (PW x)) (fun w1 hw1 => ?_)
        rw [← hw1] at hpd hpu hpp
        have esh : vb .shl .i64 1 d = w1 := by
          have hd2 : d = 0 ∨ d = 1 ∨ d = 2 ∨ d = 3 ∨ d = 4 ∨ d = 5 ∨ d = 6 ∨ d = 7 ∨ d = 8 ∨ d = 9 ∨ d = 10 ∨ d = 11 ∨ d = 12 ∨ d = 13 ∨ d = 14 := by omega
          rw [qb, hpd]
          rcases hd2 with rfl | rfl | rfl | rfl | rfl | rfl | rfl | rfl | rfl | rfl | rfl | rfl | rfl | rfl | rfl <;> decide
        refine Exists.elim (exEq (taken + w1)) (fun tk2 htk2 => ?_)
        have etk : vb .add .i64 taken w1 = tk2 := by rw [qb, add_i64 (by omega) (by omega)]; exact htk2.symm
        have hd0 : 0 ≤ d := by omega
        have hlf : 32768 - taken - 1 * PW x = 32768 - tk2 := by rw [← hw1, htk2]; omega
        have htk2r : 0 ≤ tk2 ∧ tk2 ≤ 16809984 := by omega
        have hdisj : (((lens ++ [x]).length : Int) < size ∧ tk2 < 32768 ∧ (∃ k, RF k q3 x row 0 (lens ++ [x]) (32768 - tk2) = r1 ∧ S - (lens ++ [x]).length ≤ k) ∧ 1 ≤ x ∧ x ≤ 15 ∧ ((0 : Int) < 16 ∨ (3 ≤ row ∧ row ≤ ((lens ++ [x]).length : Int)))) ∨
            ((((lens ++ [x]).length : Int) = size ∨ 32768 ≤ tk2) ∧ r1 = .ok ((lens ++ [x], 32768 - tk2), q3)) := by
          have hl2i : ((lens ++ [x]).length : Int) = (lens.length : Int) + 1 := by rw [hll1]; rfl
          rcases n_dj hN hlsN hrep1.symm hlf hl2i with ⟨h1, h2, h3⟩ | ⟨h1, h3⟩
          · exact .inl ⟨h1, h2, ⟨k2, h3, lp_k hkS hll1 (m := 1) rfl (by decide)⟩, by omega, by omega, .inl (by decide)⟩
          · exact .inr ⟨h1, h3⟩
        rw [e0]
        cbv
        rw [e15, ewd, esh, etk, ewx, eat1]
        refine ⟨⟨hd0⟩, ?_⟩
        refine Cv.genAt [14] [] (Cv.fold (([15, 16, 17, 18, 19, 20] ++ (List.range' 57 30)) ++ ((List.range' 87 30) ++ (List.range' 117 31))) 5 [] (by exact Nat.le_refl _) (by exact Nat.le_of_ble_eq_true rfl) (by rfl) (by cbv) ?_)
        intro js
        refine ⟨(_, _, _, _, _, q3, _, _), ?_, js, rfl⟩
        exact ⟨⟨lens ++ [x], by rw [hll1]; exact hat1, by rw [hll1]; exact hlS1, hL2, hq3, hq38, htk2r.1, htk2r.2, hdisj⟩, hmu1⟩
      · have e0 : vc .gtr x 0 = false := by rw [qc, gtr_false]; exact hx0
        have hx00 : x = 0 := by omega
        rw [if_neg hx0] at hN
        refine Exists.elim (exEq (taken)) (fun tk2 htk2 => ?_)
        have hlf : 32768 - taken - 1 * PW x = 32768 - tk2 := by rw [hx00, pw_z, htk2]; omega
        have htk2r : 0 ≤ tk2 ∧ tk2 ≤ 16809984 := by omega
        have hdisj : (((lens ++ [x]).length : Int) < size ∧ tk2 < 32768 ∧ (∃ k, RF k q3 last row 0 (lens ++ [x]) (32768 - tk2) = r1 ∧ S - (lens ++ [x]).length ≤ k) ∧ 1 ≤ last ∧ last ≤ 15 ∧ ((0 : Int) < 16 ∨ (3 ≤ row ∧ row ≤ ((lens ++ [x]).length : Int)))) ∨
            ((((lens ++ [x]).length : Int) = size ∨ 32768 ≤ tk2) ∧ r1 = .ok ((lens ++ [x], 32768 - tk2), q3)) := by
          have hl2i : ((lens ++ [x]).length : Int) = (lens.length : Int) + 1 := by rw [hll1]; rfl
          rcases n_dj hN hlsN hrep1.symm hlf hl2i with ⟨h1, h2, h3⟩ | ⟨h1, h3⟩
          · exact .inl ⟨h1, h2, ⟨k2, h3, lp_k hkS hll1 (m := 1) rfl (by decide)⟩, by omega, by omega, .inl (by decide)⟩
          · exact .inr ⟨h1, h3⟩
        subst htk2
        rw [e0]
        cbv
        rw [eat1]
        refine Cv.genAt [14] [] (Cv.fold (([15, 16, 17, 18, 19, 20] ++ (List.range' 57 30)) ++ ((List.range' 87 30) ++ (List.range' 117 31))) 5 [] (by exact Nat.le_refl _) (by exact Nat.le_of_ble_eq_true rfl) (by rfl) (by cbv) ?_)
        intro js
        refine ⟨(_, _, _, _, _, q3, _, _), ?_, js, rfl⟩
        exact ⟨⟨lens ++ [x], by rw [hll1]; exact hat1, by rw [hll1]; exact hlS1, hL2, hq3, hq38, htk0, htk1, hdisj⟩, hmu1⟩
    · have e16 : vc .lss x 16 = false := by rw [qc, lss_false]; exact hx16
      have hx2 : x = 16 ∨ x = 17 := by omega
      refine Exists.elim (exEq (x - 14 : Int)) (fun x14 hx14 => ?_)
      have e14 : vb .sub .i64 x 14 = x14 := by rw [qb, sub_i64 (by omega) (by omega)]; exact hx14.symm
      have hgg := gn (x - 14).toNat q3 qI3 x14 hq38 hq3 (by simp only [nc]; omega) (by omega)
      have hF := fun e => f_g k2 p q3 last row kind lens (32768 - taken) x e hgx hx16
      have hB := fun q2 n => f_b k2 p q3 q2 last row kind lens (32768 - taken) x n hgx hx16
      have hgR := fun nn q2 => hgn (x - 14).toNat q3 nn q2
      rw [hRFk] at hF hB
      refine Exists.elim (exEq ((x - 14).toNat)) (fun kN hkN => ?_)
      rw [← hkN] at hgg hF hB hgR
      have hkv : (kN = 2 ∧ x = 16) ∨ (kN = 3 ∧ x = 17) := by omega
      rw [e16]
      cbv
      rw [e14]
      refine call_con (ρ := [(0, .z), (1, .z)]) hgg ⟨by rfl, by rfl, by rfl, by cbv; exact ⟨view_refl _, trivial⟩⟩ ?_
      rintro v H R js4 ⟨rfl, q4, qI4, hq4, hq48, rfl, ⟨nn, hgq, rfl⟩ | ⟨e, hge, he0, he1, rfl⟩⟩
      rotate_left
      · have hk := k3 _ (hF e hge)
        have ene : vc .neq e 0 = true := by rw [qc, neq_true]; omega
        cbv
        rw [ene]
        cbv
        exact ⟨[0, 1], .tup [.agg [.val (.slice none 0 0), .val (.slice none 0 0), .lit .i64 0], .int .i64 e], [.one 41 [.slice 1 .z 1 bl cap, .int .i64 qI4], .ro .u8 b], rfl, rfl, rfl, rfl, ⟨rfl, rfl, trivial⟩, rfl, q4, qI4, hq4, hq48, .inr (.inr ⟨e, hk, he0, he1, rfl, rfl⟩)⟩
      have hnr2 := hgR nn q4 hgq
      have hN := hB q4 nn hgq
      have hp2 : 1 ≤ (2 : Int) ^ kN ∧ (2 : Int) ^ kN ≤ 8 ∧ nn < 8 := by
        have h7 := hnr2.2
        rcases hkv with ⟨h, _⟩ | ⟨h, _⟩ <;> rw [h] at h7 ⊢ <;> omega
      refine Exists.elim (exEq (3 + nn : Int)) (fun n3 hn3 => ?_)
      have ewn : vw .i64 nn = nn := by rw [qw]; exact wrap_i64 (by omega) (by omega)
      have en3 : vb .add .i64 3 nn = n3 := by rw [qb, add_i64 (by omega) (by omega)]; exact hn3.symm
      refine Exists.elim (exEq (if x = 16 then last else 0 : Int)) (fun lv hlv => ?_)
      have hlv16 : x = 16 → lv = last := fun h => by rw [hlv, if_pos h]
      have hlv17 : ¬ x = 16 → lv = 0 := fun h => by rw [hlv, if_neg h]
      rw [← hlv] at hN
      cbv
      rw [e00]
      cbv
      by_cases hkx : kind = x
      · have ekx : vc .eql kind x = true := by rw [qc, eql_true]; exact hkx
        rw [if_pos hkx, if_pos hkx, ← hn3] at hN
        have hrow : kind < 16 ∨ (3 ≤ row ∧ row ≤ (lens.length : Int)) := hrow
        have hrw : 3 ≤ row ∧ row ≤ (lens.length : Int) := by
          rcases hrow with h9 | h9
          · exact absurd (hkx ▸ h9) hx16
          · exact h9
        have hls3 : (lens.length : Int) ≤ 1024 := by
          have hls : (lens.length : Int) < size := hls
          omega
        refine Exists.elim (exEq (row - 2 : Int)) (fun ra hra => ?_)
        have era : vb .sub .i64 row 2 = ra := by rw [qb, sub_i64 (by omega) (by omega)]; exact hra.symm
        have ew14 : vw .u64 x14 = x14 := by rw [qw]; exact wrap_u64 (by omega) (by omega)
        refine Exists.elim (exEq (ra * 2 ^ kN : Int)) (fun rb hrb => ?_)
        have hrbr : rb = ra * 4 ∨ rb = ra * 8 := by
          rcases hkv with ⟨h, _⟩ | ⟨h, _⟩
          · left; rw [hrb, h]; rfl
          · right; rw [hrb, h]; rfl
        have erb : vb .shl .i64 ra x14 = rb := by
          rw [qb, hrb]
          show IntKind.i64.wrap (ra * 2 ^ (min x14.toNat IntKind.i64.bits)) = _
          rw [show min x14.toNat IntKind.i64.bits = kN by
            have hk3 : kN ≤ 3 := by omega
            rw [show x14.toNat = kN by omega]; exact Nat.min_eq_left (Nat.le_trans hk3 (by decide))]
          rw [← hrb]
          exact wrap_i64 (by omega) (by omega)
        refine Exists.elim (exEq (rb + n3 : Int)) (fun row2 hrow2 => ?_)
        have erow : vb .add .i64 rb n3 = row2 := by rw [qb, add_i64 (by omega) (by omega)]; exact hrow2.symm
        refine Exists.elim (exEq (row2 - row : Int)) (fun m hm4 => ?_)
        rw [← hra, ← hrb, ← hrow2, ← hm4] at hN
        have hx140 : 0 ≤ x14 := by omega
        have hm1 : 1 ≤ m ∧ m ≤ 100000 := by omega
        have hrow3 : 3 ≤ row2 ∧ row2 ≤ 100000 := by omega
        have hrowX : 3 ≤ row2 ∧ row2 ≤ (lens.length : Int) + m := by omega
        refine Exists.elim (exEq (row : Int)) (fun was hwas => ?_)
        have hwm : was + m = row2 := by omega
        have hwas0 : 0 ≤ was ∧ was ≤ 1024 := by omega
        rw [ekx]
        cbv
        rw [ewn, era, ew14, erb, en3, erow]
        refine ⟨⟨hx140⟩, ?_⟩
        rw [← hwas]
        refine Exists.elim (exEq (at_ + row2 : Int)) (fun s2 hs2 => ?_)
        have hatb : 0 ≤ at_ ∧ at_ ≤ 1024 := by
          have hat : at_ = (lens.length : Int) := hat
          have hls : (lens.length : Int) < size := hls
          omega
        have ea1 : vb .add .i64 at_ row2 = s2 := by rw [qb, add_i64 (by omega) (by omega)]; exact hs2.symm
        refine Exists.elim (exEq (at_ + m : Int)) (fun s3 hs3 => ?_)
        have ea2 : vb .sub .i64 s2 was = s3 := by rw [qb, sub_i64 (by omega) (by omega)]; omega
        rw [ea1, ea2]
        by_cases hfit : (lens.length : Int) + m ≤ size
        rotate_left
        · have hS1 : r1 = .error 11 := by rw [hN]; exact n_pan hfit
          have hk := k3 _ hS1
          have egt : vc .gtr s3 size = true := by
            have hat : at_ = (lens.length : Int) := hat
            rw [qc, gtr_true, hs3, hat]; omega
          rw [egt]
          cbv
          exact ⟨[0, 1], .tup [.agg [.val (.slice none 0 0), .val (.slice none 0 0), .lit .i64 0], .lit .i64 11], [.one 41 [.slice 1 .z 1 bl cap, .int .i64 qI4], .ro .u8 b], rfl, rfl, rfl, rfl, ⟨rfl, rfl, trivial⟩, rfl, q4, qI4, hq4, hq48, .inr (.inr ⟨11, hk, by decide, by decide, rfl, rfl⟩)⟩
        have egt : vc .gtr s3 size = false := by
          have hat : at_ = (lens.length : Int) := hat
          rw [qc, gtr_false, hs3, hat]; omega
        have hpu := pw_u lv
        have hpp := pw_p lv
        refine Exists.elim (⟨m.toNat, by omega⟩ : ∃ mN : Nat, (mN : Int) = m) (fun mN hmN => ?_)
        have hmt : m.toNat = mN := by omega
        have hfitN : lens.length + mN ≤ S := by
          have hSs : (S : Int) = size := hSs
          have hmN : (mN : Int) = m := hmN
          omega
        rw [egt]
        cbv
        refine loop_fam (α := Int × Int × Int × List Int) ((List.range' 129 19)) []
          (fun (i, at2, tk2, LL) => [(20, .int .i64 i), (10, .int .i64 at2), (11, .int .i64 tk2)])
          (fun (i, at2, tk2, LL) => [(4, .ints 5 .u8 LL)])
          (fun (i, at2, tk2, LL) => ∃ t : Nat, i = was + t ∧ t ≤ mN ∧ at2 = ((lens.length + t : Nat) : Int) ∧ tk2 = taken + t * PW lv ∧ LL = PZ (lens ++ List.replicate t lv) S)
          (fun (i, at2, tk2, LL) => mN - (i - was).toNat) hw hm ?_ ?_
        · refine Cv.genAt [20] [] (Cv.fold ((List.range' 129 19)) 5 [] (by exact Nat.le_refl _) (by exact Nat.le_of_ble_eq_true rfl) (by rfl) (by cbv) ?_)
          intro js
          refine ⟨(_, _, _, _), ?_, js, rfl⟩
          exact ⟨0, by rw [hwas]; simp, Nat.zero_le _, hat, by simp, by simpa using hLL⟩
        refine fam4 (fun i at2 tk2 LL2 => ?_)
        intro js6 hI0
        refine Exists.elim hI0 (fun t hI0 => ?_)
        have hi := hI0.1
        have ht := hI0.2.1
        have hat2 := hI0.2.2.1
        have htk2 := hI0.2.2.2.1
        have hLL2 := hI0.2.2.2.2
        clear hI0
        have hi : i = was + (t : Int) := hi
        have hmN : (mN : Int) = m := hmN
        have hSs : (S : Int) = size := hSs
        have hat2 : at2 = ((lens.length + t : Nat) : Int) := hat2
        have hta2 : vtoN at2 = lens.length + t := by rw [hat2]; exact hto _
        have hlt1 : (lens ++ List.replicate t lv).length = lens.length + t := by simp
        have hLL2l : LL2.length = S := by rw [hLL2]; exact pz_len (by rw [hlt1]; omega)
        have hvL2 : vln LL2 = S := by rw [hlnq]; exact hLL2l
        have hc1 : t < mN → vc .lss i row2 = true := fun h => by rw [qc, lss_true]; omega
        have hc2 : ¬ t < mN → vc .lss i row2 = false := fun h => by rw [qc, lss_false]; omega
        refine Exists.elim (exEq (was + ((t + 1 : Nat) : Int) : Int)) (fun i1 hi1 => ?_)
        have ei1 : vb .add .i64 i 1 = i1 := by rw [qb, add_i64 (by omega) (by omega)]; omega
        refine Exists.elim (exEq (((lens.length + (t + 1) : Nat) : Int) : Int)) (fun at3 hat3 => ?_)
        have eat3 : vb .add .i64 at2 1 = at3 := by rw [qb, add_i64 (by omega) (by omega)]; omega
        have hmu2 : t < mN → mN - (i1 - was).toNat < mN - (i - was).toNat := fun h => lp_mu hi hi1 h
        have hatR2 : t < mN → 0 ≤ at2 ∧ at2 < ((S : Nat) : Int) := fun h => lp_at hat2 hfitN h
        have hltS : t < mN → (lens ++ List.replicate t lv).length < S := fun h => by rw [hlt1]; exact Nat.lt_of_lt_of_le (Nat.add_lt_add_left h _) hfitN
        have htkr : 0 ≤ tk2 ∧ tk2 ≤ 16809984 := lp_P ⟨hpp, hpu⟩ ht hfitN hSs hs.2 htk2 htk0 htk
        have hatM : ¬ t < mN → at2 = ((lens.length + mN : Nat) : Int) := fun h => by rw [hat2, show t = mN from Nat.le_antisymm ht (Nat.le_of_not_lt h)]
        have hmuM : ¬ t < mN → S - at2.toNat < S - at_.toNat := fun h => lp_muM hat hat2 hmN hm1.1 hfitN ht h
        cbv
        by_cases hlt : t < mN
        · have hmu2 := hmu2 hlt
          have hatR2 := hatR2 hlt
          have hltS := hltS hlt
          have hstep : lens ++ List.replicate t lv ++ [lv] = lens ++ List.replicate (t + 1) lv := by rw [List.append_assoc, ← List.replicate_succ']
          rw [hc1 hlt]
          cbv
          by_cases hx6 : x = 16
          · have e6 : vc .eql x 16 = true := by rw [qc, eql_true]; exact hx6
            have hlvl := hlv16 hx6
            refine Exists.elim (exEq (PZ (lens ++ List.replicate (t + 1) lv) S)) (fun L3 hL3 => ?_)
            have hset : vst LL2 (lens.length + t) last = L3 := by rw [hst, hLL2, hL3, ← hstep, ← hlvl, ← pz_set hltS, hlt1]
            refine Exists.elim (exEq (15 - last : Int)) (fun d hd => ?_)
            have e15 : vb .sub .u8 15 last = d := by rw [qb, hd]; exact wrap_u8 (by omega) (by omega)
            have ewd : vw .u64 d = d := by rw [qw]; exact wrap_u64 (by omega) (by omega)
            have hpd := pw_d last (by omega)
            rw [← hd] at hpd
            refine Exists.elim (exEq (PW last)) (fun w1 hw1 => ?_)
            have hw1r : 0 ≤ w1 ∧ w1 ≤ 16384 := by rw [hw1]; exact ⟨pw_p _, pw_u _⟩
            rw [← hw1] at hpd
            have esh : vb .shl .i64 1 d = w1 := by
              have hd2 : d = 0 ∨ d = 1 ∨ d = 2 ∨ d = 3 ∨ d = 4 ∨ d = 5 ∨ d = 6 ∨ d = 7 ∨ d = 8 ∨ d = 9 ∨ d = 10 ∨ d = 11 ∨ d = 12 ∨ d = 13 ∨ d = 14 := by omega
              rw [qb, hpd]
              rcases hd2 with rfl | rfl | rfl | rfl | rfl | rfl | rfl | rfl | rfl | rfl | rfl | rfl | rfl | rfl | rfl <;> decide
            refine Exists.elim (exEq (tk2 + w1)) (fun tk3 htk3 => ?_)
            have etk : vb .add .i64 tk2 w1 = tk3 := by rw [qb, add_i64 (by omega) (by omega)]; exact htk3.symm
            have htk3e : tk3 = taken + ((t + 1 : Nat) : Int) * PW lv := by
              rw [htk3, hw1, ← hlvl]; exact lp_tk (w1 := 0) (lv := 0) htk2
            have hd0 : 0 ≤ d := by omega
            refine Exists.elim (exEq (lens.length + t)) (fun atN hatN => ?_)
            have hatNS : atN < S := by rw [hatN, ← hlt1]; exact hltS
            rw [← hatN] at hta2 hset
            rw [e6]
            cbv
            rw [hta2, hset, e15, ewd, esh, etk, eat3, ei1]
            refine ⟨⟨hatR2⟩, ⟨by rw [hvL2]; exact hatNS⟩, ⟨hd0⟩, ?_⟩
            refine Cv.fold ((List.range' 129 19)) 5 [] (by exact Nat.le_refl _) (by exact Nat.le_of_ble_eq_true rfl) (by rfl) (by cbv) ?_
            intro js
            refine ⟨(_, _, _, _), ?_, js, rfl⟩
            exact ⟨⟨t + 1, hi1, hlt, hat3, htk3e, hL3⟩, hmu2⟩
          · have e6 : vc .eql x 16 = false := by rw [qc, eql_false]; exact hx6
            have hlvl := hlv17 hx6
            have hLL3 : LL2 = PZ (lens ++ List.replicate (t + 1) lv) S := by rw [hLL2, ← hstep, hlvl]; rw [hlvl] at hltS; exact (pz_zero hltS).symm
            have htk3e : tk2 = taken + ((t + 1 : Nat) : Int) * PW lv := by rw [htk2, hlvl, pw_z, Int.mul_zero, Int.mul_zero]
            rw [e6]
            cbv
            rw [eat3, ei1]
            refine Cv.fold ((List.range' 129 19)) 5 [] (by exact Nat.le_refl _) (by exact Nat.le_of_ble_eq_true rfl) (by rfl) (by cbv) ?_
            intro js
            refine ⟨(_, _, _, _), ?_, js, rfl⟩
            exact ⟨⟨t + 1, hi1, hlt, hat3, htk3e, hLL3⟩, hmu2⟩
        · have htm : t = mN := by omega
          have hatM := hatM hlt
          have hmuM := hmuM hlt
          refine Exists.elim (exEq (lens ++ List.replicate m.toNat lv)) (fun lens2 hlens2 => ?_)
          have hl2e : lens ++ List.replicate t lv = lens2 := by rw [hlens2, hmt, htm]
          have hl2l : lens2.length = lens.length + mN := by rw [hlens2, hmt]; simp
          have hlf : 32768 - taken - m * PW lv = 32768 - tk2 := by rw [htk2, htm, ← Int.sub_sub]; rw [← hmN]
          have hdisj : ((lens2.length : Int) < size ∧ tk2 < 32768 ∧ (∃ k, RF k q4 last row2 x lens2 (32768 - tk2) = r1 ∧ S - lens2.length ≤ k) ∧ 1 ≤ last ∧ last ≤ 15 ∧ (x < 16 ∨ (3 ≤ row2 ∧ row2 ≤ (lens2.length : Int)))) ∨
              (((lens2.length : Int) = size ∨ 32768 ≤ tk2) ∧ r1 = .ok ((lens2, 32768 - tk2), q4)) := by
            have hl2i : (lens2.length : Int) = (lens.length : Int) + m := lp_len hl2l hmN
            rcases n_dj hN hfit hlens2 hlf hl2i with ⟨h1, h2, h3⟩ | ⟨h1, h3⟩
            · exact .inl ⟨h1, h2, ⟨k2, h3, lp_k hkS hl2l hmN hm1.1⟩, hla1, hla2, .inr ⟨hrowX.1, by rw [hl2i]; exact hrowX.2⟩⟩
            · exact .inr ⟨h1, h3⟩
          have hl2S : lens2.length ≤ S := by rw [hl2l]; exact hfitN
          rw [hl2e] at hLL2
          rw [← hl2l] at hatM
          rw [hc2 hlt]
          cbv
          refine Cv.fold (([15, 16, 17, 18, 19, 20] ++ (List.range' 57 30)) ++ ((List.range' 87 30) ++ (List.range' 117 31))) 5 [] (by exact Nat.le_refl _) (by exact Nat.le_of_ble_eq_true rfl) (by rfl) (by cbv) ?_
          intro js
          refine ⟨(_, _, _, _, _, q4, _, _), ?_, js, rfl⟩
          exact ⟨⟨lens2, hatM, hl2S, hLL2, hq4, hq48, htkr.1, htkr.2, hdisj⟩, hmuM⟩
      · have ekx : vc .eql kind x = false := by rw [qc, eql_false]; exact hkx
        rw [if_neg hkx, if_neg hkx, Int.zero_add, Int.sub_zero, ← hn3] at hN
        refine Exists.elim (exEq (n3 : Int)) (fun row2 hrow2 => ?_)
        refine Exists.elim (exEq (n3 : Int)) (fun m hm4 => ?_)
        have erow : vb .add .i64 0 n3 = row2 := by rw [qb, add_i64 (by omega) (by omega)]; omega
        have hNX : r1 = ND size (RF k2) q4 last row2 x lens (32768 - taken) lv m := by rw [hrow2, hm4]; exact hN
        have hN := hNX
        have hm1 : 1 ≤ m ∧ m ≤ 100000 := by omega
        have hrow3 : 3 ≤ row2 ∧ row2 ≤ 100000 := by omega
        have hrowX : 3 ≤ row2 ∧ row2 ≤ (lens.length : Int) + m := by omega
        refine Exists.elim (exEq (0 : Int)) (fun was hwas => ?_)
        have hwm : was + m = row2 := by omega
        have hwas0 : 0 ≤ was ∧ was ≤ 1024 := by omega
        rw [ekx]
        cbv
        rw [ewn, en3, erow]
        refine Exists.elim (exEq (at_ + row2 : Int)) (fun s2 hs2 => ?_)
        have hatb : 0 ≤ at_ ∧ at_ ≤ 1024 := by
          have hat : at_ = (lens.length : Int) := hat
          have hls : (lens.length : Int) < size := hls
          omega
        have ea1 : vb .add .i64 at_ row2 = s2 := by rw [qb, add_i64 (by omega) (by omega)]; exact hs2.symm
        refine Exists.elim (exEq (at_ + m : Int)) (fun s3 hs3 => ?_)
        have ea2 : vb .sub .i64 s2 0 = s3 := by rw [qb, sub_i64 (by omega) (by omega)]; omega
        rw [ea1, ea2]
        by_cases hfit : (lens.length : Int) + m ≤ size
        rotate_left
        · have hS1 : r1 = .error 11 := by rw [hN]; exact n_pan hfit
          have hk := k3 _ hS1
          have egt : vc .gtr s3 size = true := by
            have hat : at_ = (lens.length : Int) := hat
            rw [qc, gtr_true, hs3, hat]; omega
          rw [egt]
          cbv
          exact ⟨[0, 1], .tup [.agg [.val (.slice none 0 0), .val (.slice none 0 0), .lit .i64 0], .lit .i64 11], [.one 41 [.slice 1 .z 1 bl cap, .int .i64 qI4], .ro .u8 b], rfl, rfl, rfl, rfl, ⟨rfl, rfl, trivial⟩, rfl, q4, qI4, hq4, hq48, .inr (.inr ⟨11, hk, by decide, by decide, rfl, rfl⟩)⟩
        have egt : vc .gtr s3 size = false := by
          have hat : at_ = (lens.length : Int) := hat
          rw [qc, gtr_false, hs3, hat]; omega
        have hpu := pw_u lv
        have hpp := pw_p lv
        refine Exists.elim (⟨m.toNat, by omega⟩ : ∃ mN : Nat, (mN : Int) = m) (fun mN hmN => ?_)
        have hmt : m.toNat = mN := by omega
        have hfitN : lens.length + mN ≤ S := by
          have hSs : (S : Int) = size := hSs
          have hmN : (mN : Int) = m := hmN
          omega
        rw [egt]
        cbv
        refine loop_fam (α := Int × Int × Int × List Int) ((List.range' 129 19)) []
          (fun (i, at2, tk2, LL) => [(20, .int .i64 i), (10, .int .i64 at2), (11, .int .i64 tk2)])
          (fun (i, at2, tk2, LL) => [(4, .ints 5 .u8 LL)])
          (fun (i, at2, tk2, LL) => ∃ t : Nat, i = was + t ∧ t ≤ mN ∧ at2 = ((lens.length + t : Nat) : Int) ∧ tk2 = taken + t * PW lv ∧ LL = PZ (lens ++ List.replicate t lv) S)
          (fun (i, at2, tk2, LL) => mN - (i - was).toNat) hw hm ?_ ?_
        · refine Cv.genAt [20] [] (Cv.fold ((List.range' 129 19)) 5 [] (by exact Nat.le_refl _) (by exact Nat.le_of_ble_eq_true rfl) (by rfl) (by cbv) ?_)
          intro js
          refine ⟨(_, _, _, _), ?_, js, rfl⟩
          exact ⟨0, by rw [hwas]; simp, Nat.zero_le _, hat, by simp, by simpa using hLL⟩
        refine fam4 (fun i at2 tk2 LL2 => ?_)
        intro js6 hI0
        refine Exists.elim hI0 (fun t hI0 => ?_)
        have hi := hI0.1
        have ht := hI0.2.1
        have hat2 := hI0.2.2.1
        have htk2 := hI0.2.2.2.1
        have hLL2 := hI0.2.2.2.2
        clear hI0
        have hi : i = was + (t : Int) := hi
        have hmN : (mN : Int) = m := hmN
        have hSs : (S : Int) = size := hSs
        have hat2 : at2 = ((lens.length + t : Nat) : Int) := hat2
        have hta2 : vtoN at2 = lens.length + t := by rw [hat2]; exact hto _
        have hlt1 : (lens ++ List.replicate t lv).length = lens.length + t := by simp
        have hLL2l : LL2.length = S := by rw [hLL2]; exact pz_len (by rw [hlt1]; omega)
        have hvL2 : vln LL2 = S := by rw [hlnq]; exact hLL2l
        have hc1 : t < mN → vc .lss i row2 = true := fun h => by rw [qc, lss_true]; omega
        have hc2 : ¬ t < mN → vc .lss i row2 = false := fun h => by rw [qc, lss_false]; omega
        refine Exists.elim (exEq (was + ((t + 1 : Nat) : Int) : Int)) (fun i1 hi1 => ?_)
        have ei1 : vb .add .i64 i 1 = i1 := by rw [qb, add_i64 (by omega) (by omega)]; omega
        refine Exists.elim (exEq (((lens.length + (t + 1) : Nat) : Int) : Int)) (fun at3 hat3 => ?_)
        have eat3 : vb .add .i64 at2 1 = at3 := by rw [qb, add_i64 (by omega) (by omega)]; omega
        have hmu2 : t < mN → mN - (i1 - was).toNat < mN - (i - was).toNat := fun h => lp_mu hi hi1 h
        have hatR2 : t < mN → 0 ≤ at2 ∧ at2 < ((S : Nat) : Int) := fun h => lp_at hat2 hfitN h
        have hltS : t < mN → (lens ++ List.replicate t lv).length < S := fun h => by rw [hlt1]; exact Nat.lt_of_lt_of_le (Nat.add_lt_add_left h _) hfitN
        have htkr : 0 ≤ tk2 ∧ tk2 ≤ 16809984 := lp_P ⟨hpp, hpu⟩ ht hfitN hSs hs.2 htk2 htk0 htk
        have hatM : ¬ t < mN → at2 = ((lens.length + mN : Nat) : Int) := fun h => by rw [hat2, show t = mN from Nat.le_antisymm ht (Nat.le_of_not_lt h)]
        have hmuM : ¬ t < mN → S - at2.toNat < S - at_.toNat := fun h => lp_muM hat hat2 hmN hm1.1 hfitN ht h
        cbv
        by_cases hlt : t < mN
        · have hmu2 := hmu2 hlt
          have hatR2 := hatR2 hlt
          have hltS := hltS hlt
          have hstep : lens ++ List.replicate t lv ++ [lv] = lens ++ List.replicate (t + 1) lv := by rw [List.append_assoc, ← List.replicate_succ']
          rw [hc1 hlt]
          cbv
          by_cases hx6 : x = 16
          · have e6 : vc .eql x 16 = true := by rw [qc, eql_true]; exact hx6
            have hlvl := hlv16 hx6
            refine Exists.elim (exEq (PZ (lens ++ List.replicate (t + 1) lv) S)) (fun L3 hL3 => ?_)
            have hset : vst LL2 (lens.length + t) last = L3 := by rw [hst, hLL2, hL3, ← hstep, ← hlvl, ← pz_set hltS, hlt1]
            refine Exists.elim (exEq (15 - last : Int)) (fun d hd => ?_)
            have e15 : vb .sub .u8 15 last = d := by rw [qb, hd]; exact wrap_u8 (by omega) (by omega)
            have ewd : vw .u64 d = d := by rw [qw]; exact wrap_u64 (by omega) (by omega)
            have hpd := pw_d last (by omega)
            rw [← hd] at hpd
            refine Exists.elim (exEq (PW last)) (fun w1 hw1 => ?_)
            have hw1r : 0 ≤ w1 ∧ w1 ≤ 16384 := by rw [hw1]; exact ⟨pw_p _, pw_u _⟩
            rw [← hw1] at hpd
            have esh : vb .shl .i64 1 d = w1 := by
              have hd2 : d = 0 ∨ d = 1 ∨ d = 2 ∨ d = 3 ∨ d = 4 ∨ d = 5 ∨ d = 6 ∨ d = 7 ∨ d = 8 ∨ d = 9 ∨ d = 10 ∨ d = 11 ∨ d = 12 ∨ d = 13 ∨ d = 14 := by omega
              rw [qb, hpd]
              rcases hd2 with rfl | rfl | rfl | rfl | rfl | rfl | rfl | rfl | rfl | rfl | rfl | rfl | rfl | rfl | rfl <;> decide
            refine Exists.elim (exEq (tk2 + w1)) (fun tk3 htk3 => ?_)
            have etk : vb .add .i64 tk2 w1 = tk3 := by rw [qb, add_i64 (by omega) (by omega)]; exact htk3.symm
            have htk3e : tk3 = taken + ((t + 1 : Nat) : Int) * PW lv := by
              rw [htk3, hw1, ← hlvl]; exact lp_tk (w1 := 0) (lv := 0) htk2
            have hd0 : 0 ≤ d := by omega
            refine Exists.elim (exEq (lens.length + t)) (fun atN hatN => ?_)
            have hatNS : atN < S := by rw [hatN, ← hlt1]; exact hltS
            rw [← hatN] at hta2 hset
            rw [e6]
            cbv
            rw [hta2, hset, e15, ewd, esh, etk, eat3, ei1]
            refine ⟨⟨hatR2⟩, ⟨by rw [hvL2]; exact hatNS⟩, ⟨hd0⟩, ?_⟩
            refine Cv.fold ((List.range' 129 19)) 5 [] (by exact Nat.le_refl _) (by exact Nat.le_of_ble_eq_true rfl) (by rfl) (by cbv) ?_
            intro js
            refine ⟨(_, _, _, _), ?_, js, rfl⟩
            exact ⟨⟨t + 1, hi1, hlt, hat3, htk3e, hL3⟩, hmu2⟩
          · have e6 : vc .eql x 16 = false := by rw [qc, eql_false]; exact hx6
            have hlvl := hlv17 hx6
            have hLL3 : LL2 = PZ (lens ++ List.replicate (t + 1) lv) S := by rw [hLL2, ← hstep, hlvl]; rw [hlvl] at hltS; exact (pz_zero hltS).symm
            have htk3e : tk2 = taken + ((t + 1 : Nat) : Int) * PW lv := by rw [htk2, hlvl, pw_z, Int.mul_zero, Int.mul_zero]
            rw [e6]
            cbv
            rw [eat3, ei1]
            refine Cv.fold ((List.range' 129 19)) 5 [] (by exact Nat.le_refl _) (by exact Nat.le_of_ble_eq_true rfl) (by rfl) (by cbv) ?_
            intro js
            refine ⟨(_, _, _, _), ?_, js, rfl⟩
            exact ⟨⟨t + 1, hi1, hlt, hat3, htk3e, hLL3⟩, hmu2⟩
        · have htm : t = mN := by omega
          have hatM := hatM hlt
          have hmuM := hmuM hlt
          refine Exists.elim (exEq (lens ++ List.replicate m.toNat lv)) (fun lens2 hlens2 => ?_)
          have hl2e : lens ++ List.replicate t lv = lens2 := by rw [hlens2, hmt, htm]
          have hl2l : lens2.length = lens.length + mN := by rw [hlens2, hmt]; simp
          have hlf : 32768 - taken - m * PW lv = 32768 - tk2 := by rw [htk2, htm, ← Int.sub_sub]; rw [← hmN]
          have hdisj : ((lens2.length : Int) < size ∧ tk2 < 32768 ∧ (∃ k, RF k q4 last row2 x lens2 (32768 - tk2) = r1 ∧ S - lens2.length ≤ k) ∧ 1 ≤ last ∧ last ≤ 15 ∧ (x < 16 ∨ (3 ≤ row2 ∧ row2 ≤ (lens2.length : Int)))) ∨
              (((lens2.length : Int) = size ∨ 32768 ≤ tk2) ∧ r1 = .ok ((lens2, 32768 - tk2), q4)) := by
            have hl2i : (lens2.length : Int) = (lens.length : Int) + m := lp_len hl2l hmN
            rcases n_dj hN hfit hlens2 hlf hl2i with ⟨h1, h2, h3⟩ | ⟨h1, h3⟩
            · exact .inl ⟨h1, h2, ⟨k2, h3, lp_k hkS hl2l hmN hm1.1⟩, hla1, hla2, .inr ⟨hrowX.1, by rw [hl2i]; exact hrowX.2⟩⟩
            · exact .inr ⟨h1, h3⟩
          have hl2S : lens2.length ≤ S := by rw [hl2l]; exact hfitN
          rw [hl2e] at hLL2
          rw [← hl2l] at hatM
          rw [hc2 hlt]
          cbv
          refine Cv.fold (([15, 16, 17, 18, 19, 20] ++ (List.range' 57 30)) ++ ((List.range' 87 30) ++ (List.range' 117 31))) 5 [] (by exact Nat.le_refl _) (by exact Nat.le_of_ble_eq_true rfl) (by rfl) (by cbv) ?_
          intro js
          refine ⟨(_, _, _, _, _, q4, _, _), ?_, js, rfl⟩
          exact ⟨⟨lens2, hatM, hl2S, hLL2, hq4, hq48, htkr.1, htkr.2, hdisj⟩, hmuM⟩
  · have hin := hinn _ _ _ _ (by omega) hq8 hf
    have hR2 : qI2 = (q2 : Int) := hq2
    refine Exists.elim (exEq (size.toNat)) (fun S hS => ?_)
    have htS : vtoN size = S := by rw [qtoN]; exact hS.symm
    have hSs : (S : Int) = size := by omega
    refine Exists.elim (exEq (RD (nxR b (.inr L)) size)) (fun RF hRF => ?_)
    have f_e := fun k p last row kind lens left e => @f_e (nxR b (.inr L)) size k p last row kind left e lens
    have f_a := fun k p q last row kind lens left x => @f_a (nxR b (.inr L)) size k p q last row kind left x lens
    have f_g := fun k p q last row kind lens left x e => @f_g (nxR b (.inr L)) size k p q last row kind left x e lens
    have f_b := fun k p q q2 last row kind lens left x n => @f_b (nxR b (.inr L)) size k p q q2 last row kind left x n lens
    rw [← hRF] at f_e f_a f_g f_b
    have k3 := fun e => k3 x q (.inr L) q2 e hg hx1 hf
    have k4 := fun lens q3 => k4 x q (.inr L) q2 lens q3 hg hx1 hf
    have k5 := fun lens left q3 => k5 x q (.inr L) q2 lens left q3 hg hx1 hf
    rw [← hRF, ← hS] at k3 k4 k5
    have hnr := fun p x q => nxr b (.inr L) hin p q x
    have hLl : L.length = 18 := hin.1
    refine Exists.elim (exEq (L.length)) (fun ll hll => ?_)
    refine Exists.elim (exEq (WL L)) (fun W hW => ?_)
    have hnx : ∀ (p : Nat) (pI : Int), pI = p → p ≤ 8 * bl → Con P 17 [.ptr 0 .z 2 0, .agg [.slice 2 .z 1 ll cp, .slice 3 .z 1 ll ll, .int .i64 0]] [.one 41 [.slice 1 .z 1 bl cap, .int .i64 pI], .ro .u8 b, .ro .u8 L, .ro .u16 W] (fun v H R => R = [] ∧ ∃ (q : Nat) (qI : Int), qI = q ∧ q ≤ 8 * bl ∧ H = [.one 41 [.slice 1 .z 1 bl cap, .int .i64 qI], .ro .u8 b, .ro .u8 L, .ro .u16 W] ∧ ((∃ x, nxR b (.inr L) p = .ok (x, q) ∧ v = .tup [.int .i64 x, .int .i64 0]) ∨ ∃ e, nxR b (.inr L) p = .error e ∧ 0 < e ∧ e < 100 ∧ v = .tup [.int .i64 0, .int .i64 e])) := fun p pI h1 h2 => by
      rw [hll, hW]
      refine (nx2 L cp p pI h2 h1 hin.2.2.2 (by omega) (by omega)).mono ?_
      rintro v H R ⟨s, e, q, qI, rfl, hq, hd, rfl, rfl⟩
      rcases hd.e with rfl | rfl
      · exact ⟨rfl, q, qI, hq, by have := hd.ok_range; omega, rfl, .inl ⟨s, decR_ok hd, rfl⟩⟩
      · refine ⟨rfl, q, qI, hq, ?_, rfl, .inr ⟨10, decR_err hd, by decide, by decide, ?_⟩⟩
        · rcases hd with ⟨_, _, _, _, _, _, _, _, _, _, _, h, _⟩ | ⟨_, _, h, _, _, _, h2⟩
          · cases h
          · omega
        · rcases hd with ⟨_, _, _, _, _, _, _, _, _, _, _, h, _⟩ | ⟨_, _, _, _, h, _, _⟩
          · cases h
          · rw [h]
    rw [← hll, ← hW]
    rw [← hbl] at hnr
    clear hbl
    refine Exists.elim (exEq (nxR b (.inr L))) (fun NX hNX => ?_)
    rw [← hNX] at f_e f_a f_g f_b hnx hnr
    clear hNX
    obtain ⟨r1, hr1⟩ : ∃ r1, RF S q2 8 0 0 [] 32768 = r1 := ⟨_, rfl⟩
    rw [hr1] at k3 k4 k5
    clear hRF hin g2 gf gi hgf hgi nx1 nx2 k0 k1 k2 hx2 hinn nxr
    refine Exists.elim (exEq (PZ [] S)) (fun L0 hL0 => ?_)
    have hrepS : vrep S 0 = L0 := by rw [qrep, hL0]; exact (pz_nil S).symm
    cbv
    rw [e00]
    cbv
    rw [htS, hrepS]
    refine ⟨⟨by omega⟩, ⟨by omega⟩, ⟨by first | omega | (simp only [nc]; omega)⟩, ⟨by show size * 1 ≤ 281474976710656; omega⟩, ?_⟩
    refine loop_fam (α := Int × Int × Int × Int × Int × Nat × Int × List Int) (([15, 16, 17, 18, 19, 20] ++ (List.range' 57 30)) ++ ((List.range' 87 30) ++ (List.range' 117 31))) []
      (fun (at_, taken, last, row, kind, p, pI, LL) => [(10, .int .i64 at_), (11, .int .i64 taken), (12, .int .u8 last), (13, .int .i64 row), (14, .int .i64 kind)])
      (fun (at_, taken, last, row, kind, p, pI, LL) => [(0, .one 41 [.slice 1 .z 1 bl cap, .int .i64 pI]), (6, .ints 5 .u8 LL)])
      (fun (at_, taken, last, row, kind, p, pI, LL) => ∃ lens : List Int, at_ = (lens.length : Int) ∧ lens.length ≤ S ∧ LL = PZ lens S ∧ pI = p ∧ p ≤ 8 * bl ∧ 0 ≤ taken ∧ taken ≤ 16809984 ∧
        (((lens.length : Int) < size ∧ taken < 32768 ∧ (∃ k, RF k p last row kind lens (32768 - taken) = r1 ∧ S - lens.length ≤ k) ∧ 1 ≤ last ∧ last ≤ 15 ∧ (kind < 16 ∨ (3 ≤ row ∧ row ≤ (lens.length : Int)))) ∨
         (((lens.length : Int) = size ∨ 32768 ≤ taken) ∧ r1 = .ok ((lens, 32768 - taken), p))))
      (fun (at_, taken, last, row, kind, p, pI, LL) => S - at_.toNat) hw hm ?_ ?_
    · refine Cv.genAt [10, 11, 12, 13, 14] [0] (Cv.fold (([15, 16, 17, 18, 19, 20] ++ (List.range' 57 30)) ++ ((List.range' 87 30) ++ (List.range' 117 31))) 7 [] (by exact Nat.le_refl _) (by exact Nat.le_of_ble_eq_true rfl) (by rfl) (by cbv) ?_)
      intro js
      refine ⟨(_, _, _, _, _, q2, _, _), ?_, js, rfl⟩
      exact ⟨[], rfl, Nat.zero_le _, hL0, hR2, hq28, by decide, by decide, .inl ⟨by show (0 : Int) < size; omega, by decide, ⟨S, hr1, Nat.le_refl _⟩, by decide, by decide, .inl (by decide)⟩⟩
    refine fam8 (fun at_ taken last row kind p pI LL => ?_)
    intro js hI0
    refine Exists.elim hI0 (fun lens hI0 => ?_)
    have hat := hI0.1
    have hlS := hI0.2.1
    have hLL := hI0.2.2.1
    have hpI := hI0.2.2.2.1
    have hp8 := hI0.2.2.2.2.1
    have htk0 := hI0.2.2.2.2.2.1
    have htk1 := hI0.2.2.2.2.2.2.1
    have hI := hI0.2.2.2.2.2.2.2
    clear hI0
    have hat : at_ = (lens.length : Int) := hat
    have hSs : (S : Int) = size := hSs
    have hnxp := hnx p pI hpI hp8
    have hta : vtoN at_ = lens.length := by rw [hat]; exact hto _
    by_cases hact : (lens.length : Int) < size ∧ taken < 32768
    rotate_left
    · have hr1' : r1 = .ok ((lens, 32768 - taken), p) := by
        rcases hI with h | h
        · exact absurd ⟨h.1, h.2.1⟩ hact
        · exact h.2
      have hex : (vc .lss at_ size = true ∧ vc .lss taken 32768 = false) ∨ vc .lss at_ size = false := by
        by_cases h : (lens.length : Int) < size
        · left; exact ⟨by rw [qc, lss_true, hat]; exact h, by rw [qc, lss_false]; intro h2; exact hact ⟨h, h2⟩⟩
        · right; rw [qc, lss_false, hat]; exact h
      have hLLl : LL.length = S := by rw [hLL]; exact pz_len hlS
      rcases hex with ⟨e1, e2⟩ | e1
      · cbv
        rw [e1]
        cbv
        rw [e2]
        cbv
        by_cases h32 : taken = 32768
        · have e2 : vc .neq taken 32768 = false := by rw [qc, neq_false]; exact fun h => h h32
          rw [h32] at hr1'
          have hk := k4 _ _ hr1'
          rw [← hLL] at hk
          have hlfC := hrd _ _ hk
          have hofL := hof LL S hlfC.2.2.2
          rw [hLLl] at hofL
          rw [e2]
          cbv
          refine call_con (ρ := [(6, .z)]) hofL ⟨by rfl, by rfl, by rfl, by cbv; exact ⟨view_refl _, trivial⟩⟩ ?_
          rintro v H R js5 ⟨rfl, rfl, rfl⟩
          generalize hW : WL LL = W
          cbv
          subst hW
          exact ⟨[0, 1, 6, 7], .tup [.agg [.slice 2 .z 1 S S, .slice 3 .z 1 S S, .int .i64 0], .lit .i64 0], [.one 41 [.slice 1 .z 1 bl cap, .int .i64 pI], .ro .u8 b, .ints 5 .u8 LL, .ints 116 .u16 (WL LL)], rfl, rfl, rfl, rfl, ⟨rfl, rfl, rfl, rfl, trivial⟩, rfl, p, pI, hpI, hp8, .inr (.inl ⟨LL, S, hk, by rw [hLLl]; rfl, rfl⟩)⟩
        · have e2 : vc .neq taken 32768 = true := by rw [qc, neq_true]; exact h32
          have hk := k5 _ _ _ hr1' (by omega)
          rw [e2]
          cbv
          exact ⟨[0, 1], .tup [.agg [.val (.slice none 0 0), .val (.slice none 0 0), .lit .i64 0], .lit .i64 11], [.one 41 [.slice 1 .z 1 bl cap, .int .i64 pI], .ro .u8 b], rfl, rfl, rfl, rfl, ⟨rfl, rfl, trivial⟩, rfl, p, pI, hpI, hp8, .inr (.inr ⟨11, hk, by decide, by decide, rfl, rfl⟩)⟩
      · cbv
        rw [e1]
        cbv
        by_cases h32 : taken = 32768
        · have e2 : vc .neq taken 32768 = false := by rw [qc, neq_false]; exact fun h => h h32
          rw [h32] at hr1'
          have hk := k4 _ _ hr1'
          rw [← hLL] at hk
          have hlfC := hrd _ _ hk
          have hofL := hof LL S hlfC.2.2.2
          rw [hLLl] at hofL
          rw [e2]
          cbv
          refine call_con (ρ := [(6, .z)]) hofL ⟨by rfl, by rfl, by rfl, by cbv; exact ⟨view_refl _, trivial⟩⟩ ?_
          rintro v H R js5 ⟨rfl, rfl, rfl⟩
          generalize hW : WL LL = W
          cbv
          subst hW
          exact ⟨[0, 1, 6, 7], .tup [.agg [.slice 2 .z 1 S S, .slice 3 .z 1 S S, .int .i64 0], .lit .i64 0], [.one 41 [.slice 1 .z 1 bl cap, .int .i64 pI], .ro .u8 b, .ints 5 .u8 LL, .ints 116 .u16 (WL LL)], rfl, rfl, rfl, rfl, ⟨rfl, rfl, rfl, rfl, trivial⟩, rfl, p, pI, hpI, hp8, .inr (.inl ⟨LL, S, hk, by rw [hLLl]; rfl, rfl⟩)⟩
        · have e2 : vc .neq taken 32768 = true := by rw [qc, neq_true]; exact h32
          have hk := k5 _ _ _ hr1' (by omega)
          rw [e2]
          cbv
          exact ⟨[0, 1], .tup [.agg [.val (.slice none 0 0), .val (.slice none 0 0), .lit .i64 0], .lit .i64 11], [.one 41 [.slice 1 .z 1 bl cap, .int .i64 pI], .ro .u8 b], rfl, rfl, rfl, rfl, ⟨rfl, rfl, trivial⟩, rfl, p, pI, hpI, hp8, .inr (.inr ⟨11, hk, by decide, by decide, rfl, rfl⟩)⟩
    have hAll : (lens.length : Int) < size ∧ taken < 32768 ∧ (∃ k, RF k p last row kind lens (32768 - taken) = r1 ∧ S - lens.length ≤ k) ∧ 1 ≤ last ∧ last ≤ 15 ∧ (kind < 16 ∨ (3 ≤ row ∧ row ≤ (lens.length : Int))) := by
      rcases hI with h | h
      · exact h
      · omega
    have hls := hAll.1
    have htk := hAll.2.1
    have hla1 := hAll.2.2.2.1
    have hla2 := hAll.2.2.2.2.1
    have hrow := hAll.2.2.2.2.2
    have hlS1 : lens.length < S := by omega
    have hk2 : ∃ k2, RF (k2 + 1) p last row kind lens (32768 - taken) = r1 ∧ S - lens.length ≤ k2 + 1 := by
      obtain ⟨k, h1, h2⟩ := hAll.2.2.1
      exact ⟨k - 1, by rw [show k - 1 + 1 = k by omega]; exact h1, by omega⟩
    refine Exists.elim hk2 (fun k2 hk2 => ?_)
    have hRFk := hk2.1
    have hkS := hk2.2
    clear hAll hk2 hI
    have el1 : vc .lss at_ size = true := by rw [qc, lss_true, hat]; exact hls
    have el2 : vc .lss taken 32768 = true := by rw [qc, lss_true]; exact htk
    refine Exists.elim (exEq (((lens.length + 1 : Nat) : Int) : Int)) (fun at1 hat1 => ?_)
    have eat1 : vb .add .i64 at_ 1 = at1 := by rw [qb, add_i64 (by omega) (by omega)]; omega
    have hmu1 : S - at1.toNat < S - at_.toNat := by omega
    have hlsN : (lens.length : Int) + 1 ≤ size := by omega
    have hatR : 0 ≤ at_ ∧ at_ < ((S : Nat) : Int) := by omega
    have hLLl : LL.length = S := by rw [hLL]; exact pz_len hlS
    cbv
    rw [el1]
    cbv
    rw [el2]
    cbv
    refine call_con (ρ := [(0, .z), (1, .z), (3, .z), (4, .z)]) hnxp ⟨by rfl, by rfl, by rfl, by cbv; exact ⟨view_refl _, view_refl _, view_refl _, trivial⟩⟩ ?_
    rintro v H R js3 ⟨rfl, q3, qI3, hq3, hq38, rfl, ⟨x, hgx, rfl⟩ | ⟨e, hge, he0, he1, rfl⟩⟩
    rotate_left
    · have hS1 := f_e k2 p last row kind lens (32768 - taken) e hge
      rw [hRFk] at hS1
      have hk := k3 _ hS1
      have ene : vc .neq e 0 = true := by rw [qc, neq_true]; omega
      cbv
      rw [ene]
      cbv
      exact ⟨[0, 1], .tup [.agg [.val (.slice none 0 0), .val (.slice none 0 0), .lit .i64 0], .int .i64 e], [.one 41 [.slice 1 .z 1 bl cap, .int .i64 qI3], .ro .u8 b], rfl, rfl, rfl, rfl, ⟨rfl, rfl, trivial⟩, rfl, q3, qI3, hq3, hq38, .inr (.inr ⟨e, hk, he0, he1, rfl, rfl⟩)⟩
    have hxr := hnr p x q3 hp8 hgx
    cbv
    rw [e00]
    cbv
    by_cases hx16 : x < 16
    · have e16 : vc .lss x 16 = true := by rw [qc, lss_true]; exact hx16
      have hN := f_a k2 p q3 last row kind lens (32768 - taken) x hgx hx16
      rw [hRFk] at hN
      have ewx : vw .u8 x = x := by rw [qw]; exact wrap_u8 (by omega) (by omega)
      have hset : vst LL lens.length x = PZ (lens ++ [x]) S := by rw [hst, hLL]; exact pz_set hlS1
      refine Exists.elim (exEq (PZ (lens ++ [x]) S)) (fun L2 hL2 => ?_)
      rw [← hL2] at hset
      have hvLL : vln LL = S := by rw [hlnq]; exact hLLl
      have hll1 : (lens ++ [x]).length = lens.length + 1 := by simp
      have hrep1 : lens ++ List.replicate (1 : Int).toNat x = lens ++ [x] := rfl
      rw [e16]
      cbv
      rw [ewx, hta, hset]
      refine ⟨⟨hatR⟩, ⟨by rw [hvLL]; exact hlS1⟩, ?_⟩
      by_cases hx0 : x > 0
      · have e0 : vc .gtr x 0 = true := by rw [qc, gtr_true]; exact hx0
        rw [if_pos hx0] at hN
        refine Exists.elim (exEq (15 - x : Int)) (fun d hd => ?_)
        have e15 : vb .sub .i64 15 x = d := by rw [qb, sub_i64 (by omega) (by omega)]; exact hd.symm
        have ewd : vw .u64 d = d := by rw [qw]; exact wrap_u64 (by omega) (by omega)
        have hpd := pw_d x hx0
        have hpu := pw_u x
        have hpp := pw_p x
        rw [← hd] at hpd
        refine Exists.elim (exEq (PW x)) (fun w1 hw1 => ?_)
        rw [← hw1] at hpd hpu hpp
        have esh : vb .shl .i64 1 d = w1 := by
          have hd2 : d = 0 ∨ d = 1 ∨ d = 2 ∨ d = 3 ∨ d = 4 ∨ d = 5 ∨ d = 6 ∨ d = 7 ∨ d = 8 ∨ d = 9 ∨ d = 10 ∨ d = 11 ∨ d = 12 ∨ d = 13 ∨ d = 14 := by omega
          rw [qb, hpd]
          rcases hd2 with rfl | rfl | rfl | rfl | rfl | rfl | rfl | rfl | rfl | rfl | rfl | rfl | rfl | rfl | rfl <;> decide
        refine Exists.elim (exEq (taken + w1)) (fun tk2 htk2 => ?_)
        have etk : vb .add .i64 taken w1 = tk2 := by rw [qb, add_i64 (by omega) (by omega)]; exact htk2.symm
        have hd0 : 0 ≤ d := by omega
        have hlf : 32768 - taken - 1 * PW x = 32768 - tk2 := by rw [← hw1, htk2]; omega
        have htk2r : 0 ≤ tk2 ∧ tk2 ≤ 16809984 := by omega
        have hdisj : (((lens ++ [x]).length : Int) < size ∧ tk2 < 32768 ∧ (∃ k, RF k q3 x row 0 (lens ++ [x]) (32768 - tk2) = r1 ∧ S - (lens ++ [x]).length ≤ k) ∧ 1 ≤ x ∧ x ≤ 15 ∧ ((0 : Int) < 16 ∨ (3 ≤ row ∧ row ≤ ((lens ++ [x]).length : Int)))) ∨
            ((((lens ++ [x]).length : Int) = size ∨ 32768 ≤ tk2) ∧ r1 = .ok ((lens ++ [x], 32768 - tk2), q3)) := by
          have hl2i : ((lens ++ [x]).length : Int) = (lens.length : Int) + 1 := by rw [hll1]; rfl
          rcases n_dj hN hlsN hrep1.symm hlf hl2i with ⟨h1, h2, h3⟩ | ⟨h1, h3⟩
          · exact .inl ⟨h1, h2, ⟨k2, h3, lp_k hkS hll1 (m := 1) rfl (by decide)⟩, by omega, by omega, .inl (by decide)⟩
          · exact .inr ⟨h1, h3⟩
        rw [e0]
        cbv
        rw [e15, ewd, esh, etk, ewx, eat1]
        refine ⟨⟨hd0⟩, ?_⟩
        refine Cv.genAt [14] [] (Cv.fold (([15, 16, 17, 18, 19, 20] ++ (List.range' 57 30)) ++ ((List.range' 87 30) ++ (List.range' 117 31))) 7 [] (by exact Nat.le_refl _) (by exact Nat.le_of_ble_eq_true rfl) (by rfl) (by cbv) ?_)
        intro js
        refine ⟨(_, _, _, _, _, q3, _, _), ?_, js, rfl⟩
        exact ⟨⟨lens ++ [x], by rw [hll1]; exact hat1, by rw [hll1]; exact hlS1, hL2, hq3, hq38, htk2r.1, htk2r.2, hdisj⟩, hmu1⟩
      · have e0 : vc .gtr x 0 = false := by rw [qc, gtr_false]; exact hx0
        have hx00 : x = 0 := by omega
        rw [if_neg hx0] at hN
        refine Exists.elim (exEq (taken)) (fun tk2 htk2 => ?_)
        have hlf : 32768 - taken - 1 * PW x = 32768 - tk2 := by rw [hx00, pw_z, htk2]; omega
        have htk2r : 0 ≤ tk2 ∧ tk2 ≤ 16809984 := by omega
        have hdisj : (((lens ++ [x]).length : Int) < size ∧ tk2 < 32768 ∧ (∃ k, RF k q3 last row 0 (lens ++ [x]) (32768 - tk2) = r1 ∧ S - (lens ++ [x]).length ≤ k) ∧ 1 ≤ last ∧ last ≤ 15 ∧ ((0 : Int) < 16 ∨ (3 ≤ row ∧ row ≤ ((lens ++ [x]).length : Int)))) ∨
            ((((lens ++ [x]).length : Int) = size ∨ 32768 ≤ tk2) ∧ r1 = .ok ((lens ++ [x], 32768 - tk2), q3)) := by
          have hl2i : ((lens ++ [x]).length : Int) = (lens.length : Int) + 1 := by rw [hll1]; rfl
          rcases n_dj hN hlsN hrep1.symm hlf hl2i with ⟨h1, h2, h3⟩ | ⟨h1, h3⟩
          · exact .inl ⟨h1, h2, ⟨k2, h3, lp_k hkS hll1 (m := 1) rfl (by decide)⟩, by omega, by omega, .inl (by decide)⟩
          · exact .inr ⟨h1, h3⟩
        subst htk2
        rw [e0]
        cbv
        rw [eat1]
        refine Cv.genAt [14] [] (Cv.fold (([15, 16, 17, 18, 19, 20] ++ (List.range' 57 30)) ++ ((List.range' 87 30) ++ (List.range' 117 31))) 7 [] (by exact Nat.le_refl _) (by exact Nat.le_of_ble_eq_true rfl) (by rfl) (by cbv) ?_)
        intro js
        refine ⟨(_, _, _, _, _, q3, _, _), ?_, js, rfl⟩
        exact ⟨⟨lens ++ [x], by rw [hll1]; exact hat1, by rw [hll1]; exact hlS1, hL2, hq3, hq38, htk0, htk1, hdisj⟩, hmu1⟩
    · have e16 : vc .lss x 16 = false := by rw [qc, lss_false]; exact hx16
      have hx2 : x = 16 ∨ x = 17 := by omega
      refine Exists.elim (exEq (x - 14 : Int)) (fun x14 hx14 => ?_)
      have e14 : vb .sub .i64 x 14 = x14 := by rw [qb, sub_i64 (by omega) (by omega)]; exact hx14.symm
      have hgg := gn (x - 14).toNat q3 qI3 x14 hq38 hq3 (by simp only [nc]; omega) (by omega)
      have hF := fun e => f_g k2 p q3 last row kind lens (32768 - taken) x e hgx hx16
      have hB := fun q2 n => f_b k2 p q3 q2 last row kind lens (32768 - taken) x n hgx hx16
      have hgR := fun nn q2 => hgn (x - 14).toNat q3 nn q2
      rw [hRFk] at hF hB
      refine Exists.elim (exEq ((x - 14).toNat)) (fun kN hkN => ?_)
      rw [← hkN] at hgg hF hB hgR
      have hkv : (kN = 2 ∧ x = 16) ∨ (kN = 3 ∧ x = 17) := by omega
      rw [e16]
      cbv
      rw [e14]
      refine call_con (ρ := [(0, .z), (1, .z)]) hgg ⟨by rfl, by rfl, by rfl, by cbv; exact ⟨view_refl _, trivial⟩⟩ ?_
      rintro v H R js4 ⟨rfl, q4, qI4, hq4, hq48, rfl, ⟨nn, hgq, rfl⟩ | ⟨e, hge, he0, he1, rfl⟩⟩
      rotate_left
      · have hk := k3 _ (hF e hge)
        have ene : vc .neq e 0 = true := by rw [qc, neq_true]; omega
        cbv
        rw [ene]
        cbv
        exact ⟨[0, 1], .tup [.agg [.val (.slice none 0 0), .val (.slice none 0 0), .lit .i64 0], .int .i64 e], [.one 41 [.slice 1 .z 1 bl cap, .int .i64 qI4], .ro .u8 b], rfl, rfl, rfl, rfl, ⟨rfl, rfl, trivial⟩, rfl, q4, qI4, hq4, hq48, .inr (.inr ⟨e, hk, he0, he1, rfl, rfl⟩)⟩
      have hnr2 := hgR nn q4 hgq
      have hN := hB q4 nn hgq
      have hp2 : 1 ≤ (2 : Int) ^ kN ∧ (2 : Int) ^ kN ≤ 8 ∧ nn < 8 := by
        have h7 := hnr2.2
        rcases hkv with ⟨h, _⟩ | ⟨h, _⟩ <;> rw [h] at h7 ⊢ <;> omega
      refine Exists.elim (exEq (3 + nn : Int)) (fun n3 hn3 => ?_)
      have ewn : vw .i64 nn = nn := by rw [qw]; exact wrap_i64 (by omega) (by omega)
      have en3 : vb .add .i64 3 nn = n3 := by rw [qb, add_i64 (by omega) (by omega)]; exact hn3.symm
      refine Exists.elim (exEq (if x = 16 then last else 0 : Int)) (fun lv hlv => ?_)
      have hlv16 : x = 16 → lv = last := fun h => by rw [hlv, if_pos h]
      have hlv17 : ¬ x = 16 → lv = 0 := fun h => by rw [hlv, if_neg h]
      rw [← hlv] at hN
      cbv
      rw [e00]
      cbv
      by_cases hkx : kind = x
      · have ekx : vc .eql kind x = true := by rw [qc, eql_true]; exact hkx
        rw [if_pos hkx, if_pos hkx, ← hn3] at hN
        have hrow : kind < 16 ∨ (3 ≤ row ∧ row ≤ (lens.length : Int)) := hrow
        have hrw : 3 ≤ row ∧ row ≤ (lens.length : Int) := by
          rcases hrow with h9 | h9
          · exact absurd (hkx ▸ h9) hx16
          · exact h9
        have hls3 : (lens.length : Int) ≤ 1024 := by
          have hls : (lens.length : Int) < size := hls
          omega
        refine Exists.elim (exEq (row - 2 : Int)) (fun ra hra => ?_)
        have era : vb .sub .i64 row 2 = ra := by rw [qb, sub_i64 (by omega) (by omega)]; exact hra.symm
        have ew14 : vw .u64 x14 = x14 := by rw [qw]; exact wrap_u64 (by omega) (by omega)
        refine Exists.elim (exEq (ra * 2 ^ kN : Int)) (fun rb hrb => ?_)
        have hrbr : rb = ra * 4 ∨ rb = ra * 8 := by
          rcases hkv with ⟨h, _⟩ | ⟨h, _⟩
          · left; rw [hrb, h]; rfl
          · right; rw [hrb, h]; rfl
        have erb : vb .shl .i64 ra x14 = rb := by
          rw [qb, hrb]
          show IntKind.i64.wrap (ra * 2 ^ (min x14.toNat IntKind.i64.bits)) = _
          rw [show min x14.toNat IntKind.i64.bits = kN by
            have hk3 : kN ≤ 3 := by omega
            rw [show x14.toNat = kN by omega]; exact Nat.min_eq_left (Nat.le_trans hk3 (by decide))]
          rw [← hrb]
          exact wrap_i64 (by omega) (by omega)
        refine Exists.elim (exEq (rb + n3 : Int)) (fun row2 hrow2 => ?_)
        have erow : vb .add .i64 rb n3 = row2 := by rw [qb, add_i64 (by omega) (by omega)]; exact hrow2.symm
        refine Exists.elim (exEq (row2 - row : Int)) (fun m hm4 => ?_)
        rw [← hra, ← hrb, ← hrow2, ← hm4] at hN
        have hx140 : 0 ≤ x14 := by omega
        have hm1 : 1 ≤ m ∧ m ≤ 100000 := by omega
        have hrow3 : 3 ≤ row2 ∧ row2 ≤ 100000 := by omega
        have hrowX : 3 ≤ row2 ∧ row2 ≤ (lens.length : Int) + m := by omega
        refine Exists.elim (exEq (row : Int)) (fun was hwas => ?_)
        have hwm : was + m = row2 := by omega
        have hwas0 : 0 ≤ was ∧ was ≤ 1024 := by omega
        rw [ekx]
        cbv
        rw [ewn, era, ew14, erb, en3, erow]
        refine ⟨⟨hx140⟩, ?_⟩
        rw [← hwas]
        refine Exists.elim (exEq (at_ + row2 : Int)) (fun s2 hs2 => ?_)
        have hatb : 0 ≤ at_ ∧ at_ ≤ 1024 := by
          have hat : at_ = (lens.length : Int) := hat
          have hls : (lens.length : Int) < size := hls
          omega
        have ea1 : vb .add .i64 at_ row2 = s2 := by rw [qb, add_i64 (by omega) (by omega)]; exact hs2.symm
        refine Exists.elim (exEq (at_ + m : Int)) (fun s3 hs3 => ?_)
        have ea2 : vb .sub .i64 s2 was = s3 := by rw [qb, sub_i64 (by omega) (by omega)]; omega
        rw [ea1, ea2]
        by_cases hfit : (lens.length : Int) + m ≤ size
        rotate_left
        · have hS1 : r1 = .error 11 := by rw [hN]; exact n_pan hfit
          have hk := k3 _ hS1
          have egt : vc .gtr s3 size = true := by
            have hat : at_ = (lens.length : Int) := hat
            rw [qc, gtr_true, hs3, hat]; omega
          rw [egt]
          cbv
          exact ⟨[0, 1], .tup [.agg [.val (.slice none 0 0), .val (.slice none 0 0), .lit .i64 0], .lit .i64 11], [.one 41 [.slice 1 .z 1 bl cap, .int .i64 qI4], .ro .u8 b], rfl, rfl, rfl, rfl, ⟨rfl, rfl, trivial⟩, rfl, q4, qI4, hq4, hq48, .inr (.inr ⟨11, hk, by decide, by decide, rfl, rfl⟩)⟩
        have egt : vc .gtr s3 size = false := by
          have hat : at_ = (lens.length : Int) := hat
          rw [qc, gtr_false, hs3, hat]; omega
        have hpu := pw_u lv
        have hpp := pw_p lv
        refine Exists.elim (⟨m.toNat, by omega⟩ : ∃ mN : Nat, (mN : Int) = m) (fun mN hmN => ?_)
        have hmt : m.toNat = mN := by omega
        have hfitN : lens.length + mN ≤ S := by
          have hSs : (S : Int) = size := hSs
          have hmN : (mN : Int) = m := hmN
          omega
        rw [egt]
        cbv
        refine loop_fam (α := Int × Int × Int × List Int) ((List.range' 129 19)) []
          (fun (i, at2, tk2, LL) => [(20, .int .i64 i), (10, .int .i64 at2), (11, .int .i64 tk2)])
          (fun (i, at2, tk2, LL) => [(6, .ints 5 .u8 LL)])
          (fun (i, at2, tk2, LL) => ∃ t : Nat, i = was + t ∧ t ≤ mN ∧ at2 = ((lens.length + t : Nat) : Int) ∧ tk2 = taken + t * PW lv ∧ LL = PZ (lens ++ List.replicate t lv) S)
          (fun (i, at2, tk2, LL) => mN - (i - was).toNat) hw hm ?_ ?_
        · refine Cv.genAt [20] [] (Cv.fold ((List.range' 129 19)) 7 [] (by exact Nat.le_refl _) (by exact Nat.le_of_ble_eq_true rfl) (by rfl) (by cbv) ?_)
          intro js
          refine ⟨(_, _, _, _), ?_, js, rfl⟩
          exact ⟨0, by rw [hwas]; simp, Nat.zero_le _, hat, by simp, by simpa using hLL⟩
        refine fam4 (fun i at2 tk2 LL2 => ?_)
        intro js6 hI0
        refine Exists.elim hI0 (fun t hI0 => ?_)
        have hi := hI0.1
        have ht := hI0.2.1
        have hat2 := hI0.2.2.1
        have htk2 := hI0.2.2.2.1
        have hLL2 := hI0.2.2.2.2
        clear hI0
        have hi : i = was + (t : Int) := hi
        have hmN : (mN : Int) = m := hmN
        have hSs : (S : Int) = size := hSs
        have hat2 : at2 = ((lens.length + t : Nat) : Int) := hat2
        have hta2 : vtoN at2 = lens.length + t := by rw [hat2]; exact hto _
        have hlt1 : (lens ++ List.replicate t lv).length = lens.length + t := by simp
        have hLL2l : LL2.length = S := by rw [hLL2]; exact pz_len (by rw [hlt1]; omega)
        have hvL2 : vln LL2 = S := by rw [hlnq]; exact hLL2l
        have hc1 : t < mN → vc .lss i row2 = true := fun h => by rw [qc, lss_true]; omega
        have hc2 : ¬ t < mN → vc .lss i row2 = false := fun h => by rw [qc, lss_false]; omega
        refine Exists.elim (exEq (was + ((t + 1 : Nat) : Int) : Int)) (fun i1 hi1 => ?_)
        have ei1 : vb .add .i64 i 1 = i1 := by rw [qb, add_i64 (by omega) (by omega)]; omega
        refine Exists.elim (exEq (((lens.length + (t + 1) : Nat) : Int) : Int)) (fun at3 hat3 => ?_)
        have eat3 : vb .add .i64 at2 1 = at3 := by rw [qb, add_i64 (by omega) (by omega)]; omega
        have hmu2 : t < mN → mN - (i1 - was).toNat < mN - (i - was).toNat := fun h => lp_mu hi hi1 h
        have hatR2 : t < mN → 0 ≤ at2 ∧ at2 < ((S : Nat) : Int) := fun h => lp_at hat2 hfitN h
        have hltS : t < mN → (lens ++ List.replicate t lv).length < S := fun h => by rw [hlt1]; exact Nat.lt_of_lt_of_le (Nat.add_lt_add_left h _) hfitN
        have htkr : 0 ≤ tk2 ∧ tk2 ≤ 16809984 := lp_P ⟨hpp, hpu⟩ ht hfitN hSs hs.2 htk2 htk0 htk
        have hatM : ¬ t < mN → at2 = ((lens.length + mN : Nat) : Int) := fun h => by rw [hat2, show t = mN from Nat.le_antisymm ht (Nat.le_of_not_lt h)]
        have hmuM : ¬ t < mN → S - at2.toNat < S - at_.toNat := fun h => lp_muM hat hat2 hmN hm1.1 hfitN ht h
        cbv
        by_cases hlt : t < mN
        · have hmu2 := hmu2 hlt
          have hatR2 := hatR2 hlt
          have hltS := hltS hlt
          have hstep : lens ++ List.replicate t lv ++ [lv] = lens ++ List.replicate (t + 1) lv := by rw [List.append_assoc, ← List.replicate_succ']
          rw [hc1 hlt]
          cbv
          by_cases hx6 : x = 16
          · have e6 : vc .eql x 16 = true := by rw [qc, eql_true]; exact hx6
            have hlvl := hlv16 hx6
            refine Exists.elim (exEq (PZ (lens ++ List.replicate (t + 1) lv) S)) (fun L3 hL3 => ?_)
            have hset : vst LL2 (lens.length + t) last = L3 := by rw [hst, hLL2, hL3, ← hstep, ← hlvl, ← pz_set hltS, hlt1]
            refine Exists.elim (exEq (15 - last : Int)) (fun d hd => ?_)
            have e15 : vb .sub .u8 15 last = d := by rw [qb, hd]; exact wrap_u8 (by omega) (by omega)
            have ewd : vw .u64 d = d := by rw [qw]; exact wrap_u64 (by omega) (by omega)
            have hpd := pw_d last (by omega)
            rw [← hd] at hpd
            refine Exists.elim (exEq (PW last)) (fun w1 hw1 => ?_)
            have hw1r : 0 ≤ w1 ∧ w1 ≤ 16384 := by rw [hw1]; exact ⟨pw_p _, pw_u _⟩
            rw [← hw1] at hpd
            have esh : vb .shl .i64 1 d = w1 := by
              have hd2 : d = 0 ∨ d = 1 ∨ d = 2 ∨ d = 3 ∨ d = 4 ∨ d = 5 ∨ d = 6 ∨ d = 7 ∨ d = 8 ∨ d = 9 ∨ d = 10 ∨ d = 11 ∨ d = 12 ∨ d = 13 ∨ d = 14 := by omega
              rw [qb, hpd]
              rcases hd2 with rfl | rfl | rfl | rfl | rfl | rfl | rfl | rfl | rfl | rfl | rfl | rfl | rfl | rfl | rfl <;> decide
            refine Exists.elim (exEq (tk2 + w1)) (fun tk3 htk3 => ?_)
            have etk : vb .add .i64 tk2 w1 = tk3 := by rw [qb, add_i64 (by omega) (by omega)]; exact htk3.symm
            have htk3e : tk3 = taken + ((t + 1 : Nat) : Int) * PW lv := by
              rw [htk3, hw1, ← hlvl]; exact lp_tk (w1 := 0) (lv := 0) htk2
            have hd0 : 0 ≤ d := by omega
            refine Exists.elim (exEq (lens.length + t)) (fun atN hatN => ?_)
            have hatNS : atN < S := by rw [hatN, ← hlt1]; exact hltS
            rw [← hatN] at hta2 hset
            rw [e6]
            cbv
            rw [hta2, hset, e15, ewd, esh, etk, eat3, ei1]
            refine ⟨⟨hatR2⟩, ⟨by rw [hvL2]; exact hatNS⟩, ⟨hd0⟩, ?_⟩
            refine Cv.fold ((List.range' 129 19)) 7 [] (by exact Nat.le_refl _) (by exact Nat.le_of_ble_eq_true rfl) (by rfl) (by cbv) ?_
            intro js
            refine ⟨(_, _, _, _), ?_, js, rfl⟩
            exact ⟨⟨t + 1, hi1, hlt, hat3, htk3e, hL3⟩, hmu2⟩
          · have e6 : vc .eql x 16 = false := by rw [qc, eql_false]; exact hx6
            have hlvl := hlv17 hx6
            have hLL3 : LL2 = PZ (lens ++ List.replicate (t + 1) lv) S := by rw [hLL2, ← hstep, hlvl]; rw [hlvl] at hltS; exact (pz_zero hltS).symm
            have htk3e : tk2 = taken + ((t + 1 : Nat) : Int) * PW lv := by rw [htk2, hlvl, pw_z, Int.mul_zero, Int.mul_zero]
            rw [e6]
            cbv
            rw [eat3, ei1]
            refine Cv.fold ((List.range' 129 19)) 7 [] (by exact Nat.le_refl _) (by exact Nat.le_of_ble_eq_true rfl) (by rfl) (by cbv) ?_
            intro js
            refine ⟨(_, _, _, _), ?_, js, rfl⟩
            exact ⟨⟨t + 1, hi1, hlt, hat3, htk3e, hLL3⟩, hmu2⟩
        · have htm : t = mN := by omega
          have hatM := hatM hlt
          have hmuM := hmuM hlt
          refine Exists.elim (exEq (lens ++ List.replicate m.toNat lv)) (fun lens2 hlens2 => ?_)
          have hl2e : lens ++ List.replicate t lv = lens2 := by rw [hlens2, hmt, htm]
          have hl2l : lens2.length = lens.length + mN := by rw [hlens2, hmt]; simp
          have hlf : 32768 - taken - m * PW lv = 32768 - tk2 := by rw [htk2, htm, ← Int.sub_sub]; rw [← hmN]
          have hdisj : ((lens2.length : Int) < size ∧ tk2 < 32768 ∧ (∃ k, RF k q4 last row2 x lens2 (32768 - tk2) = r1 ∧ S - lens2.length ≤ k) ∧ 1 ≤ last ∧ last ≤ 15 ∧ (x < 16 ∨ (3 ≤ row2 ∧ row2 ≤ (lens2.length : Int)))) ∨
              (((lens2.length : Int) = size ∨ 32768 ≤ tk2) ∧ r1 = .ok ((lens2, 32768 - tk2), q4)) := by
            have hl2i : (lens2.length : Int) = (lens.length : Int) + m := lp_len hl2l hmN
            rcases n_dj hN hfit hlens2 hlf hl2i with ⟨h1, h2, h3⟩ | ⟨h1, h3⟩
            · exact .inl ⟨h1, h2, ⟨k2, h3, lp_k hkS hl2l hmN hm1.1⟩, hla1, hla2, .inr ⟨hrowX.1, by rw [hl2i]; exact hrowX.2⟩⟩
            · exact .inr ⟨h1, h3⟩
          have hl2S : lens2.length ≤ S := by rw [hl2l]; exact hfitN
          rw [hl2e] at hLL2
          rw [← hl2l] at hatM
          rw [hc2 hlt]
          cbv
          refine Cv.fold (([15, 16, 17, 18, 19, 20] ++ (List.range' 57 30)) ++ ((List.range' 87 30) ++ (List.range' 117 31))) 7 [] (by exact Nat.le_refl _) (by exact Nat.le_of_ble_eq_true rfl) (by rfl) (by cbv) ?_
          intro js
          refine ⟨(_, _, _, _, _, q4, _, _), ?_, js, rfl⟩
          exact ⟨⟨lens2, hatM, hl2S, hLL2, hq4, hq48, htkr.1, htkr.2, hdisj⟩, hmuM⟩
      · have ekx : vc .eql kind x = false := by rw [qc, eql_false]; exact hkx
        rw [if_neg hkx, if_neg hkx, Int.zero_add, Int.sub_zero, ← hn3] at hN
        refine Exists.elim (exEq (n3 : Int)) (fun row2 hrow2 => ?_)
        refine Exists.elim (exEq (n3 : Int)) (fun m hm4 => ?_)
        have erow : vb .add .i64 0 n3 = row2 := by rw [qb, add_i64 (by omega) (by omega)]; omega
        have hNX : r1 = ND size (RF k2) q4 last row2 x lens (32768 - taken) lv m := by rw [hrow2, hm4]; exact hN
        have hN := hNX
        have hm1 : 1 ≤ m ∧ m ≤ 100000 := by omega
        have hrow3 : 3 ≤ row2 ∧ row2 ≤ 100000 := by omega
        have hrowX : 3 ≤ row2 ∧ row2 ≤ (lens.length : Int) + m := by omega
        refine Exists.elim (exEq (0 : Int)) (fun was hwas => ?_)
        have hwm : was + m = row2 := by omega
        have hwas0 : 0 ≤ was ∧ was ≤ 1024 := by omega
        rw [ekx]
        cbv
        rw [ewn, en3, erow]
        refine Exists.elim (exEq (at_ + row2 : Int)) (fun s2 hs2 => ?_)
        have hatb : 0 ≤ at_ ∧ at_ ≤ 1024 := by
          have hat : at_ = (lens.length : Int) := hat
          have hls : (lens.length : Int) < size := hls
          omega
        have ea1 : vb .add .i64 at_ row2 = s2 := by rw [qb, add_i64 (by omega) (by omega)]; exact hs2.symm
        refine Exists.elim (exEq (at_ + m : Int)) (fun s3 hs3 => ?_)
        have ea2 : vb .sub .i64 s2 0 = s3 := by rw [qb, sub_i64 (by omega) (by omega)]; omega
        rw [ea1, ea2]
        by_cases hfit : (lens.length : Int) + m ≤ size
        rotate_left
        · have hS1 : r1 = .error 11 := by rw [hN]; exact n_pan hfit
          have hk := k3 _ hS1
          have egt : vc .gtr s3 size = true := by
            have hat : at_ = (lens.length : Int) := hat
            rw [qc, gtr_true, hs3, hat]; omega
          rw [egt]
          cbv
          exact ⟨[0, 1], .tup [.agg [.val (.slice none 0 0), .val (.slice none 0 0), .lit .i64 0], .lit .i64 11], [.one 41 [.slice 1 .z 1 bl cap, .int .i64 qI4], .ro .u8 b], rfl, rfl, rfl, rfl, ⟨rfl, rfl, trivial⟩, rfl, q4, qI4, hq4, hq48, .inr (.inr ⟨11, hk, by decide, by decide, rfl, rfl⟩)⟩
        have egt : vc .gtr s3 size = false := by
          have hat : at_ = (lens.length : Int) := hat
          rw [qc, gtr_false, hs3, hat]; omega
        have hpu := pw_u lv
        have hpp := pw_p lv
        refine Exists.elim (⟨m.toNat, by omega⟩ : ∃ mN : Nat, (mN : Int) = m) (fun mN hmN => ?_)
        have hmt : m.toNat = mN := by omega
        have hfitN : lens.length + mN ≤ S := by
          have hSs : (S : Int) = size := hSs
          have hmN : (mN : Int) = m := hmN
          omega
        rw [egt]
        cbv
        refine loop_fam (α := Int × Int × Int × List Int) ((List.range' 129 19)) []
          (fun (i, at2, tk2, LL) => [(20, .int .i64 i), (10, .int .i64 at2), (11, .int .i64 tk2)])
          (fun (i, at2, tk2, LL) => [(6, .ints 5 .u8 LL)])
          (fun (i, at2, tk2, LL) => ∃ t : Nat, i = was + t ∧ t ≤ mN ∧ at2 = ((lens.length + t : Nat) : Int) ∧ tk2 = taken + t * PW lv ∧ LL = PZ (lens ++ List.replicate t lv) S)
          (fun (i, at2, tk2, LL) => mN - (i - was).toNat) hw hm ?_ ?_
        · refine Cv.genAt [20] [] (Cv.fold ((List.range' 129 19)) 7 [] (by exact Nat.le_refl _) (by exact Nat.le_of_ble_eq_true rfl) (by rfl) (by cbv) ?_)
          intro js
          refine ⟨(_, _, _, _), ?_, js, rfl⟩
          exact ⟨0, by rw [hwas]; simp, Nat.zero_le _, hat, by simp, by simpa using hLL⟩
        refine fam4 (fun i at2 tk2 LL2 => ?_)
        intro js6 hI0
        refine Exists.elim hI0 (fun t hI0 => ?_)
        have hi := hI0.1
        have ht := hI0.2.1
        have hat2 := hI0.2.2.1
        have htk2 := hI0.2.2.2.1
        have hLL2 := hI0.2.2.2.2
        clear hI0
        have hi : i = was + (t : Int) := hi
        have hmN : (mN : Int) = m := hmN
        have hSs : (S : Int) = size := hSs
        have hat2 : at2 = ((lens.length + t : Nat) : Int) := hat2
        have hta2 : vtoN at2 = lens.length + t := by rw [hat2]; exact hto _
        have hlt1 : (lens ++ List.replicate t lv).length = lens.length + t := by simp
        have hLL2l : LL2.length = S := by rw [hLL2]; exact pz_len (by rw [hlt1]; omega)
        have hvL2 : vln LL2 = S := by rw [hlnq]; exact hLL2l
        have hc1 : t < mN → vc .lss i row2 = true := fun h => by rw [qc, lss_true]; omega
        have hc2 : ¬ t < mN → vc .lss i row2 = false := fun h => by rw [qc, lss_false]; omega
        refine Exists.elim (exEq (was + ((t + 1 : Nat) : Int) : Int)) (fun i1 hi1 => ?_)
        have ei1 : vb .add .i64 i 1 = i1 := by rw [qb, add_i64 (by omega) (by omega)]; omega
        refine Exists.elim (exEq (((lens.length + (t + 1) : Nat) : Int) : Int)) (fun at3 hat3 => ?_)
        have eat3 : vb .add .i64 at2 1 = at3 := by rw [qb, add_i64 (by omega) (by omega)]; omega
        have hmu2 : t < mN → mN - (i1 - was).toNat < mN - (i - was).toNat := fun h => lp_mu hi hi1 h
        have hatR2 : t < mN → 0 ≤ at2 ∧ at2 < ((S : Nat) : Int) := fun h => lp_at hat2 hfitN h
        have hltS : t < mN → (lens ++ List.replicate t lv).length < S := fun h => by rw [hlt1]; exact Nat.lt_of_lt_of_le (Nat.add_lt_add_left h _) hfitN
        have htkr : 0 ≤ tk2 ∧ tk2 ≤ 16809984 := lp_P ⟨hpp, hpu⟩ ht hfitN hSs hs.2 htk2 htk0 htk
        have hatM : ¬ t < mN → at2 = ((lens.length + mN : Nat) : Int) := fun h => by rw [hat2, show t = mN from Nat.le_antisymm ht (Nat.le_of_not_lt h)]
        have hmuM : ¬ t < mN → S - at2.toNat < S - at_.toNat := fun h => lp_muM hat hat2 hmN hm1.1 hfitN ht h
        cbv
        by_cases hlt : t < mN
        · have hmu2 := hmu2 hlt
          have hatR2 := hatR2 hlt
          have hltS := hltS hlt
          have hstep : lens ++ List.replicate t lv ++ [lv] = lens ++ List.replicate (t + 1) lv := by rw [List.append_assoc, ← List.replicate_succ']
          rw [hc1 hlt]
          cbv
          by_cases hx6 : x = 16
          · have e6 : vc .eql x 16 = true := by rw [qc, eql_true]; exact hx6
            have hlvl := hlv16 hx6
            refine Exists.elim (exEq (PZ (lens ++ List.replicate (t + 1) lv) S)) (fun L3 hL3 => ?_)
            have hset : vst LL2 (lens.length + t) last = L3 := by rw [hst, hLL2, hL3, ← hstep, ← hlvl, ← pz_set hltS, hlt1]
            refine Exists.elim (exEq (15 - last : Int)) (fun d hd => ?_)
            have e15 : vb .sub .u8 15 last = d := by rw [qb, hd]; exact wrap_u8 (by omega) (by omega)
            have ewd : vw .u64 d = d := by rw [qw]; exact wrap_u64 (by omega) (by omega)
            have hpd := pw_d last (by omega)
            rw [← hd] at hpd
            refine Exists.elim (exEq (PW last)) (fun w1 hw1 => ?_)
            have hw1r : 0 ≤ w1 ∧ w1 ≤ 16384 := by rw [hw1]; exact ⟨pw_p _, pw_u _⟩
            rw [← hw1] at hpd
            have esh : vb .shl .i64 1 d = w1 := by
              have hd2 : d = 0 ∨ d = 1 ∨ d = 2 ∨ d = 3 ∨ d = 4 ∨ d = 5 ∨ d = 6 ∨ d = 7 ∨ d = 8 ∨ d = 9 ∨ d = 10 ∨ d = 11 ∨ d = 12 ∨ d = 13 ∨ d = 14 := by omega
              rw [qb, hpd]
              rcases hd2 with rfl | rfl | rfl | rfl | rfl | rfl | rfl | rfl | rfl | rfl | rfl | rfl | rfl | rfl | rfl <;> decide
            refine Exists.elim (exEq (tk2 + w1)) (fun tk3 htk3 => ?_)
            have etk : vb .add .i64 tk2 w1 = tk3 := by rw [qb, add_i64 (by omega) (by omega)]; exact htk3.symm
            have htk3e : tk3 = taken + ((t + 1 : Nat) : Int) * PW lv := by
              rw [htk3, hw1, ← hlvl]; exact lp_tk (w1 := 0) (lv := 0) htk2
            have hd0 : 0 ≤ d := by omega
            refine Exists.elim (exEq (lens.length + t)) (fun atN hatN => ?_)
            have hatNS : atN < S := by rw [hatN, ← hlt1]; exact hltS
            rw [← hatN] at hta2 hset
            rw [e6]
            cbv
            rw [hta2, hset, e15, ewd, esh, etk, eat3, ei1]
            refine ⟨⟨hatR2⟩, ⟨by rw [hvL2]; exact hatNS⟩, ⟨hd0⟩, ?_⟩
            refine Cv.fold ((List.range' 129 19)) 7 [] (by exact Nat.le_refl _) (by exact Nat.le_of_ble_eq_true rfl) (by rfl) (by cbv) ?_
            intro js
            refine ⟨(_, _, _, _), ?_, js, rfl⟩
            exact ⟨⟨t + 1, hi1, hlt, hat3, htk3e, hL3⟩, hmu2⟩
          · have e6 : vc .eql x 16 = false := by rw [qc, eql_false]; exact hx6
            have hlvl := hlv17 hx6
            have hLL3 : LL2 = PZ (lens ++ List.replicate (t + 1) lv) S := by rw [hLL2, ← hstep, hlvl]; rw [hlvl] at hltS; exact (pz_zero hltS).symm
            have htk3e : tk2 = taken + ((t + 1 : Nat) : Int) * PW lv := by rw [htk2, hlvl, pw_z, Int.mul_zero, Int.mul_zero]
            rw [e6]
            cbv
            rw [eat3, ei1]
            refine Cv.fold ((List.range' 129 19)) 7 [] (by exact Nat.le_refl _) (by exact Nat.le_of_ble_eq_true rfl) (by rfl) (by cbv) ?_
            intro js
            refine ⟨(_, _, _, _), ?_, js, rfl⟩
            exact ⟨⟨t + 1, hi1, hlt, hat3, htk3e, hLL3⟩, hmu2⟩
        · have htm : t = mN := by omega
          have hatM := hatM hlt
          have hmuM := hmuM hlt
          refine Exists.elim (exEq (lens ++ List.replicate m.toNat lv)) (fun lens2 hlens2 => ?_)
          have hl2e : lens ++ List.replicate t lv = lens2 := by rw [hlens2, hmt, htm]
          have hl2l : lens2.length = lens.length + mN := by rw [hlens2, hmt]; simp
          have hlf : 32768 - taken - m * PW lv = 32768 - tk2 := by rw [htk2, htm, ← Int.sub_sub]; rw [← hmN]
          have hdisj : ((lens2.length : Int) < size ∧ tk2 < 32768 ∧ (∃ k, RF k q4 last row2 x lens2 (32768 - tk2) = r1 ∧ S - lens2.length ≤ k) ∧ 1 ≤ last ∧ last ≤ 15 ∧ (x < 16 ∨ (3 ≤ row2 ∧ row2 ≤ (lens2.length : Int)))) ∨
              (((lens2.length : Int) = size ∨ 32768 ≤ tk2) ∧ r1 = .ok ((lens2, 32768 - tk2), q4)) := by
            have hl2i : (lens2.length : Int) = (lens.length : Int) + m := lp_len hl2l hmN
            rcases n_dj hN hfit hlens2 hlf hl2i with ⟨h1, h2, h3⟩ | ⟨h1, h3⟩
            · exact .inl ⟨h1, h2, ⟨k2, h3, lp_k hkS hl2l hmN hm1.1⟩, hla1, hla2, .inr ⟨hrowX.1, by rw [hl2i]; exact hrowX.2⟩⟩
            · exact .inr ⟨h1, h3⟩
          have hl2S : lens2.length ≤ S := by rw [hl2l]; exact hfitN
          rw [hl2e] at hLL2
          rw [← hl2l] at hatM
          rw [hc2 hlt]
          cbv
          refine Cv.fold (([15, 16, 17, 18, 19, 20] ++ (List.range' 57 30)) ++ ((List.range' 87 30) ++ (List.range' 117 31))) 7 [] (by exact Nat.le_refl _) (by exact Nat.le_of_ble_eq_true rfl) (by rfl) (by cbv) ?_
          intro js
          refine ⟨(_, _, _, _, _, q4, _, _), ?_, js, rfl⟩
          exact ⟨⟨lens2, hatM, hl2S, hLL2, hq4, hq48, htkr.1, htkr.2, hdisj⟩, hmuM⟩
  · have hk := k2 x q e hg hx1 hf
    have ene : vc .neq e 0 = true := by rw [qc, neq_true]; omega
    cbv
    rw [ene]
    cbv
    exact ⟨[0, 1], .tup [.agg [.val (.slice none 0 0), .val (.slice none 0 0), .lit .i64 0], .int .i64 e], [.one 41 [.slice 1 .z 1 bl cap, .int .i64 qI2], .ro .u8 b], rfl, rfl, rfl, rfl, ⟨rfl, rfl, trivial⟩, rfl, q2, qI2, hq2, hq28, .inr (.inr ⟨e, hk, he0, he1, rfl, rfl⟩)⟩
end Go.Proofs.Ytkkddgdcmdnnmaa
namespace Go.Proofs.Ytkkddgdcmdnnmaa
open Go Go.Sx Go.Proofs
set_option maxRecDepth 10000
set_option maxHeartbeats 40000000
def RefMap (b : List Int) (r : Except Int (List Int × Nat)) (B : Int → List SB) : SV → List SB → List Nat → Prop := fun v H R =>
 R = [] ∧ ∃ (q : Nat) (qI : Int), qI = q ∧ q ≤ 8 * b.length ∧ ((∃ L cp cq, r = .ok (L, q) ∧ v = .tup [.slice 2 .z 1 L.length cp, .int .i64 0] ∧ H = B qI ++ [.buf 5 .u8 L cq]) ∨
  ∃ e, r = .error e ∧ 0 < e ∧ e < 100 ∧ v = .tup [.val (.slice none 0 0), .int .i64 e] ∧ H = B qI)
theorem key4 {A B C D : Type} {Goal : Prop} (G Fc : A → B → C → D → Prop) (hm : (∀ a b c d, Fc a b c d → G a b c d) → Goal) (hk : ∀ a b c d, Fc a b c d → G a b c d) : Goal := hm hk
theorem lp_mu6 {n t : Nat} {i i1 : Int} (hi : i = (t : Int)) (hi1 : i1 = ((t + 1 : Nat) : Int)) (h : t < n) : n - i1.toNat < n - i.toNat := by omega
end Go.Proofs.Ytkkddgdcmdnnmaa
