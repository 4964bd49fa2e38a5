import Derived.Test.YtlclleihoampdaaA3
set_option linter.unusedVariables false
set_option linter.unusedSimpArgs false
namespace Go.Proofs.Ytlclleihoampdaa
open Go Go.Sx Go.Proofs
set_option maxRecDepth 10000
set_option maxHeartbeats 40000000
theorem log_con (k n cap : Nat) (A B C : Nat → Int) (hn : n = 2 ^ k) (hk : k ≤ 12) :
  Con Try.prog 30 [.slice 0 .z 3 n cap] [.roA 3 n (fun m => [.int .u8 (A m), .int .u8 (B m), .int .u16 (C m)])] (fun v H R => (∃ ki : Int, ki = k ∧ v = .int .i64 ki) ∧ H = [.roA 3 n (fun m => [.int .u8 (A m), .int .u8 (B m), .int .u16 (C m)])] ∧ R = []) := by
 refine con_gen (con_cut 1 (by simp) (con_drop (con_walk hmix fn30 ?_)))
 intro vb vc vw vtoN vofN vaddN vsubN vmaxI vminI vcutN vgd vst vln vrep vsub vonto vsplice vstrEq vbyteV vnotB veqB hw qb qc qw qtoN qofN qaddN qsubN qmaxI qminI qcutN qgd qst qln qrep qsub qonto qsplice qstrEq qbyteV qnotB qeqB
 have hm := hmix; generalize Try.prog = P at *
 obtain ⟨ni, hni⟩ : ∃ ni : Int, ni = n := ⟨_, rfl⟩
 have ho : vofN n = ni := by simp only [qofN]; exact hni.symm
 have hni2 : ni = 2 ^ k := by rw [hni, hn]; push_cast; rfl
 cbv
 refine loop_fam (α := Int) ((List.range' 4 8)) [] (fun x => [(3, .int .i64 x)]) (fun _ => []) (fun x => ∃ i : Nat, x = i ∧ i ≤ k) (fun x => k - x.toNat) hw hm ?_ ?_
 ·refine Cv.genAt [3] [] (Cv.fold ((List.range' 4 8)) 1 [] (by exact Nat.le_refl _) (by exact Nat.le_of_ble_eq_true rfl) (by rfl) (by cbv) ?_)
  intro js
  refine ⟨0, ?_, js, rfl⟩
  exact ⟨0, rfl, by omega⟩
 ·rintro x js ⟨i, hx, hi⟩
  have h1 : vw .u64 x = x := by rw [qw]; exact wrap_u64 (by omega) (by omega)
  obtain ⟨p, hp⟩ : ∃ p : Int, p = 2 ^ x.toNat := ⟨_, rfl⟩
  have h2 : vb .shl .i64 1 x = p := by rw [qb, hp]; exact one_shl62 (by omega) (by omega)
  have hp2 : p = 2 ^ i := by rw [hp, hx, Int.toNat_natCast]
  obtain ⟨x1, hx1⟩ : ∃ x1 : Int, x1 = ((i + 1 : Nat) : Int) := ⟨_, rfl⟩
  have h3 : vb .add .i64 x 1 = x1 := by rw [qb, hx1, hx]; exact add_i64 (by omega) (by omega)
  have hx0 : 0 ≤ x := by omega
  by_cases h : i < k
  ·have hlt : vc .lss p ni = true := by
    rw [qc, lss_true, hp2, hni2]
    exact_mod_cast Nat.pow_lt_pow_right (by decide) h
   have hmu : k - x1.toNat < k - x.toNat := by omega
   cbv
   rw [h1]
   refine ⟨⟨hx0⟩, ?_⟩
   rw [h2, ho, hlt]
   cbv
   rw [h3]
   refine Cv.fold ((List.range' 4 8)) 1 [] (by exact Nat.le_refl _) (by exact Nat.le_of_ble_eq_true rfl) (by rfl) (by cbv) ?_
   intro js
   refine ⟨x1, ?_, js, rfl⟩
   exact ⟨⟨i + 1, hx1, h⟩, hmu⟩
  ·obtain rfl : i = k := by omega
   have hlt : vc .lss p ni = false := by
    rw [qc, lss_false, hp2, hni2]
    omega
   cbv
   rw [h1]
   refine ⟨⟨hx0⟩, ?_⟩
   rw [h2, ho, hlt]
   cbv
   exact ⟨⟨x, hx, rfl⟩, trivial⟩
theorem anyState_con (N : Nat) (A B C : Nat → Int) (s : Int) (cap : Nat) (hN4 : N ≤ 4096) (hs : 0 ≤ s ∧ s < 256) (hA : ∀ k, k < N → 0 ≤ A k ∧ A k < 256) (hit : ∃ k : Nat, k < N ∧ A k = s) :
  Con Try.prog 27 [.slice 0 .z 3 N cap, .int .i64 s] [.roA 3 N (fun m => [.int .u8 (A m), .int .u8 (B m), .int .u16 (C m)])]
   (fun v H R => R = [] ∧ H = [.roA 3 N (fun m => [.int .u8 (A m), .int .u8 (B m), .int .u16 (C m)])] ∧ ∃ (ki : Int) (k : Nat), v = .tup [.int .i64 ki, .bool true] ∧ ki = k ∧ k < N ∧ A k = s) := by
 refine con_gen (con_cut 1 (by simp) (con_drop (con_walk hmix fn27 ?_)))
 intro vb vc vw vtoN vofN vaddN vsubN vmaxI vminI vcutN vgd vst vln vrep vsub vonto vsplice vstrEq vbyteV vnotB veqB hw qb qc qw qtoN qofN qaddN qsubN qmaxI qminI qcutN qgd qst qln qrep qsub qonto qsplice qstrEq qbyteV qnotB qeqB
 have hm := hmix; generalize Try.prog = P at *
 have hto : ∀ i : Nat, vtoN (i : Int) = i := fun i => by simp only [qtoN, Int.toNat_natCast]
 have hadd0 : ∀ i, vaddN 0 i = i := fun i => by simp only [qaddN, Nat.zero_add]
 obtain ⟨ni, hni⟩ : ∃ ni : Int, ni = N := ⟨_, rfl⟩
 have ho : vofN N = ni := by simp only [qofN]; exact hni.symm
 cbv
 rw [ho]
 have hni : ni = (N : Int) := hni
 refine loop_fam (α := Int) ([6, 7] ++ (List.range' 11 11)) [] (fun k => [(10, .int .i64 k)]) (fun _ => []) (fun k => ∃ i : Nat, k = i ∧ i ≤ N ∧ ∃ j : Nat, i ≤ j ∧ j < N ∧ A j = s) (fun k => N - k.toNat) hw hm ?_ ?_
 ·refine Cv.genAt [10] [] (Cv.fold ([6, 7] ++ (List.range' 11 11)) 1 [] (by exact Nat.le_refl _) (by exact Nat.le_of_ble_eq_true rfl) (by rfl) (by cbv) ?_)
  intro js
  refine ⟨0, ?_, js, rfl⟩
  obtain ⟨j, h⟩ := hit
  exact ⟨0, rfl, by omega, j, by omega, h⟩
 ·rintro k js ⟨i, hk, hi, j, hj, hjN, hj1⟩
  have hlt : i < N := by omega
  have h1 : vc .lss k ni = true := by rw [qc, lss_true]; omega
  have hti : vtoN k = i := by rw [hk]; exact hto i
  have hinR : 0 ≤ k ∧ k < (N : Int) := by omega
  obtain ⟨k1, hk1⟩ : ∃ k1 : Int, k1 = ((i + 1 : Nat) : Int) := ⟨_, rfl⟩
  have ek : vb .add .i64 k 1 = k1 := by rw [qb, add_i64 (by omega) (by omega)]; omega
  have hmu : N - k1.toNat < N - k.toNat := by omega
  obtain ⟨a, ha⟩ : ∃ a : Int, a = A i := ⟨_, rfl⟩
  have hai := hA i hlt
  have hwa : vw .i64 (A i) = a := by rw [qw, ha]; exact wrap_i64 (by omega) (by omega)
  have hadd : vaddN 0 i < N := by rw [hadd0]; exact hlt
  cbv
  rw [h1]
  cbv
  rw [hti]
  refine ⟨⟨hinR⟩, ⟨hadd⟩, ⟨hlt⟩, ⟨hlt⟩, ⟨hlt⟩, fun _ => rfl, ?_⟩
  rw [hwa]
  by_cases h : a = s
  ·rw [show vc .eql a s = true by rw [qc, eql_true]; exact h]
   cbv
   exact ⟨k, i, rfl, hk, hlt, by rw [← ha]; exact h⟩
  ·have hne : i ≠ j := fun e => by subst e; exact h (ha.trans hj1)
   have hinv : ∃ i : Nat, k1 = i ∧ i ≤ N ∧ ∃ j : Nat, i ≤ j ∧ j < N ∧ A j = s := ⟨i + 1, hk1, hlt, j, by omega, hjN, hj1⟩
   rw [show vc .eql a s = false by rw [qc, eql_false]; exact h]
   cbv
   rw [ek]
   refine Cv.fold ([6, 7] ++ (List.range' 11 11)) 1 [] (by exact Nat.le_refl _) (by exact Nat.le_of_ble_eq_true rfl) (by rfl) (by cbv) ?_
   intro js
   exact ⟨k1, ⟨hinv, hmu⟩, js, rfl⟩
theorem ahead_roA (N : Nat) (A B C : Nat → Int) (s next : Int) (cap : Nat) (hN4 : N ≤ 4096) (hbnd : ∀ k, k < N → 0 ≤ B k ∧ B k ≤ 12 ∧ 0 ≤ C k ∧ C k < 4096) (hn : 0 ≤ next ∧ next < 4096)
  (hit : ∃ k : Nat, k < N ∧ A k = s ∧ C k ≤ next ∧ next - C k < 2 ^ (B k).toNat) :
  Con Try.prog 28 [.slice 0 .z 3 N cap, .int .u8 s, .int .i64 next] [.roA 3 N (fun m => [.int .u8 (A m), .int .u8 (B m), .int .u16 (C m)])]
   (fun v H R => R = [] ∧ H = [.roA 3 N (fun m => [.int .u8 (A m), .int .u8 (B m), .int .u16 (C m)])] ∧ ∃ (ki : Int) (k : Nat), v = .tup [.int .i64 ki, .bool true] ∧ ki = k ∧ k < N ∧ A k = s ∧ C k ≤ next ∧ next - C k < 2 ^ (B k).toNat) := by
 refine con_gen (con_cut 1 (by simp) (con_drop (con_walk hmix fn28 ?_)))
 intro vb vc vw vtoN vofN vaddN vsubN vmaxI vminI vcutN vgd vst vln vrep vsub vonto vsplice vstrEq vbyteV vnotB veqB hw qb qc qw qtoN qofN qaddN qsubN qmaxI qminI qcutN qgd qst qln qrep qsub qonto qsplice qstrEq qbyteV qnotB qeqB
 have hm := hmix; generalize Try.prog = P at *
 have hto : ∀ i : Nat, vtoN (i : Int) = i := fun i => by simp only [qtoN, Int.toNat_natCast]
 have hadd0 : ∀ i, vaddN 0 i = i := fun i => by simp only [qaddN, Nat.zero_add]
 cbv
 refine loop_fam (α := Int) ([8, 9] ++ (List.range' 13 34)) [] (fun k => [(12, .int .i64 k)]) (fun _ => []) (fun k => ∃ i : Nat, k = i ∧ i ≤ N ∧ ∃ j : Nat, i ≤ j ∧ j < N ∧ A j = s ∧ C j ≤ next ∧ next - C j < 2 ^ (B j).toNat) (fun k => N - k.toNat) hw hm ?_ ?_
 ·refine Cv.genAt [12] [] (Cv.fold ([8, 9] ++ (List.range' 13 34)) 1 [] (by exact Nat.le_refl _) (by exact Nat.le_of_ble_eq_true rfl) (by rfl) (by cbv) ?_)
  intro js
  refine ⟨_, ?_, js, rfl⟩
  obtain ⟨j, h⟩ := hit
  exact ⟨0, rfl, by omega, j, by omega, h⟩
 ·rintro k js ⟨i, hk, hi, j, hj, hjN, hj1, hj2, hj3⟩
  cbv
  split
  ·rename_i hlt
   have hlt : i < N := by rw [qc, lss_true] at hlt; simp only [qofN] at hlt; simp only [nc] at *; omega
   have hti : vtoN k = i := by rw [hk]; exact hto i
   have hinR : 0 ≤ k ∧ k < (N : Int) := by simp only [nc] at *; omega
   obtain ⟨k1, hk1⟩ : ∃ k1 : Int, k1 = ((i + 1 : Nat) : Int) := ⟨_, rfl⟩
   have ek : vb .add .i64 k 1 = k1 := by simp only [nc] at *; rw [qb, add_i64 (by omega) (by omega)]; omega
   have hmu : N - k1.toNat < N - k.toNat := by simp only [nc] at *; omega
   obtain ⟨q1, q2, q3, q4⟩ := hbnd i hlt
   have hnext : ¬ (A i = s ∧ C i ≤ next ∧ next - C i < 2 ^ (B i).toNat) → ∃ j : Nat, i + 1 ≤ j ∧ j < N ∧ A j = s ∧ C j ≤ next ∧ next - C j < 2 ^ (B j).toNat := by
    intro h
    have : i ≠ j := fun e => by subst e; exact h ⟨hj1, hj2, hj3⟩
    exact ⟨j, by omega, hjN, hj1, hj2, hj3⟩
   have hwC : vw .i64 (C i) = C i := by rw [qw]; exact wrap_i64 (by omega) (by omega)
   have hwB : vw .u64 (B i) = B i := by rw [qw]; exact wrap_u64 (by omega) (by omega)
   have hB61 : vc .gtr (B i) 61 = false := by rw [qc, gtr_false]; omega
   have hsh : vb .shl .i64 1 (B i) = 2 ^ (B i).toNat := by rw [qb, one_shl (by omega) (by omega)]
   have hsub : vb .sub .i64 next (C i) = next - C i := by rw [qb, sub_i64 (by omega) (by omega)]
   have hAs : vc .eql (A i) s = decide (A i = s) := by rw [qc]; rfl
   cbv
   rw [hti]
   refine ⟨⟨hinR⟩, ⟨by rw [hadd0]; omega⟩, ⟨by omega⟩, ⟨by omega⟩, ⟨by omega⟩, fun _ => rfl, ?_⟩
   have hloop : ¬ (A i = s ∧ C i ≤ next ∧ next - C i < 2 ^ (B i).toNat) → (∃ i : Nat, k1 = i ∧ i ≤ N ∧ ∃ j : Nat, i ≤ j ∧ j < N ∧ A j = s ∧ C j ≤ next ∧ next - C j < 2 ^ (B j).toNat) ∧ N - k1.toNat < N - k.toNat := fun h => ⟨⟨i + 1, hk1, hlt, hnext h⟩, hmu⟩
   by_cases hA : A i = s
   ·rw [show vc .eql (A i) s = true by rw [hAs]; simp [hA]]
    cbv
    rw [hwC]
    by_cases hC : C i ≤ next
    ·rw [show vc .leq (C i) next = true by rw [qc, leq_true]; exact hC]
     cbv
     rw [hB61]
     cbv
     rw [hwC, hwB, hsub, hsh]
     by_cases hD : next - C i < 2 ^ (B i).toNat
     ·rw [show vc .lss (next - C i) (2 ^ (B i).toNat) = true by rw [qc, lss_true]; exact hD]
      cbv
      refine ⟨⟨q1⟩, ?_⟩
      exact ⟨k, i, rfl, hk, hlt, hA, hC, hD⟩
     ·rw [show vc .lss (next - C i) (2 ^ (B i).toNat) = false by rw [qc, lss_false]; exact hD]
      cbv
      refine ⟨⟨q1⟩, ?_⟩
      rw [ek]
      refine Cv.fold ([8, 9] ++ (List.range' 13 34)) 1 [] (by exact Nat.le_refl _) (by exact Nat.le_of_ble_eq_true rfl) (by rfl) (by cbv) ?_
      intro js
      exact ⟨_, hloop (fun h => hD h.2.2), js, rfl⟩
    ·rw [show vc .leq (C i) next = false by rw [qc, leq_false]; exact hC]
     cbv
     rw [ek]
     refine Cv.fold ([8, 9] ++ (List.range' 13 34)) 1 [] (by exact Nat.le_refl _) (by exact Nat.le_of_ble_eq_true rfl) (by rfl) (by cbv) ?_
     intro js
     exact ⟨_, hloop (fun h => hC h.2.1), js, rfl⟩
   ·rw [show vc .eql (A i) s = false by rw [hAs]; simp [hA]]
    cbv
    rw [ek]
    refine Cv.fold ([8, 9] ++ (List.range' 13 34)) 1 [] (by exact Nat.le_refl _) (by exact Nat.le_of_ble_eq_true rfl) (by rfl) (by cbv) ?_
    intro js
    exact ⟨_, hloop (fun h => hA h.1), js, rfl⟩
  ·rename_i hge
   exfalso
   rw [qc, lss_false] at hge; simp only [qofN] at hge; simp only [nc] at *; omega
end Go.Proofs.Ytlclleihoampdaa
namespace Go.Proofs.Ytlclleihoampdaa
open Go Go.Sx Go.Proofs
set_option maxRecDepth 10000
def TbOk (most : Int) (T : Tb) : Prop := T.n = 0 ∨ ∃ lg : Nat, T.n = 2 ^ lg ∧ lg ≤ 12 ∧ ∀ k, k < T.n → 0 ≤ T.a k ∧ T.a k ≤ most ∧ 0 ≤ T.b k ∧ T.b k ≤ 12 ∧ 0 ≤ T.c k ∧ T.c k + 2 ^ (T.b k).toNat ≤ T.n
theorem pow_toNat (n : Nat) : ((2 : Int) ^ n).toNat = 2 ^ n := by
 have : (2 : Int) ^ n = ((2 ^ n : Nat) : Int) := by push_cast; rfl
 rw [this, Int.toNat_natCast]
theorem mkT_ok {cs : List Int} {log most : Int} (hR : Right cs log) (hm : (cs.length : Int) ≤ most + 1) : TbOk most (mkT cs log) ∧ (mkT cs log).n ≠ 0 := by
 obtain ⟨size, hs⟩ : ∃ size : Int, (2 : Int) ^ log.toNat = size := ⟨_, rfl⟩
 have hn : (mkT cs log).n = 2 ^ log.toNat := pow_toNat _
 have hN : size = (((mkT cs log).n : Nat) : Int) := by rw [hn, ← hs]; push_cast; rfl
 refine ⟨.inr ⟨log.toNat, hn, by have := hR.1; have := hR.2.1; omega, fun k hk => ?_⟩, by rw [hn]; exact Nat.ne_of_gt (Nat.pow_pos (by decide))⟩
 obtain ⟨bb, b1, b2, b3, b4, b5⟩ := cell_in hR hs hN hk
 have ha := symT_range (l := cs) size (by have := hR.2.2.1; omega) k
 have hlg := hR.2.1
 have e1 : (mkT cs log).a k = symT cs size k := by simp only [mkT, hs]
 have e2 : (mkT cs log).b k = tabB cs log size (mkT cs log).n k := by simp only [mkT, hs]
 have e3 : (mkT cs log).c k = tabC cs log size (mkT cs log).n k := by simp only [mkT, hs]
 rw [e1, e2, e3, b2, Int.toNat_natCast]
 refine ⟨ha.1, by omega, by omega, by omega, b3, ?_⟩
 rw [← hN]
 exact b4
theorem oneT_ok {x most : Int} (h0 : 0 ≤ x) (h1 : x ≤ most) : TbOk most (oneT x) ∧ (oneT x).n ≠ 0 :=
 ⟨.inr ⟨0, rfl, by decide, fun k _ => ⟨h0, h1, Int.le_refl 0, (by show (0 : Int) ≤ 12; decide), Int.le_refl 0, by simp [oneT]⟩⟩, Nat.one_ne_zero⟩
theorem readS_len (b : List Int) (ms : Int) : ∀ (f : Nat) (fl : Bool) (left : Int) (cs : List Int) (pos : Nat) (cs' : List Int) (pos' : Nat), (cs.length : Int) ≤ ms + 1 → (fl = true → (cs.length : Int) ≤ ms) →
  readS b ms f fl left cs pos = (0, cs', pos') → (cs'.length : Int) ≤ ms + 1
 | 0, fl, left, cs, pos, cs', pos', h1, h2, h => by
  simp only [readS, Prod.mk.injEq] at h
  obtain ⟨_, rfl, rfl⟩ := h
  exact h1
 | f + 1, false, left, cs, pos, cs', pos', h1, h2, h => by
  rw [readS] at h
  split at h
  ·simp only [Prod.mk.injEq] at h
   obtain ⟨_, rfl, rfl⟩ := h
   exact h1
  split at h
  ·simp at h
  rename_i hle
  split at h
  ·simp at h
  rename_i v hv
  split at h
  ·simp at h
  rename_i x p2 hx
  have h3 : ((cs ++ [x - 1]).length : Int) ≤ ms + 1 := by rw [List.length_append]; simp; omega
  split at h
  ·exact readS_len b ms f false _ _ _ cs' pos' h3 (fun e => by cases e) h
  ·split at h
   ·simp at h
   ·exact readS_len b ms f true _ _ _ cs' pos' h3 (fun _ => by omega) h
 | f + 1, true, left, cs, pos, cs', pos', h1, h2, h => by
  rw [readS] at h
  split at h
  ·simp at h
  rename_i n hn
  split at h
  ·simp at h
  split at h
  ·exact readS_len b ms f true _ _ _ cs' pos' (by omega) (fun _ => by omega) h
  ·exact readS_len b ms f false _ _ _ cs' pos' (by omega) (fun e => by cases e) h
theorem readR_len {b cs : List Int} {ml ms log used : Int} (h : readR b ml ms = (cs, log, used, 0)) : (cs.length : Int) ≤ ms + 1 := by
 unfold readR at h
 split at h
 ·simp at h
 rename_i hml
 split at h
 ·simp at h
 rename_i x hx
 split at h
 ·simp at h
 split at h
 ·rename_i hne
  simp only [Prod.mk.injEq] at h
  exact absurd h.2.2.2 hne
 rename_i he
 obtain ⟨⟨e, c1, p1⟩, hS⟩ : ∃ r, readS b ms 600 false (2 ^ (x + 5).toNat) [] 4 = r := ⟨_, rfl⟩
 rw [hS] at h he
 simp only [Prod.mk.injEq] at h
 obtain ⟨rfl, _⟩ := h
 simp only [ne_eq, Decidable.not_not] at he
 subst he
 exact readS_len b ms 600 false _ [] 4 _ _ (by simp; omega) (fun e => by cases e) hS
theorem tabK_ok {lg most ah way used : Int} {cnt b : List Int} {T T' : Tb} (hT : TbOk most T) (hc : Right cnt ah) (hcl : (cnt.length : Int) ≤ most + 1) (hby : ∀ x ∈ b, isByte x) (h : tabK lg most ah cnt way b T = (0, used, T')) :
  TbOk most T' ∧ T'.n ≠ 0 ∧ 0 ≤ used ∧ used ≤ b.length := by
 unfold tabK at h
 split at h
 ·simp only [Prod.mk.injEq] at h
  obtain ⟨_, rfl, rfl⟩ := h
  exact ⟨(mkT_ok hc hcl).1, (mkT_ok hc hcl).2, by omega, by omega⟩
 split at h
 ·split at h
  ·simp at h
  split at h
  ·simp at h
  rename_i hb0 hm
  have hx : isByte (b.getD 0 0) := by
   rw [List.getD_eq_getElem?_getD, List.getElem?_eq_getElem (by omega)]
   exact hby _ (List.getElem_mem _)
  simp only [Prod.mk.injEq] at h
  obtain ⟨_, rfl, rfl⟩ := h
  have := oneT_ok (x := b.getD 0 0) (most := most) hx.1 (by omega)
  exact ⟨this.1, this.2, by omega, by omega⟩
 split at h
 ·split at h
  ·simp at h
  split at h
  ·simp at h
  rename_i h10 hR
  obtain ⟨⟨cs, log, us, er⟩, hRR⟩ : ∃ r, readR b lg most = r := ⟨_, rfl⟩
  rw [hRR] at h h10 hR
  simp only [not_or, Decidable.not_not, ne_eq] at hR
  obtain ⟨rfl, hR⟩ := hR
  simp only [Prod.mk.injEq] at h
  obtain ⟨_, rfl, rfl⟩ := h
  obtain ⟨_, h1, h2, _, _⟩ := readR_ok hRR
  have := mkT_ok hR (readR_len hRR)
  exact ⟨this.1, this.2, h1, h2⟩
 split at h
 ·simp at h
 ·rename_i hn
  simp only [Prod.mk.injEq] at h
  obtain ⟨_, rfl, rfl⟩ := h
  exact ⟨hT, hn, by omega, by omega⟩
def ofL (c : Int) : Int × Int := ofK 16 0 begL bitsL c
def ofM (c : Int) : Int × Int := ofK 32 3 begM bitsM c
def ofB (c : Int) : Int × Int := (2 ^ c.toNat, c)
theorem ofL_range {c : Int} (h : 0 ≤ c ∧ c ≤ 35) : 0 ≤ (ofL c).1 ∧ (ofL c).1 ≤ 65536 ∧ 0 ≤ (ofL c).2 ∧ (ofL c).2 ≤ 16 := by
 have key : ∀ n : Fin 36, 0 ≤ (ofL ((n.val : Nat) : Int)).1 ∧ (ofL ((n.val : Nat) : Int)).1 ≤ 65536 ∧ 0 ≤ (ofL ((n.val : Nat) : Int)).2 ∧ (ofL ((n.val : Nat) : Int)).2 ≤ 16 := by decide
 have := key ⟨c.toNat, by omega⟩
 rwa [show ((c.toNat : Nat) : Int) = c by omega] at this
theorem ofM_range {c : Int} (h : 0 ≤ c ∧ c ≤ 52) : 0 ≤ (ofM c).1 ∧ (ofM c).1 ≤ 65539 ∧ 0 ≤ (ofM c).2 ∧ (ofM c).2 ≤ 16 := by
 have key : ∀ n : Fin 53, 0 ≤ (ofM ((n.val : Nat) : Int)).1 ∧ (ofM ((n.val : Nat) : Int)).1 ≤ 65539 ∧ 0 ≤ (ofM ((n.val : Nat) : Int)).2 ∧ (ofM ((n.val : Nat) : Int)).2 ≤ 16 := by decide
 have := key ⟨c.toNat, by omega⟩
 rwa [show ((c.toNat : Nat) : Int) = c by omega] at this
theorem ofB_range {c : Int} (h : 0 ≤ c ∧ c ≤ 31) : 0 ≤ (ofB c).1 ∧ (ofB c).1 ≤ 2147483648 ∧ 0 ≤ (ofB c).2 ∧ (ofB c).2 ≤ 31 := by
 have key : ∀ n : Fin 32, 0 ≤ (ofB ((n.val : Nat) : Int)).1 ∧ (ofB ((n.val : Nat) : Int)).1 ≤ 2147483648 ∧ 0 ≤ (ofB ((n.val : Nat) : Int)).2 ∧ (ofB ((n.val : Nat) : Int)).2 ≤ 31 := by decide
 have := key ⟨c.toNat, by omega⟩
 rwa [show ((c.toNat : Nat) : Int) = c by omega] at this
def rowsR (q : List Int) (TL TB TM : Tb) : Nat → Int → Int → Int → Int → List (Int × Int × Int) → List (Int × Int × Int) × Int
 | 0, _, _, _, p, ls => (ls, p)
 | n + 1, s0, s1, s2, p, ls =>
  if n = 0 then (ls ++ [((ofL (TL.a s0.toNat)).1 + rd q (p - (ofB (TB.a s1.toNat)).2 - (ofM (TM.a s2.toNat)).2) (ofL (TL.a s0.toNat)).2.toNat, (ofM (TM.a s2.toNat)).1 + rd q (p - (ofB (TB.a s1.toNat)).2) (ofM (TM.a s2.toNat)).2.toNat,
    (ofB (TB.a s1.toNat)).1 + rd q p (ofB (TB.a s1.toNat)).2.toNat)], p - (ofB (TB.a s1.toNat)).2 - (ofM (TM.a s2.toNat)).2 - (ofL (TL.a s0.toNat)).2)
  else rowsR q TL TB TM n
   (TL.c s0.toNat + rd q (p - (ofB (TB.a s1.toNat)).2 - (ofM (TM.a s2.toNat)).2 - (ofL (TL.a s0.toNat)).2) (TL.b s0.toNat).toNat)
   (TB.c s1.toNat + rd q (p - (ofB (TB.a s1.toNat)).2 - (ofM (TM.a s2.toNat)).2 - (ofL (TL.a s0.toNat)).2 - TL.b s0.toNat - TM.b s2.toNat) (TB.b s1.toNat).toNat)
   (TM.c s2.toNat + rd q (p - (ofB (TB.a s1.toNat)).2 - (ofM (TM.a s2.toNat)).2 - (ofL (TL.a s0.toNat)).2 - TL.b s0.toNat) (TM.b s2.toNat).toNat)
   (p - (ofB (TB.a s1.toNat)).2 - (ofM (TM.a s2.toNat)).2 - (ofL (TL.a s0.toNat)).2 - TL.b s0.toNat - TM.b s2.toNat - TB.b s1.toNat)
   (ls ++ [((ofL (TL.a s0.toNat)).1 + rd q (p - (ofB (TB.a s1.toNat)).2 - (ofM (TM.a s2.toNat)).2) (ofL (TL.a s0.toNat)).2.toNat, (ofM (TM.a s2.toNat)).1 + rd q (p - (ofB (TB.a s1.toNat)).2) (ofM (TM.a s2.toNat)).2.toNat,
    (ofB (TB.a s1.toNat)).1 + rd q p (ofB (TB.a s1.toNat)).2.toNat)])
def hdS (b : List Int) : Int × Int × Nat :=
 if b.length = 0 then (10, 0, 0)
 else if b.getD 0 0 = 255 then (if b.length < 3 then (10, 0, 0) else (0, b.getD 1 0 + b.getD 2 0 * 256 + 32512, 3))
 else if 128 ≤ b.getD 0 0 then (if b.length < 2 then (10, 0, 0) else (0, (b.getD 0 0 - 128) * 256 + b.getD 1 0, 2))
 else (0, b.getD 0 0, 1)
def seqT (q : List Int) (n : Nat) (TL TB TM : Tb) : Int × List (Int × Int × Int) × Tb × Tb × Tb :=
 if q.getLastD 0 = 0 then (11, [], TL, TB, TM)
 else if (rowsR q TL TB TM n (rd q (markAt q) (Nat.log2 TL.n)) (rd q (markAt q - Nat.log2 TL.n) (Nat.log2 TB.n)) (rd q (markAt q - Nat.log2 TL.n - Nat.log2 TB.n) (Nat.log2 TM.n)) (markAt q - Nat.log2 TL.n - Nat.log2 TB.n - Nat.log2 TM.n) []).2 ≠ 0 then (11, [], TL, TB, TM)
 else (0, (rowsR q TL TB TM n (rd q (markAt q) (Nat.log2 TL.n)) (rd q (markAt q - Nat.log2 TL.n) (Nat.log2 TB.n)) (rd q (markAt q - Nat.log2 TL.n - Nat.log2 TB.n) (Nat.log2 TM.n)) (markAt q - Nat.log2 TL.n - Nat.log2 TB.n - Nat.log2 TM.n) []).1, TL, TB, TM)
def seqR (b : List Int) (TL TB TM : Tb) : Int × List (Int × Int × Int) × Tb × Tb × Tb :=
 if 131072 < b.length then (3, [], TL, TB, TM)
 else match hdS b with
  | (e, n, at') => if e ≠ 0 then (e, [], TL, TB, TM)
   else if n = 0 then (if at' < b.length then (11, [], TL, TB, TM) else (0, [], TL, TB, TM))
   else if b.length = at' then (10, [], TL, TB, TM)
   else if b.getD at' 0 % 4 ≠ 0 then (11, [], TL, TB, TM)
   else match tabK 9 35 6 cntL (b.getD at' 0 / 64 % 4) (b.drop (at' + 1)) TL with
    | (e0, u0, TL') => if e0 ≠ 0 then (e0, [], TL, TB, TM)
     else match tabK 8 31 5 cntB (b.getD at' 0 / 16 % 4) (b.drop (at' + 1 + u0.toNat)) TB with
      | (e1, u1, TB') => if e1 ≠ 0 then (e1, [], TL, TB, TM)
       else match tabK 9 52 6 cntM (b.getD at' 0 / 4 % 4) (b.drop (at' + 1 + u0.toNat + u1.toNat)) TM with
        | (e2, u2, TM') => if e2 ≠ 0 then (e2, [], TL, TB, TM) else seqT (b.drop (at' + 1 + u0.toNat + u1.toNat + u2.toNat)) n.toNat TL' TB' TM'
end Go.Proofs.Ytlclleihoampdaa
namespace Go.Proofs.Ytlclleihoampdaa
open Go Go.Sx Go.Proofs
section
variable {b : List Int} {TL TB TM T0 T1 T2 : Tb} {e n e0 e1 e2 u0 u1 u2 : Int} {a : Nat}
theorem seqR_long (hl : 131072 < b.length) : (seqR b TL TB TM).1 = 3 := by unfold seqR; rw [if_pos hl]
theorem seqR_hd (hl : b.length ≤ 131072) (h : hdS b = (e, n, a)) (he : e ≠ 0) : (seqR b TL TB TM).1 = e := by
 unfold seqR; rw [if_neg (by omega), h]; simp only; rw [if_pos he]
theorem seqR_0 (hl : b.length ≤ 131072) (h : hdS b = (0, 0, a)) : seqR b TL TB TM = if a < b.length then (11, [], TL, TB, TM) else (0, [], TL, TB, TM) := by
 unfold seqR; rw [if_neg (by omega), h]; simp only; rw [if_neg (by decide), if_pos trivial]
theorem seqR_at (hl : b.length ≤ 131072) (h : hdS b = (0, n, a)) (hn : n ≠ 0) (ha : b.length = a) : (seqR b TL TB TM).1 = 10 := by
 unfold seqR; rw [if_neg (by omega), h]; simp only; rw [if_neg (by decide), if_neg hn, if_pos ha]
theorem seqR_ways (hl : b.length ≤ 131072) (h : hdS b = (0, n, a)) (hn : n ≠ 0) (ha : ¬ b.length = a) (hw : b.getD a 0 % 4 ≠ 0) : (seqR b TL TB TM).1 = 11 := by
 unfold seqR; rw [if_neg (by omega), h]; simp only; rw [if_neg (by decide), if_neg hn, if_neg ha, if_pos hw]
theorem seqR_t0 (hl : b.length ≤ 131072) (h : hdS b = (0, n, a)) (hn : n ≠ 0) (ha : ¬ b.length = a) (hw : b.getD a 0 % 4 = 0) (h0 : tabK 9 35 6 cntL (b.getD a 0 / 64 % 4) (b.drop (a + 1)) TL = (e0, u0, T0)) (he : e0 ≠ 0) : (seqR b TL TB TM).1 = e0 := by
 unfold seqR; rw [if_neg (by omega), h]; simp only; rw [if_neg (by decide), if_neg hn, if_neg ha, if_neg (by omega), h0]; simp only; rw [if_pos he]
theorem seqR_t1 (hl : b.length ≤ 131072) (h : hdS b = (0, n, a)) (hn : n ≠ 0) (ha : ¬ b.length = a) (hw : b.getD a 0 % 4 = 0) (h0 : tabK 9 35 6 cntL (b.getD a 0 / 64 % 4) (b.drop (a + 1)) TL = (0, u0, T0))
  (h1 : tabK 8 31 5 cntB (b.getD a 0 / 16 % 4) (b.drop (a + 1 + u0.toNat)) TB = (e1, u1, T1)) (he : e1 ≠ 0) : (seqR b TL TB TM).1 = e1 := by
 unfold seqR; rw [if_neg (by omega), h]; simp only; rw [if_neg (by decide), if_neg hn, if_neg ha, if_neg (by omega), h0]; simp only; rw [if_neg (by decide), h1]; simp only; rw [if_pos he]
theorem seqR_t2 (hl : b.length ≤ 131072) (h : hdS b = (0, n, a)) (hn : n ≠ 0) (ha : ¬ b.length = a) (hw : b.getD a 0 % 4 = 0) (h0 : tabK 9 35 6 cntL (b.getD a 0 / 64 % 4) (b.drop (a + 1)) TL = (0, u0, T0))
  (h1 : tabK 8 31 5 cntB (b.getD a 0 / 16 % 4) (b.drop (a + 1 + u0.toNat)) TB = (0, u1, T1)) (h2 : tabK 9 52 6 cntM (b.getD a 0 / 4 % 4) (b.drop (a + 1 + u0.toNat + u1.toNat)) TM = (e2, u2, T2)) (he : e2 ≠ 0) : (seqR b TL TB TM).1 = e2 := by
 unfold seqR; rw [if_neg (by omega), h]; simp only; rw [if_neg (by decide), if_neg hn, if_neg ha, if_neg (by omega), h0]; simp only; rw [if_neg (by decide), h1]; simp only; rw [if_neg (by decide), h2]; simp only; rw [if_pos he]
theorem seqR_t (hl : b.length ≤ 131072) (h : hdS b = (0, n, a)) (hn : n ≠ 0) (ha : ¬ b.length = a) (hw : b.getD a 0 % 4 = 0) (h0 : tabK 9 35 6 cntL (b.getD a 0 / 64 % 4) (b.drop (a + 1)) TL = (0, u0, T0))
  (h1 : tabK 8 31 5 cntB (b.getD a 0 / 16 % 4) (b.drop (a + 1 + u0.toNat)) TB = (0, u1, T1)) (h2 : tabK 9 52 6 cntM (b.getD a 0 / 4 % 4) (b.drop (a + 1 + u0.toNat + u1.toNat)) TM = (0, u2, T2)) :
  seqR b TL TB TM = seqT (b.drop (a + 1 + u0.toNat + u1.toNat + u2.toNat)) n.toNat T0 T1 T2 := by
 unfold seqR; rw [if_neg (by omega), h]; simp only; rw [if_neg (by decide), if_neg hn, if_neg ha, if_neg (by omega), h0]; simp only; rw [if_neg (by decide), h1]; simp only; rw [if_neg (by decide), h2]; simp only; rw [if_neg (by decide)]
end
theorem hdS_0 {b : List Int} (h : b.length = 0) : hdS b = (10, 0, 0) := by unfold hdS; rw [if_pos h]
theorem hdS_3a {b : List Int} (h : b.length ≠ 0) (hx : b.getD 0 0 = 255) (h3 : b.length < 3) : hdS b = (10, 0, 0) := by unfold hdS; rw [if_neg h, if_pos hx, if_pos h3]
theorem hdS_3 {b : List Int} (hx : b.getD 0 0 = 255) (h3 : ¬ b.length < 3) : hdS b = (0, b.getD 1 0 + b.getD 2 0 * 256 + 32512, 3) := by unfold hdS; rw [if_neg (by omega), if_pos hx, if_neg h3]
theorem hdS_2a {b : List Int} (h : b.length ≠ 0) (hx : ¬ b.getD 0 0 = 255) (hx2 : 128 ≤ b.getD 0 0) (h3 : b.length < 2) : hdS b = (10, 0, 0) := by unfold hdS; rw [if_neg h, if_neg hx, if_pos hx2, if_pos h3]
theorem hdS_2 {b : List Int} (hx : ¬ b.getD 0 0 = 255) (hx2 : 128 ≤ b.getD 0 0) (h3 : ¬ b.length < 2) : hdS b = (0, (b.getD 0 0 - 128) * 256 + b.getD 1 0, 2) := by unfold hdS; rw [if_neg (by omega), if_neg hx, if_pos hx2, if_neg h3]
theorem hdS_1 {b : List Int} (h : b.length ≠ 0) (hx : ¬ b.getD 0 0 = 255) (hx2 : ¬ 128 ≤ b.getD 0 0) : hdS b = (0, b.getD 0 0, 1) := by unfold hdS; rw [if_neg h, if_neg hx, if_neg hx2]
theorem wrap64 {x : Int} (h : 0 ≤ x ∧ x ≤ 1000000000000) : IntKind.i64.wrap x = x := wrap_i64 (by omega) (by omega)
theorem add64 {x y : Int} (h : 0 ≤ x ∧ x ≤ 1000000000000) (h2 : 0 ≤ y ∧ y ≤ 1000000000000) : bV .add .i64 x y = x + y := add_i64 (by omega) (by omega)
structure StOk (N : Nat) (A B C : Nat → Int) (most t : Int) (k : Nat) (a bb c : Int) : Prop where
 tk : t = k
 lt : k < N
 ir : 0 ≤ t ∧ t < (N : Int)
 ar : 0 ≤ a ∧ a ≤ most
 aw : 0 ≤ a ∧ a ≤ 1000000000000
 br : 0 ≤ bb ∧ bb ≤ 12
 bw : 0 ≤ bb ∧ bb ≤ 1000000000000
 cw : 0 ≤ c ∧ c ≤ 1000000000000
 cr : 0 ≤ c ∧ c ≤ 4096
 sum : c + 2 ^ bb.toNat ≤ N
 ea : A k = a
 eb : B k = bb
 ec : C k = c
theorem stOk {N : Nat} {A B C : Nat → Int} {most t : Int} (hcell : ∀ k, k < N → 0 ≤ A k ∧ A k ≤ most ∧ 0 ≤ B k ∧ B k ≤ 12 ∧ 0 ≤ C k ∧ C k + 2 ^ (B k).toNat ≤ N) (hN : N ≤ 4096) (hmost : most ≤ 255) (ht : 0 ≤ t ∧ t < N) :
  StOk N A B C most t t.toNat (A t.toNat) (B t.toNat) (C t.toNat) := by
 have hkN : t.toNat < N := by omega
 obtain ⟨h1, h2, h3, h4, h5, h6⟩ := hcell t.toNat hkN
 have hp : (0 : Int) < 2 ^ (B t.toNat).toNat := Int.pow_pos (by decide)
 exact ⟨by omega, hkN, ht, ⟨h1, h2⟩, by omega, ⟨h3, h4⟩, by omega, by omega, by omega, h6, rfl, rfl, rfl⟩
structure VlOk (q : List Int) (p f n x v p2 : Int) : Prop where
 nk : n = (n.toNat : Int)
 k40 : n.toNat ≤ 40
 xr : x = rd q p n.toNat
 xw : 0 ≤ x ∧ x ≤ 1000000000000
 fw : 0 ≤ f ∧ f ≤ 1000000000000
 p2 : p2 = p - n
 v : v = f + x
 pr : -1000000000 ≤ p
 pr2 : p ≤ 8 * (q.length : Int)
theorem vlOk {q : List Int} {p f n : Int} (hf : 0 ≤ f ∧ f ≤ 2147483648) (hn : 0 ≤ n ∧ n ≤ 31) (h1 : -1000000000 ≤ p) (h2 : p ≤ 8 * (q.length : Int)) : VlOk q p f n (rd q p n.toNat) (f + rd q p n.toNat) (p - n) := by
 have h3 := rd_bound q p n.toNat
 have h4 : (2 : Int) ^ n.toNat ≤ 2 ^ 31 := by exact_mod_cast Nat.pow_le_pow_right (by decide) (by omega : n.toNat ≤ 31)
 have h5 : (2 : Int) ^ 31 = 2147483648 := by decide
 exact ⟨by omega, by omega, rfl, by omega, by omega, rfl, rfl, h1, h2⟩
theorem rowsR_step {q : List Int} {TL TB TM : Tb} {m : Nat} {s0 s1 s2 p aL aM aB fL nL fM nM fB nB xL xM xB vL vM vB pa pb pc y0 y1 y2 u0 u1 u2 pd pe pf : Int} {ls ls1 LS : List (Int × Int × Int)} {Q : Int} (hm : 1 ≤ m)
  (haL : aL = TL.a s0.toNat) (haM : aM = TM.a s2.toNat) (haB : aB = TB.a s1.toNat) (hfL : fL = (ofL aL).1) (hnL : nL = (ofL aL).2) (hfM : fM = (ofM aM).1) (hnM : nM = (ofM aM).2) (hfB : fB = (ofB aB).1) (hnB : nB = (ofB aB).2)
  (hpa : pa = p - nB) (hpb : pb = pa - nM) (hpc : pc = pb - nL) (hxB : xB = rd q p nB.toNat) (hxM : xM = rd q pa nM.toNat) (hxL : xL = rd q pb nL.toNat) (hvL : vL = fL + xL) (hvM : vM = fM + xM) (hvB : vB = fB + xB) (hls : ls1 = ls ++ [(vL, vM, vB)])
  (hy0 : y0 = rd q pc (TL.b s0.toNat).toNat) (hu0 : u0 = TL.c s0.toNat + y0) (hpd : pd = pc - TL.b s0.toNat) (hy2 : y2 = rd q pd (TM.b s2.toNat).toNat) (hu2 : u2 = TM.c s2.toNat + y2) (hpe : pe = pd - TM.b s2.toNat)
  (hy1 : y1 = rd q pe (TB.b s1.toNat).toNat) (hu1 : u1 = TB.c s1.toNat + y1) (hpf : pf = pe - TB.b s1.toNat) (h : rowsR q TL TB TM m s0 s1 s2 p ls = (LS, Q)) :
  if m = 1 then LS = ls1 ∧ Q = pc else rowsR q TL TB TM (m - 1) u0 u1 u2 pf ls1 = (LS, Q) := by
 obtain ⟨k, rfl⟩ : ∃ k, m = k + 1 := ⟨m - 1, by omega⟩
 rw [rowsR] at h
 subst hpf hu1 hy1 hpe hu2 hy2 hpd hu0 hy0 hls hvB hvM hvL hxL hxM hxB hpc hpb hpa hnB hfB hnM hfM hnL hfL haB haM haL
 by_cases hk : k = 0
 ·subst hk
  rw [if_pos rfl] at h
  rw [if_pos rfl]
  simp only [Prod.mk.injEq] at h
  exact ⟨h.1.symm, h.2.symm⟩
 ·rw [if_neg hk] at h
  rw [if_neg (by omega)]
  exact h
theorem round_names {G : Prop} {q : List Int} {N0 N1 N2 m : Nat} {A0 B0 C0 A1 B1 C1 A2 B2 C2 : Nat → Int} {nI t0 t1 t2 p Q : Int} {ls LS : List (Int × Int × Int)}
  (hcell0 : ∀ k, k < N0 → 0 ≤ A0 k ∧ A0 k ≤ 35 ∧ 0 ≤ B0 k ∧ B0 k ≤ 12 ∧ 0 ≤ C0 k ∧ C0 k + 2 ^ (B0 k).toNat ≤ N0) (hcell1 : ∀ k, k < N1 → 0 ≤ A1 k ∧ A1 k ≤ 31 ∧ 0 ≤ B1 k ∧ B1 k ≤ 12 ∧ 0 ≤ C1 k ∧ C1 k + 2 ^ (B1 k).toNat ≤ N1)
  (hcell2 : ∀ k, k < N2 → 0 ≤ A2 k ∧ A2 k ≤ 52 ∧ 0 ≤ B2 k ∧ B2 k ≤ 12 ∧ 0 ≤ C2 k ∧ C2 k + 2 ^ (B2 k).toNat ≤ N2) (hN0 : N0 ≤ 4096) (hN1 : N1 ≤ 4096) (hN2 : N2 ≤ 4096)
  (hnI : nI = m) (hm : 1 ≤ m) (hR : rowsR q ⟨N0, A0, B0, C0⟩ ⟨N1, A1, B1, C1⟩ ⟨N2, A2, B2, C2⟩ m t0 t1 t2 p ls = (LS, Q)) (hlm : ls.length + m ≤ 100000) (ht0 : 0 ≤ t0 ∧ t0 < N0) (ht1 : 0 ≤ t1 ∧ t1 < N1) (ht2 : 0 ≤ t2 ∧ t2 < N2)
  (hp1 : -1000 * (100001 - (m : Int)) ≤ p) (hp2 : p ≤ 8 * (q.length : Int))
  (h : ∀ (kL kM kB : Nat) (aL aM aB xbL xbM xbB xcL xcM xcB fL nL fM nM fB nB xL xM xB vL vM vB pa pb pc y0 y1 y2 u0 u1 u2 pd pe pf n1 : Int) (ls1 : List (Int × Int × Int)) (f1 g1 h1 : Nat → Int),
   StOk N0 A0 B0 C0 35 t0 kL aL xbL xcL → StOk N1 A1 B1 C1 31 t1 kB aB xbB xcB → StOk N2 A2 B2 C2 52 t2 kM aM xbM xcM → (fL, nL) = ofL aL → (fM, nM) = ofM aM → (fB, nB) = ofB aB →
   VlOk q p fB nB xB vB pa → VlOk q pa fM nM xM vM pb → VlOk q pb fL nL xL vL pc → VlOk q pc xcL xbL y0 u0 pd → VlOk q pd xcM xbM y2 u2 pe → VlOk q pe xcB xbB y1 u1 pf → n1 = nI - 1 →
   f1 = updI (fun i => (ls.getD i (0, 0, 0)).1) ls.length vL → g1 = updI (fun i => (ls.getD i (0, 0, 0)).2.1) ls.length vM → h1 = updI (fun i => (ls.getD i (0, 0, 0)).2.2) ls.length vB →
   (f1 = (fun i => (ls1.getD i (0, 0, 0)).1) ∧ g1 = (fun i => (ls1.getD i (0, 0, 0)).2.1) ∧ h1 = (fun i => (ls1.getD i (0, 0, 0)).2.2) ∧ ls.length + 1 = ls1.length) →
   (m = 1 → n1 = 0 ∧ LS = ls1 ∧ Q = pc) →
   (m ≠ 1 → n1 ≠ 0 ∧ n1.toNat < nI.toNat ∧ n1 = ((m - 1 : Nat) : Int) ∧ 1 ≤ m - 1 ∧ rowsR q ⟨N0, A0, B0, C0⟩ ⟨N1, A1, B1, C1⟩ ⟨N2, A2, B2, C2⟩ (m - 1) u0 u1 u2 pf ls1 = (LS, Q) ∧ ls1.length + (m - 1) ≤ 100000 ∧
    (0 ≤ u0 ∧ u0 < N0) ∧ (0 ≤ u1 ∧ u1 < N1) ∧ (0 ≤ u2 ∧ u2 < N2) ∧ -1000 * (100001 - ((m - 1 : Nat) : Int)) ≤ pf ∧ pf ≤ 8 * (q.length : Int)) → G) : G := by
 have S0 := stOk hcell0 hN0 (by decide) ht0
 have S1 := stOk hcell1 hN1 (by decide) ht1
 have S2 := stOk hcell2 hN2 (by decide) ht2
 have rL := ofL_range S0.ar
 have rM := ofM_range S2.ar
 have rB := ofB_range S1.ar
 have b0 := S0.br
 have b1 := S1.br
 have b2 := S2.br
 have c0 := S0.sum
 have c1 := S1.sum
 have c2 := S2.sum
 have cw0 := S0.cr
 have cw1 := S1.cr
 have cw2 := S2.cr
 have VB := vlOk (q := q) (p := p) (f := (ofB (A1 t1.toNat)).1) (n := (ofB (A1 t1.toNat)).2) (by omega) (by omega) (by omega) (by omega)
 have VM := vlOk (q := q) (p := p - (ofB (A1 t1.toNat)).2) (f := (ofM (A2 t2.toNat)).1) (n := (ofM (A2 t2.toNat)).2) (by omega) (by omega) (by omega) (by omega)
 have VL := vlOk (q := q) (p := p - (ofB (A1 t1.toNat)).2 - (ofM (A2 t2.toNat)).2) (f := (ofL (A0 t0.toNat)).1) (n := (ofL (A0 t0.toNat)).2) (by omega) (by omega) (by omega) (by omega)
 have Y0 := vlOk (q := q) (p := p - (ofB (A1 t1.toNat)).2 - (ofM (A2 t2.toNat)).2 - (ofL (A0 t0.toNat)).2) (f := C0 t0.toNat) (n := B0 t0.toNat) (by omega) (by omega) (by omega) (by omega)
 have Y2 := vlOk (q := q) (p := p - (ofB (A1 t1.toNat)).2 - (ofM (A2 t2.toNat)).2 - (ofL (A0 t0.toNat)).2 - B0 t0.toNat) (f := C2 t2.toNat) (n := B2 t2.toNat) (by omega) (by omega) (by omega) (by omega)
 have Y1 := vlOk (q := q) (p := p - (ofB (A1 t1.toNat)).2 - (ofM (A2 t2.toNat)).2 - (ofL (A0 t0.toNat)).2 - B0 t0.toNat - B2 t2.toNat) (f := C1 t1.toNat) (n := B1 t1.toNat) (by omega) (by omega) (by omega) (by omega)
 have hstep := rowsR_step hm (TL := ⟨N0, A0, B0, C0⟩) (TB := ⟨N1, A1, B1, C1⟩) (TM := ⟨N2, A2, B2, C2⟩) rfl rfl rfl rfl rfl rfl rfl rfl rfl rfl rfl rfl rfl rfl rfl rfl rfl rfl rfl rfl rfl rfl rfl rfl rfl rfl rfl rfl hR
 have e0 := rd_bound q (p - (ofB (A1 t1.toNat)).2 - (ofM (A2 t2.toNat)).2 - (ofL (A0 t0.toNat)).2) (B0 t0.toNat).toNat
 have e2 := rd_bound q (p - (ofB (A1 t1.toNat)).2 - (ofM (A2 t2.toNat)).2 - (ofL (A0 t0.toNat)).2 - B0 t0.toNat) (B2 t2.toNat).toNat
 have e1 := rd_bound q (p - (ofB (A1 t1.toNat)).2 - (ofM (A2 t2.toNat)).2 - (ofL (A0 t0.toNat)).2 - B0 t0.toNat - B2 t2.toNat) (B1 t1.toNat).toNat
 have hupd : ∀ (proj : Int × Int × Int → Int) (r : Int × Int × Int) (v : Int), proj r = v → updI (fun i => proj (ls.getD i (0, 0, 0))) ls.length v = fun i => proj ((ls ++ [r]).getD i (0, 0, 0)) := by
  intro proj r v hv
  funext i
  rw [updI_eq]
  rcases Nat.lt_trichotomy i ls.length with hi | hi | hi
  ·rw [if_neg (by omega), List.getD_eq_getElem?_getD, List.getD_eq_getElem?_getD, List.getElem?_append_left hi]
  ·subst hi
   rw [if_pos rfl, List.getD_eq_getElem?_getD, List.getElem?_append_right (Nat.le_refl _)]
   simp [hv]
  ·rw [if_neg (by omega), List.getD_eq_getElem?_getD, List.getD_eq_getElem?_getD, List.getElem?_eq_none (by omega), List.getElem?_eq_none (by simp; omega)]
 refine h _ _ _ _ _ _ _ _ _ _ _ _ _ _ _ _ _ _ _ _ _ _ _ _ _ _ _ _ _ _ _ _ _ _ _ _ _ _ _ _ _ S0 S1 S2 rfl rfl rfl VB VM VL Y0 Y2 Y1 rfl rfl rfl rfl ⟨hupd (·.1) ((ofL (A0 t0.toNat)).1 + rd q (p - (ofB (A1 t1.toNat)).2 - (ofM (A2 t2.toNat)).2) (ofL (A0 t0.toNat)).2.toNat, (ofM (A2 t2.toNat)).1 + rd q (p - (ofB (A1 t1.toNat)).2) (ofM (A2 t2.toNat)).2.toNat, (ofB (A1 t1.toNat)).1 + rd q p (ofB (A1 t1.toNat)).2.toNat) _ rfl, hupd (·.2.1) ((ofL (A0 t0.toNat)).1 + rd q (p - (ofB (A1 t1.toNat)).2 - (ofM (A2 t2.toNat)).2) (ofL (A0 t0.toNat)).2.toNat, (ofM (A2 t2.toNat)).1 + rd q (p - (ofB (A1 t1.toNat)).2) (ofM (A2 t2.toNat)).2.toNat, (ofB (A1 t1.toNat)).1 + rd q p (ofB (A1 t1.toNat)).2.toNat) _ rfl, hupd (·.2.2) ((ofL (A0 t0.toNat)).1 + rd q (p - (ofB (A1 t1.toNat)).2 - (ofM (A2 t2.toNat)).2) (ofL (A0 t0.toNat)).2.toNat, (ofM (A2 t2.toNat)).1 + rd q (p - (ofB (A1 t1.toNat)).2) (ofM (A2 t2.toNat)).2.toNat, (ofB (A1 t1.toNat)).1 + rd q p (ofB (A1 t1.toNat)).2.toNat) _ rfl, ?_⟩ (fun h1 => ?_) (fun h1 => ?_)
 ·simp
 ·rw [if_pos h1] at hstep
  exact ⟨by omega, hstep.1, hstep.2⟩
 ·rw [if_neg h1] at hstep
  exact ⟨by omega, by omega, by omega, by omega, hstep, by simp; omega, by omega, by omega, by omega, by omega, by omega⟩
theorem ofB_con' (c f n : Int) (hc : 0 ≤ c ∧ c ≤ 31) (e : (f, n) = ofB c) : Con Try.prog 64 [.int .i64 c] [] (fun v H R => v = .tup [.int .i64 f, .int .i64 n] ∧ H = [] ∧ R = []) := by
 simp only [ofB, Prod.mk.injEq] at e
 obtain ⟨rfl, rfl⟩ := e
 exact ofB_con _ (by omega)
theorem ofL_con' (c f n : Int) (gL bL : List Int) (hg : gL = begL) (hb : bL = bitsL) (hc : 0 ≤ c ∧ c ≤ 35) (e : (f, n) = ofL c) :
  Con Try.prog 90 [.int .i64 c, .ptr 0 .z 1 0, .ptr 1 .z 1 0, .ptr 2 .z 1 0, .ptr 3 .z 1 0] [.one 3 [.int .i64 16], .one 3 [.int .i64 0], .ints 173 .i64 gL, .one 63 [.slice 4 .z 1 20 20], .ints 3 .i64 bL]
   (fun v H R => v = .tup [.int .i64 f, .int .i64 n] ∧ H = [.one 3 [.int .i64 16], .one 3 [.int .i64 0], .ints 173 .i64 gL, .one 63 [.slice 4 .z 1 20 20], .ints 3 .i64 bL] ∧ R = []) := by
 have h := of_con 16 0 c gL bL 20 20 (by rw [hg]; rfl) (by rw [hb]; rfl) (by decide) hc.1 (by decide) (by omega) (by decide) (by decide)
 rw [show ofK 16 0 gL bL c = (f, n) by rw [e, hg, hb]; rfl] at h
 exact h
theorem ofM_con' (c f n : Int) (gM bM : List Int) (hg : gM = begM) (hb : bM = bitsM) (hc : 0 ≤ c ∧ c ≤ 52) (e : (f, n) = ofM c) :
  Con Try.prog 90 [.int .i64 c, .ptr 0 .z 1 0, .ptr 1 .z 1 0, .ptr 2 .z 1 0, .ptr 3 .z 1 0] [.one 3 [.int .i64 32], .one 3 [.int .i64 3], .ints 173 .i64 gM, .one 63 [.slice 4 .z 1 21 21], .ints 3 .i64 bM]
   (fun v H R => v = .tup [.int .i64 f, .int .i64 n] ∧ H = [.one 3 [.int .i64 32], .one 3 [.int .i64 3], .ints 173 .i64 gM, .one 63 [.slice 4 .z 1 21 21], .ints 3 .i64 bM] ∧ R = []) := by
 have h := of_con 32 3 c gM bM 21 21 (by rw [hg]; rfl) (by rw [hb]; rfl) (by decide) hc.1 (by decide) (by omega) (by decide) (by decide)
 rw [show ofK 32 3 gM bM c = (f, n) by rw [e, hg, hb]; rfl] at h
 exact h
theorem seqT_zero {q : List Int} {n : Nat} {TL TB TM : Tb} (h : q.getLastD 0 = 0) : (seqT q n TL TB TM).1 = 11 := by unfold seqT; rw [if_pos h]
theorem seqT_rows {q : List Int} {n : Nat} {TL TB TM : Tb} {p0 p1 p2 p3 s0 s1 s2 l0 l1 l2 Q : Int} {g0 g1 g2 : Nat} {LS : List (Int × Int × Int)} (h : ¬ q.getLastD 0 = 0) (hp0 : p0 = markAt q) (hg0 : Nat.log2 TL.n = g0) (hg1 : Nat.log2 TB.n = g1) (hg2 : Nat.log2 TM.n = g2)
  (hl0 : l0 = g0) (hl1 : l1 = g1) (hl2 : l2 = g2) (hs0 : s0 = rd q p0 g0) (hp1 : p1 = p0 - l0) (hs1 : s1 = rd q p1 g1) (hp2 : p2 = p1 - l1) (hs2 : s2 = rd q p2 g2) (hp3 : p3 = p2 - l2) (hR : rowsR q TL TB TM n s0 s1 s2 p3 [] = (LS, Q)) :
  (Q ≠ 0 → (seqT q n TL TB TM).1 = 11) ∧ (Q = 0 → seqT q n TL TB TM = (0, LS, TL, TB, TM)) := by
 subst hp3 hs2 hp2 hs1 hp1 hs0 hl2 hl1 hl0 hg2 hg1 hg0 hp0
 unfold seqT
 rw [if_neg h, hR]
 exact ⟨fun hq => by rw [if_pos hq], fun hq => by rw [if_neg (by simpa using hq)]⟩
end Go.Proofs.Ytlclleihoampdaa
namespace Go.Proofs.Ytlclleihoampdaa
open Go Go.Sx Go.Proofs
set_option maxRecDepth 10000
theorem readR_back' {l : List Int} {log ml ms : Int} (h : Right l log) (h1 : log ≤ ml) (h2 : ml ≤ 12) (h3 : (l.length : Int) ≤ ms + 1) (h4 : ms ≤ 255) (behind : List Int) :
  readR (pack (wbits l log) ++ behind) ml ms = (l, log, ((pack (wbits l log)).length : Int), 0) := by
 have hbit := wbits_bit l log
 have hpl := pack_length (wbits l log)
 have hb : ∀ i, i < (wbits l log).length → (bitL (pack (wbits l log) ++ behind)).getD i 0 = (wbits l log).getD i 0 := fun i hi => isByte_behind hbit i hi
 have hlen : (wbits l log).length ≤ 8 * (pack (wbits l log) ++ behind).length := by rw [List.length_append]; omega
 obtain ⟨g1, g2, g3, g4, g5, g6, g7⟩ := h
 have hW : wbits l log = [] ++ bitsN (log - 5) 4 ++ wgo none l (2 ^ log.toNat) := rfl
 have hr := rdN_at (j := 0) (k := 4) hb hlen hW (by omega)
 have e : ((log - 5) / 2 ^ 0 % 2 ^ 4 : Int) = log - 5 := by simp only [Int.pow_zero, Int.ediv_one]; omega
 rw [e] at hr
 have hr : rdN (pack (wbits l log) ++ behind) 0 4 = some (log - 5) := hr
 have hback := readBack (ms := ms) (pw := 2 ^ log.toNat) hb hlen g6 g5 h3 g7 l.length 0 600 (bitsN (log - 5) 4) (2 ^ log.toNat) (by omega) (by simp [sumP]) (by rw [List.drop_zero]; rfl) (by omega)
 rw [List.take_zero, bitsN_length] at hback
 unfold readR
 rw [if_neg (by omega), hr]
 simp only
 rw [if_neg (by omega), Int.sub_add_cancel, hback]
 simp only [ne_eq, not_true_eq_false, if_false]
 rw [hpl]
 congr 3
def Hit (T : Tb) (c : Int) : Prop := ∀ v : Int, 0 ≤ v → v < T.n → ∃ k : Nat, k < T.n ∧ T.a k = c ∧ T.c k ≤ v ∧ v - T.c k < 2 ^ (T.b k).toNat
structure Chs (lg most ah : Int) (cnt codes : List Int) (way : Int) (hd : List Int) (T : Tb) : Prop where
 wr : 0 ≤ way ∧ way ≤ 2
 byt : ∀ x ∈ hd, isByte x
 hl : hd.length ≤ 700
 tok : TbOk most T
 ne : T.n ≠ 0
 hit : ∀ c ∈ codes, Hit T c
 rd : ∀ rest T', tabK lg most ah cnt way (hd ++ rest) T' = (0, (hd.length : Int), T)
theorem chs_one {lg most ah c : Int} {cnt codes : List Int} (h0 : 0 ≤ c ∧ c ≤ most) (hm : most ≤ 255) (hall : ∀ x ∈ codes, x = c) : Chs lg most ah cnt codes 1 [c] (oneT c) := by
 refine ⟨by decide, fun x hx => ?_, by simp, (oneT_ok h0.1 h0.2).1, (oneT_ok h0.1 h0.2).2, fun x hx v v0 v1 => ?_, fun rest T' => ?_⟩
 ·rw [List.mem_singleton.1 hx]; exact ⟨h0.1, by omega⟩
 ·have hv : v < 1 := v1
  have hv0 : v = 0 := by omega
  subst hv0
  exact ⟨0, Nat.one_pos, (hall x hx).symm, Int.le_refl 0, by simp [oneT]⟩
 ·unfold tabK
  rw [if_neg (by decide), if_pos rfl, if_neg (by simp)]
  have e : ([c] ++ rest).getD 0 0 = c := rfl
  rw [e, if_neg (by omega)]
  rfl
theorem mkT_hit {cs : List Int} {log : Int} (hR : Right cs log) {s : Nat} (hs : s < cs.length) (hne : cs.getD s 0 ≠ 0) : Hit (mkT cs log) s := by
 intro v v0 v1
 obtain ⟨size, hsz⟩ : ∃ size : Int, (2 : Int) ^ log.toNat = size := ⟨_, rfl⟩
 have hn : (mkT cs log).n = 2 ^ log.toNat := pow_toNat _
 have hN : size = (((mkT cs log).n : Nat) : Int) := by rw [hn, ← hsz]; push_cast; rfl
 obtain ⟨k, h1, h2, h3, h4⟩ := cell_hit hR hsz hN hs hne v0 (by rw [hN]; exact v1)
 have e1 : (mkT cs log).a k = symT cs size k := by simp only [mkT, hsz]
 have e2 : (mkT cs log).b k = tabB cs log size (mkT cs log).n k := by simp only [mkT, hsz]
 have e3 : (mkT cs log).c k = tabC cs log size (mkT cs log).n k := by simp only [mkT, hsz]
 exact ⟨k, h1, by rw [e1, h2], by rw [e3]; exact h3, by rw [e3, e2]; exact h4⟩
theorem chs_zero {lg most ah : Int} {cnt codes : List Int} (hR : Right cnt ah) (hcl : (cnt.length : Int) ≤ most + 1) (hfit : ∀ c ∈ codes, ∃ s : Nat, c = s ∧ s < cnt.length ∧ cnt.getD s 0 ≠ 0) : Chs lg most ah cnt codes 0 [] (mkT cnt ah) := by
 refine ⟨by decide, by simp, by simp, (mkT_ok hR hcl).1, (mkT_ok hR hcl).2, fun c hc => ?_, fun rest T' => ?_⟩
 ·obtain ⟨s, rfl, h1, h2⟩ := hfit c hc
  exact mkT_hit hR h1 h2
 ·unfold tabK
  rw [if_pos rfl]
  rfl
theorem chs_two {lg most ah log : Int} {cnt codes cs : List Int} (hR : Right cs log) (h1 : log ≤ lg) (h2 : lg ≤ 12) (hcl : (cs.length : Int) ≤ most + 1) (hm : most ≤ 255) (hfit : ∀ c ∈ codes, ∃ s : Nat, c = s ∧ s < cs.length ∧ cs.getD s 0 ≠ 0) :
  Chs lg most ah cnt codes 2 (pack (wbits cs log)) (mkT cs log) := by
 refine ⟨by decide, pack_byte _ (wbits_bit cs log), pack_wbits hR, (mkT_ok hR hcl).1, (mkT_ok hR hcl).2, fun c hc => ?_, fun rest T' => ?_⟩
 ·obtain ⟨s, rfl, h3, h4⟩ := hfit c hc
  exact mkT_hit hR h3 h4
 ·unfold tabK
  rw [if_neg (by decide), if_neg (by decide), if_pos rfl, readR_back' hR h1 h2 hcl hm]
  simp only
  rw [if_neg (by decide), if_neg (by simp [hR])]
structure Frq (codes : List Int) (i n : Nat) (F : List Int) (some' : Int) : Prop where
 len : F.length = n
 pos : ∀ s : Nat, s < n → (0 < F.getD s 0 ↔ ∃ j, j < i ∧ codes.getD j 0 = s)
 rng : ∀ s : Nat, 0 ≤ F.getD s 0 ∧ F.getD s 0 ≤ i
 som : some' = somN F n
theorem getD_set {l : List Int} {i : Nat} {x : Int} (hi : i < l.length) (j : Nat) : (l.set i x).getD j 0 = if j = i then x else l.getD j 0 := by
 rw [List.getD_eq_getElem?_getD, List.getElem?_set]
 by_cases h : i = j
 ·subst h; simp [hi]
 ·rw [if_neg h, if_neg (fun e => h e.symm), List.getD_eq_getElem?_getD]
theorem somN_set {l : List Int} {i n : Nat} {x : Int} (hi : i < l.length) (hx : 0 < x) (h0 : 0 ≤ l.getD i 0) : ∀ n, somN (l.set i x) n = somN l n + (if i < n ∧ l.getD i 0 = 0 then 1 else 0)
 | 0 => by simp [somN, sumI]
 | n + 1 => by
  have ih := somN_set (n := n) hi hx h0 n
  simp only [somN, sumI] at ih ⊢
  rw [ih]
  have e : posI (l.set i x) n = if n = i then 1 else posI l n := by
   unfold posI
   rw [getD_set hi]
   by_cases hn : n = i
   ·rw [if_pos hn, if_pos hn, if_pos hx]
   ·rw [if_neg hn, if_neg hn]
  rw [e]
  by_cases hn : n = i
  ·subst hn
   rw [if_pos rfl, if_neg (fun h => absurd h.1 (Nat.lt_irrefl n))]
   by_cases hz : l.getD n 0 = 0
   ·have e0 : posI l n = 0 := by unfold posI; rw [if_neg (by omega)]
    rw [if_pos ⟨Nat.lt_succ_self n, hz⟩, e0]
   ·have e1 : posI l n = 1 := by unfold posI; rw [if_pos (by omega)]
    rw [if_neg (fun h => hz h.2), e1]; omega
  ·rw [if_neg hn]
   by_cases hz : i < n ∧ l.getD i 0 = 0
   ·rw [if_pos hz, if_pos ⟨by omega, hz.2⟩]; omega
   ·rw [if_neg hz, if_neg (fun h => hz ⟨by omega, h.2⟩)]; omega
theorem frq_nil (codes : List Int) (n : Nat) : Frq codes 0 n (List.replicate n 0) 0 := by
 have hg : ∀ s : Nat, (List.replicate n (0 : Int)).getD s 0 = 0 := fun s => by
  rw [List.getD_eq_getElem?_getD, List.getElem?_replicate]; split <;> rfl
 refine ⟨by simp, fun s _ => ?_, fun s => ?_, ?_⟩
 ·rw [hg]; simp
 ·rw [hg]; omega
 ·have : ∀ k, somN (List.replicate n (0 : Int)) k = 0 := by
   intro k
   induction k with
   | zero => rfl
   | succ k ih => simp only [somN, sumI] at ih ⊢; rw [ih]; unfold posI; rw [hg]; rfl
  exact (this n).symm
theorem frq_step {codes F : List Int} {i n c : Nat} {some' : Int} (h : Frq codes i n F some') (hc : codes.getD i 0 = c) (hcn : c < n) :
  Frq codes (i + 1) n (F.set c (F.getD c 0 + 1)) (some' + if F.getD c 0 = 0 then 1 else 0) := by
 have hcl : c < F.length := by rw [h.len]; exact hcn
 have hr := h.rng c
 refine ⟨by rw [List.length_set]; exact h.len, fun s hs => ?_, fun s => ?_, ?_⟩
 ·rw [getD_set hcl]
  by_cases hsc : s = c
  ·subst hsc
   rw [if_pos rfl]
   exact ⟨fun _ => ⟨i, by omega, hc⟩, fun _ => by omega⟩
  ·rw [if_neg hsc, h.pos s hs]
   refine ⟨fun ⟨j, hj, e⟩ => ⟨j, by omega, e⟩, fun ⟨j, hj, e⟩ => ?_⟩
   by_cases hji : j = i
   ·subst hji; rw [hc] at e; omega
   ·exact ⟨j, by omega, e⟩
 ·rw [getD_set hcl]
  have := h.rng s
  split
  ·push_cast; omega
  ·push_cast; omega
 ·rw [somN_set (n := n) hcl (by omega) hr.1 n, h.som]
  congr 1
  by_cases hz : F.getD c 0 = 0
  ·rw [if_pos hz, if_pos ⟨hcn, hz⟩]
  ·rw [if_neg hz, if_neg (fun e => hz e.2)]
theorem somN_rg (l : List Int) : ∀ n, 0 ≤ somN l n ∧ somN l n ≤ n
 | 0 => by simp [somN, sumI]
 | n + 1 => by
  have ih := somN_rg l n
  simp only [somN, sumI] at ih ⊢
  have : 0 ≤ posI l n ∧ posI l n ≤ 1 := by unfold posI; split <;> omega
  push_cast
  omega
theorem somN_pos {l : List Int} {a : Nat} (ha : 0 < l.getD a 0) : ∀ n, a < n → 1 ≤ somN l n
 | 0, h => by omega
 | n + 1, h => by
  have hr := somN_rg l n
  simp only [somN, sumI] at hr ⊢
  have h1 : 0 ≤ posI l n := by unfold posI; split <;> omega
  by_cases e : a = n
  ·subst e
   have e1 : posI l a = 1 := by unfold posI; rw [if_pos ha]
   rw [e1]; omega
  ·have := somN_pos ha n (by omega)
   simp only [somN] at this
   omega
theorem somN_two {l : List Int} {a b : Nat} (ha : 0 < l.getD a 0) (hb : 0 < l.getD b 0) (hab : a < b) : ∀ n, b < n → 2 ≤ somN l n
 | 0, h => by omega
 | n + 1, h => by
  have h1 : 0 ≤ posI l n := by unfold posI; split <;> omega
  by_cases e : b = n
  ·subst e
   have h2 := somN_pos ha b hab
   simp only [somN, sumI] at h2 ⊢
   have e1 : posI l b = 1 := by unfold posI; rw [if_pos hb]
   rw [e1]; omega
  ·have := somN_two ha hb hab n (by omega)
   simp only [somN, sumI] at this ⊢
   omega
theorem frq_one {codes F : List Int} {n : Nat} (h : Frq codes codes.length n F 1) (hr : ∀ c ∈ codes, 0 ≤ c ∧ c < n) (h1 : 1 ≤ codes.length) : ∀ x ∈ codes, x = codes.getD 0 0 := by
 have hmem : ∀ x ∈ codes, ∃ s : Nat, x = s ∧ s < n ∧ 0 < F.getD s 0 := by
  intro x hx
  obtain ⟨h2, h3⟩ := hr x hx
  obtain ⟨j, hj, e⟩ := List.mem_iff_getElem.1 hx
  refine ⟨x.toNat, by omega, by omega, (h.pos x.toNat (by omega)).2 ⟨j, hj, ?_⟩⟩
  rw [List.getD_eq_getElem?_getD, List.getElem?_eq_getElem hj]
  simp only [Option.getD_some, e]; omega
 have h0 : codes.getD 0 0 ∈ codes := by
  rw [List.getD_eq_getElem?_getD, List.getElem?_eq_getElem h1]
  exact List.getElem_mem _
 obtain ⟨a, ha, ha1, ha2⟩ := hmem _ h0
 intro x hx
 obtain ⟨b, hb, hb1, hb2⟩ := hmem x hx
 rw [ha, hb]
 have hs := h.som
 rcases Nat.lt_trichotomy a b with hab | hab | hab
 ·have := somN_two ha2 hb2 hab n hb1; omega
 ·rw [hab]
 ·have := somN_two hb2 ha2 hab n ha1; omega
theorem frq_mem {codes F : List Int} {n : Nat} {some' : Int} (h : Frq codes codes.length n F some') (hr : ∀ c ∈ codes, 0 ≤ c ∧ c < n) {x : Int} (hx : x ∈ codes) : ∃ s : Nat, x = s ∧ s < n ∧ 0 < F.getD s 0 := by
 obtain ⟨h2, h3⟩ := hr x hx
 obtain ⟨j, hj, e⟩ := List.mem_iff_getElem.1 hx
 refine ⟨x.toNat, by omega, by omega, (h.pos x.toNat (by omega)).2 ⟨j, hj, ?_⟩⟩
 rw [List.getD_eq_getElem?_getD, List.getElem?_eq_getElem hj]
 simp only [Option.getD_some, e]; omega
end Go.Proofs.Ytlclleihoampdaa
namespace Go.Proofs.Ytlclleihoampdaa
open Go Go.Sx Go.Proofs
set_option maxRecDepth 10000
def CdOk (of : Int → Int × Int) (most c v : Int) : Prop := 0 ≤ c ∧ c ≤ most ∧ (of c).1 ≤ v ∧ v < (of c).1 + 2 ^ (of c).2.toNat
theorem cdL {v c : Int} (hv : 0 ≤ v ∧ v ≤ 131071) (h : (v < 16 + 0 ∧ c = v - 0) ∨ (16 + 0 ≤ v ∧ ∃ a : Nat, a < 20 ∧ c = 16 + a ∧ begL.getD a 0 ≤ v ∧ (a + 1 = 20 ∨ v < begL.getD (a + 1) 0))) : CdOk ofL 35 c v := by
 rcases h with ⟨h1, rfl⟩ | ⟨h1, a, ha, rfl, h2, h3⟩
 ·have e : ofL (v - 0) = (v, 0) := by unfold ofL ofK; rw [if_pos (by omega)]; simp
  refine ⟨by omega, by omega, ?_⟩
  rw [e]
  simp
  omega
 ·have key : ∀ a : Fin 20, ofL (16 + (a.val : Int)) = (begL.getD a.val 0, bitsL.getD a.val 0) ∧ (if a.val + 1 = 20 then begL.getD a.val 0 + 2 ^ (bitsL.getD a.val 0).toNat = 131072 else begL.getD a.val 0 + 2 ^ (bitsL.getD a.val 0).toNat = begL.getD (a.val + 1) 0) := by decide
  obtain ⟨e1, e2⟩ := key ⟨a, ha⟩
  simp only at e1 e2
  refine ⟨by omega, by omega, ?_⟩
  rw [e1]
  refine ⟨h2, ?_⟩
  have e3 : (begL.getD a 0, bitsL.getD a 0).1 = begL.getD a 0 := rfl
  have e4 : (begL.getD a 0, bitsL.getD a 0).2 = bitsL.getD a 0 := rfl
  rw [e3, e4]
  split at e2
  ·omega
  ·rcases h3 with h3 | h3
   ·omega
   ·omega
theorem cdM {v c : Int} (hv : 3 ≤ v ∧ v ≤ 131074) (h : (v < 32 + 3 ∧ c = v - 3) ∨ (32 + 3 ≤ v ∧ ∃ a : Nat, a < 21 ∧ c = 32 + a ∧ begM.getD a 0 ≤ v ∧ (a + 1 = 21 ∨ v < begM.getD (a + 1) 0))) : CdOk ofM 52 c v := by
 rcases h with ⟨h1, rfl⟩ | ⟨h1, a, ha, rfl, h2, h3⟩
 ·have e : ofM (v - 3) = (v, 0) := by unfold ofM ofK; rw [if_pos (by omega), show v - 3 + 3 = v by omega]
  refine ⟨by omega, by omega, ?_⟩
  rw [e]
  simp
  omega
 ·have key : ∀ a : Fin 21, ofM (32 + (a.val : Int)) = (begM.getD a.val 0, bitsM.getD a.val 0) ∧ (if a.val + 1 = 21 then begM.getD a.val 0 + 2 ^ (bitsM.getD a.val 0).toNat = 131075 else begM.getD a.val 0 + 2 ^ (bitsM.getD a.val 0).toNat = begM.getD (a.val + 1) 0) := by decide
  obtain ⟨e1, e2⟩ := key ⟨a, ha⟩
  simp only at e1 e2
  refine ⟨by omega, by omega, ?_⟩
  rw [e1]
  refine ⟨h2, ?_⟩
  have e3 : (begM.getD a 0, bitsM.getD a 0).1 = begM.getD a 0 := rfl
  have e4 : (begM.getD a 0, bitsM.getD a 0).2 = bitsM.getD a 0 := rfl
  rw [e3, e4]
  split at e2
  ·omega
  ·rcases h3 with h3 | h3
   ·omega
   ·omega
theorem cdB {v : Int} {n : Nat} (hv : 1 ≤ v ∧ v ≤ 268435456) (h1 : (2 : Int) ^ n ≤ v) (h2 : v < 2 ^ (n + 1)) : CdOk ofB 31 n v := by
 have hn : n ≤ 28 := by
  refine Decidable.byContradiction fun hc => ?_
  have : (2 : Int) ^ 29 ≤ 2 ^ n := by exact_mod_cast Nat.pow_le_pow_right (by decide) (by omega : 29 ≤ n)
  have e : (2 : Int) ^ 29 = 536870912 := by decide
  omega
 refine ⟨by omega, by omega, ?_⟩
 simp only [ofB, Int.toNat_natCast]
 rw [Int.pow_succ] at h2
 exact ⟨h1, by omega⟩
abbrev Row := Int × Int × Int
def extB (TL TB TM : Tb) (r : Row) (sL sB sM : Nat) : List Int :=
 bitsN (r.1 - (ofL (TL.a sL)).1) (ofL (TL.a sL)).2.toNat ++ bitsN (r.2.1 - (ofM (TM.a sM)).1) (ofM (TM.a sM)).2.toNat ++ bitsN (r.2.2 - (ofB (TB.a sB)).1) (ofB (TB.a sB)).2.toNat
def RowOk (TL TB TM : Tb) (r : Row) (sL sB sM : Nat) : Prop :=
 sL < TL.n ∧ sB < TB.n ∧ sM < TM.n ∧ CdOk ofL 35 (TL.a sL) r.1 ∧ CdOk ofM 52 (TM.a sM) r.2.1 ∧ CdOk ofB 31 (TB.a sB) r.2.2
inductive Enc3 (TL TB TM : Tb) : List Row → Nat → Nat → Nat → List Int → Prop
 | one {r sL sB sM} : RowOk TL TB TM r sL sB sM → Enc3 TL TB TM [r] sL sB sM (extB TL TB TM r sL sB sM)
 | cons {r rs sL sB sM tL tB tM bits} : Enc3 TL TB TM rs tL tB tM bits → RowOk TL TB TM r sL sB sM → TL.c sL ≤ tL → tL - TL.c sL < 2 ^ (TL.b sL).toNat → TB.c sB ≤ tB → tB - TB.c sB < 2 ^ (TB.b sB).toNat → TM.c sM ≤ tM → tM - TM.c sM < 2 ^ (TM.b sM).toNat →
   Enc3 TL TB TM (r :: rs) sL sB sM (bits ++ bitsN (tB - TB.c sB) (TB.b sB).toNat ++ bitsN (tM - TM.c sM) (TM.b sM).toNat ++ bitsN (tL - TL.c sL) (TL.b sL).toNat ++ extB TL TB TM r sL sB sM)
theorem rd_at {pre rest : List Int} {x : Int} {n : Nat} {p : Int} (hx : 0 ≤ x ∧ x < 2 ^ n) (h : ∀ b ∈ pre ++ bitsN x n ++ rest, isBit b) (hp : p = ((pre ++ bitsN x n).length : Nat)) : rd (pack (pre ++ bitsN x n ++ rest)) p n = x := by
 rw [hp, rd_put _ _ _ _ hx.1 h]
 exact Int.emod_eq_of_lt hx.1 hx.2
theorem extB_bit (TL TB TM : Tb) (r : Row) (sL sB sM : Nat) : ∀ b ∈ extB TL TB TM r sL sB sM, isBit b := by
 intro b hb
 unfold extB at hb
 rcases List.mem_append.1 hb with hb | hb
 ·rcases List.mem_append.1 hb with hb | hb <;> exact bitsN_bit _ _ b hb
 ·exact bitsN_bit _ _ b hb
theorem enc3_bit {TL TB TM : Tb} {rows : List Row} {sL sB sM : Nat} {bits : List Int} (h : Enc3 TL TB TM rows sL sB sM bits) : ∀ b ∈ bits, isBit b := by
 induction h with
 | one _ => exact extB_bit _ _ _ _ _ _ _
 | cons _ _ _ _ _ _ _ _ ih =>
  intro b hb
  simp only [List.mem_append] at hb
  rcases hb with (((hb | hb) | hb) | hb) | hb
  ·exact ih b hb
  ·exact bitsN_bit _ _ b hb
  ·exact bitsN_bit _ _ b hb
  ·exact bitsN_bit _ _ b hb
  ·exact extB_bit _ _ _ _ _ _ _ b hb
theorem ext_read {TL TB TM : Tb} {r : Row} {sL sB sM : Nat} {pre rest : List Int} {p : Int} (hr : RowOk TL TB TM r sL sB sM) (hb : ∀ b ∈ pre ++ extB TL TB TM r sL sB sM ++ rest, isBit b) (hp : p = ((pre ++ extB TL TB TM r sL sB sM).length : Nat)) :
  (ofB (TB.a sB)).1 + rd (pack (pre ++ extB TL TB TM r sL sB sM ++ rest)) p (ofB (TB.a sB)).2.toNat = r.2.2 ∧
  (ofM (TM.a sM)).1 + rd (pack (pre ++ extB TL TB TM r sL sB sM ++ rest)) (p - (ofB (TB.a sB)).2) (ofM (TM.a sM)).2.toNat = r.2.1 ∧
  (ofL (TL.a sL)).1 + rd (pack (pre ++ extB TL TB TM r sL sB sM ++ rest)) (p - (ofB (TB.a sB)).2 - (ofM (TM.a sM)).2) (ofL (TL.a sL)).2.toNat = r.1 ∧
  p - (ofB (TB.a sB)).2 - (ofM (TM.a sM)).2 - (ofL (TL.a sL)).2 = (pre.length : Nat) := by
 obtain ⟨_, _, _, hL, hM, hB⟩ := hr
 have nL := (ofL_range ⟨hL.1, hL.2.1⟩)
 have nM := (ofM_range ⟨hM.1, hM.2.1⟩)
 have nB := (ofB_range ⟨hB.1, hB.2.1⟩)
 have e : pre ++ extB TL TB TM r sL sB sM ++ rest = (pre ++ bitsN (r.1 - (ofL (TL.a sL)).1) (ofL (TL.a sL)).2.toNat ++ bitsN (r.2.1 - (ofM (TM.a sM)).1) (ofM (TM.a sM)).2.toNat) ++ bitsN (r.2.2 - (ofB (TB.a sB)).1) (ofB (TB.a sB)).2.toNat ++ rest := by
  unfold extB; simp only [List.append_assoc]
 have e2 : pre ++ extB TL TB TM r sL sB sM ++ rest = (pre ++ bitsN (r.1 - (ofL (TL.a sL)).1) (ofL (TL.a sL)).2.toNat) ++ bitsN (r.2.1 - (ofM (TM.a sM)).1) (ofM (TM.a sM)).2.toNat ++ (bitsN (r.2.2 - (ofB (TB.a sB)).1) (ofB (TB.a sB)).2.toNat ++ rest) := by
  unfold extB; simp only [List.append_assoc]
 have e3 : pre ++ extB TL TB TM r sL sB sM ++ rest = pre ++ bitsN (r.1 - (ofL (TL.a sL)).1) (ofL (TL.a sL)).2.toNat ++ (bitsN (r.2.1 - (ofM (TM.a sM)).1) (ofM (TM.a sM)).2.toNat ++ bitsN (r.2.2 - (ofB (TB.a sB)).1) (ofB (TB.a sB)).2.toNat ++ rest) := by
  unfold extB; simp only [List.append_assoc]
 have hlen : (pre ++ extB TL TB TM r sL sB sM).length = pre.length + ((ofL (TL.a sL)).2.toNat + (ofM (TM.a sM)).2.toNat + (ofB (TB.a sB)).2.toNat) := by
  unfold extB; simp only [List.length_append, bitsN_length]
 rw [hlen] at hp
 push_cast at hp
 refine ⟨?_, ?_, ?_, by omega⟩
 ·rw [e] at hb ⊢
  rw [rd_at ⟨by have := hB.2.2.1; omega, by have := hB.2.2.2; omega⟩ hb (by rw [hp]; simp only [List.length_append, bitsN_length]; push_cast; omega)]
  omega
 ·rw [e2] at hb ⊢
  rw [rd_at ⟨by have := hM.2.2.1; omega, by have := hM.2.2.2; omega⟩ hb (by rw [hp]; simp only [List.length_append, bitsN_length]; push_cast; omega)]
  omega
 ·rw [e3] at hb ⊢
  rw [rd_at ⟨by have := hL.2.2.1; omega, by have := hL.2.2.2; omega⟩ hb (by rw [hp]; simp only [List.length_append, bitsN_length]; push_cast; omega)]
  omega
theorem enc3_rows {TL TB TM : Tb} (hL : TbOk 35 TL) (hB : TbOk 31 TB) (hM : TbOk 52 TM) {rows : List Row} {sL sB sM : Nat} {bits : List Int} (h : Enc3 TL TB TM rows sL sB sM bits) :
  ∀ (rest : List Int) (ls : List Row) (p : Int), (∀ b ∈ rest, isBit b) → p = (bits.length : Nat) → rowsR (pack (bits ++ rest)) TL TB TM rows.length sL sB sM p ls = (ls ++ rows, 0) := by
 induction h with
 | @one r sL sB sM hr =>
  intro rest ls p hrest hp
  have hb : ∀ b ∈ [] ++ extB TL TB TM r sL sB sM ++ rest, isBit b := fun b hb => by
   simp only [List.nil_append, List.mem_append] at hb
   exact hb.elim (extB_bit _ _ _ _ _ _ _ b) (hrest b)
  obtain ⟨e1, e2, e3, e4⟩ := ext_read (pre := []) (rest := rest) (p := p) hr hb (by simpa using hp)
  simp only [List.nil_append, List.length_nil] at e1 e2 e3 e4
  show rowsR _ _ _ _ (0 + 1) _ _ _ _ _ = _
  rw [rowsR, if_pos rfl]
  simp only [Int.toNat_natCast]
  rw [e1, e2, e3, e4]
  rfl
 | @cons r rs sL sB sM tL tB tM bits henc hr l1 l2 b1 b2 m1 m2 ih =>
  intro rest ls p hrest hp
  have hbits := enc3_bit henc
  have hn : rs.length ≠ 0 := by cases henc <;> simp
  have eW : bits ++ bitsN (tB - TB.c sB) (TB.b sB).toNat ++ bitsN (tM - TM.c sM) (TM.b sM).toNat ++ bitsN (tL - TL.c sL) (TL.b sL).toNat ++ extB TL TB TM r sL sB sM ++ rest =
   (bits ++ bitsN (tB - TB.c sB) (TB.b sB).toNat ++ bitsN (tM - TM.c sM) (TM.b sM).toNat ++ bitsN (tL - TL.c sL) (TL.b sL).toNat) ++ extB TL TB TM r sL sB sM ++ rest := rfl
  have hbit : ∀ b ∈ bits ++ bitsN (tB - TB.c sB) (TB.b sB).toNat ++ bitsN (tM - TM.c sM) (TM.b sM).toNat ++ bitsN (tL - TL.c sL) (TL.b sL).toNat ++ extB TL TB TM r sL sB sM ++ rest, isBit b := fun b hb => by
   simp only [List.mem_append] at hb
   rcases hb with ((((hb | hb) | hb) | hb) | hb) | hb
   ·exact hbits b hb
   ·exact bitsN_bit _ _ b hb
   ·exact bitsN_bit _ _ b hb
   ·exact bitsN_bit _ _ b hb
   ·exact extB_bit _ _ _ _ _ _ _ b hb
   ·exact hrest b hb
  obtain ⟨e1, e2, e3, e4⟩ := ext_read (p := p) hr hbit hp
  have hcell : ∀ {most : Int} {T : Tb} {s : Nat}, TbOk most T → s < T.n → 0 ≤ T.b s ∧ T.b s ≤ 12 := by
   intro most T s hT hs
   rcases hT with h0 | ⟨lg, _, _, hc⟩
   ·omega
   ·have := hc s hs; omega
  have cL := hcell hL hr.1
  have cB := hcell hB hr.2.1
  have cM := hcell hM hr.2.2.1
  obtain ⟨q, hq⟩ : ∃ q, q = pack (bits ++ bitsN (tB - TB.c sB) (TB.b sB).toNat ++ bitsN (tM - TM.c sM) (TM.b sM).toNat ++ bitsN (tL - TL.c sL) (TL.b sL).toNat ++ extB TL TB TM r sL sB sM ++ rest) := ⟨_, rfl⟩
  rw [← hq] at e1 e2 e3 ⊢
  have hlen : (bits ++ bitsN (tB - TB.c sB) (TB.b sB).toNat ++ bitsN (tM - TM.c sM) (TM.b sM).toNat ++ bitsN (tL - TL.c sL) (TL.b sL).toNat).length = bits.length + (TB.b sB).toNat + (TM.b sM).toNat + (TL.b sL).toNat := by
   simp only [List.length_append, bitsN_length]
  rw [hlen] at e4
  push_cast at e4
  -- the next states
  have r1 : rd q (p - (ofB (TB.a sB)).2 - (ofM (TM.a sM)).2 - (ofL (TL.a sL)).2) (TL.b sL).toNat = tL - TL.c sL := by
   have e : bits ++ bitsN (tB - TB.c sB) (TB.b sB).toNat ++ bitsN (tM - TM.c sM) (TM.b sM).toNat ++ bitsN (tL - TL.c sL) (TL.b sL).toNat ++ extB TL TB TM r sL sB sM ++ rest =
    (bits ++ bitsN (tB - TB.c sB) (TB.b sB).toNat ++ bitsN (tM - TM.c sM) (TM.b sM).toNat) ++ bitsN (tL - TL.c sL) (TL.b sL).toNat ++ (extB TL TB TM r sL sB sM ++ rest) := by simp only [List.append_assoc]
   rw [hq, e]
   rw [e] at hbit
   exact rd_at ⟨by omega, l2⟩ hbit (by rw [e4]; simp only [List.length_append, bitsN_length]; push_cast; omega)
  have r2 : rd q (p - (ofB (TB.a sB)).2 - (ofM (TM.a sM)).2 - (ofL (TL.a sL)).2 - TL.b sL) (TM.b sM).toNat = tM - TM.c sM := by
   have e : bits ++ bitsN (tB - TB.c sB) (TB.b sB).toNat ++ bitsN (tM - TM.c sM) (TM.b sM).toNat ++ bitsN (tL - TL.c sL) (TL.b sL).toNat ++ extB TL TB TM r sL sB sM ++ rest =
    (bits ++ bitsN (tB - TB.c sB) (TB.b sB).toNat) ++ bitsN (tM - TM.c sM) (TM.b sM).toNat ++ (bitsN (tL - TL.c sL) (TL.b sL).toNat ++ extB TL TB TM r sL sB sM ++ rest) := by simp only [List.append_assoc]
   rw [hq, e]
   rw [e] at hbit
   exact rd_at ⟨by omega, m2⟩ hbit (by rw [e4]; simp only [List.length_append, bitsN_length]; push_cast; omega)
  have r3 : rd q (p - (ofB (TB.a sB)).2 - (ofM (TM.a sM)).2 - (ofL (TL.a sL)).2 - TL.b sL - TM.b sM) (TB.b sB).toNat = tB - TB.c sB := by
   have e : bits ++ bitsN (tB - TB.c sB) (TB.b sB).toNat ++ bitsN (tM - TM.c sM) (TM.b sM).toNat ++ bitsN (tL - TL.c sL) (TL.b sL).toNat ++ extB TL TB TM r sL sB sM ++ rest =
    bits ++ bitsN (tB - TB.c sB) (TB.b sB).toNat ++ (bitsN (tM - TM.c sM) (TM.b sM).toNat ++ bitsN (tL - TL.c sL) (TL.b sL).toNat ++ extB TL TB TM r sL sB sM ++ rest) := by simp only [List.append_assoc]
   rw [hq, e]
   rw [e] at hbit
   exact rd_at ⟨by omega, b2⟩ hbit (by rw [e4]; simp only [List.length_append, bitsN_length]; push_cast; omega)
  show rowsR _ _ _ _ (rs.length + 1) _ _ _ _ _ = _
  rw [rowsR, if_neg hn]
  simp only [Int.toNat_natCast]
  rw [e1, e2, e3, r1, r2, r3]
  have hih := ih (bitsN (tB - TB.c sB) (TB.b sB).toNat ++ bitsN (tM - TM.c sM) (TM.b sM).toNat ++ bitsN (tL - TL.c sL) (TL.b sL).toNat ++ extB TL TB TM r sL sB sM ++ rest) (ls ++ [(r.1, r.2.1, r.2.2)])
   (p - (ofB (TB.a sB)).2 - (ofM (TM.a sM)).2 - (ofL (TL.a sL)).2 - TL.b sL - TM.b sM - TB.b sB) (fun b hb => hbit b (by simp only [List.mem_append] at hb ⊢; rcases hb with (((hb | hb) | hb) | hb) | hb <;> simp [hb])) (by omega)
  have eq : pack (bits ++ (bitsN (tB - TB.c sB) (TB.b sB).toNat ++ bitsN (tM - TM.c sM) (TM.b sM).toNat ++ bitsN (tL - TL.c sL) (TL.b sL).toNat ++ extB TL TB TM r sL sB sM ++ rest)) = q := by
   rw [hq]; simp only [List.append_assoc]
  rw [eq] at hih
  rw [show TL.c sL + (tL - TL.c sL) = tL by omega, show TM.c sM + (tM - TM.c sM) = tM by omega, show TB.c sB + (tB - TB.c sB) = tB by omega, hih]
  simp
end Go.Proofs.Ytlclleihoampdaa
