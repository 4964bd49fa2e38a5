import Derived.Test.YtkkddgdcmdnnmaaA2
set_option linter.unusedVariables false
set_option linter.unusedSimpArgs false
namespace Go.Proofs.Ytkkddgdcmdnnmaa
open Go Go.Sx Go.Proofs
set_option maxRecDepth 10000
set_option maxHeartbeats 4000000
def rowN (i : Nat) : List Int := ((List.range i).map fun (n : Nat) => (n : Int)) ++ List.replicate (256 - i) 0
theorem rowN_len {i : Nat} (h : i ≤ 256) : (rowN i).length = 256 := by unfold rowN; simp; omega
theorem rowN_zero : rowN 0 = List.replicate 256 0 := by unfold rowN; rfl
theorem rowN_end : rowN 256 = row0 := by unfold rowN row0; simp
theorem rowN_set {i : Nat} (h : i < 256) : (rowN i).set i (i : Int) = rowN (i + 1) := by
 unfold rowN
 rw [List.set_append_right _ _ (by simp)]
 obtain ⟨m, hm⟩ : ∃ m, 256 - i = m + 1 := ⟨256 - i - 1, by omega⟩
 rw [hm, show 256 - (i + 1) = m by omega, List.replicate_succ, List.range_succ, List.map_append, List.append_assoc]
 simp
theorem mvRow_splice {row : List Int} {n : Nat} {x : Int} (hn : n < 256) (hl : row.length = 256) (hx : x = row.getD n 0) : ((row.take 1 ++ row.take n ++ row.drop (1 + n)).set 0 x) = mvRow row n := by
 unfold mvRow
 cases row with
 | nil => simp at hl
 | cons a r =>
  rw [hx]
  simp [Nat.add_comm]
theorem mvRow_ext {row rw' : List Int} {n : Nat} {x : Int} (hn : n < 256) (hl : row.length = 256) (hl2 : rw'.length = 256) (hx : x = row.getD n 0) (h1 : ∀ j, 0 < j → j ≤ n → rw'.getD j 0 = row.getD (j - 1) 0) (h2 : ∀ j, n < j → rw'.getD j 0 = row.getD j 0) :
  rw'.set 0 x = mvRow row n := by
 have e : ∀ (l : List Int) (i : Nat) (h : i < l.length), l[i] = l.getD i 0 := fun l i h => by rw [List.getD_eq_getElem?_getD, List.getElem?_eq_getElem h]; rfl
 apply List.ext_getElem
 ·rw [List.length_set, mvRow_len (by omega), hl2, hl]
 intro j hj1 hj2
 rw [List.length_set] at hj1
 rw [e, e]
 unfold mvRow
 rcases Nat.eq_zero_or_pos j with rfl | hj
 ·rw [List.getD_eq_getElem?_getD, List.getElem?_set_self (by omega), hx]; rfl
 obtain ⟨k, rfl⟩ : ∃ k, j = k + 1 := ⟨j - 1, by omega⟩
 rw [getD_set_ne (by omega), List.getD_cons_succ]
 by_cases hk : k + 1 ≤ n
 ·rw [h1 (k + 1) (by omega) hk, Nat.add_sub_cancel, List.getD_eq_getElem?_getD, List.getD_eq_getElem?_getD, List.getElem?_append_left (by simp; omega), List.getElem?_take_of_lt (by omega)]
 ·rw [h2 (k + 1) (by omega), List.getD_eq_getElem?_getD, List.getD_eq_getElem?_getD, List.getElem?_append_right (by simp; omega), List.getElem?_drop]
  congr 2
  simp
  omega
theorem move_con (l : List Int) (c cap : Nat) (hl : l.length ≤ 16384) (hm : ∀ x ∈ l, isT x) :
  Con Try.prog 36 [.slice 0 .z 1 l.length cap] [.buf 5 .u8 l c] (fun v H R => v = .tup [] ∧ R = [] ∧ H = [.buf 5 .u8 (mvS row0 l) c]) := by
 have r_len := @rowN_len
 have r_zero := rowN_zero
 have r_end := rowN_end
 have r_set := @rowN_set
 have r0l := row0_len
 have r0m := row0_mem
 have m_spl := @mvRow_splice
 have m_len := @mvRow_len
 have m_mem := @mvRow_mem
 have s_nil : ∀ row, mvS row [] = [] := fun _ => rfl
 have s_cons : ∀ row n l, mvS row (n :: l) = row.getD n.toNat 0 :: mvS (mvRow row n.toNat) l := fun _ _ _ => rfl
 have hgm : ∀ (row : List Int) (n : Nat), n < row.length → row.getD n 0 ∈ row := fun row n h => by
  rw [List.getD_eq_getElem?_getD, List.getElem?_eq_getElem h]; simp
 obtain ⟨M, hM⟩ : ∃ M, M = mvS row0 l := ⟨_, rfl⟩
 rw [← hM]
 generalize mvS = MS at *
 generalize mvRow = MR at *
 generalize rowN = RN at *
 generalize row0 = R0 at *
 refine con_gen (con_cut 1 (by simp) (con_drop (con_walk hmix fn36 ?_)))
 have hmem := hm
 clear hm
 intro vb vc vw vtoN vofN vaddN vsubN vmaxI vminI vcutN vgd vst vln vrep vsub vonto vsplice vstrEq vbyteV vnotB veqB hw qb qc qw qtoN qofN qaddN qsubN qmaxI qminI qcutN qgd qst qln qrep qsub qonto qsplice qstrEq qbyteV qnotB qeqB
 have hm := hmix; generalize Try.prog = P at *
 obtain ⟨ll, hll⟩ : ∃ ll, ll = l.length := ⟨_, rfl⟩
 rw [← hll] at hl ⊢
 have hto : ∀ i : Nat, vtoN (i : Int) = i := fun i => by simp only [qtoN, Int.toNat_natCast]
 have hadd0 : ∀ i, vaddN 0 i = i := fun i => by simp only [qaddN, Nat.zero_add]
 have hlnq : ∀ l, vln l = l.length := fun l => by rw [qln]
 have hst : ∀ L i v, vst L i v = L.set i v := fun L i v => by rw [qst]
 have hgd : ∀ l j, vgd l j = l.getD j 0 := fun l j => by rw [qgd]
 have hrep : vrep 256 0 = RN 0 := by rw [qrep]; exact r_zero.symm
 obtain ⟨lI, hlI⟩ : ∃ lI : Int, lI = ll := ⟨_, rfl⟩
 have hofn : vofN ll = lI := by rw [qofN]; exact hlI.symm
 cbv
 rw [hrep]
 refine loop_fam (α := Int × List Int) (3 :: (List.range' 8 7)) [] (fun (k, L) => [(7, .int .i64 k)]) (fun (k, L) => [(1, .ints 110 .u8 L)])
  (fun (k, L) => ∃ i : Nat, k = i ∧ i ≤ 256 ∧ L = RN i) (fun (k, L) => 256 - k.toNat) hw hm ?_ ?_
 ·refine Cv.genAt [7] [] (Cv.fold (3 :: (List.range' 8 7)) 2 [] (by exact Nat.le_refl _) (by exact Nat.le_of_ble_eq_true rfl) (by rfl) (by cbv) ?_)
  intro js
  refine ⟨(_, _), ?_, js, rfl⟩
  exact ⟨0, rfl, by decide, rfl⟩
 rintro ⟨k, L⟩ js ⟨i, hk, hi, hL⟩
 have hk : k = (i : Int) := hk
 have hti : vtoN k = i := by rw [hk]; exact hto i
 have hc1 : i < 256 → vc .lss k 256 = true := fun h => by rw [qc, lss_true]; omega
 have hc2 : ¬ i < 256 → vc .lss k 256 = false := fun h => by rw [qc, lss_false]; omega
 obtain ⟨k1, hk1⟩ : ∃ k1 : Int, k1 = ((i + 1 : Nat) : Int) := ⟨_, rfl⟩
 have ek : i < 256 → vb .add .i64 k 1 = k1 := fun h => by rw [qb, add_i64 (by omega) (by omega)]; omega
 have ew : i < 256 → vw .u8 k = k := fun h => by rw [qw]; exact wrap_u8 (by omega) (by omega)
 have hmu : i < 256 → 256 - k1.toNat < 256 - k.toNat := fun h => by omega
 have hR : i < 256 → 0 ≤ k ∧ k < ((256 : Nat) : Int) := fun h => by omega
 have hLl : L.length = 256 := by rw [hL]; exact r_len hi
 have hvL : vln L = 256 := by rw [hlnq]; exact hLl
 have hset : i < 256 → vst L i k = RN (i + 1) := fun h => by rw [hst, hL, hk]; exact r_set h
 cbv
 by_cases hlt : i < 256
 ·have hmu := hmu hlt
  rw [hc1 hlt]
  cbv
  rw [ew hlt, hti, hset hlt, ek hlt]
  refine ⟨⟨hR hlt⟩, ⟨by rw [hvL]; exact hlt⟩, ?_⟩
  refine Cv.fold (3 :: (List.range' 8 7)) 2 [] (by exact Nat.le_refl _) (by exact Nat.le_of_ble_eq_true rfl) (by rfl) (by cbv) ?_
  intro js
  refine ⟨(_, _), ?_, js, rfl⟩
  exact ⟨⟨i + 1, hk1, hlt, rfl⟩, hmu⟩
 have hi256 : i = 256 := by omega
 subst hi256
 have hL0 : L = R0 := by rw [hL]; exact r_end
 rw [hc2 hlt]
 clear hc1 hc2 ek ew hmu hR hset hrep r_len r_zero r_set
 cbv
 rw [hofn]
 refine loop_fam (α := Int × List Int × List Int) ([4, 5, 6] ++ (List.range' 18 21)) [] (fun (k, W, C) => [(17, .int .i64 k)]) (fun (k, W, C) => [(0, .buf 5 .u8 C c), (1, .ints 110 .u8 W)])
  (fun (k, W, C) => ∃ (i : Nat) (out : List Int), k = i ∧ i ≤ ll ∧ out.length = i ∧ C = out ++ l.drop i ∧ out ++ MS W (l.drop i) = M ∧ W.length = 256 ∧ ∀ x ∈ W, isT x) (fun (k, W, C) => ll - k.toNat) hw hm ?_ ?_
 ·refine Cv.genAt [17] [] (Cv.fold ([4, 5, 6] ++ (List.range' 18 21)) 2 [] (by exact Nat.le_refl _) (by exact Nat.le_of_ble_eq_true rfl) (by rfl) (by cbv) ?_)
  intro js
  refine ⟨(_, _, _), ?_, js, rfl⟩
  exact ⟨0, [], rfl, Nat.zero_le _, rfl, rfl, by rw [hL0, hM]; rfl, hLl, by rw [hL0]; exact r0m⟩
 rintro ⟨k, W, C⟩ js2 ⟨i, out, hk, hi, hout, hC, hMS, hWl, hWm⟩
 have hk : k = (i : Int) := hk
 have hlI : lI = (ll : Int) := hlI
 have hti : vtoN k = i := by rw [hk]; exact hto i
 have hc1 : i < ll → vc .lss k lI = true := fun h => by rw [qc, lss_true]; omega
 have hc2 : ¬ i < ll → vc .lss k lI = false := fun h => by rw [qc, lss_false]; omega
 obtain ⟨k1, hk1⟩ : ∃ k1 : Int, k1 = ((i + 1 : Nat) : Int) := ⟨_, rfl⟩
 have ek : i < ll → vb .add .i64 k 1 = k1 := fun h => by rw [qb, add_i64 (by omega) (by omega)]; omega
 have hmu : i < ll → ll - k1.toNat < ll - k.toNat := fun h => by omega
 have hR : i < ll → 0 ≤ k ∧ k < ((ll : Nat) : Int) := fun h => by omega
 have hCl : C.length = ll := by rw [hC]; simp; omega
 have hvC : vln C = ll := by rw [hlnq]; exact hCl
 cbv
 by_cases hlt : i < ll
 ·have hd : l.drop i = l.getD i 0 :: l.drop (i + 1) := by
   rw [List.drop_eq_getElem_cons (by omega), List.getD_eq_getElem?_getD, List.getElem?_eq_getElem (by omega)]; rfl
  have hmu := hmu hlt
  have hR := hR hlt
  obtain ⟨n, hn⟩ : ∃ n, n = l.getD i 0 := ⟨_, rfl⟩
  have hnT : isT n := hmem n (by rw [hn]; exact hgm l i (by omega))
  rw [← hn] at hd
  have hCg : vgd C i = n := by
   rw [hgd, hC, hd, List.getD_eq_getElem?_getD, List.getElem?_append_right (by omega), hout, Nat.sub_self]; rfl
  obtain ⟨nN, hnN⟩ : ∃ nN : Nat, nN = n.toNat := ⟨_, rfl⟩
  have htn : vtoN n = nN := by rw [qtoN, hnN]
  have hn0 : 0 ≤ n ∧ n < 256 := hnT
  have hnb : nN < 256 := by omega
  have hnR : 0 ≤ n ∧ n < ((256 : Nat) : Int) := by omega
  have ewn : vw .i64 n = n := by rw [qw]; exact wrap_i64 (by omega) (by omega)
  obtain ⟨n1, hn1⟩ : ∃ n1 : Int, n1 = n + 1 := ⟨_, rfl⟩
  have en1 : vb .add .i64 n 1 = n1 := by rw [qb, add_i64 (by omega) (by omega)]; exact hn1.symm
  have htn1 : vtoN n1 = nN + 1 := by rw [qtoN]; show n1.toNat = nN + 1; omega
  obtain ⟨x, hx⟩ : ∃ x, x = W.getD nN 0 := ⟨_, rfl⟩
  have hWg : vgd W nN = x := by rw [hgd, hx]
  have hxT : isT x := hWm x (by rw [hx]; exact hgm W nN (by omega))
  have hsubN : vsubN (nN + 1) 1 = nN := by rw [qsubN]; simp
  have hcut : vcutN 0 1 256 = 1 := by rw [qcutN]; rfl
  have hmin : vminI (vofN nN) (vofN nN) = vofN nN := by rw [qminI]; simp
  have htof : vtoN (vofN nN) = nN := by rw [qofN]; exact hto nN
  obtain ⟨W1, hW1⟩ : ∃ W1, W1 = W.take 1 ++ W.take nN ++ W.drop (1 + nN) := ⟨_, rfl⟩
  have htk : (W.take nN).length = nN := by simp; omega
  have hspl : vsplice W 1 (vsub (vsub W 0 nN) 0 nN) = W1 := by
   rw [qsplice, qsub, hW1]
   simp only [List.drop_zero, List.take_take, Nat.min_self, htk]
  obtain ⟨W2, hW2⟩ : ∃ W2, W2 = MR W nN := ⟨_, rfl⟩
  have hsW : vst W1 0 x = W2 := by rw [hst, hW1, hW2]; exact m_spl hnb hWl hx
  have hvW : vln W = 256 := by rw [hlnq]; exact hWl
  have hvW1 : vln W1 = 256 := by rw [hlnq, hW1]; simp; omega
  obtain ⟨C2, hC2⟩ : ∃ C2, C2 = out ++ [x] ++ l.drop (i + 1) := ⟨_, rfl⟩
  have hsC : vst C i x = C2 := by
   rw [hst, hC, hC2, hd, List.set_append_right _ _ (by omega), hout, Nat.sub_self, List.append_assoc]; rfl
  have hn1R : 0 ≤ n1 ∧ n1 ≤ ((256 : Nat) : Int) := by omega
  have h1R : 0 ≤ (1 : Int) ∧ (1 : Int) ≤ ((nN + 1 : Nat) : Int) := by omega
  have hnC : 0 ≤ n ∧ n ≤ ((256 : Nat) : Int) := by omega
  have haddn : vaddN 1 nN = 1 + nN := by rw [qaddN]
  have hnb1 : 1 + nN ≤ 256 := by omega
  have hout2 : (out ++ [x]).length = i + 1 := by simp [hout]
  have hMS2 : out ++ [x] ++ MS W2 (l.drop (i + 1)) = M := by
   rw [← hMS, hd, s_cons, ← hnN, ← hx, ← hW2, List.append_assoc]; rfl
  have hW2l : W2.length = 256 := by rw [hW2, m_len (row := W) (n := nN) (by omega)]; exact hWl
  have hW2m : ∀ y ∈ W2, isT y := fun y hy => hWm y (m_mem (row := W) (n := nN) (by omega) (by rw [← hW2]; exact hy))
  rw [hc1 hlt]
  cbv
  rw [hti, hadd0, hCg, htn, hWg, ewn, en1, htn1, hsubN, hcut, hmin, htof, hspl, hsW, hsC, ek hlt]
  refine ⟨⟨hR⟩, ⟨by rw [hvC]; exact hlt⟩, ⟨by rw [hvC]; exact hlt⟩, ⟨hnR⟩, ⟨by rw [hvW]; exact hnb⟩, ⟨hn1R⟩, ⟨h1R⟩, ⟨hnC⟩, ⟨by rw [hadd0, hvW]; exact Nat.le_of_lt hnb⟩, ⟨by rw [haddn, hvW]; exact hnb1⟩, ⟨by decide⟩, ⟨by rw [hvW1]; decide⟩, ⟨hR⟩, ⟨by rw [hvC]; exact hlt⟩, ⟨by rw [hvC]; exact hlt⟩, ?_⟩
  refine Cv.fold ([4, 5, 6] ++ (List.range' 18 21)) 2 [] (by exact Nat.le_refl _) (by exact Nat.le_of_ble_eq_true rfl) (by rfl) (by cbv) ?_
  intro js
  refine ⟨(_, _, _), ?_, js, rfl⟩
  exact ⟨⟨i + 1, out ++ [x], hk1, hlt, hout2, hC2, hMS2, hW2l, hW2m⟩, hmu⟩
 rw [hc2 hlt]
 have hdn : l.drop i = [] := List.drop_eq_nil_of_le (by rw [← hll]; omega)
 have hCM : C = M := by rw [hC, ← hMS, hdn, s_nil]
 subst hCM
 cbv
theorem moved_con (l : List Int) (cap : Nat) (hl : l.length ≤ 16384) (hm : ∀ x ∈ l, isT x) (hl0 : 0 < l.length) :
  Con Try.prog 52 [.slice 0 .z 1 l.length cap] [.ro .u8 l] (fun v H R => ∃ c, v = .slice 1 .z 1 l.length c ∧ R = [] ∧ H = [.ro .u8 l, .buf 5 .u8 (mvS row0 l) c]) := by
 have r_len := @rowN_len
 have r_zero := rowN_zero
 have r_end := rowN_end
 have r_set := @rowN_set
 have r0l := row0_len
 have r0m := row0_mem
 have m_ext := @mvRow_ext
 have m_len := @mvRow_len
 have m_mem := @mvRow_mem
 have s_nil : ∀ row, mvS row [] = [] := fun _ => rfl
 have s_cons : ∀ row n l, mvS row (n :: l) = row.getD n.toNat 0 :: mvS (mvRow row n.toNat) l := fun _ _ _ => rfl
 have hgm : ∀ (row : List Int) (n : Nat), n < row.length → row.getD n 0 ∈ row := fun row n h => by
  rw [List.getD_eq_getElem?_getD, List.getElem?_eq_getElem h]; simp
 have gset_ne := @getD_set_ne
 have gset_eq : ∀ (l : List Int) (i : Nat) (x : Int), i < l.length → (l.set i x).getD i 0 = x := fun l i x h => by
  rw [List.getD_eq_getElem?_getD, List.getElem?_set_self h]; rfl
 obtain ⟨M, hM⟩ : ∃ M, M = mvS row0 l := ⟨_, rfl⟩
 have hMl : M.length = l.length := by rw [hM]; exact mvS_len _ _
 rw [← hM]
 generalize mvS = MS at *
 generalize mvRow = MR at *
 generalize rowN = RN at *
 generalize row0 = R0 at *
 refine con_gen (con_picks (con_drop (con_walk hmix fn52 ?_)))
 have hmem := hm
 clear hm
 intro vb vc vw vtoN vofN vaddN vsubN vmaxI vminI vcutN vgd vst vln vrep vsub vonto vsplice vstrEq vbyteV vnotB veqB hw qb qc qw qtoN qofN qaddN qsubN qmaxI qminI qcutN qgd qst qln qrep qsub qonto qsplice qstrEq qbyteV qnotB qeqB
 have hm := hmix; generalize Try.prog = P at *
 obtain ⟨ll, hll⟩ : ∃ ll, ll = l.length := ⟨_, rfl⟩
 rw [← hll] at hl hMl hl0 ⊢
 have hto : ∀ i : Nat, vtoN (i : Int) = i := fun i => by simp only [qtoN, Int.toNat_natCast]
 have hadd0 : ∀ i, vaddN 0 i = i := fun i => by simp only [qaddN, Nat.zero_add]
 have hlnq : ∀ l, vln l = l.length := fun l => by rw [qln]
 have hst : ∀ L i v, vst L i v = L.set i v := fun L i v => by rw [qst]
 have hgd : ∀ l j, vgd l j = l.getD j 0 := fun l j => by rw [qgd]
 have ht256 : vtoN 256 = 256 := hto 256
 have hrep : vrep 256 0 = RN 0 := by rw [qrep]; exact r_zero.symm
 obtain ⟨lI, hlI⟩ : ∃ lI : Int, lI = ll := ⟨_, rfl⟩
 have hofn : vofN ll = lI := by rw [qofN]; exact hlI.symm
 have hvl : vln l = ll := by rw [hlnq]; exact hll.symm
 cbv
 rw [ht256, hrep]
 refine ⟨⟨by decide⟩, ⟨by decide⟩, ⟨by decide⟩, ⟨by decide⟩, ?_⟩
 refine loop_fam (α := Int × List Int) ((List.range' 10 9)) [] (fun (k, L) => [(4, .int .i64 k)]) (fun (k, L) => [(1, .ints 5 .u8 L)])
  (fun (k, L) => ∃ i : Nat, k = i ∧ i ≤ 256 ∧ L = RN i) (fun (k, L) => 256 - k.toNat) hw hm ?_ ?_
 ·refine Cv.genAt [4] [] (Cv.fold ((List.range' 10 9)) 2 [] (by exact Nat.le_refl _) (by exact Nat.le_of_ble_eq_true rfl) (by rfl) (by cbv) ?_)
  intro js
  refine ⟨(_, _), ?_, js, rfl⟩
  exact ⟨0, rfl, by decide, rfl⟩
 rintro ⟨k, L⟩ js ⟨i, hk, hi, hL⟩
 have hk : k = (i : Int) := hk
 have hti : vtoN k = i := by rw [hk]; exact hto i
 have hc1 : i < 256 → vc .lss k 256 = true := fun h => by rw [qc, lss_true]; omega
 have hc2 : ¬ i < 256 → vc .lss k 256 = false := fun h => by rw [qc, lss_false]; omega
 obtain ⟨k1, hk1⟩ : ∃ k1 : Int, k1 = ((i + 1 : Nat) : Int) := ⟨_, rfl⟩
 have ek : i < 256 → vb .add .i64 k 1 = k1 := fun h => by rw [qb, add_i64 (by omega) (by omega)]; omega
 have ew : i < 256 → vw .u8 k = k := fun h => by rw [qw]; exact wrap_u8 (by omega) (by omega)
 have hmu : i < 256 → 256 - k1.toNat < 256 - k.toNat := fun h => by omega
 have hR : i < 256 → 0 ≤ k ∧ k < ((256 : Nat) : Int) := fun h => by omega
 have hLl : L.length = 256 := by rw [hL]; exact r_len hi
 have hvL : vln L = 256 := by rw [hlnq]; exact hLl
 have hset : i < 256 → vst L i k = RN (i + 1) := fun h => by rw [hst, hL, hk]; exact r_set h
 cbv
 by_cases hlt : i < 256
 ·have hmu := hmu hlt
  rw [hc1 hlt]
  cbv
  rw [ew hlt, hti, hset hlt, ek hlt]
  refine ⟨⟨hR hlt⟩, ⟨by rw [hvL]; exact hlt⟩, ?_⟩
  refine Cv.fold ((List.range' 10 9)) 2 [] (by exact Nat.le_refl _) (by exact Nat.le_of_ble_eq_true rfl) (by rfl) (by cbv) ?_
  intro js
  refine ⟨(_, _), ?_, js, rfl⟩
  exact ⟨⟨i + 1, hk1, hlt, rfl⟩, hmu⟩
 have hi256 : i = 256 := by omega
 subst hi256
 have hL0 : L = R0 := by rw [hL]; exact r_end
 rw [hc2 hlt]
 clear hc1 hc2 ek ew hmu hR hset hrep r_len r_zero r_set
 cbv
 refine WX.cv (Cv.nilT 5 5 .u8 (by rfl) (by cbv) (Cv.here ?_))
 refine loop_fam (α := Int × List Int × List Int × Nat × Nat) (7 :: 8 :: ((List.range' 19 22) ++ (List.range' 41 15))) [2] (fun (k, W, C, rl, c) => [(6, .int .i64 k), (5, .slice 2 .z 1 rl c)]) (fun (k, W, C, rl, c) => [(1, .ints 5 .u8 W), (2, .buf 5 .u8 C c)])
  (fun (k, W, C, rl, c) => ∃ (i : Nat), k = i ∧ i ≤ ll ∧ rl = C.length ∧ C.length = i ∧ rl ≤ c ∧ C ++ MS W (l.drop i) = M ∧ W.length = 256 ∧ ∀ x ∈ W, isT x) (fun (k, W, C, rl, c) => ll - k.toNat) hw hm ?_ ?_
 ·refine Cv.genAt [6] [] (Cv.fold (7 :: 8 :: ((List.range' 19 22) ++ (List.range' 41 15))) 3 [2] (by exact Nat.le_refl _) (by exact Nat.le_of_ble_eq_true rfl) (by rfl) (by cbv) ?_)
  intro js
  refine ⟨(_, _, _, _, _), ?_, js, rfl⟩
  exact ⟨0, rfl, Nat.zero_le _, rfl, rfl, Nat.le_refl _, by rw [hL0, hM]; rfl, hLl, by rw [hL0]; exact r0m⟩
 rintro ⟨k, W, C, rl, c⟩ js2 ⟨i, hk, hi, hrl, hCl, hrc, hMS, hWl, hWm⟩
 have hk : k = (i : Int) := hk
 have hlI : lI = (ll : Int) := hlI
 have hti : vtoN k = i := by rw [hk]; exact hto i
 have hc1 : i < ll → vc .lss k lI = true := fun h => by rw [qc, lss_true]; omega
 have hc2 : ¬ i < ll → vc .lss k lI = false := fun h => by rw [qc, lss_false]; omega
 obtain ⟨k1, hk1⟩ : ∃ k1 : Int, k1 = ((i + 1 : Nat) : Int) := ⟨_, rfl⟩
 have ek : i < ll → vb .add .i64 k 1 = k1 := fun h => by rw [qb, add_i64 (by omega) (by omega)]; omega
 have hmu : i < ll → ll - k1.toNat < ll - k.toNat := fun h => by omega
 have hR : i < ll → 0 ≤ k ∧ k < ((ll : Nat) : Int) := fun h => by omega
 cbv
 rw [hofn]
 by_cases hlt : i < ll
 ·have hd : l.drop i = l.getD i 0 :: l.drop (i + 1) := by
   rw [List.drop_eq_getElem_cons (by omega), List.getD_eq_getElem?_getD, List.getElem?_eq_getElem (by omega)]; rfl
  have hmu := hmu hlt
  have hR := hR hlt
  obtain ⟨n, hn⟩ : ∃ n, n = l.getD i 0 := ⟨_, rfl⟩
  have hnT : isT n := hmem n (by rw [hn]; exact hgm l i (by omega))
  rw [← hn] at hd
  have hlg : vgd l i = n := by rw [hgd, hn]
  obtain ⟨nN, hnN⟩ : ∃ nN : Nat, nN = n.toNat := ⟨_, rfl⟩
  have htn : vtoN n = nN := by rw [qtoN, hnN]
  have hn0 : 0 ≤ n ∧ n < 256 := hnT
  have hnn : n = (nN : Int) := by omega
  have hnb : nN < 256 := by omega
  have hnR : 0 ≤ n ∧ n < ((256 : Nat) : Int) := by omega
  have ewn : vw .i64 n = n := by rw [qw]; exact wrap_i64 (by omega) (by omega)
  obtain ⟨x, hx⟩ : ∃ x, x = W.getD nN 0 := ⟨_, rfl⟩
  have hWg : vgd W nN = x := by rw [hgd, hx]
  have hvW : vln W = 256 := by rw [hlnq]; exact hWl
  have hsub : vsub [x] 0 1 = [x] := by simp only [qsub]; rfl
  have honto : vonto C rl [x] = C ++ [x] := by rw [qonto, hrl]; simp
  have ha1 : vaddN rl 1 = rl + 1 := by simp only [qaddN]
  have ha01 : vaddN 0 1 = 1 := by simp only [qaddN]
  have hln1 : vln [x] = 1 := by rw [hlnq]; rfl
  have hvC : vln C = rl := by rw [hlnq, hrl]
  obtain ⟨C2, hC2⟩ : ∃ C2, C2 = C ++ [x] := ⟨_, rfl⟩
  rw [← hC2] at honto
  obtain ⟨rl2, hrl2⟩ : ∃ rl2, rl2 = rl + 1 := ⟨_, rfl⟩
  rw [← hrl2] at ha1
  have hC2l : C2.length = i + 1 := by rw [hC2]; simp [hCl]
  have hrl2C : rl2 = C2.length := by omega
  obtain ⟨W2, hW2⟩ : ∃ W2, W2 = MR W nN := ⟨_, rfl⟩
  have hMS2 : C2 ++ MS W2 (l.drop (i + 1)) = M := by
   rw [← hMS, hd, s_cons, ← hnN, ← hx, ← hW2, hC2, List.append_assoc]; rfl
  have hW2l : W2.length = 256 := by rw [hW2, m_len (row := W) (n := nN) (by omega)]; exact hWl
  have hW2m : ∀ y ∈ W2, isT y := fun y hy => hWm y (m_mem (row := W) (n := nN) (by omega) (by rw [← hW2]; exact hy))
  have hfit : rl2 ≤ 140737488355328 := by omega
  have ek := ek hlt
  rw [hc1 hlt]
  cbv
  rw [hti, hadd0, hlg, htn, hWg]
  refine ⟨⟨hR⟩, ⟨by rw [hvl]; exact hlt⟩, ⟨by rw [hvl]; exact hlt⟩, ⟨hnR⟩, ⟨by rw [hvW]; exact hnb⟩, ⟨by rw [ha01, hln1]; exact Nat.le_refl _⟩, ⟨by rw [hvC]; exact Nat.le_refl _⟩, ⟨Nat.le_refl _⟩, ⟨by rw [ha1]; omega⟩, ?_⟩
  intro c2 js5 hc2'
  have hc3 : vaddN rl 1 ≤ c2 := hc2'.1
  rw [ha1] at hc3
  cbv
  rw [hti, hadd0, hlg, ewn, hsub, honto, ha1]
  refine ⟨⟨hR⟩, ⟨by rw [hvl]; exact hlt⟩, ⟨by rw [hvl]; exact hlt⟩, ?_⟩
  refine loop_fam (α := Int × List Int) ((List.range' 41 12)) [2] (fun (k2, V) => [(8, .int .i64 k2)]) (fun (k2, V) => [(1, .ints 5 .u8 V)])
   (fun (k2, V) => ∃ (j : Nat), k2 = j ∧ j ≤ nN ∧ V.length = 256 ∧ (∀ t, t ≤ j → V.getD t 0 = W.getD t 0) ∧ (∀ t, j < t → t ≤ nN → V.getD t 0 = W.getD (t - 1) 0) ∧ (∀ t, nN < t → V.getD t 0 = W.getD t 0)) (fun (k2, V) => k2.toNat) hw hm ?_ ?_
  ·refine Cv.genAt [8] [] (Cv.fold ((List.range' 41 12)) 4 [2] (by exact Nat.le_refl _) (by exact Nat.le_of_ble_eq_true rfl) (by rfl) (by cbv) ?_)
   intro js
   refine ⟨(_, _), ?_, js, rfl⟩
   exact ⟨nN, hnn, Nat.le_refl _, hWl, fun t _ => rfl, fun t h1 h2 => absurd h1 (by omega), fun t _ => rfl⟩
  rintro ⟨k2, V⟩ js6 ⟨j, hk2, hj, hVl, hV1, hV2, hV3⟩
  have hk2 : k2 = (j : Int) := hk2
  have htj : vtoN k2 = j := by rw [hk2]; exact hto j
  have hd1 : 0 < j → vc .gtr k2 0 = true := fun h => by rw [qc, gtr_true]; omega
  have hd2 : ¬ 0 < j → vc .gtr k2 0 = false := fun h => by rw [qc, gtr_false]; omega
  obtain ⟨k3, hk3⟩ : ∃ k3 : Int, k3 = k2 - 1 := ⟨_, rfl⟩
  have ek3 : vb .sub .i64 k2 1 = k3 := by rw [qb, sub_i64 (by omega) (by omega)]; exact hk3.symm
  have hk3j : 0 < j → k3 = ((j - 1 : Nat) : Int) := fun h => by omega
  have htj3 : 0 < j → vtoN k3 = j - 1 := fun h => by rw [hk3j h]; exact hto _
  have hmu2 : 0 < j → k3.toNat < k2.toNat := fun h => by omega
  have hR2 : 0 < j → 0 ≤ k2 ∧ k2 < ((256 : Nat) : Int) := fun h => by omega
  have hR3 : 0 < j → 0 ≤ k3 ∧ k3 < ((256 : Nat) : Int) := fun h => by omega
  have hvV : vln V = 256 := by rw [hlnq]; exact hVl
  cbv
  by_cases hj0 : 0 < j
  ·obtain ⟨j3, hj3⟩ : ∃ j3, j3 = j - 1 := ⟨_, rfl⟩
   obtain ⟨y, hy⟩ : ∃ y, y = V.getD j3 0 := ⟨_, rfl⟩
   have hVg : vgd V j3 = y := by rw [hgd, hy]
   obtain ⟨V2, hV2'⟩ : ∃ V2, V2 = V.set j y := ⟨_, rfl⟩
   have hsV : vst V j y = V2 := by rw [hst, hV2']
   have htj3 := htj3 hj0
   rw [← hj3] at htj3
   have hk3j := hk3j hj0
   rw [← hj3] at hk3j
   have hmu2 := hmu2 hj0
   have a1 : ∀ t, t ≤ j3 → V2.getD t 0 = W.getD t 0 := fun t ht => by
    rw [hV2', gset_ne (by omega)]; exact hV1 t (by omega)
   have a2 : ∀ t, j3 < t → t ≤ nN → V2.getD t 0 = W.getD (t - 1) 0 := fun t h1 h2 => by
    rcases Nat.lt_or_ge j t with h | h
    ·rw [hV2', gset_ne (by omega)]; exact hV2 t h h2
    ·have : t = j := by omega
     subst this
     rw [hV2', gset_eq _ _ _ (by omega), hy, hV1 _ (by omega), hj3]
   have a3 : ∀ t, nN < t → V2.getD t 0 = W.getD t 0 := fun t h => by
    rw [hV2', gset_ne (by omega)]; exact hV3 t h
   have hV2l : V2.length = 256 := by rw [hV2', List.length_set]; exact hVl
   have hj3n : j3 ≤ nN := by omega
   rw [hd1 hj0]
   cbv
   rw [ek3, htj3, htj, hVg, hsV]
   refine ⟨⟨hR3 hj0⟩, ⟨by rw [hvV]; omega⟩, ⟨hR2 hj0⟩, ⟨by rw [hvV]; omega⟩, ?_⟩
   refine Cv.fold ((List.range' 41 12)) 4 [2] (by exact Nat.le_refl _) (by exact Nat.le_of_ble_eq_true rfl) (by rfl) (by cbv) ?_
   intro js
   refine ⟨(_, _), ?_, js, rfl⟩
   exact ⟨⟨j3, hk3j, hj3n, hV2l, a1, a2, a3⟩, hmu2⟩
  ·have hj00 : j = 0 := by omega
   have hsW : vst V 0 x = W2 := by
    rw [hst, hW2]
    exact m_ext hnb hWl hVl hx (fun t h1 h2 => hV2 t (by omega) h2) hV3
   rw [hd2 hj0]
   cbv
   rw [hsW, ek]
   refine ⟨⟨by decide⟩, ⟨by rw [hvV]; decide⟩, ?_⟩
   refine Cv.fold (7 :: 8 :: ((List.range' 19 22) ++ (List.range' 41 15))) 3 [2] (by exact Nat.le_refl _) (by exact Nat.le_of_ble_eq_true rfl) (by rfl) (by cbv) ?_
   intro js
   refine ⟨(_, _, _, _, _), ?_, js, rfl⟩
   exact ⟨⟨i + 1, hk1, hlt, hrl2C, hC2l, hc3, hMS2, hW2l, hW2m⟩, hmu⟩
 rw [hc2 hlt]
 have hdn : l.drop i = [] := List.drop_eq_nil_of_le (by rw [← hll]; omega)
 have hCM : C = M := by rw [← hMS, hdn, s_nil, List.append_nil]
 have hrll : rl = ll := by rw [hrl, hCM]; exact hMl
 cbv
 subst hCM
 subst hrll
 exact ⟨[0, 2], .slice 1 .z 1 rl c, [.ro .u8 l, .buf 5 .u8 C c], rfl, rfl, rfl, rfl, ⟨rfl, rfl, trivial⟩, c, rfl, rfl, rfl⟩
end Go.Proofs.Ytkkddgdcmdnnmaa
namespace Go.Proofs.Ytkkddgdcmdnnmaa
open Go Go.Sx Go.Proofs
set_option maxRecDepth 10000
def rasg26 : XC := .seq (.ops [⟨(some 7), .mv (.t 25), none, []⟩])
    (.ops [⟨(some 8), .mv (.t 26), none, []⟩])
def rbody26 : XC := .block 1 (.seq (.ops [⟨(some 27), .fadr 0 (.t 5), none, []⟩,
      ⟨(some 28), .load1 (.t 27), none, []⟩,
      ⟨(some 29), .len (.t 28), none, []⟩,
      ⟨(some 30), .mv (.t 8), none, []⟩,
      ⟨(some 31), .bin .add .i64 (.t 29) (.t 30), none, []⟩,
      ⟨(some 32), .load1 (.t 1), none, []⟩,
      ⟨(some 33), .cmp .leq (.t 31) (.t 32), none, []⟩,
      ⟨(some 34), .call (.k (.fn 31 [])) [(.t 33)], none, []⟩])
    (.seq (.seq (.ops [⟨(some 35), .mv (.t 8), none, []⟩,
      ⟨(some 36), .mv (.k (.lit .i64 0)), none, []⟩])
    (.block 2 (.loop (.seq (.ops [⟨(some 37), .cmp .lss (.t 36) (.t 35), none, []⟩])
    (.seq (.cond (.t 37) (.skip) (.exit 2))
    (.seq (.block 3 (.seq (.ops [⟨(some 38), .fadr 0 (.t 5), none, []⟩,
      ⟨(some 39), .load1 (.t 38), none, []⟩,
      ⟨(some 40), .mv (.t 7), none, []⟩,
      ⟨(some 41), .bsliceI 5 .u8 1 [⟨0, 1, (.t 40)⟩], none, []⟩,
      ⟨(some 42), .appI 5 .u8 1 (.t 39) (.t 41), none, []⟩,
      ⟨(some 43), .fadr 0 (.t 5), none, []⟩,
      ⟨none, .store1 (.t 43) (.t 42), none, []⟩])
    (.seq (.ops [⟨(some 44), .mv (.t 7), none, []⟩,
      ⟨(some 45), .cmp .gtr (.t 44) (.k (.lit .u8 0)), none, []⟩])
    (.cond (.t 45) (.ops [⟨(some 46), .load1 (.t 6), none, []⟩,
      ⟨(some 47), .mv (.t 7), none, []⟩,
      ⟨(some 48), .bin .sub .u8 (.k (.lit .u8 15)) (.t 47), none, []⟩,
      ⟨(some 49), .conv .u64 (.t 48), none, []⟩,
      ⟨(some 50), .bin .shl .i64 (.k (.lit .i64 1)) (.t 49), none, []⟩,
      ⟨(some 51), .bin .sub .i64 (.t 46) (.t 50), none, []⟩,
      ⟨none, .store1 (.t 6) (.t 51), none, []⟩]) (.skip)))))
    (.ops [⟨(some 52), .bin .add .i64 (.t 36) (.k (.lit .i64 1)), none, []⟩,
      ⟨(some 36), .mv (.t 52), none, []⟩])))))))
    (.seq (.ops [⟨(some 53), .load1 (.t 6), none, []⟩,
      ⟨(some 54), .cmp .leq (.t 53) (.k (.lit .i64 0)), none, []⟩,
      ⟨(some 55), .mv (.t 54), none, []⟩,
      ⟨(some 56), .fadr 0 (.t 5), some (55, false), []⟩,
      ⟨(some 57), .load1 (.t 56), some (55, false), []⟩,
      ⟨(some 58), .len (.t 57), some (55, false), []⟩,
      ⟨(some 59), .load1 (.t 1), some (55, false), []⟩,
      ⟨(some 60), .cmp .eql (.t 58) (.t 59), some (55, false), []⟩,
      ⟨(some 61), .pick (.t 55) (.k (.bool true)) (.t 60), none, []⟩])
    (.cond (.t 61) (.exit 0) (.skip)))))
theorem withWords {G : Prop} (h : ∀ vb vc vw vtoN vofN vaddN vsubN vmaxI vminI vcutN vgd vst vln vrep vsub vonto vsplice vstrEq vbyteV vnotB veqB,
    Words ⟨vb, vc, vw, vtoN, vofN, vaddN, vsubN, vmaxI, vminI, vcutN, vgd, vst, vln, vrep, vsub, vonto, vsplice, vstrEq, vbyteV, vnotB, veqB⟩ →
    vb = bV → vc = cV → (vw = fun k x => k.wrap x) → (vtoN = fun n => n.toNat) → (vofN = fun (n : Nat) => (n : Int)) → (vaddN = fun a b => a + b) → (vsubN = fun a b => a - b) → (vmaxI = fun x y => if y > x then y else x) →
    (vminI = fun x y => if y < x then y else x) → (vcutN = fun i l m => if m = l then i else i + l) → (vgd = fun l n => l.getD n 0) → (vst = fun l n v => l.set n v) → (vln = fun l => l.length) → (vrep = fun n v => List.replicate n v) →
    (vsub = fun l i n => (l.drop i).take n) → (vonto = fun l n xs => l.take n ++ xs) → (vsplice = fun l i xs => l.take i ++ xs ++ l.drop (i + xs.length)) →
    (vstrEq = fun a b => a.map (fun n => UInt8.ofNat n.toNat) == b.map (fun n => UInt8.ofNat n.toNat)) → (vbyteV = fun n => ((UInt8.ofNat n.toNat).toNat : Int)) → (vnotB = fun b => !b) → (veqB = fun a b => a == b) → G) : G :=
  h _ _ _ _ _ _ _ _ _ _ _ _ _ _ _ _ _ _ _ _ _ words rfl rfl rfl rfl rfl rfl rfl rfl rfl rfl rfl rfl rfl rfl rfl rfl rfl rfl rfl rfl rfl
end Go.Proofs.Ytkkddgdcmdnnmaa
namespace Go.Proofs.Ytkkddgdcmdnnmaa
open Go Go.Sx Go.Proofs
set_option maxRecDepth 10000
set_option maxHeartbeats 4000000
theorem body26_one (js0 : Nat → Value) (T : List SV) (b : List Int) (bl cap : Nat) (acc hv ai size sk : Int) (one : Int) (lens : List Int) (rl cl : Nat) (left l m : Int) (hT : scL 15 T = true) (hm1 : 1 ≤ m) (hm2 : m ≤ 1000000) (hlr : 0 ≤ l ∧ l ≤ 15) (hrl : rl = lens.length) (hrc : rl ≤ cl) (hrs : (rl : Int) < size) (hsz : size ≤ 1024) (hleft : 0 < left ∧ left ≤ 32768) :
    YieldX Try.prog 14 [.int .u8 l, .int .i64 m] { t := T, h := [.one 33 [.ptr 2 .z 4 0], .one 3 [.int .i64 size], (.one 81 [.fn 39 [.ptr 3 .z 1 0, .ptr 4 .z 1 0], .int .u64 acc, .int .i64 hv, .fn 40 [.ptr 4 .z 1 0, .ptr 3 .z 1 0]]), .one 3 [.int .i64 ai], .one 22 [.slice 5 .z 1 bl cap], .ro .u8 b, .one 24 [.val (.slice none 0 0), .lit .i64 0], .one 24 [.val (.slice none 0 0), .int .i64 one], .buf 5 .u8 lens cl, .one 24 [.slice 8 .z 1 rl cl, .lit .i64 0], .one 3 [.int .i64 left], .one 33 [.ptr 2 .z 4 0], .one 24 [.val (.slice none 0 0), .int .i64 one], .defd, .loop .ready none (.ptr 0 .z 1 0 :: .ptr 1 .z 1 0 :: .ptr 6 .z 2 0 :: .int .i64 sk :: .ptr 7 .z 2 0 :: .ptr 9 .z 2 0 :: .ptr 10 .z 1 0 :: .undef :: .undef :: .val (js0 9) :: .val (js0 10) :: .val (js0 11) :: .val (js0 12) :: .val (js0 13) :: .val (js0 14) :: .val (js0 15) :: .val (js0 16) :: .val (js0 17) :: .val (js0 18) :: .val (js0 19) :: .val (js0 20) :: .val (js0 21) :: .val (js0 22) :: .val (js0 23) :: .fn 58 [.ptr 11 .z 1 0, .ptr 12 .z 2 0] :: .undef :: .undef :: .undef :: .undef :: .undef :: .undef :: .undef :: .undef :: .undef :: .undef :: .undef :: .undef :: .undef :: .undef :: .undef :: .undef :: .undef :: .undef :: .undef :: .undef :: .undef :: .undef :: .undef :: .undef :: .undef :: .undef :: .undef :: .undef :: .undef :: .undef :: .undef :: .undef :: .undef :: .undef :: .undef :: .undef :: .undef :: .undef :: .undef :: .undef :: .undef :: .undef :: .undef :: .undef :: .undef :: .undef :: .undef :: .undef :: .undef :: .undef :: []) [25, 26] rasg26 rbody26], r := [8], d := [], rd := none }
      (fun v s' => ∃ (rl2 cl2 : Nat) (lens2 : List Int) (left2 : Int) (js2 : Nat → Value), lens2 = lens ++ List.replicate m.toNat l ∧ rl2 = lens2.length ∧ rl2 ≤ cl2 ∧ left2 = left - m * pw l ∧ (rl2 : Int) ≤ size ∧ (rl2 : Int) = rl + m ∧
        ((v = .bool true ∧ ¬ (left2 ≤ 0 ∨ (rl2 : Int) = size) ∧ s' = { t := scrL [8] js2 0 T, h := [.one 33 [.ptr 2 .z 4 0], .one 3 [.int .i64 size], (.one 81 [.fn 39 [.ptr 3 .z 1 0, .ptr 4 .z 1 0], .int .u64 acc, .int .i64 hv, .fn 40 [.ptr 4 .z 1 0, .ptr 3 .z 1 0]]), .one 3 [.int .i64 ai], .one 22 [.slice 5 .z 1 bl cap], .ro .u8 b, .one 24 [.val (.slice none 0 0), .lit .i64 0], .one 24 [.val (.slice none 0 0), .int .i64 one], .buf 5 .u8 lens2 cl2, .one 24 [.slice 8 .z 1 rl2 cl2, .lit .i64 0], .one 3 [.int .i64 left2], .one 33 [.ptr 2 .z 4 0], .one 24 [.val (.slice none 0 0), .int .i64 one], .defd, .loop .ready none (.ptr 0 .z 1 0 :: .ptr 1 .z 1 0 :: .ptr 6 .z 2 0 :: .int .i64 sk :: .ptr 7 .z 2 0 :: .ptr 9 .z 2 0 :: .ptr 10 .z 1 0 :: .undef :: .undef :: .val (js0 9) :: .val (js0 10) :: .val (js0 11) :: .val (js0 12) :: .val (js0 13) :: .val (js0 14) :: .val (js0 15) :: .val (js0 16) :: .val (js0 17) :: .val (js0 18) :: .val (js0 19) :: .val (js0 20) :: .val (js0 21) :: .val (js0 22) :: .val (js0 23) :: .fn 58 [.ptr 11 .z 1 0, .ptr 12 .z 2 0] :: .undef :: .undef :: .undef :: .undef :: .undef :: .undef :: .undef :: .undef :: .undef :: .undef :: .undef :: .undef :: .undef :: .undef :: .undef :: .undef :: .undef :: .undef :: .undef :: .undef :: .undef :: .undef :: .undef :: .undef :: .undef :: .undef :: .undef :: .undef :: .undef :: .undef :: .undef :: .undef :: .undef :: .undef :: .undef :: .undef :: .undef :: .undef :: .undef :: .undef :: .undef :: .undef :: .undef :: .undef :: .undef :: .undef :: .undef :: .undef :: .undef :: .undef :: []) [25, 26] rasg26 rbody26], r := [8], d := [], rd := none }) ∨
         (v = .bool false ∧ (left2 ≤ 0 ∨ (rl2 : Int) = size) ∧ s' = { t := scrL [8] js2 0 T, h := [.one 33 [.ptr 2 .z 4 0], .one 3 [.int .i64 size], (.one 81 [.fn 39 [.ptr 3 .z 1 0, .ptr 4 .z 1 0], .int .u64 acc, .int .i64 hv, .fn 40 [.ptr 4 .z 1 0, .ptr 3 .z 1 0]]), .one 3 [.int .i64 ai], .one 22 [.slice 5 .z 1 bl cap], .ro .u8 b, .one 24 [.val (.slice none 0 0), .lit .i64 0], .one 24 [.val (.slice none 0 0), .int .i64 one], .buf 5 .u8 lens2 cl2, .one 24 [.slice 8 .z 1 rl2 cl2, .lit .i64 0], .one 3 [.int .i64 left2], .one 33 [.ptr 2 .z 4 0], .one 24 [.val (.slice none 0 0), .int .i64 one], .defd, .loop .done (some (.exit 0)) (.ptr 0 .z 1 0 :: .ptr 1 .z 1 0 :: .ptr 6 .z 2 0 :: .int .i64 sk :: .ptr 7 .z 2 0 :: .ptr 9 .z 2 0 :: .ptr 10 .z 1 0 :: .undef :: .undef :: .val (js0 9) :: .val (js0 10) :: .val (js0 11) :: .val (js0 12) :: .val (js0 13) :: .val (js0 14) :: .val (js0 15) :: .val (js0 16) :: .val (js0 17) :: .val (js0 18) :: .val (js0 19) :: .val (js0 20) :: .val (js0 21) :: .val (js0 22) :: .val (js0 23) :: .fn 58 [.ptr 11 .z 1 0, .ptr 12 .z 2 0] :: .undef :: .undef :: .undef :: .undef :: .undef :: .undef :: .undef :: .undef :: .undef :: .undef :: .undef :: .undef :: .undef :: .undef :: .undef :: .undef :: .undef :: .undef :: .undef :: .undef :: .undef :: .undef :: .undef :: .undef :: .undef :: .undef :: .undef :: .undef :: .undef :: .undef :: .undef :: .undef :: .undef :: .undef :: .undef :: .undef :: .undef :: .undef :: .undef :: .undef :: .undef :: .undef :: .undef :: .undef :: .undef :: .undef :: .undef :: .undef :: .undef :: .undef :: []) [25, 26] rasg26 rbody26], r := [8], d := [], rd := none })))
      (fun e s' => e = .panic (.iface 75 (.agg [.int .i64 11])) ∧ ¬ ((rl : Int) + m ≤ size) ∧ ∃ js2, s' = { t := scrL [] js2 0 T, h := [.one 33 [.ptr 2 .z 4 0], .one 3 [.int .i64 size], (.one 81 [.fn 39 [.ptr 3 .z 1 0, .ptr 4 .z 1 0], .int .u64 acc, .int .i64 hv, .fn 40 [.ptr 4 .z 1 0, .ptr 3 .z 1 0]]), .one 3 [.int .i64 ai], .one 22 [.slice 5 .z 1 bl cap], .ro .u8 b, .one 24 [.val (.slice none 0 0), .lit .i64 0], .one 24 [.val (.slice none 0 0), .int .i64 one], .buf 5 .u8 lens cl, .one 24 [.slice 8 .z 1 rl cl, .lit .i64 0], .one 3 [.int .i64 left], .one 33 [.ptr 2 .z 4 0], .one 24 [.val (.slice none 0 0), .int .i64 one], .defd, .loop .busy none (.ptr 0 .z 1 0 :: .ptr 1 .z 1 0 :: .ptr 6 .z 2 0 :: .int .i64 sk :: .ptr 7 .z 2 0 :: .ptr 9 .z 2 0 :: .ptr 10 .z 1 0 :: .undef :: .undef :: .val (js0 9) :: .val (js0 10) :: .val (js0 11) :: .val (js0 12) :: .val (js0 13) :: .val (js0 14) :: .val (js0 15) :: .val (js0 16) :: .val (js0 17) :: .val (js0 18) :: .val (js0 19) :: .val (js0 20) :: .val (js0 21) :: .val (js0 22) :: .val (js0 23) :: .fn 58 [.ptr 11 .z 1 0, .ptr 12 .z 2 0] :: .undef :: .undef :: .undef :: .undef :: .undef :: .undef :: .undef :: .undef :: .undef :: .undef :: .undef :: .undef :: .undef :: .undef :: .undef :: .undef :: .undef :: .undef :: .undef :: .undef :: .undef :: .undef :: .undef :: .undef :: .undef :: .undef :: .undef :: .undef :: .undef :: .undef :: .undef :: .undef :: .undef :: .undef :: .undef :: .undef :: .undef :: .undef :: .undef :: .undef :: .undef :: .undef :: .undef :: .undef :: .undef :: .undef :: .undef :: .undef :: .undef :: .undef :: []) [25, 26] rasg26 rbody26], r := [8], d := [], rd := none }) := by
  have hmust := mustX_con
  have pw_p := fun x => pw_nonneg x
  have pw_d : l > 0 → pw l = 2 ^ (15 - l).toNat := fun h => by unfold pw; rw [if_pos h]
  have pw_z : ¬ l > 0 → pw l = 0 := fun h => by unfold pw; rw [if_neg h]
  have pw_u : pw l ≤ 16384 := pw_le
  generalize pw = PW at *
  refine withWords ?_
  intro vb vc vw vtoN vofN vaddN vsubN vmaxI vminI vcutN vgd vst vln vrep vsub vonto vsplice vstrEq vbyteV vnotB veqB hw qb qc qw qtoN qofN qaddN qsubN qmaxI qminI qcutN qgd qst qln qrep qsub qonto qsplice qstrEq qbyteV qnotB qeqB
  have hm := hmix; generalize Try.prog = P at *
  have hto : ∀ i : Nat, vtoN (i : Int) = i := fun i => by simp only [qtoN, Int.toNat_natCast]
  have hlnq : ∀ l, vln l = l.length := fun l => by rw [qln]
  obtain ⟨rlI, hrlI⟩ : ∃ rlI : Int, rlI = rl := ⟨_, rfl⟩
  have hofn : vofN rl = rlI := by rw [qofN]; exact hrlI.symm
  obtain ⟨s1, hs1⟩ : ∃ s1 : Int, s1 = rlI + m := ⟨_, rfl⟩
  have es1 : vb .add .i64 rlI m = s1 := by rw [qb, add_i64 (by omega) (by omega)]; exact hs1.symm
  refine yield_walk hw hm (by exact hT) ?_
  cbv
  rw [hofn, es1]
  refine call_conX (ρ := []) (hmust _) ⟨by rfl, by rfl, by rfl, by cbv⟩ ?_ ?_
  rotate_left
  · rintro v H R js ⟨hz, rfl, rfl, rfl⟩
    have hz2 : ¬ ((rl : Int) + m ≤ size) := by rw [qc, leq_false] at hz; simp only [nc] at *; omega
    cbv
    intro js2
    refine keep0 ?_
    exact ⟨rfl, hz2, js2, rfl⟩
  rintro v H R js ⟨hz, rfl, rfl, rfl⟩
  have hz2 : (rl : Int) + m ≤ size := by rw [qc, leq_true] at hz; simp only [nc] at *; omega
  obtain ⟨mN, hmN⟩ : ∃ mN : Nat, (mN : Int) = m := ⟨m.toNat, by omega⟩
  have hmt : m.toNat = mN := by omega
  have hpwr : 0 ≤ PW l ∧ PW l ≤ 16384 := ⟨pw_p l, pw_u⟩
  cbv
  refine loop_fam (α := Int × List Int × Nat × Nat × Int) (28 :: (List.range' 37 16)) [8]
    (fun (k, l2, rl2, c2, left2) => [(36, .int .i64 k)])
    (fun (k, l2, rl2, c2, left2) => [(8, .buf 5 .u8 l2 c2), (9, .one 24 [.slice 8 .z 1 rl2 c2, .lit .i64 0]), (10, .one 3 [.int .i64 left2])])
    (fun (k, l2, rl2, c2, left2) => ∃ i : Nat, k = i ∧ i ≤ mN ∧ rl2 = rl + i ∧ rl2 ≤ c2 ∧ l2 = lens ++ List.replicate i l ∧ left2 = left - i * PW l)
    (fun (k, l2, rl2, c2, left2) => mN - k.toNat) hw hm ?_ ?_
  · refine Cv.genAt [36] [] (Cv.fold (28 :: (List.range' 37 16)) 15 [8] (by exact Nat.le_refl _) (by exact Nat.le_of_ble_eq_true rfl) (by rfl) (by cbv) ?_)
    intro js
    refine ⟨(_, _, _, _, _), ?_, js, rfl⟩
    exact ⟨0, rfl, by omega, rfl, by omega, by simp, by simp⟩
  rintro ⟨k, l2, rl2, c2, left2⟩ js2 ⟨i, hk, hi, hrl2, hrc2, hl2, hleft2⟩
  have hti : vtoN k = i := by rw [hk]; exact hto i
  have hiP : (i : Int) * PW l ≤ mN * PW l := Int.mul_le_mul_of_nonneg_right (by omega) hpwr.1
  have hiP0 : 0 ≤ (i : Int) * PW l := Int.mul_nonneg (by omega) hpwr.1
  have hmP : (mN : Int) * PW l ≤ 1024 * 16384 := by
    have h1 : (mN : Int) * PW l ≤ mN * 16384 := Int.mul_le_mul_of_nonneg_left hpwr.2 (by omega)
    have h2 : (mN : Int) ≤ 1024 := by simp only [nc] at *; omega
    omega
  have hl2l : l2.length = rl2 := by rw [hl2, hrl2, List.length_append, List.length_replicate, hrl]
  have hmu : ∀ kn : Int, kn = ((i + 1 : Nat) : Int) → i < mN → mN - kn.toNat < mN - k.toNat := fun kn h1 h2 => by simp only [nc] at *; omega
  cbv
  split
  · rename_i hlt
    have hlt : i < mN := by rw [qc, lss_true] at hlt; simp only [nc] at *; omega
    have hsub : vsub [l] 0 1 = [l] := by simp only [qsub]; rfl
    have honto : vonto l2 rl2 [l] = l2 ++ [l] := by rw [qonto, ← hl2l]; simp
    have ha1 : vaddN rl2 1 = rl2 + 1 := by simp only [qaddN]
    have ha01 : vaddN 0 1 = 1 := by simp only [qaddN]
    have hln1 : vln [l] = 1 := by rw [hlnq]; rfl
    have hvl : vln l2 = rl2 := by rw [hlnq, hl2l]
    obtain ⟨l3, hl3⟩ : ∃ l3, l3 = l2 ++ [l] := ⟨_, rfl⟩
    rw [← hl3] at honto
    obtain ⟨rl3, hrl3⟩ : ∃ rl3, rl3 = rl2 + 1 := ⟨_, rfl⟩
    have hl3e : l3 = lens ++ List.replicate (i + 1) l := by rw [hl3, hl2, List.append_assoc, ← List.replicate_succ']
    obtain ⟨kn, hkn⟩ : ∃ kn : Int, kn = ((i + 1 : Nat) : Int) := ⟨_, rfl⟩
    have ek : vb .add .i64 k 1 = kn := by simp only [nc] at *; rw [qb, add_i64 (by omega) (by omega)]; omega
    have hmu := hmu kn hkn hlt
    have hfit : rl2 + 1 ≤ 1024 := by simp only [nc] at *; omega
    rw [← hrl3] at ha1
    cbv
    refine ⟨⟨by rw [ha01, hln1]; exact Nat.le_refl _⟩, ⟨by rw [hvl]; exact Nat.le_refl _⟩, ⟨Nat.le_refl _⟩, ⟨by rw [ha1]; omega⟩, ?_⟩
    intro c3 js5 hc3
    have hc3 : vaddN rl2 1 ≤ c3 := hc3.1
    rw [ha1] at hc3
    have hl10 : vc .gtr l 0 = true ∨ vc .gtr l 0 = false := by cases vc .gtr l 0 <;> simp
    cbv
    rw [hsub, honto, ha1]
    rcases hl10 with hg | hg
    · rw [hg]
      have hl0 : l > 0 := by rw [qc, gtr_true] at hg; exact hg
      obtain ⟨d, hd⟩ : ∃ d : Int, d = 15 - l := ⟨_, rfl⟩
      have e15 : vb .sub .u8 15 l = d := by rw [qb, hd]; exact wrap_u8 (by omega) (by omega)
      have ewd : vw .u64 d = d := by rw [qw]; exact wrap_u64 (by omega) (by omega)
      have hpd := pw_d hl0
      rw [← hd] at hpd
      obtain ⟨w1, hw1⟩ : ∃ w1, w1 = PW l := ⟨_, rfl⟩
      rw [← hw1] at hpd hpwr hiP hmP hiP0 hleft2
      have esh : vb .shl .i64 1 d = w1 := by
        have hd2 : d = 0 ∨ d = 1 ∨ d = 2 ∨ d = 3 ∨ d = 4 ∨ d = 5 ∨ d = 6 ∨ d = 7 ∨ d = 8 ∨ d = 9 ∨ d = 10 ∨ d = 11 ∨ d = 12 ∨ d = 13 ∨ d = 14 := by omega
        rw [qb, hpd]
        rcases hd2 with rfl | rfl | rfl | rfl | rfl | rfl | rfl | rfl | rfl | rfl | rfl | rfl | rfl | rfl | rfl <;> decide
      obtain ⟨left3, hleft3⟩ : ∃ left3, left3 = left2 - w1 := ⟨_, rfl⟩
      have esb : vb .sub .i64 left2 w1 = left3 := by rw [qb, sub_i64 (by omega) (by omega)]; exact hleft3.symm
      have hleft3e : left3 = left - ((i + 1 : Nat) : Int) * PW l := by
        rw [hleft3, hleft2, ← hw1, show ((i + 1 : Nat) : Int) = (i : Int) + 1 from rfl, Int.add_mul, Int.one_mul, Int.sub_sub]
      cbv
      rw [e15, ewd, esh, esb, ek]
      refine ⟨⟨by omega⟩, ?_⟩
      refine Cv.fold (28 :: (List.range' 37 16)) 15 [8] (by exact Nat.le_refl _) (by exact Nat.le_of_ble_eq_true rfl) (by rfl) (by cbv) ?_
      intro js
      refine ⟨(_, _, _, _, _), ?_, js, rfl⟩
      exact ⟨⟨i + 1, hkn, hlt, by omega, hc3, hl3e, hleft3e⟩, hmu⟩
    · rw [hg]
      have hl0 : ¬ l > 0 := by rw [qc, gtr_false] at hg; omega
      have hpz := pw_z hl0
      have hleft3e : left2 = left - ((i + 1 : Nat) : Int) * PW l := by
        rw [hleft2, hpz]; simp
      cbv
      rw [ek]
      refine Cv.fold (28 :: (List.range' 37 16)) 15 [8] (by exact Nat.le_refl _) (by exact Nat.le_of_ble_eq_true rfl) (by rfl) (by cbv) ?_
      intro js
      refine ⟨(_, _, _, _, _), ?_, js, rfl⟩
      exact ⟨⟨i + 1, hkn, hlt, by omega, hc3, hl3e, hleft3e⟩, hmu⟩
  · rename_i hge
    have hin : i = mN := by rw [qc, lss_false] at hge; simp only [nc] at *; omega
    subst hin
    obtain ⟨rI2, hrI2⟩ : ∃ rI2 : Int, rI2 = rl2 := ⟨_, rfl⟩
    have hof2 : vofN rl2 = rI2 := by rw [qofN]; exact hrI2.symm
    have hl2f : l2 = lens ++ List.replicate m.toNat l := by rw [hmt]; exact hl2
    have hleft2f : left2 = left - m * PW l := by rw [← hmN]; exact hleft2
    have hrle : (rl2 : Int) ≤ size := by simp only [nc] at *; omega
    have hrle2 : (rl2 : Int) = rl + m := by simp only [nc] at *; omega
    cbv
    by_cases hle : left2 ≤ 0
    · have elq : vc .leq left2 0 = true := by rw [qc, leq_true]; exact hle
      rw [elq]
      cbv
      intro js6
      refine keep0 ?_
      exact ⟨rl2, c2, l2, left2, js6, hl2f, hl2l.symm, hrc2, hleft2f, hrle, hrle2, .inr ⟨rfl, .inl hle, rfl⟩⟩
    · have elq : vc .leq left2 0 = false := by rw [qc, leq_false]; omega
      rw [elq]
      cbv
      rw [hof2]
      by_cases heq : (rl2 : Int) = size
      · have ee : vc .eql rI2 size = true := by rw [qc, eql_true, hrI2]; exact heq
        rw [ee]
        cbv
        intro js6
        refine keep0 ?_
        exact ⟨rl2, c2, l2, left2, js6, hl2f, hl2l.symm, hrc2, hleft2f, hrle, hrle2, .inr ⟨rfl, .inr heq, rfl⟩⟩
      · have ee : vc .eql rI2 size = false := by rw [qc, eql_false, hrI2]; exact heq
        rw [ee]
        cbv
        intro js6
        refine keep0 ?_
        exact ⟨rl2, c2, l2, left2, js6, hl2f, hl2l.symm, hrc2, hleft2f, hrle, hrle2, .inl ⟨rfl, fun h => h.elim hle heq, rfl⟩⟩
theorem body26_len (js0 : Nat → Value) (T : List SV) (b : List Int) (bl cap : Nat) (acc hv ai size sk : Int) (L : List Int) (ll : Nat) (lens : List Int) (rl cl : Nat) (left l m : Int) (hT : scL 16 T = true) (hm1 : 1 ≤ m) (hm2 : m ≤ 1000000) (hlr : 0 ≤ l ∧ l ≤ 15) (hrl : rl = lens.length) (hrc : rl ≤ cl) (hrs : (rl : Int) < size) (hsz : size ≤ 1024) (hleft : 0 < left ∧ left ≤ 32768) :
    YieldX Try.prog 15 [.int .u8 l, .int .i64 m] { t := T, h := [.one 33 [.ptr 2 .z 4 0], .one 3 [.int .i64 size], (.one 81 [.fn 39 [.ptr 3 .z 1 0, .ptr 4 .z 1 0], .int .u64 acc, .int .i64 hv, .fn 40 [.ptr 4 .z 1 0, .ptr 3 .z 1 0]]), .one 3 [.int .i64 ai], .one 22 [.slice 5 .z 1 bl cap], .ro .u8 b, .one 24 [.val (.slice none 0 0), .lit .i64 0], .ints 5 .u8 L, .one 24 [.slice 7 .z 1 ll ll, .int .i64 0], .buf 5 .u8 lens cl, .one 24 [.slice 9 .z 1 rl cl, .lit .i64 0], .one 3 [.int .i64 left], .one 33 [.ptr 2 .z 4 0], .one 24 [.slice 7 .z 1 ll ll, .int .i64 0], .defd, .loop .ready none (.ptr 0 .z 1 0 :: .ptr 1 .z 1 0 :: .ptr 6 .z 2 0 :: .int .i64 sk :: .ptr 8 .z 2 0 :: .ptr 10 .z 2 0 :: .ptr 11 .z 1 0 :: .undef :: .undef :: .val (js0 9) :: .val (js0 10) :: .val (js0 11) :: .val (js0 12) :: .val (js0 13) :: .val (js0 14) :: .val (js0 15) :: .val (js0 16) :: .val (js0 17) :: .val (js0 18) :: .val (js0 19) :: .val (js0 20) :: .val (js0 21) :: .val (js0 22) :: .val (js0 23) :: .fn 58 [.ptr 12 .z 1 0, .ptr 13 .z 2 0] :: .undef :: .undef :: .undef :: .undef :: .undef :: .undef :: .undef :: .undef :: .undef :: .undef :: .undef :: .undef :: .undef :: .undef :: .undef :: .undef :: .undef :: .undef :: .undef :: .undef :: .undef :: .undef :: .undef :: .undef :: .undef :: .undef :: .undef :: .undef :: .undef :: .undef :: .undef :: .undef :: .undef :: .undef :: .undef :: .undef :: .undef :: .undef :: .undef :: .undef :: .undef :: .undef :: .undef :: .undef :: .undef :: .undef :: .undef :: .undef :: .undef :: .undef :: []) [25, 26] rasg26 rbody26], r := [9], d := [], rd := none }
      (fun v s' => ∃ (rl2 cl2 : Nat) (lens2 : List Int) (left2 : Int) (js2 : Nat → Value), lens2 = lens ++ List.replicate m.toNat l ∧ rl2 = lens2.length ∧ rl2 ≤ cl2 ∧ left2 = left - m * pw l ∧ (rl2 : Int) ≤ size ∧ (rl2 : Int) = rl + m ∧
        ((v = .bool true ∧ ¬ (left2 ≤ 0 ∨ (rl2 : Int) = size) ∧ s' = { t := scrL [9] js2 0 T, h := [.one 33 [.ptr 2 .z 4 0], .one 3 [.int .i64 size], (.one 81 [.fn 39 [.ptr 3 .z 1 0, .ptr 4 .z 1 0], .int .u64 acc, .int .i64 hv, .fn 40 [.ptr 4 .z 1 0, .ptr 3 .z 1 0]]), .one 3 [.int .i64 ai], .one 22 [.slice 5 .z 1 bl cap], .ro .u8 b, .one 24 [.val (.slice none 0 0), .lit .i64 0], .ints 5 .u8 L, .one 24 [.slice 7 .z 1 ll ll, .int .i64 0], .buf 5 .u8 lens2 cl2, .one 24 [.slice 9 .z 1 rl2 cl2, .lit .i64 0], .one 3 [.int .i64 left2], .one 33 [.ptr 2 .z 4 0], .one 24 [.slice 7 .z 1 ll ll, .int .i64 0], .defd, .loop .ready none (.ptr 0 .z 1 0 :: .ptr 1 .z 1 0 :: .ptr 6 .z 2 0 :: .int .i64 sk :: .ptr 8 .z 2 0 :: .ptr 10 .z 2 0 :: .ptr 11 .z 1 0 :: .undef :: .undef :: .val (js0 9) :: .val (js0 10) :: .val (js0 11) :: .val (js0 12) :: .val (js0 13) :: .val (js0 14) :: .val (js0 15) :: .val (js0 16) :: .val (js0 17) :: .val (js0 18) :: .val (js0 19) :: .val (js0 20) :: .val (js0 21) :: .val (js0 22) :: .val (js0 23) :: .fn 58 [.ptr 12 .z 1 0, .ptr 13 .z 2 0] :: .undef :: .undef :: .undef :: .undef :: .undef :: .undef :: .undef :: .undef :: .undef :: .undef :: .undef :: .undef :: .undef :: .undef :: .undef :: .undef :: .undef :: .undef :: .undef :: .undef :: .undef :: .undef :: .undef :: .undef :: .undef :: .undef :: .undef :: .undef :: .undef :: .undef :: .undef :: .undef :: .undef :: .undef :: .undef :: .undef :: .undef :: .undef :: .undef :: .undef :: .undef :: .undef :: .undef :: .undef :: .undef :: .undef :: .undef :: .undef :: .undef :: .undef :: []) [25, 26] rasg26 rbody26], r := [9], d := [], rd := none }) ∨
         (v = .bool false ∧ (left2 ≤ 0 ∨ (rl2 : Int) = size) ∧ s' = { t := scrL [9] js2 0 T, h := [.one 33 [.ptr 2 .z 4 0], .one 3 [.int .i64 size], (.one 81 [.fn 39 [.ptr 3 .z 1 0, .ptr 4 .z 1 0], .int .u64 acc, .int .i64 hv, .fn 40 [.ptr 4 .z 1 0, .ptr 3 .z 1 0]]), .one 3 [.int .i64 ai], .one 22 [.slice 5 .z 1 bl cap], .ro .u8 b, .one 24 [.val (.slice none 0 0), .lit .i64 0], .ints 5 .u8 L, .one 24 [.slice 7 .z 1 ll ll, .int .i64 0], .buf 5 .u8 lens2 cl2, .one 24 [.slice 9 .z 1 rl2 cl2, .lit .i64 0], .one 3 [.int .i64 left2], .one 33 [.ptr 2 .z 4 0], .one 24 [.slice 7 .z 1 ll ll, .int .i64 0], .defd, .loop .done (some (.exit 0)) (.ptr 0 .z 1 0 :: .ptr 1 .z 1 0 :: .ptr 6 .z 2 0 :: .int .i64 sk :: .ptr 8 .z 2 0 :: .ptr 10 .z 2 0 :: .ptr 11 .z 1 0 :: .undef :: .undef :: .val (js0 9) :: .val (js0 10) :: .val (js0 11) :: .val (js0 12) :: .val (js0 13) :: .val (js0 14) :: .val (js0 15) :: .val (js0 16) :: .val (js0 17) :: .val (js0 18) :: .val (js0 19) :: .val (js0 20) :: .val (js0 21) :: .val (js0 22) :: .val (js0 23) :: .fn 58 [.ptr 12 .z 1 0, .ptr 13 .z 2 0] :: .undef :: .undef :: .undef :: .undef :: .undef :: .undef :: .undef :: .undef :: .undef :: .undef :: .undef :: .undef :: .undef :: .undef :: .undef :: .undef :: .undef :: .undef :: .undef :: .undef :: .undef :: .undef :: .undef :: .undef :: .undef :: .undef :: .undef :: .undef :: .undef :: .undef :: .undef :: .undef :: .undef :: .undef :: .undef :: .undef :: .undef :: .undef :: .undef :: .undef :: .undef :: .undef :: .undef :: .undef :: .undef :: .undef :: .undef :: .undef :: .undef :: .undef :: []) [25, 26] rasg26 rbody26], r := [9], d := [], rd := none })))
      (fun e s' => e = .panic (.iface 75 (.agg [.int .i64 11])) ∧ ¬ ((rl : Int) + m ≤ size) ∧ ∃ js2, s' = { t := scrL [] js2 0 T, h := [.one 33 [.ptr 2 .z 4 0], .one 3 [.int .i64 size], (.one 81 [.fn 39 [.ptr 3 .z 1 0, .ptr 4 .z 1 0], .int .u64 acc, .int .i64 hv, .fn 40 [.ptr 4 .z 1 0, .ptr 3 .z 1 0]]), .one 3 [.int .i64 ai], .one 22 [.slice 5 .z 1 bl cap], .ro .u8 b, .one 24 [.val (.slice none 0 0), .lit .i64 0], .ints 5 .u8 L, .one 24 [.slice 7 .z 1 ll ll, .int .i64 0], .buf 5 .u8 lens cl, .one 24 [.slice 9 .z 1 rl cl, .lit .i64 0], .one 3 [.int .i64 left], .one 33 [.ptr 2 .z 4 0], .one 24 [.slice 7 .z 1 ll ll, .int .i64 0], .defd, .loop .busy none (.ptr 0 .z 1 0 :: .ptr 1 .z 1 0 :: .ptr 6 .z 2 0 :: .int .i64 sk :: .ptr 8 .z 2 0 :: .ptr 10 .z 2 0 :: .ptr 11 .z 1 0 :: .undef :: .undef :: .val (js0 9) :: .val (js0 10) :: .val (js0 11) :: .val (js0 12) :: .val (js0 13) :: .val (js0 14) :: .val (js0 15) :: .val (js0 16) :: .val (js0 17) :: .val (js0 18) :: .val (js0 19) :: .val (js0 20) :: .val (js0 21) :: .val (js0 22) :: .val (js0 23) :: .fn 58 [.ptr 12 .z 1 0, .ptr 13 .z 2 0] :: .undef :: .undef :: .undef :: .undef :: .undef :: .undef :: .undef :: .undef :: .undef :: .undef :: .undef :: .undef :: .undef :: .undef :: .undef :: .undef :: .undef :: .undef :: .undef :: .undef :: .undef :: .undef :: .undef :: .undef :: .undef :: .undef :: .undef :: .undef :: .undef :: .undef :: .undef :: .undef :: .undef :: .undef :: .undef :: .undef :: .undef :: .undef :: .undef :: .undef :: .undef :: .undef :: .undef :: .undef :: .undef :: .undef :: .undef :: .undef :: .undef :: .undef :: []) [25, 26] rasg26 rbody26], r := [9], d := [], rd := none }) := by
  have hmust := mustX_con
  have pw_p := fun x => pw_nonneg x
  have pw_d : l > 0 → pw l = 2 ^ (15 - l).toNat := fun h => by unfold pw; rw [if_pos h]
  have pw_z : ¬ l > 0 → pw l = 0 := fun h => by unfold pw; rw [if_neg h]
  have pw_u : pw l ≤ 16384 := pw_le
  generalize pw = PW at *
  refine withWords ?_
  intro vb vc vw vtoN vofN vaddN vsubN vmaxI vminI vcutN vgd vst vln vrep vsub vonto vsplice vstrEq vbyteV vnotB veqB hw qb qc qw qtoN qofN qaddN qsubN qmaxI qminI qcutN qgd qst qln qrep qsub qonto qsplice qstrEq qbyteV qnotB qeqB
  have hm := hmix; generalize Try.prog = P at *
  have hto : ∀ i : Nat, vtoN (i : Int) = i := fun i => by simp only [qtoN, Int.toNat_natCast]
  have hlnq : ∀ l, vln l = l.length := fun l => by rw [qln]
  obtain ⟨rlI, hrlI⟩ : ∃ rlI : Int, rlI = rl := ⟨_, rfl⟩
  have hofn : vofN rl = rlI := by rw [qofN]; exact hrlI.symm
  obtain ⟨s1, hs1⟩ : ∃ s1 : Int, s1 = rlI + m := ⟨_, rfl⟩
  have es1 : vb .add .i64 rlI m = s1 := by rw [qb, add_i64 (by omega) (by omega)]; exact hs1.symm
  refine yield_walk hw hm (by exact hT) ?_
  cbv
  rw [hofn, es1]
  refine call_conX (ρ := []) (hmust _) ⟨by rfl, by rfl, by rfl, by cbv⟩ ?_ ?_
  rotate_left
  · rintro v H R js ⟨hz, rfl, rfl, rfl⟩
    have hz2 : ¬ ((rl : Int) + m ≤ size) := by rw [qc, leq_false] at hz; simp only [nc] at *; omega
    cbv
    intro js2
    refine keep0 ?_
    exact ⟨rfl, hz2, js2, rfl⟩
  rintro v H R js ⟨hz, rfl, rfl, rfl⟩
  have hz2 : (rl : Int) + m ≤ size := by rw [qc, leq_true] at hz; simp only [nc] at *; omega
  obtain ⟨mN, hmN⟩ : ∃ mN : Nat, (mN : Int) = m := ⟨m.toNat, by omega⟩
  have hmt : m.toNat = mN := by omega
  have hpwr : 0 ≤ PW l ∧ PW l ≤ 16384 := ⟨pw_p l, pw_u⟩
  cbv
  refine loop_fam (α := Int × List Int × Nat × Nat × Int) (28 :: (List.range' 37 16)) [9]
    (fun (k, l2, rl2, c2, left2) => [(36, .int .i64 k)])
    (fun (k, l2, rl2, c2, left2) => [(9, .buf 5 .u8 l2 c2), (10, .one 24 [.slice 9 .z 1 rl2 c2, .lit .i64 0]), (11, .one 3 [.int .i64 left2])])
    (fun (k, l2, rl2, c2, left2) => ∃ i : Nat, k = i ∧ i ≤ mN ∧ rl2 = rl + i ∧ rl2 ≤ c2 ∧ l2 = lens ++ List.replicate i l ∧ left2 = left - i * PW l)
    (fun (k, l2, rl2, c2, left2) => mN - k.toNat) hw hm ?_ ?_
  · refine Cv.genAt [36] [] (Cv.fold (28 :: (List.range' 37 16)) 16 [9] (by exact Nat.le_refl _) (by exact Nat.le_of_ble_eq_true rfl) (by rfl) (by cbv) ?_)
    intro js
    refine ⟨(_, _, _, _, _), ?_, js, rfl⟩
    exact ⟨0, rfl, by omega, rfl, by omega, by simp, by simp⟩
  rintro ⟨k, l2, rl2, c2, left2⟩ js2 ⟨i, hk, hi, hrl2, hrc2, hl2, hleft2⟩
  have hti : vtoN k = i := by rw [hk]; exact hto i
  have hiP : (i : Int) * PW l ≤ mN * PW l := Int.mul_le_mul_of_nonneg_right (by omega) hpwr.1
  have hiP0 : 0 ≤ (i : Int) * PW l := Int.mul_nonneg (by omega) hpwr.1
  have hmP : (mN : Int) * PW l ≤ 1024 * 16384 := by
    have h1 : (mN : Int) * PW l ≤ mN * 16384 := Int.mul_le_mul_of_nonneg_left hpwr.2 (by omega)
    have h2 : (mN : Int) ≤ 1024 := by simp only [nc] at *; omega
    omega
  have hl2l : l2.length = rl2 := by rw [hl2, hrl2, List.length_append, List.length_replicate, hrl]
  have hmu : ∀ kn : Int, kn = ((i + 1 : Nat) : Int) → i < mN → mN - kn.toNat < mN - k.toNat := fun kn h1 h2 => by simp only [nc] at *; omega
  cbv
  split
  · rename_i hlt
    have hlt : i < mN := by rw [qc, lss_true] at hlt; simp only [nc] at *; omega
    have hsub : vsub [l] 0 1 = [l] := by simp only [qsub]; rfl
    have honto : vonto l2 rl2 [l] = l2 ++ [l] := by rw [qonto, ← hl2l]; simp
    have ha1 : vaddN rl2 1 = rl2 + 1 := by simp only [qaddN]
    have ha01 : vaddN 0 1 = 1 := by simp only [qaddN]
    have hln1 : vln [l] = 1 := by rw [hlnq]; rfl
    have hvl : vln l2 = rl2 := by rw [hlnq, hl2l]
    obtain ⟨l3, hl3⟩ : ∃ l3, l3 = l2 ++ [l] := ⟨_, rfl⟩
    rw [← hl3] at honto
    obtain ⟨rl3, hrl3⟩ : ∃ rl3, rl3 = rl2 + 1 := ⟨_, rfl⟩
    have hl3e : l3 = lens ++ List.replicate (i + 1) l := by rw [hl3, hl2, List.append_assoc, ← List.replicate_succ']
    obtain ⟨kn, hkn⟩ : ∃ kn : Int, kn = ((i + 1 : Nat) : Int) := ⟨_, rfl⟩
    have ek : vb .add .i64 k 1 = kn := by simp only [nc] at *; rw [qb, add_i64 (by omega) (by omega)]; omega
    have hmu := hmu kn hkn hlt
    have hfit : rl2 + 1 ≤ 1024 := by simp only [nc] at *; omega
    rw [← hrl3] at ha1
    cbv
    refine ⟨⟨by rw [ha01, hln1]; exact Nat.le_refl _⟩, ⟨by rw [hvl]; exact Nat.le_refl _⟩, ⟨Nat.le_refl _⟩, ⟨by rw [ha1]; omega⟩, ?_⟩
    intro c3 js5 hc3
    have hc3 : vaddN rl2 1 ≤ c3 := hc3.1
    rw [ha1] at hc3
    have hl10 : vc .gtr l 0 = true ∨ vc .gtr l 0 = false := by cases vc .gtr l 0 <;> simp
    cbv
    rw [hsub, honto, ha1]
    rcases hl10 with hg | hg
    · rw [hg]
      have hl0 : l > 0 := by rw [qc, gtr_true] at hg; exact hg
      obtain ⟨d, hd⟩ : ∃ d : Int, d = 15 - l := ⟨_, rfl⟩
      have e15 : vb .sub .u8 15 l = d := by rw [qb, hd]; exact wrap_u8 (by omega) (by omega)
      have ewd : vw .u64 d = d := by rw [qw]; exact wrap_u64 (by omega) (by omega)
      have hpd := pw_d hl0
      rw [← hd] at hpd
      obtain ⟨w1, hw1⟩ : ∃ w1, w1 = PW l := ⟨_, rfl⟩
      rw [← hw1] at hpd hpwr hiP hmP hiP0 hleft2
      have esh : vb .shl .i64 1 d = w1 := by
        have hd2 : d = 0 ∨ d = 1 ∨ d = 2 ∨ d = 3 ∨ d = 4 ∨ d = 5 ∨ d = 6 ∨ d = 7 ∨ d = 8 ∨ d = 9 ∨ d = 10 ∨ d = 11 ∨ d = 12 ∨ d = 13 ∨ d = 14 := by omega
        rw [qb, hpd]
        rcases hd2 with rfl | rfl | rfl | rfl | rfl | rfl | rfl | rfl | rfl | rfl | rfl | rfl | rfl | rfl | rfl <;> decide
      obtain ⟨left3, hleft3⟩ : ∃ left3, left3 = left2 - w1 := ⟨_, rfl⟩
      have esb : vb .sub .i64 left2 w1 = left3 := by rw [qb, sub_i64 (by omega) (by omega)]; exact hleft3.symm
      have hleft3e : left3 = left - ((i + 1 : Nat) : Int) * PW l := by
        rw [hleft3, hleft2, ← hw1, show ((i + 1 : Nat) : Int) = (i : Int) + 1 from rfl, Int.add_mul, Int.one_mul, Int.sub_sub]
      cbv
      rw [e15, ewd, esh, esb, ek]
      refine ⟨⟨by omega⟩, ?_⟩
      refine Cv.fold (28 :: (List.range' 37 16)) 16 [9] (by exact Nat.le_refl _) (by exact Nat.le_of_ble_eq_true rfl) (by rfl) (by cbv) ?_
      intro js
      refine ⟨(_, _, _, _, _), ?_, js, rfl⟩
      exact ⟨⟨i + 1, hkn, hlt, by omega, hc3, hl3e, hleft3e⟩, hmu⟩
    · rw [hg]
      have hl0 : ¬ l > 0 := by rw [qc, gtr_false] at hg; omega
      have hpz := pw_z hl0
      have hleft3e : left2 = left - ((i + 1 : Nat) : Int) * PW l := by
        rw [hleft2, hpz]; simp
      cbv
      rw [ek]
      refine Cv.fold (28 :: (List.range' 37 16)) 16 [9] (by exact Nat.le_refl _) (by exact Nat.le_of_ble_eq_true rfl) (by rfl) (by cbv) ?_
      intro js
      refine ⟨(_, _, _, _, _), ?_, js, rfl⟩
      exact ⟨⟨i + 1, hkn, hlt, by omega, hc3, hl3e, hleft3e⟩, hmu⟩
  · rename_i hge
    have hin : i = mN := by rw [qc, lss_false] at hge; simp only [nc] at *; omega
    subst hin
    obtain ⟨rI2, hrI2⟩ : ∃ rI2 : Int, rI2 = rl2 := ⟨_, rfl⟩
    have hof2 : vofN rl2 = rI2 := by rw [qofN]; exact hrI2.symm
    have hl2f : l2 = lens ++ List.replicate m.toNat l := by rw [hmt]; exact hl2
    have hleft2f : left2 = left - m * PW l := by rw [← hmN]; exact hleft2
    have hrle : (rl2 : Int) ≤ size := by simp only [nc] at *; omega
    have hrle2 : (rl2 : Int) = rl + m := by simp only [nc] at *; omega
    cbv
    by_cases hle : left2 ≤ 0
    · have elq : vc .leq left2 0 = true := by rw [qc, leq_true]; exact hle
      rw [elq]
      cbv
      intro js6
      refine keep0 ?_
      exact ⟨rl2, c2, l2, left2, js6, hl2f, hl2l.symm, hrc2, hleft2f, hrle, hrle2, .inr ⟨rfl, .inl hle, rfl⟩⟩
    · have elq : vc .leq left2 0 = false := by rw [qc, leq_false]; omega
      rw [elq]
      cbv
      rw [hof2]
      by_cases heq : (rl2 : Int) = size
      · have ee : vc .eql rI2 size = true := by rw [qc, eql_true, hrI2]; exact heq
        rw [ee]
        cbv
        intro js6
        refine keep0 ?_
        exact ⟨rl2, c2, l2, left2, js6, hl2f, hl2l.symm, hrc2, hleft2f, hrle, hrle2, .inr ⟨rfl, .inr heq, rfl⟩⟩
      · have ee : vc .eql rI2 size = false := by rw [qc, eql_false, hrI2]; exact heq
        rw [ee]
        cbv
        intro js6
        refine keep0 ?_
        exact ⟨rl2, c2, l2, left2, js6, hl2f, hl2l.symm, hrc2, hleft2f, hrle, hrle2, .inl ⟨rfl, fun h => h.elim hle heq, rfl⟩⟩
end Go.Proofs.Ytkkddgdcmdnnmaa
namespace Go.Proofs.Ytkkddgdcmdnnmaa
open Go Go.Sx Go.Proofs
set_option maxRecDepth 10000
set_option maxHeartbeats 4000000
theorem order_con : Con Try.prog 45 [] [] (fun v H R => v = .agg [.int .i64 1, .int .i64 2, .int .i64 3, .int .i64 4, .int .i64 0, .int .i64 5, .int .i64 17, .int .i64 6, .int .i64 16, .int .i64 7, .int .i64 8, .int .i64 9, .int .i64 10, .int .i64 11, .int .i64 12, .int .i64 13, .int .i64 14, .int .i64 15] ∧ H = [] ∧ R = []) := by
 refine con_gen (con_cut 0 (by simp) (con_drop (con_walk hmix fn45 ?_)))
 intro vb vc vw vtoN vofN vaddN vsubN vmaxI vminI vcutN vgd vst vln vrep vsub vonto vsplice vstrEq vbyteV vnotB veqB hw qb qc qw qtoN qofN qaddN qsubN qmaxI qminI qcutN qgd qst qln qrep qsub qonto qsplice qstrEq qbyteV qnotB qeqB
 have hm := hmix; generalize Try.prog = P at *
 subst qln qst qrep qgd qtoN
 cbv
 repeat (refine And.intro ⟨by decide⟩ ?_)
 exact ⟨rfl, trivial⟩
theorem innerX_con (b : List Int) (pos cap sk : Nat) (acc hv ai : Int) (hby : ∀ x ∈ b, isByte x) (hl : b.length ≤ 2 ^ 50) (h : RS b pos acc hv ai) (hs : sk ≤ 3) :
  ConX Try.prog 29 [.ptr 0 .z 4 0, .int .i64 sk] [(.one 81 [.fn 39 [.ptr 1 .z 1 0, .ptr 2 .z 1 0], .int .u64 acc, .int .i64 hv, .fn 40 [.ptr 2 .z 1 0, .ptr 1 .z 1 0]]), .one 3 [.int .i64 ai], .one 22 [.slice 3 .z 1 b.length cap], .ro .u8 b] (CdPost b (innerR b sk pos) (fun a h i => [(.one 81 [.fn 39 [.ptr 1 .z 1 0, .ptr 2 .z 1 0], .int .u64 a, .int .i64 h, .fn 40 [.ptr 2 .z 1 0, .ptr 1 .z 1 0]]), .one 3 [.int .i64 i], .one 22 [.slice 3 .z 1 b.length cap], .ro .u8 b])) (PanR (innerR b sk pos) (fun a h i => [(.one 81 [.fn 39 [.ptr 1 .z 1 0, .ptr 2 .z 1 0], .int .u64 a, .int .i64 h, .fn 40 [.ptr 2 .z 1 0, .ptr 1 .z 1 0]]), .one 3 [.int .i64 i], .one 22 [.slice 3 .z 1 b.length cap], .ro .u8 b])) := by
 have gs := fun pos acc hv ai h => smallX_con b pos cap acc hv ai hby hl h
 have hx := fun p x q h => smR_ok (b := b) (p := p) (x := x) (q := q) h
 have hmust := mustX_con
 have hord := order_con
 obtain ⟨skI, hskI⟩ : ∃ skI : Int, skI = sk := ⟨_, rfl⟩
 rw [← hskI]
 have k0 : ∀ e, innR b (18 - sk) sk pos (List.replicate 18 0) 32 0 0 = .error e → innerR b sk pos = .error e := fun e h => by unfold innerR; rw [h]
 have k1 : ∀ L left one q, innR b (18 - sk) sk pos (List.replicate 18 0) 32 0 0 = .ok ((L, left, 1, one), q) → innerR b sk pos = .ok (.inl one, q) := fun L left one q h => by unfold innerR; rw [h]; rfl
 have k2 : ∀ L cnt one q, innR b (18 - sk) sk pos (List.replicate 18 0) 32 0 0 = .ok ((L, 0, cnt, one), q) → cnt ≠ 1 → innerR b sk pos = .ok (.inr L, q) := fun L cnt one q h h1 => by unfold innerR; rw [h]; simp only [if_neg h1, if_true]
 have k3 : ∀ L left cnt one q, innR b (18 - sk) sk pos (List.replicate 18 0) 32 0 0 = .ok ((L, left, cnt, one), q) → cnt ≠ 1 → left ≠ 0 → innerR b sk pos = .error 11 := fun L left cnt one q h h1 h2 => by unfold innerR; rw [h]; simp only [if_neg h1, if_neg h2]
 have s0 : ∀ i p L left cnt one, innR b 0 i p L left cnt one = .ok ((L, left, cnt, one), p) := fun _ _ _ _ _ _ => rfl
 have s1 : ∀ k i p L left cnt one e, smR b p = .error e → innR b (k + 1) i p L left cnt one = .error e := fun k i p L left cnt one e h => by simp only [innR, h]
 have s2 : ∀ k i p L left cnt one q, smR b p = .ok (0, q) → innR b (k + 1) i p L left cnt one = innR b k (i + 1) q L left cnt one := fun k i p L left cnt one q h => by simp only [innR, h]; rfl
 have s3 : ∀ k i p L left cnt one x q, smR b p = .ok (x, q) → x ≠ 0 → left - 32 / 2 ^ x.toNat ≤ 0 → innR b (k + 1) i p L left cnt one = .ok ((L.set (ordL.getD i 0).toNat x, left - 32 / 2 ^ x.toNat, cnt + 1, ordL.getD i 0), q) := fun k i p L left cnt one x q h h1 h2 => by simp only [innR, h, if_neg h1, if_pos h2]
 have s4 : ∀ k i p L left cnt one x q, smR b p = .ok (x, q) → x ≠ 0 → ¬ left - 32 / 2 ^ x.toNat ≤ 0 → innR b (k + 1) i p L left cnt one = innR b k (i + 1) q (L.set (ordL.getD i 0).toNat x) (left - 32 / 2 ^ x.toNat) (cnt + 1) (ordL.getD i 0) := fun k i p L left cnt one x q h h1 h2 => by simp only [innR, h, if_neg h1, if_neg h2]
 obtain ⟨r1, hr1⟩ : ∃ r1, innR b (18 - sk) sk pos (List.replicate 18 0) 32 0 0 = r1 := ⟨_, rfl⟩
 rw [hr1] at k0 k1 k2 k3
 obtain ⟨L0, hL0⟩ : ∃ L0, L0 = List.replicate 18 (0 : Int) := ⟨_, rfl⟩
 have hL0l : L0.length = 18 := by rw [hL0]; rfl
 rw [← hL0] at hr1
 have horr := ordL_range
 have hordL : ordL = [1, 2, 3, 4, 0, 5, 17, 6, 16, 7, 8, 9, 10, 11, 12, 13, 14, 15] := rfl
 generalize innerR b sk pos = r at *
 generalize innR b = IN at *
 generalize smR b = SM at *
 generalize ordL = OL at *
 refine conX_gen (conX_picks (conX_drop (conX_walk hmix fn29 ?_)))
 intro vb vc vw vtoN vofN vaddN vsubN vmaxI vminI vcutN vgd vst vln vrep vsub vonto vsplice vstrEq vbyteV vnotB veqB hw qb qc qw qtoN qofN qaddN qsubN qmaxI qminI qcutN qgd qst qln qrep qsub qonto qsplice qstrEq qbyteV qnotB qeqB
 have hm := hmix; generalize Try.prog = P at *
 obtain ⟨bl, hbl⟩ : ∃ bl, bl = b.length := ⟨_, rfl⟩
 rw [← hbl] at gs ⊢
 clear hbl hl hby
 have hto : ∀ i : Nat, vtoN (i : Int) = i := fun i => by simp only [qtoN, Int.toNat_natCast]
 have hts : vtoN skI = sk := by rw [hskI]; exact hto sk
 have hlnq : ∀ l, vln l = l.length := fun l => by rw [qln]
 have hgd : ∀ l j, vgd l j = l.getD j 0 := fun l j => by rw [qgd]
 have hst : ∀ L i v, vst L i v = L.set i v := fun L i v => by rw [qst]
 have hadd0 : ∀ i, vaddN 0 i = i := fun i => by simp only [qaddN, Nat.zero_add]
 have hrep : vrep 18 0 = L0 := by rw [qrep, hL0]
 have ht18 : vtoN 18 = 18 := hto 18
 have hcut : vcutN 0 sk 18 = sk := by rw [qcutN]; simp only; rw [if_neg (by omega)]; omega
 have hsub : vsubN 18 sk = 18 - sk := by rw [qsubN]
 obtain ⟨n, hn⟩ : ∃ n, n = 18 - sk := ⟨_, rfl⟩
 rw [← hn] at hsub hr1
 obtain ⟨nI, hnI⟩ : ∃ nI : Int, nI = n := ⟨_, rfl⟩
 have hofn : vofN n = nI := by rw [qofN]; exact hnI.symm
 cbv
 rw [ht18, hrep]
 refine ⟨⟨by decide⟩, ⟨by decide⟩, ⟨by decide⟩, ⟨by decide⟩, ?_⟩
 refine call_con (ρ := []) hord ⟨by rfl, by rfl, by rfl, by cbv⟩ ?_
 rintro v H R js ⟨rfl, rfl, rfl⟩
 cbv
 repeat (refine And.intro ⟨by simp only [hlnq, hst, hrep, List.length_set, hL0l]; decide⟩ ?_)
 rw [show (vst (vst (vst (vst (vst (vst (vst (vst (vst (vst (vst (vst (vst (vst (vst (vst (vst (vst (vrep 18 0) 0 1) 1 2) 2 3) 3 4) 4 0) 5 5) 6 17) 7 6) 8 16) 9 7) 10 8) 11 9) 12 10) 13 11) 14 12) 15 13) 16 14) 17 15) = [1, 2, 3, 4, 0, 5, 17, 6, 16, 7, 8, 9, 10, 11, 12, 13, 14, 15] by simp only [hst, hrep]; rw [hL0]; rfl, hts, hcut, hsub, hofn]
 refine ⟨⟨by simp only [nc] at *; omega⟩, ?_⟩
 refine loop_fam (α := Int × List Int × Int × Int × Int × Nat × Int × Int × Int) ([10, 11] ++ (List.range' 19 23)) []
  (fun (k, L, left, cnt, one, p, acc, hv, ai) => [(18, .int .i64 k), (6, .int .i64 left), (7, .int .i64 cnt)])
  (fun (k, L, left, cnt, one, p, acc, hv, ai) => [(0, .one 81 [.fn 39 [.ptr 1 .z 1 0, .ptr 2 .z 1 0], .int .u64 acc, .int .i64 hv, .fn 40 [.ptr 2 .z 1 0, .ptr 1 .z 1 0]]), (1, .one 3 [.int .i64 ai]), (5, .ints 5 .u8 L), (6, .one 24 [.slice 5 .z 1 18 18, .int .i64 one])])
  (fun (k, L, left, cnt, one, p, acc, hv, ai) => ∃ i : Nat, k = i ∧ i ≤ n ∧ L.length = 18 ∧ RS b p acc hv ai ∧ IN (n - i) (sk + i) p L left cnt one = r1 ∧ 0 < left ∧ left ≤ 32 ∧ 0 ≤ cnt ∧ cnt ≤ i)
  (fun (k, L, left, cnt, one, p, acc, hv, ai) => n - k.toNat) hw hm ?_ ?_
 ·refine Cv.genAt [18, 6, 7] [0, 1, 6] (Cv.fold ([10, 11] ++ (List.range' 19 23)) 8 [] (by exact Nat.le_refl _) (by exact Nat.le_of_ble_eq_true rfl) (by rfl) (by cbv) ?_)
  intro js
  refine ⟨(_, _, _, _, _, pos, _, _, _), ?_, js, rfl⟩
  exact ⟨0, rfl, by omega, hL0l, h, hr1, by decide, by decide, by decide, by decide⟩
 rintro ⟨k, L, left, cnt, one, p, acc2, hv2, ai2⟩ js ⟨i, hk, hi, hLl, h2, hIN, hleft0, hleft, hcnt0, hcnt⟩
 have hti : vtoN k = i := by rw [hk]; exact hto i
 obtain ⟨si, hsi⟩ : ∃ si, si = sk + i := ⟨_, rfl⟩
 have haddi : vaddN sk i = si := by rw [qaddN, hsi]
 have hgsp := gs p acc2 hv2 ai2 h2
 rw [← hsi] at hIN
 have hlO : vln [1, 2, 3, 4, 0, 5, 17, 6, 16, 7, 8, 9, 10, 11, 12, 13, 14, 15] = 18 := by rw [hlnq]; rfl
 cbv
 split
 ·rename_i hlt
  have hlt : i < n := by rw [qc, lss_true] at hlt; simp only [nc] at *; omega
  obtain ⟨m, hm1⟩ : ∃ m, n - i = m + 1 := ⟨n - i - 1, by omega⟩
  rw [hm1] at hIN
  have hinR : 0 ≤ k ∧ k < (n : Int) := by simp only [nc] at *; omega
  obtain ⟨s, hs2⟩ : ∃ s, s = OL.getD si 0 := ⟨_, rfl⟩
  have hgO : vgd [1, 2, 3, 4, 0, 5, 17, 6, 16, 7, 8, 9, 10, 11, 12, 13, 14, 15] si = s := by rw [hgd, hs2, hordL]
  have hsr := horr si
  rw [← hs2] at hsr
  cbv
  rw [hti, haddi, hgO]
  refine ⟨⟨by constructor <;> simp only [nc] at * <;> omega⟩, ⟨by rw [hlO]; omega⟩, ?_⟩
  refine call_conX (ρ := [(0, .z), (1, .z), (2, .z), (3, .z)]) hgsp ⟨by rfl, by rfl, by rfl, by cbv; exact ⟨view_refl _, trivial⟩⟩ ?_ ?_
  rotate_left
  ·rintro v H R js3 ⟨e, hge, rfl, rfl, a, h, i2, rfl⟩
   have hS1 : r1 = .error e := by rw [← hIN]; exact s1 _ _ _ _ _ _ _ _ hge
   cbv
   exact ⟨[0, 1, 2, 3], .iface 75 (.agg [.int .i64 e]), [(.one 81 [.fn 39 [.ptr 1 .z 1 0, .ptr 2 .z 1 0], .int .u64 a, .int .i64 h, .fn 40 [.ptr 2 .z 1 0, .ptr 1 .z 1 0]]), .one 3 [.int .i64 i2], .one 22 [.slice 3 .z 1 bl cap], .ro .u8 b], rfl, rfl, rfl, rfl, ⟨rfl, rfl, rfl, rfl, trivial⟩, e, k0 e hS1, rfl, rfl, a, h, i2, rfl⟩
  rintro v H R js3 ⟨x, q, hgx, rfl, rfl, acc3, hv3, ai3, h3, rfl⟩
  have hxr := hx p x q hgx
  obtain ⟨kn, hkn⟩ : ∃ kn : Int, kn = ((i + 1 : Nat) : Int) := ⟨_, rfl⟩
  have ek : vb .add .i64 k 1 = kn := by simp only [nc] at *; rw [qb, add_i64 (by omega) (by omega)]; omega
  have hmu : n - kn.toNat < n - k.toNat := by simp only [nc] at *; omega
  cbv
  by_cases hx0 : x = 0
  ·subst hx0
   have e00 : vc .eql 0 0 = true := by rw [qc]; rfl
   have hS1 : IN m (si + 1) q L left cnt one = r1 := by rw [← hIN]; exact (s2 _ _ _ _ _ _ _ _ hgx).symm
   rw [e00]
   cbv
   rw [ek]
   refine Cv.fold ([10, 11] ++ (List.range' 19 23)) 8 [] (by exact Nat.le_refl _) (by exact Nat.le_of_ble_eq_true rfl) (by rfl) (by cbv) ?_
   intro js
   refine ⟨(_, _, _, _, _, q, _, _, _), ?_, js, rfl⟩
   exact ⟨⟨i + 1, hkn, hlt, hLl, h3, by rw [show n - (i + 1) = m by omega, show sk + (i + 1) = si + 1 by omega]; exact hS1, hleft0, hleft, hcnt0, by omega⟩, hmu⟩
  ·have e0 : vc .eql x 0 = false := by rw [qc]; exact eql_false.2 hx0
   obtain ⟨sh, hsh⟩ : ∃ sh : Int, sh = 32 / 2 ^ x.toNat := ⟨_, rfl⟩
   have s3' := s3 m si p L left cnt one x q hgx hx0
   have s4' := s4 m si p L left cnt one x q hgx hx0
   rw [← hsh, ← hs2] at s3' s4'
   have hx5 : x = 1 ∨ x = 2 ∨ x = 3 ∨ x = 4 ∨ x = 5 := by omega
   have esh : vb .shr .i64 32 x = sh := by rw [qb, hsh]; rcases hx5 with rfl | rfl | rfl | rfl | rfl <;> decide
   have hshr : 1 ≤ sh ∧ sh ≤ 16 := by rw [hsh]; rcases hx5 with rfl | rfl | rfl | rfl | rfl <;> decide
   obtain ⟨L2, hL2⟩ : ∃ L2, L2 = L.set s.toNat x := ⟨_, rfl⟩
   have hL2l : L2.length = 18 := by rw [hL2, List.length_set]; exact hLl
   have hts2 : vtoN s = s.toNat := by rw [qtoN]
   obtain ⟨left2, hleft2⟩ : ∃ left2, left2 = left - sh := ⟨_, rfl⟩
   obtain ⟨c2, hc2⟩ : ∃ c2, c2 = cnt + 1 := ⟨_, rfl⟩
   rw [← hL2, ← hleft2, ← hc2] at s3' s4'
   have el : vb .sub .i64 left sh = left2 := by rw [qb, sub_i64 (by omega) (by omega)]; omega
   have ec : vb .add .i64 cnt 1 = c2 := by simp only [nc] at *; rw [qb, add_i64 (by omega) (by omega)]; omega
   have hvL : vln L = 18 := by rw [hlnq]; exact hLl
   have hsS : s.toNat < 18 := by omega
   rw [e0]
   cbv
   rw [hts2, hst, ← hL2]
   refine ⟨⟨by constructor <;> simp only [nc] at * <;> omega⟩, ⟨by rw [hvL]; exact hsS⟩, ⟨hxr.1⟩, ?_⟩
   rw [ec, esh, el]
   by_cases hle : left2 ≤ 0
   ·have elq : vc .leq left2 0 = true := by rw [qc, leq_true]; exact hle
    have hr1' := s3' hle
    rw [hIN] at hr1'
    rw [elq]
    cbv
    by_cases hc1 : c2 = 1
    ·have e1 : vc .eql c2 1 = true := by rw [qc]; exact eql_true.2 hc1
     rw [hc1] at hr1'
     rw [e1]
     cbv
     exact ⟨[0, 1, 2, 3], .agg [.val (.slice none 0 0), .int .i64 s], [(.one 81 [.fn 39 [.ptr 1 .z 1 0, .ptr 2 .z 1 0], .int .u64 acc3, .int .i64 hv3, .fn 40 [.ptr 2 .z 1 0, .ptr 1 .z 1 0]]), .one 3 [.int .i64 ai3], .one 22 [.slice 3 .z 1 bl cap], .ro .u8 b], rfl, rfl, rfl, rfl, ⟨rfl, rfl, rfl, rfl, trivial⟩, .inl s, q, k1 _ _ _ _ hr1', rfl, acc3, hv3, ai3, h3, .inl ⟨_, rfl, rfl, rfl⟩⟩
    ·have e1 : vc .eql c2 1 = false := by rw [qc]; exact eql_false.2 hc1
     rw [e1]
     cbv
     refine call_conX (ρ := []) (hmust _) ⟨by rfl, by rfl, by rfl, by cbv⟩ ?_ ?_
     rotate_left
     ·rintro v H R js4 ⟨hz, rfl, rfl, rfl⟩
      have hz3 : left2 ≠ 0 := by intro h0; rw [qc, eql_false] at hz; exact hz h0
      have hk := k3 _ _ _ _ _ hr1' hc1 hz3
      cbv
      exact ⟨[0, 1, 2, 3], .iface 75 (.agg [.int .i64 11]), [(.one 81 [.fn 39 [.ptr 1 .z 1 0, .ptr 2 .z 1 0], .int .u64 acc3, .int .i64 hv3, .fn 40 [.ptr 2 .z 1 0, .ptr 1 .z 1 0]]), .one 3 [.int .i64 ai3], .one 22 [.slice 3 .z 1 bl cap], .ro .u8 b], rfl, rfl, rfl, rfl, ⟨rfl, rfl, rfl, rfl, trivial⟩, 11, hk, rfl, rfl, acc3, hv3, ai3, rfl⟩
     rintro v H R js4 ⟨hz, rfl, rfl, rfl⟩
     have hz3 : left2 = 0 := by rw [qc, eql_true] at hz; exact hz
     rw [hz3] at hr1'
     have hk := k2 _ _ _ _ hr1' hc1
     cbv
     exact ⟨[0, 1, 2, 3, 5], .agg [.slice 4 .z 1 18 18, .lit .i64 0], [(.one 81 [.fn 39 [.ptr 1 .z 1 0, .ptr 2 .z 1 0], .int .u64 acc3, .int .i64 hv3, .fn 40 [.ptr 2 .z 1 0, .ptr 1 .z 1 0]]), .one 3 [.int .i64 ai3], .one 22 [.slice 3 .z 1 bl cap], .ro .u8 b, .ints 5 .u8 L2], rfl, rfl, rfl, rfl, ⟨rfl, rfl, rfl, rfl, rfl, trivial⟩, .inr L2, q, hk, rfl, acc3, hv3, ai3, h3, .inr ⟨_, rfl, by rw [hL2l]; rfl, rfl⟩⟩
   ·have elq : vc .leq left2 0 = false := by rw [qc, leq_false]; omega
    have hS1 := s4' hle
    rw [hIN] at hS1
    rw [elq]
    cbv
    rw [ek]
    refine Cv.fold ([10, 11] ++ (List.range' 19 23)) 8 [] (by exact Nat.le_refl _) (by exact Nat.le_of_ble_eq_true rfl) (by rfl) (by cbv) ?_
    intro js
    refine ⟨(_, _, _, _, _, q, _, _, _), ?_, js, rfl⟩
    exact ⟨⟨i + 1, hkn, hlt, hL2l, h3, by rw [show n - (i + 1) = m by omega, show sk + (i + 1) = si + 1 by omega]; exact hS1.symm, by omega, by omega, by omega, by omega⟩, hmu⟩
 ·rename_i hge
  have hin : i = n := by rw [qc, lss_false] at hge; simp only [nc] at *; omega
  have hr1' : r1 = .ok ((L, left, cnt, one), p) := by rw [← hIN, hin, Nat.sub_self]; exact s0 _ _ _ _ _ _
  cbv
  by_cases hc1 : cnt = 1
  ·have e1 : vc .eql cnt 1 = true := by rw [qc]; exact eql_true.2 hc1
   rw [hc1] at hr1'
   rw [e1]
   cbv
   exact ⟨[0, 1, 2, 3], .agg [.val (.slice none 0 0), .int .i64 one], [(.one 81 [.fn 39 [.ptr 1 .z 1 0, .ptr 2 .z 1 0], .int .u64 acc2, .int .i64 hv2, .fn 40 [.ptr 2 .z 1 0, .ptr 1 .z 1 0]]), .one 3 [.int .i64 ai2], .one 22 [.slice 3 .z 1 bl cap], .ro .u8 b], rfl, rfl, rfl, rfl, ⟨rfl, rfl, rfl, rfl, trivial⟩, .inl one, p, k1 _ _ _ _ hr1', rfl, acc2, hv2, ai2, h2, .inl ⟨_, rfl, rfl, rfl⟩⟩
  ·have e1 : vc .eql cnt 1 = false := by rw [qc]; exact eql_false.2 hc1
   rw [e1]
   cbv
   refine call_conX (ρ := []) (hmust _) ⟨by rfl, by rfl, by rfl, by cbv⟩ ?_ ?_
   rotate_left
   ·rintro v H R js4 ⟨hz, rfl, rfl, rfl⟩
    have hz3 : left ≠ 0 := by intro h0; rw [qc, eql_false] at hz; exact hz h0
    have hk := k3 _ _ _ _ _ hr1' hc1 hz3
    cbv
    exact ⟨[0, 1, 2, 3], .iface 75 (.agg [.int .i64 11]), [(.one 81 [.fn 39 [.ptr 1 .z 1 0, .ptr 2 .z 1 0], .int .u64 acc2, .int .i64 hv2, .fn 40 [.ptr 2 .z 1 0, .ptr 1 .z 1 0]]), .one 3 [.int .i64 ai2], .one 22 [.slice 3 .z 1 bl cap], .ro .u8 b], rfl, rfl, rfl, rfl, ⟨rfl, rfl, rfl, rfl, trivial⟩, 11, hk, rfl, rfl, acc2, hv2, ai2, rfl⟩
   rintro v H R js4 ⟨hz, rfl, rfl, rfl⟩
   have hz3 : left = 0 := by rw [qc, eql_true] at hz; exact hz
   rw [hz3] at hr1'
   have hk := k2 _ _ _ _ hr1' hc1
   cbv
   exact ⟨[0, 1, 2, 3, 5], .agg [.slice 4 .z 1 18 18, .lit .i64 0], [(.one 81 [.fn 39 [.ptr 1 .z 1 0, .ptr 2 .z 1 0], .int .u64 acc2, .int .i64 hv2, .fn 40 [.ptr 2 .z 1 0, .ptr 1 .z 1 0]]), .one 3 [.int .i64 ai2], .one 22 [.slice 3 .z 1 bl cap], .ro .u8 b, .ints 5 .u8 L], rfl, rfl, rfl, rfl, ⟨rfl, rfl, rfl, rfl, rfl, trivial⟩, .inr L, p, hk, rfl, acc2, hv2, ai2, h2, .inr ⟨_, rfl, by rw [hLl]; rfl, rfl⟩⟩
end Go.Proofs.Ytkkddgdcmdnnmaa
